/- EmuPieces -/
import Derived.Test.YtaaolcldpfcikaaGreatDoorE
import Derived.KernelRfl
import Derived.ProofKit
import Derived.LaidMore
import Derived.OpenShut
import Derived.Below
import Derived.Test.YtaaolcldpfcikaaGreatDoorRows
import Derived.Stop.Joined
import Derived.Lib.LaidTab
import Derived.Lib.SmallJoins
import Derived.Test.YtaaolcldpfcikaaGreatDoorTie
import Derived.Test.YtaaolcldpfcikaaGreatDoorCards
import Derived.SevenTiedAt
set_option linter.unusedVariables false
set_option linter.unusedSimpArgs false
set_option linter.unusedSectionVars false
noncomputable section
set_option maxRecDepth 100000
namespace Go.SH
def rg (a n:Nat):List Nat:=List.range' a n
open Go.Proofs
abbrev hi:Sh:=.h (.ti .i64)
abbrev hu:Sh:=.h (.ti .u64)
abbrev hj:Sh:=.h (.ti .i32)
abbrev hb:Sh:=.h .tb
abbrev hl:Sh:=.h (.tl (.tp (.ti .i32) aa))
abbrev hg:Sh:=.h (.tl (.tl (.tp (.ti .i32) aa)))
abbrev hS:Sh:=.st (.tp (.ti .i64) (.tp (.ti .i64) lW))
abbrev hP:Sh:=.st fb
abbrev hC:Sh:=.st ap
abbrev hc:Sh:=.st (.tp (.ti .i32) aa)
abbrev hT:Sh:=.st (.tp (.ti .u64) jK)
abbrev sp:OH:={split:=true}
abbrev cn (n:Nat):OH:={con:=n}
abbrev oi (n:Nat):OH:={io:=some n}
abbrev rs (n:Nat):Hint:=.reg [(n,sp)]
abbrev jb (t:Nat) (l:List Nat) (a b:Hint):Hint:=.join ⟨[(t,hb)],l,[],[],[]⟩ a b
abbrev js (t:Nat) (l:List Nat) (n:Nat) (b:Hint):Hint:=jb t l (rs n) b
abbrev jc (t:Nat) (l:List Nat) (n:Nat) (a b:Hint):Hint:=js t l n (.cond a b)
abbrev sl (a:Hint):Hint:=.seq .leaf a
def sf:List (Nat×Sh):=[(0,hi),(1,hi),(2,hg),(3,hg),(4,hi),(5,hi),(6,hb),(7,hi),(8,hi),(9,hi),(10,hi),(11,hi),(12,hi),(13,hi),(14,hi),(15,hi),(16,hi),(17,hi),(18,hb),(19,hb),(20,hi),(21,hi),(22,hi),(23,hi),(24,hi),(25,hb),(26,hb),(27,hu),(28,hu),(29,hu),(30,hu),(31,.h (.tl (.ti .i32)))]
abbrev sF (n:Nat):List (Nat×Nat×Sh):=sf.map fun p=>(n,p)
abbrev sP (n:Nat):List (Nat×Nat×Sh):=[(n,0,hi),(n,1,hi),(n,2,hi)]
def mkP (n:FuncId) (f:Func) (hr:∀args w,(callFunc n args).run En.P w=.ok (.enter n args) w) (hf:En.P.funcs[n]?=some f) (C:CT En) (h:Hint) (ar:List Sh) (out:Sh) (fn:HT (Sh.hss ar)->Option (HT out.hs)) (vs:List Nat:=[]) (hb:f.body=some (bw f):=by rfl) (hk:Sh.kOKs ar=true:=by rfl) (hn:ar.length<=f.ntmps:=by decide) (hd:∀a,DF En GTe C f.ntmps f.results.toList (bw f) h ar out a vs=fn a:=by intro a;kernel_rfl):PCon En:=⟨n,ar,out,fn,hr,fun a v hv=>Ie rfl bp rfl eu hf hb hk hn ((hd a).trans hv)⟩
def mkI (n:FuncId) (f:Func) (hr:∀args w,(callFunc n args).run En.P w=.ok (.enter n args) w) (hf:En.P.funcs[n]?=some f) (C:CT En) (h:Hint) (ar:List Sh) (ls:List (Nat×LSh)) (ot:Tm) (fn:HT (Sh.hss ar++hsL ls)->Option ot.T) (vs:List Nat:=[]) (hb:f.body=some (bw f):=by rfl) (hk:Sh.kOKs ar=true/\(ls.all fun p=>p.2.kOK)=true/\qQ ot=true/\decide (ar.length<=f.ntmps)=true:=by exact ⟨rfl,rfl,rfl,rfl⟩) (hd:∀a,DI En GTe C f.ntmps f.results.toList (bw f) h ar ls ot a vs=fn a:=by intro a;kernel_rfl):ICon En:=⟨n,ar,ls,ot,fn,hr,fun a v hv=>Fd rfl bp rfl eu hf hb hk ((hd a).trans hv)⟩
abbrev u2 {a0 a1 r:Type} (f:a0->a1->r) (a:a0×a1):r:=f a.1 a.2
abbrev u3 {a0 a1 a2 r:Type} (f:a0->a1->a2->r) (a:a0×a1×a2):r:=f a.1 a.2.1 a.2.2
abbrev u4 {a0 a1 a2 a3 r:Type} (f:a0->a1->a2->a3->r) (a:a0×a1×a2×a3):r:=f a.1 a.2.1 a.2.2.1 a.2.2.2
abbrev u5 {a0 a1 a2 a3 a4 r:Type} (f:a0->a1->a2->a3->a4->r) (a:a0×a1×a2×a3×a4):r:=f a.1 a.2.1 a.2.2.1 a.2.2.2.1 a.2.2.2.2
abbrev u6 {a0 a1 a2 a3 a4 a5 r:Type} (f:a0->a1->a2->a3->a4->a5->r) (a:a0×a1×a2×a3×a4×a5):r:=f a.1 a.2.1 a.2.2.1 a.2.2.2.1 a.2.2.2.2.1 a.2.2.2.2.2
abbrev u11 {a0 a1 a2 a3 a4 a5 a6 a7 a8 a9 a10 r:Type} (f:a0->a1->a2->a3->a4->a5->a6->a7->a8->a9->a10->r) (a:a0×a1×a2×a3×a4×a5×a6×a7×a8×a9×a10):r:=f a.1 a.2.1 a.2.2.1 a.2.2.2.1 a.2.2.2.2.1 a.2.2.2.2.2.1 a.2.2.2.2.2.2.1 a.2.2.2.2.2.2.2.1 a.2.2.2.2.2.2.2.2.1 a.2.2.2.2.2.2.2.2.2.1 a.2.2.2.2.2.2.2.2.2.2
abbrev u33 {a0 a1 a2 a3 a4 a5 a6 a7 a8 a9 a10 a11 a12 a13 a14 a15 a16 a17 a18 a19 a20 a21 a22 a23 a24 a25 a26 a27 a28 a29 a30 a31 a32 r:Type} (f:a0->a1->a2->a3->a4->a5->a6->a7->a8->a9->a10->a11->a12->a13->a14->a15->a16->a17->a18->a19->a20->a21->a22->a23->a24->a25->a26->a27->a28->a29->a30->a31->a32->r) (a:a0×a1×a2×a3×a4×a5×a6×a7×a8×a9×a10×a11×a12×a13×a14×a15×a16×a17×a18×a19×a20×a21×a22×a23×a24×a25×a26×a27×a28×a29×a30×a31×a32):r:=f a.1 a.2.1 a.2.2.1 a.2.2.2.1 a.2.2.2.2.1 a.2.2.2.2.2.1 a.2.2.2.2.2.2.1 a.2.2.2.2.2.2.2.1 a.2.2.2.2.2.2.2.2.1 a.2.2.2.2.2.2.2.2.2.1 a.2.2.2.2.2.2.2.2.2.2.1 a.2.2.2.2.2.2.2.2.2.2.2.1 a.2.2.2.2.2.2.2.2.2.2.2.2.1 a.2.2.2.2.2.2.2.2.2.2.2.2.2.1 a.2.2.2.2.2.2.2.2.2.2.2.2.2.2.1 a.2.2.2.2.2.2.2.2.2.2.2.2.2.2.2.1 a.2.2.2.2.2.2.2.2.2.2.2.2.2.2.2.2.1 a.2.2.2.2.2.2.2.2.2.2.2.2.2.2.2.2.2.1 a.2.2.2.2.2.2.2.2.2.2.2.2.2.2.2.2.2.2.1 a.2.2.2.2.2.2.2.2.2.2.2.2.2.2.2.2.2.2.2.1 a.2.2.2.2.2.2.2.2.2.2.2.2.2.2.2.2.2.2.2.2.1 a.2.2.2.2.2.2.2.2.2.2.2.2.2.2.2.2.2.2.2.2.2.1 a.2.2.2.2.2.2.2.2.2.2.2.2.2.2.2.2.2.2.2.2.2.2.1 a.2.2.2.2.2.2.2.2.2.2.2.2.2.2.2.2.2.2.2.2.2.2.2.1 a.2.2.2.2.2.2.2.2.2.2.2.2.2.2.2.2.2.2.2.2.2.2.2.2.1 a.2.2.2.2.2.2.2.2.2.2.2.2.2.2.2.2.2.2.2.2.2.2.2.2.2.1 a.2.2.2.2.2.2.2.2.2.2.2.2.2.2.2.2.2.2.2.2.2.2.2.2.2.2.1 a.2.2.2.2.2.2.2.2.2.2.2.2.2.2.2.2.2.2.2.2.2.2.2.2.2.2.2.1 a.2.2.2.2.2.2.2.2.2.2.2.2.2.2.2.2.2.2.2.2.2.2.2.2.2.2.2.2.1 a.2.2.2.2.2.2.2.2.2.2.2.2.2.2.2.2.2.2.2.2.2.2.2.2.2.2.2.2.2.1 a.2.2.2.2.2.2.2.2.2.2.2.2.2.2.2.2.2.2.2.2.2.2.2.2.2.2.2.2.2.2.1 a.2.2.2.2.2.2.2.2.2.2.2.2.2.2.2.2.2.2.2.2.2.2.2.2.2.2.2.2.2.2.2.1 a.2.2.2.2.2.2.2.2.2.2.2.2.2.2.2.2.2.2.2.2.2.2.2.2.2.2.2.2.2.2.2.2
abbrev q28:List Sh:=[.h (.tl (.ti .i32)),.fn 129 []]
abbrev q27:List (Nat×LSh):=[(0,.ls (.tp (.ti .i32) aa))]
abbrev q26:List (Nat×Nat×Sh):=[(0,0,hu),(0,1,hu),(0,2,hu),(0,3,hu)]
abbrev q25:List (Nat×LSh):=[(0,.ls (.tf 2 (.tp (.ti .i32) aa)))]
abbrev q24:List (Nat×LSh):=[(1,.ls (.tf 1 (.tp (.ti .i32) aa)))]
abbrev q23:List (Nat×LSh):=[(0,.ls (.tf 1 (.tp (.ti .i32) aa)))]
abbrev q22:List (Nat×LSh):=[(4,.ls (.tf 1 (.tp (.ti .i32) aa)))]
abbrev q21:List (Nat×LSh):=[(1003,.ls (.tf 2 (.tp (.ti .i32) aa)))]
abbrev q20:List (Nat×LSh):=[(1006,.ls (.tf 1 (.tp (.ti .i32) aa)))]
abbrev q19:List (Nat×LSh):=[(1002,.ls (.tf 2 (.tp (.ti .i32) aa)))]
abbrev q18:List (Nat×LSh):=[(1003,.ls (.tf 1 (.tp (.ti .i32) aa)))]
abbrev q17:List (Nat×LSh):=[(1002,.ls (.tf 1 (.tp (.ti .i32) aa)))]
abbrev q16:List (Nat×LSh):=[(3,.ls bI),(4,.ls (.ti .i64)),(5,.ls (.ti .i32))]
abbrev q15:List (Nat×Nat×Sh):=[(0,0,hj),(0,1,hi),(0,2,hi),(0,3,.h .tu),(0,4,.h .tu)]
abbrev q14:List (Nat×LSh):=[(8,.ls .tu),(9,.ls ap),(10,.ls (.ti .i64)),(11,.ls (.ti .i32))]
abbrev q13:List (Nat×LSh):=[(0,.ls (.tf 1 (.tp (.ti .i32) aa))),(1000,.cs []),(1001,.cs [])]
abbrev q12:List (Nat×LSh):=[(4,.ls (.tf 1 (.tp (.ti .i32) aa))),(5,.ls (.tf 2 (.tp (.ti .i32) aa)))]
abbrev q11:List (Nat×LSh):=[(0,.ls (.tf 1 (.tp (.ti .i32) aa))),(1,.ls (.tf 2 (.tp (.ti .i32) aa))),(2,.ls (.ti .i32))]
abbrev q10:List (Nat×LSh):=[(0,.cs [.h (.tk [197,218,219]),hb,hb,hb,hb,hb,hj,.h .ts,.rww 1 1,.rww 2 1]),(1,.ls (.ti .i64)),(2,.ls (.ti .i32))]
abbrev q9:List (Nat×Nat×Sh):=[(0,0,.h (.tk [197,218,219])),(0,1,hb),(0,2,hb),(0,3,hb),(0,4,hb),(0,5,hb),(0,6,hj),(0,7,.h .ts),(0,8,.rww 4 1),(0,9,.rww 5 1)]
abbrev q8:List Sh:=[hi,hi,hg,hg,hi,hi,hb,hi,hi,hi,hi,hi,hi,hi,hi,hi,hi,hi,hb,hb,hi,hi,hi,hi,hi,hb,hb,hu,hu,hu,hu,.h (.tl (.ti .i32)),.ptr 6 0,.ptr 7 0]
abbrev q7:List (Nat×LSh):=[(0,.cs [hi,hi,.rww 1 1,.rww 2 1,hi,hi,hb,hi,hi,hi,hi,hi,hi,hi,hi,hi,hi,hi,hb,hb,hi,hi,hi,hi,hi,hb,hb,hu,hu,hu,hu,.rww 3 1]),(1,.ls (.tf 1 (.tp (.ti .i32) aa))),(2,.ls (.tf 2 (.tp (.ti .i32) aa))),(3,.ls (.ti .i32)),(1000,.cs [])]
abbrev q6:List (Nat×LSh):=[(0,.cs [hi,hi,.rww 1 1,.rww 2 1,hi,hi,hb,hi,hi,hi,hi,hi,hi,hi,hi,hi,hi,hi,hb,hb,hi,hi,hi,hi,hi,hb,hb,hu,hu,hu,hu,.rww 3 1]),(1,.ls (.tf 1 (.tp (.ti .i32) aa))),(2,.ls (.tf 2 (.tp (.ti .i32) aa))),(3,.ls (.ti .i32)),(1000,.cs []),(1001,.cs [])]
abbrev q5:List (Nat×LSh):=[(0,.cs [hi,hi,hg,hg,hi,hi,hb,hi,hi,hi,hi,hi,hi,hi,hi,hi,hi,hi,hb,hb,hi,hi,hi,hi,hi,hb,hb,hu,hu,hu,hu,.h (.tl (.ti .i32)),.ptr 1 0,.ptr 2 0]),(1,.cs [hj,hi,hi,.h .tu,.h .tu]),(2,.cs [.h (.tk [197,218,219]),hb,hb,hb,hb,hb,hj,.h .ts,.k .nils,.k .nils])]
abbrev q4:List (Nat×LSh):=[(0,.cs [hi,hi,hg,hg,hi,hi,hb,hi,hi,hi,hi,hi,hi,hi,hi,hi,hi,hi,hb,hb,hi,hi,hi,hi,hi,hb,hb,hu,hu,hu,hu,.h (.tl (.ti .i32)),.ptr 1 0,.ptr 2 0]),(1,.cs [hj,hi,hi,.h .tu,.h .tu]),(2,.cs [.h (.tk [197,218,219]),hb,hb,hb,hb,hb,hj,.h .ts,.rww 3 1,.rww 4 1]),(3,.ls (.ti .i64)),(4,.ls (.ti .i32))]
abbrev q3:List (Nat×Nat×Sh):=[(1,0,.rww 12 1),(2,0,.rww 13 6),(5,0,hi),(5,1,hi),(5,2,hg),(5,3,hg),(5,4,hi),(5,5,hi),(5,6,hb),(5,7,hi),(5,8,hi),(5,9,hi),(5,10,hi),(5,11,hi),(5,12,hi),(5,13,hi),(5,14,hi),(5,15,hi),(5,16,hi),(5,17,hi),(5,18,hb),(5,19,hb),(5,20,hi),(5,21,hi),(5,22,hi),(5,23,hi),(5,24,hi),(5,25,hb),(5,26,hb),(5,27,hu),(5,28,hu),(5,29,hu),(5,30,hu),(5,31,.h (.tl (.ti .i32)))]
abbrev q2:List (Nat×LSh):=[(0,.cs [hi,hi,hg,hg,hi,hi,hb,hi,hi,hi,hi,hi,hi,hi,hi,hi,hi,hi,hb,hb,hi,hi,hi,hi,hi,hb,hb,hu,hu,hu,hu,.h (.tl (.ti .i32)),.ptr 1 0,.ptr 2 0]),(1,.cs [.k (.int .i32 0),.k (.int .i64 0),.k (.int .i64 0),.k (.int .u8 0),.k (.int .u8 0)]),(2,.cs [.h (.tk [197,218,219]),.k (.bool false),.k (.bool false),.k (.bool false),.k (.bool false),.k (.bool false),.k (.int .i32 0),.h .ts,.k .nils,.k .nils])]
abbrev q1:List (Nat×Nat×Sh):=[(1004,0,hi),(1004,1,hi),(1004,2,.rww 0 1),(1004,3,.rww 1 1),(1004,4,hi),(1004,5,hi),(1004,6,hb),(1004,7,hi),(1004,8,hi),(1004,9,hi),(1004,10,hi),(1004,11,hi),(1004,12,hi),(1004,13,hi),(1004,14,hi),(1004,15,hi),(1004,16,hi),(1004,17,hi),(1004,18,hb),(1004,19,hb),(1004,20,hi),(1004,21,hi),(1004,22,hi),(1004,23,hi),(1004,24,hi),(1004,25,hb),(1004,26,hb),(1004,27,hu),(1004,28,hu),(1004,29,hu),(1004,30,hu),(1004,31,.rww 2 1)]
abbrev q0:List (Nat×Nat×Sh):=[(1,0,.rww 8 1),(2,0,.rww 9 6),(5,0,hi),(5,1,hi),(5,2,hg),(5,3,hg),(5,4,hi),(5,5,hi),(5,6,hb),(5,7,hi),(5,8,hi),(5,9,hi),(5,10,hi),(5,11,hi),(5,12,hi),(5,13,hi),(5,14,hi),(5,15,hi),(5,16,hi),(5,17,hi),(5,18,hb),(5,19,hb),(5,20,hi),(5,21,hi),(5,22,hi),(5,23,hi),(5,24,hi),(5,25,hb),(5,26,hb),(5,27,hu),(5,28,hu),(5,29,hu),(5,30,hu),(5,31,.h (.tl (.ti .i32))),(7,0,.h (.tk [197,218,219])),(7,1,hb),(7,2,hb),(7,3,hb),(7,4,hb),(7,5,hb),(7,6,hj),(7,7,.h .ts),(7,8,.rww 10 1),(7,9,.rww 11 1)]
def i8:=mkP 131 Tryz.f131 Tryz.call131 Tryz.func131 noC (sl (.seq (rs 2) .leaf)) [hi] hb cU
def BN:=mkP 126 Tryz.f126 Tryz.call126 Tryz.func126 noC (sl (.seq (rs 2) .leaf)) [hi,hi] hb (u2 lx)
def dM:=mkP 79 Tryz.f79 Tryz.call79 Tryz.func79 (cl [BN] []) (sl (sl (.seq (.reg [(3,cn 0),(4,sp),(8,cn 0),(10,sp),(14,cn 0)]) .leaf))) [hP] hb ej
def lq:=mkP 168 Tryz.f168 Tryz.call168 Tryz.func168 noC .leaf [hP] hc gx
def AX:=mkP 224 Tryz.f224 Tryz.call224 Tryz.func224 noC .leaf [hu,hu] (.tup [hu,hu]) (u2 yg)
def r9:=mkP 204 Tryz.f204 Tryz.call204 Tryz.func204 (cl [AX] []) (sl (sl (.seq (.reg [(2,cn 0)]) .leaf))) [hu,hu] (.tup [hu,hu]) (u2 pU)
def qD:=mkP 167 Tryz.f167 Tryz.call167 Tryz.func167 (cl [r9] []) (sl (.seq (js 10 [9] 1 .leaf) (.seq (.reg [(5,cn 0)]) (.seq (jb 26 (rg 21 5) (.reg [(2,sp),(5,sp)]) .leaf) (sl (sl (.seq (.blk (.loop ⟨[(8,hi)],(rg 34 13),q27,[],[]⟩ [(.exit 0,⟨[],([8]++rg 34 13),q27,[],[]⟩)] (.seq (js 37 [34,35,36] 3 .leaf) .leaf))) .leaf))))))) [hl,hi] hl (u2 f8)
def gV:=mkP 132 Tryz.f132 Tryz.call132 Tryz.func132 (cl [dM,lq,qD] []) (sl (.seq (jb 15 (rg 5 10) (.reg [(2,sp),(6,sp),(8,cn 0),(10,sp)]) .leaf) (.seq (.reg [(1,cn 1),(4,{fz:=[(18,.tp (.ti .i32) aa)],con:=2})]) .leaf))) [hi,hP] hl (u2 eR)
def uF:=mkI 82 Tryz.f82 Tryz.call82 Tryz.func82 (cl [i8,dM,gV] []) (sl (.seq (jb 21 (rg 9 12) (.reg [(1,cn 0),(3,sp),(5,cn 0),(8,sp),(10,cn 1),(12,sp)]) .leaf) (sl (.seq (sl (.blk (.loop ⟨[(26,hi)],([8]++rg 27 9),[(1,.ls (.tl (.tp (.ti .i32) aa)))],[],[]⟩ [(.exit 0,⟨[],([8]++rg 26 10),[(1,.ls (.tl (.tp (.ti .i32) aa)))],[],[]⟩)] (js 27 [] 0 (sl (.seq (.blk (sl (.reg [(4,cn 2)]))) .leaf)))))) .leaf)))) [hi,hi,hP] [] ⟨[(0,.rww 0 1)],[],[(0,.ls (.tl (.tp (.ti .i32) aa)))],[],[]⟩ (u3 gC)
def vc:=mkP 178 Tryz.f178 Tryz.call178 Tryz.func178 noC (sl (.seq (rs 2) .leaf)) [hi] hb mV
def wQ:=mkP 137 Tryz.f137 Tryz.call137 Tryz.func137 (cl [vc] []) (sl (.join ⟨[],(rg 5 11),[],q26,[]⟩ (jb 6 [5] (.reg [(1,{split:=true,con:=0})]) (.cond (.reg [(2,{sel:=true}),(8,{sel:=true})]) .leaf)) .leaf)) [hT,hi] hT (u2 kq)
def sr:=mkP 133 Tryz.f133 Tryz.call133 Tryz.func133 (cl [wQ] []) (sl (.seq (sl (.blk (.loop ⟨[(7,hi)],(rg 8 12),[],q26,[]⟩ [(.exit 0,⟨[],(rg 7 13),[],q26,[]⟩)] (.seq (js 11 [8,9,10] 3 .leaf) (.join ⟨[],(rg 14 6),[],q26,[]⟩ (.blk (jc 16 [14,15] 2 (.reg [(2,cn 0)]) .leaf)) .leaf))))) .leaf)) [hT,hi,hi] hT (u3 gh)
def su:=mkP 83 Tryz.f83 Tryz.call83 Tryz.func83 (cl [sr] []) (sl (.seq (.reg [(2,cn 0)]) .leaf)) [hi] hT gi
def sC:=mkP 30 Tryz.f30 Tryz.call30 Tryz.func30 (cl [su] [uF]) (sl (.seq (.reg [(3,oi 0)]) (.seq (js 13 [11,12] 2 .leaf) (.seq (.reg [(6,cn 0)]) .leaf)))) [hi,hi] (.tup [hS,hi]) (u2 jQ)
def wb:=mkI 166 Tryz.f166 Tryz.call166 Tryz.func166 noC .leaf [hi,.ptr 0 0] [(0,.cs [hj])] ⟨[(0,hb)],[],[],[],[]⟩ (u2 mQ)
def sx:=mkI 165 Tryz.f165 Tryz.call165 Tryz.func165 (cl [] [wb]) (sl (sl (.seq (.blk (.loop ⟨[(5,hi),(6,hi)],([7]++rg 9 16),[],[],[]⟩ [(.exit 0,⟨[(5,hi)],([6,7]++rg 9 16),[],[],[]⟩)] (.seq (js 11 [9,10] 2 .leaf) (.blk (sl (jb 21 [18,19,20] (.reg [(2,oi 0),(3,sp)]) .leaf)))))) .leaf))) [hi,.fn 166 [.ptr 0 0]] [(0,.cs [hj])] ⟨[(0,hi)],[],[],[],[]⟩ (u2 kP)
def jW:=mkP 130 Tryz.f130 Tryz.call130 Tryz.func130 (cl [] [sx]) (sl (.seq (jb 25 (rg 4 21) (.reg [(2,sp),(5,sp),(10,sp),(13,sp),(18,sp),(21,sp)]) .leaf) (.seq (.reg [(1,oi 0)]) (.seq (jb 37 (rg 28 9) (.reg [(2,sp),(9,sp)]) .leaf) .leaf)))) [hj] hi jI
def yF:=mkP 222 Tryz.f222 Tryz.call222 Tryz.func222 (cl [jW] []) (sl (.seq (js 5 [3,4] 2 .leaf) (.seq (.reg [(2,cn 0),(4,sp),(8,sp),(11,cn 0)]) .leaf))) [.st (.tp (.ti .i32) (.ti .i32))] hb l7
def Dq:=mkP 203 Tryz.f203 Tryz.call203 Tryz.func203 (cl [dM,jW,yF] []) (sl (.seq (sl (.blk (jb 5 [6,7] (jc 5 [6] 1 .leaf (rs 1)) (.cond (.seq (.reg [(2,cn 0),(3,sp),(6,cn 1),(12,sp),(15,cn 2)]) .leaf) (jc 25 [26] 1 (.seq (.reg [(2,cn 0),(3,sp)]) .leaf) .leaf))))) .leaf)) [hc] hb sX
def lJ:=mkP 163 Tryz.f163 Tryz.call163 Tryz.func163 (cl [Dq] []) (sl (.seq (js 8 [6,7] 2 .leaf) (.seq (sl (.blk (.loop ⟨[(11,hi)],([3,4,5]++rg 12 52),[],[],[]⟩ [(.ret,⟨[(2,.k (.bool false))],([3,4,5]++rg 11 53),[],[],[]⟩),(.exit 0,⟨[],([3,4,5]++rg 11 53),[],[],[]⟩)] (js 12 [] 0 (sl (.seq (.blk (sl (js 5 (rg 16 11) 2 (jb 62 (rg 27 35) (.reg [(1,cn 0),(3,sp),(10,sp),(12,sp),(24,sp),(28,sp),(35,sp)]) .leaf)))) .leaf)))))) .leaf))) [hl] hb kF
def uD:=mkI 162 Tryz.f162 Tryz.call162 Tryz.func162 (cl [lJ] []) (sl (.seq (.reg [(7,sp),(9,cn 0)]) .leaf)) [hl,.ptr 0 0] [(0,.cs [hg])] ⟨[(0,hb)],[],[],[],[]⟩ (u2 jG)
def nN:=mkI 202 Tryz.f202 Tryz.call202 Tryz.func202 (cl [] [uD]) (sl (.seq (sl (.blk (.loop ⟨[(8,hi)],([5]++rg 9 8++[18]),[],[],[]⟩ [(.ret,⟨[(4,hi)],([5]++rg 8 11),[],[],[]⟩),(.exit 0,⟨[],([5]++rg 8 9++[18]),[],[],[]⟩)] (js 9 [] 0 (sl (.seq (.blk (sl (jb 16 (rg 11 5) (.reg [(5,{split:=true,io:=some 0})]) .leaf))) .leaf)))))) .leaf)) [hg,.fn 162 [.ptr 0 0]] [(0,.cs [hg])] ⟨[(0,hi)],[],[],[],[]⟩ (u2 gj)
def lX:=mkI 161 Tryz.f161 Tryz.call161 Tryz.func161 (cl [] [nN]) (sl (.seq (.reg [(2,oi 0)]) .leaf)) [hg,.fn 162 [.ptr 0 0]] [(0,.cs [hg])] ⟨[(0,hb)],[],[],[],[]⟩ (u2 dh)
def lL:=mkP 125 Tryz.f125 Tryz.call125 Tryz.func125 (cl [i8] [lX]) (sl (.seq (jb 14 (rg 3 11) (.reg [(2,cn 0),(4,sp),(9,cn 0),(11,sp)]) .leaf) (.seq (.reg [(2,oi 0)]) .leaf))) [hg] hb kI
def wY:=mkP 77 Tryz.f77 Tryz.call77 Tryz.func77 (cl [lL] []) (sl (.seq (.reg [(1,cn 0),(2,sp),(9,sp)]) .leaf)) [hg,hS] hb (u2 jt)
def ry:=mkI 78 Tryz.f78 Tryz.call78 Tryz.func78 noC (sl (.seq (rs 2) .leaf)) [hi,.ptr 0 0] [(0,.cs [hi,hi,hg,hg,hi,hi,hb,hi,hi,hi,hi,hi,hi,hi,hi,hi,hi,hi,hb,hb,hi,hi,hi,hi,hi,hb,hb,hu,hu,hu,hu,.h (.tl (.ti .i32))])] ⟨[(0,hb)],[],[],[],[]⟩ (fun a=>dL a.1 a.2.1)
def vR:=mkP 127 Tryz.f127 Tryz.call127 Tryz.func127 noC (sl (.seq (rs 2) .leaf)) [hi] hb iv
def yx:=mkP 80 Tryz.f80 Tryz.call80 Tryz.func80 (cl [vR,dM] []) (sl (sl (.seq (.reg [(3,cn 0),(4,sp),(8,cn 0),(10,sp),(13,cn 1)]) .leaf))) [.st E8] hb kB
def sB:=mkP 129 Tryz.f129 Tryz.call129 Tryz.func129 (cl [jW] []) (sl (.seq (.reg [(1,cn 0)]) .leaf)) [hj] hb kQ
def nO:=mkP 164 Tryz.f164 Tryz.call164 Tryz.func164 (cl [sB] []) (sl (.seq (sl (.blk (.loop ⟨[(8,hi)],([5]++rg 9 8++[18]),[],[],[]⟩ [(.ret,⟨[(4,hi)],([5]++rg 8 11),[],[],[]⟩),(.exit 0,⟨[],([5]++rg 8 9++[18]),[],[],[]⟩)] (js 9 [] 0 (sl (.seq (.blk (sl (jb 16 (rg 11 5) (.reg [(5,{split:=true,con:=0})]) .leaf))) .leaf)))))) .leaf)) q28 hi gk
def lY:=mkP 128 Tryz.f128 Tryz.call128 Tryz.func128 (cl [nO] []) (sl (.seq (.reg [(2,cn 0)]) .leaf)) q28 hb fg
def vQ:=mkP 81 Tryz.f81 Tryz.call81 Tryz.func81 (cl [lY] []) (sl (.seq (.reg [(3,sp),(5,cn 0)]) .leaf)) [.h (.tl (.ti .i32))] hb j5
def jv:=mkP 29 Tryz.f29 Tryz.call29 Tryz.func29 (cl [wY,dM,yx,vQ] [ry]) (sl (sl (.seq (jb 31 (rg 9 22) (.reg [(3,cn 0),(5,sp),(13,sp),(15,sp),(19,cn 0),(22,sp)]) .leaf) (sl (.seq (jb 75 (rg 33 42) (.reg [(3,oi 0),(5,sp),(9,oi 0),(12,sp),(16,oi 0),(19,sp),(24,sp),(31,sp),(34,sp),(42,sp)]) .leaf) (.seq (jb 95 (rg 76 19) (.reg [(5,sp),(10,sp),(15,sp),(19,sp)]) .leaf) (.seq (.reg [(2,cn 1),(3,sp),(7,cn 2),(9,sp),(13,cn 2),(15,sp),(18,cn 3)]) .leaf))))))) [hS] hb fD
theorem qJ (a:HT (Sh.hss [hl])):DFF En GTe noC Tryz.f134.ntmps Tryz.f134.results.toList (bw Tryz.f134) (sl (.seq (.seq (.reg [(1,{nq:=true})]) .leaf) .leaf)) [hl] 1 (.tp (.ti .i32) aa) a=ky a:=by kernel_rfl
def lD:PCon En:=⟨134,[hl],.h (.tf 1 (.tp (.ti .i32) aa)),fun a=>ft a,Tryz.call134,fun a v h=>jY rfl bp rfl eu Tryz.func134 rfl rfl (by decide) ((qJ a).trans (pj a h))⟩
def la:=mkI 84 Tryz.f84 Tryz.call84 Tryz.func84 (cl [lD] []) (sl (sl (.seq (sl (.blk (.loop ⟨[(3,.rww 0 1),(8,hi)],([5]++rg 9 9),q23,[],[]⟩ [(.exit 0,⟨[(3,.rww 0 1)],([5]++rg 8 10),q23,[],[]⟩)] (js 9 [] 0 (sl (.seq (.blk (sl (.reg [(2,cn 0),(4,{fq:=1})]))) .leaf)))))) .leaf))) [hg] [(1000,.cs []),(1001,.cs [])] ⟨[(0,.rww 0 1)],[],q23,[],[]⟩ cI
theorem qH (a:HT (Sh.hss [hl])):DFF En GTe noC Tryz.f134.ntmps Tryz.f134.results.toList (bw Tryz.f134) (sl (.seq (.seq (.reg [(1,{nq:=true})]) .leaf) .leaf)) [hl] 2 (.tp (.ti .i32) aa) a=kv a:=by kernel_rfl
def rt:PCon En:=⟨134,[hl],.h (.tf 2 (.tp (.ti .i32) aa)),fun a=>jP a,Tryz.call134,fun a v h=>jY rfl bp rfl eu Tryz.func134 rfl rfl (by decide) ((qH a).trans (ph a h))⟩
def lc:=mkI 84 Tryz.f84 Tryz.call84 Tryz.func84 (cl [rt] []) (sl (sl (.seq (sl (.blk (.loop ⟨[(3,.rww 0 1),(8,hi)],([5]++rg 9 9),q25,[],[]⟩ [(.exit 0,⟨[(3,.rww 0 1)],([5]++rg 8 10),q25,[],[]⟩)] (js 9 [] 0 (sl (.seq (.blk (sl (.reg [(2,cn 0),(4,{fq:=2})]))) .leaf)))))) .leaf))) [hg] [(1000,.cs []),(1001,.cs [])] ⟨[(0,.rww 0 1)],[],q25,[],[]⟩ eg
def hM:List Sh:=[.h (.tl (.ti .i32))]
def hH:List (Nat×LSh):=[]
def k8:Tm:=⟨[(0,.rww 0 1)],[],[(0,.ls (.ti .i32))],[],[]⟩
theorem qG (a:HT (Sh.hss hM++hsL hH)):DI En GTe noC Tryz.f40.ntmps Tryz.f40.results.toList (bw Tryz.f40) (sl (.seq (.seq (.reg [(1,{nq:=true})]) .leaf) .leaf)) hM hH k8 a=ku a:=by kernel_rfl
def iO:ICon En:=⟨40,hM,hH,k8,fun a=>bB a,Tryz.call40,fun a v h=>Fd rfl bp rfl eu Tryz.func40 rfl ⟨rfl,rfl,rfl,rfl⟩ ((qG a).trans (pg h))⟩
def kR:=mkP 31 Tryz.f31 Tryz.call31 Tryz.func31 (cl [jv] [la,lc,iO]) (sl (.seq (jb 10 [8,9] (.reg [(1,cn 0),(2,sp)]) .leaf) (sl (.seq (.reg [(5,oi 0),(8,oi 1),(11,oi 2)]) (.seq (sl (.blk (.loop ⟨[],[],[],[],[]⟩ [(.exit 0,⟨[],[39],[],[],[]⟩)] .leaf))) .leaf))))) [hS,.k .nils] hS fW [1000,1001]
def qM:=mkI 69 Tryz.f69 Tryz.call69 Tryz.func69 noC .leaf [] [] ⟨[(0,.ptr 0 0)],[],[(0,.cs [.k (.int .i32 0),.k (.int .i64 0),.k (.int .i64 0),.k (.int .u8 0),.k (.int .u8 0)])],[],[]⟩ (fun a=>o5)
def sj:=mkI 70 Tryz.f70 Tryz.call70 Tryz.func70 noC .leaf [] [] ⟨[(0,.ptr 0 0)],[],[(0,.cs [.h (.tk [197,218,219]),.k (.bool false),.k (.bool false),.k (.bool false),.k (.bool false),.k (.bool false),.k (.int .i32 0),.h .ts,.k .nils,.k .nils])],[],[]⟩ (fun a=>rh)
def tG:=mkI 24 Tryz.f24 Tryz.call24 Tryz.func24 (cl [jv,kR] [qM,sj]) (sl (.seq (jb 6 [4,5] (.reg [(1,cn 0),(2,sp)]) .leaf) (.seq (.reg [(1,cn 1),(2,oi 0),(3,oi 1)]) .leaf))) [hS] [] ⟨[(0,.tup [.k .nilp,.k (.int .i64 2)])],[],[],[],[]⟩ lR
def nB:=mkI 24 Tryz.f24 Tryz.call24 Tryz.func24 (cl [jv,kR] [qM,sj]) (sl (.seq (jb 6 [4,5] (.reg [(1,cn 0),(2,sp)]) .leaf) (.seq (.reg [(1,cn 1),(2,oi 0),(3,oi 1)]) .leaf))) [hS] [] ⟨[(0,.tup [.ptr 0 0,.k (.int .i64 0)])],[],q2,[],[]⟩ gE
def qT:=mkI 16 Tryz.f16 Tryz.call16 Tryz.func16 (cl [sC] [tG,nB]) (sl (.seq (.reg [(2,cn 0)]) (.seq (js 15 [14] 1 .leaf) (.seq (.reg [(1,{io:=some 0,alt:=some 1})]) .leaf)))) [hi,hi] [] ⟨[(0,.tup [.k .nilp,hi])],[],[],[],[]⟩ (u2 gF)
def ml:=mkI 16 Tryz.f16 Tryz.call16 Tryz.func16 (cl [sC] [tG,nB]) (sl (.seq (.reg [(2,cn 0)]) (.seq (js 15 [14] 1 .leaf) (.seq (.reg [(1,{io:=some 0,alt:=some 1})]) .leaf)))) [hi,hi] [] ⟨[(0,.tup [.ptr 0 0,.k (.int .i64 0)])],[],q2,[],[]⟩ (u2 dn)
def iB:=mkI 54 Tryz.f54 Tryz.call54 Tryz.func54 noC .leaf [.ptr 0 0] q5 ⟨[(0,.k (.bool true))],[],[],[],[]⟩ (fun a=>fJ)
def gG:=mkI 55 Tryz.f55 Tryz.call55 Tryz.func55 noC .leaf [.ptr 0 0,.h (.tl .tu)] q5 ⟨[(0,.fn 93 [.ptr 3 0,.ptr 4 0])],[],[(3,.cs [.ptr 0 0]),(4,.cs [.h (.tl .tu)])],[],[]⟩ (fun a=>eV a.1)
def mS:=mkI 147 Tryz.f147 Tryz.call147 Tryz.func147 noC (sl (sl (.joinX ⟨[],(rg 11 79),[],[(0,0,hj),(0,2,hi),(0,3,.h .tu),(0,4,.h .tu)],[]⟩ (.blk (jc 11 [12,13] 2 .leaf (jb 22 (rg 23 6) (.reg [(2,sp),(6,sp)]) (.cond .leaf (jb 38 (rg 39 6) (.reg [(2,sp),(6,sp)]) (.cond (sl (.join ⟨[],(rg 54 5),[],[(0,3,.h .tu)],[]⟩ (js 55 [54] 1 .leaf) (js 60 [59] 1 .leaf))) (jb 64 (rg 65 6) (.reg [(2,sp),(6,sp)]) (.cond (sl (.join ⟨[],(rg 80 5),[],[(0,3,.h .tu)],[]⟩ (js 81 [80] 1 .leaf) (js 86 [85] 1 .leaf))) .leaf)))))))) .leaf))) [.ptr 0 0,.h .tu] [(0,.cs [hj,hi,hi,.h .tu,.h .tu])] ⟨[(0,hb)],[],[],q15,[]⟩ (fun a=>cf a.1)
def jM:=mkI 94 Tryz.f94 Tryz.call94 Tryz.func94 (cl [] [mS]) (sl (sl (sl (.seq (sl (.blk (.loop ⟨[(5,.rww 1 1),(14,hi)],([7]++rg 15 84),[(1,.ls (.ti .i32))],q15,[]⟩ [(.exit 0,⟨[(5,.rww 1 1)],([7]++rg 14 85),[(1,.ls (.ti .i32))],q15,[]⟩)] (js 15 [] 0 (sl (.join ⟨[(5,.rww 2 1)],([7]++rg 16 82),[(2,.ls (.ti .i32))],q15,[1]⟩ (.blk (sl (.seq (.seq (js 22 (rg 18 4) 4 .leaf) (.seq (jb 36 (rg 23 13) (.reg [(6,sp),(13,sp)]) .leaf) (sl (sl (.join ⟨[(5,.rww 4 1)],(rg 65 7++[64]),[(4,.ls (.ti .i32))],q15,[3]⟩ (.join ⟨[(68,hb)],[65,66,67],[],q15,[]⟩ (.reg [(2,oi 0),(3,sp)]) .leaf) (sl (jb 87 (rg 72 15) (.reg [(5,sp),(15,sp)]) .leaf))))))) (.lab 0 (sl (.join ⟨[(5,.rww 2 1)],(rg 65 7),[(2,.ls (.ti .i32))],q15,[1]⟩ (.join ⟨[(68,hb)],[65,66,67],[],q15,[]⟩ (.reg [(2,oi 0),(3,sp)]) .leaf) (sl (jb 87 (rg 72 15) (.reg [(5,sp),(15,sp)]) .leaf)))) (.lab 1 (sl (jb 87 (rg 72 15) (.reg [(5,sp),(15,sp)]) .leaf)) .leaf))))) .leaf)))))) .leaf)))) [.ptr 0 0,.h (.tl .tu)] [(0,.cs [hj,hi,hi,.h .tu,.h .tu])] ⟨[(0,.rww 1 1)],[],[(1,.ls (.ti .i32))],q15,[]⟩ (u6 dt)
def C3:=mkP 148 Tryz.f148 Tryz.call148 Tryz.func148 noC (sl (.seq (jb 16 (rg 3 13) (.reg [(2,sp),(6,sp),(9,sp),(13,sp)]) .leaf) .leaf)) [hj] hj si
def vN:=mkI 195 Tryz.f195 Tryz.call195 Tryz.func195 noC (sl (.seq (.blk (jc 3 [4,5] 2 .leaf (js 6 [7,8] 2 .leaf))) .leaf)) [hj] [] ⟨[(0,.rww 0 6)],[],[(0,.ls bI)],[],[]⟩ fU
def g9:List Sh:=[.rww 0 1]
def g8:List (Nat×LSh):=[(0,.ls (.ti .i32))]
def k0:Tm:=⟨[(0,.rww 1 1)],[],[(1,.ls (.ti .i32))],[],[]⟩
theorem qF (a:HT (Sh.hss g9++hsL g8)):DI En GTe noC Tryz.f40.ntmps Tryz.f40.results.toList (bw Tryz.f40) (sl (.seq (.seq (.reg [(1,{nq:=true})]) .leaf) .leaf)) g9 g8 k0 a=kt a:=by kernel_rfl
def rp:ICon En:=⟨40,g9,g8,k0,fun a=>fh a,Tryz.call40,fun a v h=>Fd rfl bp rfl eu Tryz.func40 rfl ⟨rfl,rfl,rfl,rfl⟩ ((qF a).trans (pd h))⟩
def kY:=mkI 196 Tryz.f196 Tryz.call196 Tryz.func196 (cl [] [rp]) (sl (.seq (jb 14 (rg 3 11) (.reg [(5,sp),(11,sp)]) .leaf) (.seq (.reg [(4,oi 0),(5,{fz:=[(19,.ti .i32)]})]) .leaf))) [.ptr 0 0] q10 ⟨[(0,.rww 3 6)],[],[(3,.ls bI)],[],[]⟩ (fun a=>d7 a.2.1 a.2.2.1 a.2.2.2.2.2.2.2.2.2)
def yv:=mkI 219 Tryz.f219 Tryz.call219 Tryz.func219 (cl [] [kY]) (sl (.joinX ⟨[],([6,7,8]++rg 15 25),[(3,.ls (.ti .i32))],[(0,9,.rww 3 1)],[2]⟩ (.blk (jc 6 [7,8] 2 (.seq (.reg [(1,oi 0)]) .leaf) (jb 15 (rg 16 14) (.reg [(2,sp),(6,sp),(14,sp)]) .leaf))) .leaf)) [.ptr 0 0,hj] q10 ⟨[(0,.rww 3 6)],[],q16,q9,[2,1]⟩ (u11 iU)
def iV:=mkI 217 Tryz.f217 Tryz.call217 Tryz.func217 noC (.seq (js 9 (rg 4 5) 5 .leaf) .leaf) [.ptr 0 0,hj] q10 ⟨[(0,.tup [])],[],[],[(0,4,hb),(0,7,.h .ts)],[]⟩ (fun a=>cO a.1 a.2.2.2.2.2.1 a.2.2.2.2.2.2.2.2.1)
def oU:=mkI 231 Tryz.f231 Tryz.call231 Tryz.func231 noC (.join ⟨[],(rg 5 12),[(3,.ls (.ti .i64))],[(0,5,hb),(0,8,.rww 3 1)],[1]⟩ (js 9 (rg 5 4) 4 .leaf) (sl (.blk (jc 23 [24,25] 2 .leaf (js 45 [46,47] 2 .leaf))))) [.ptr 0 0,hj] q10 ⟨[(0,.tup [])],[],[(3,.ls (.ti .i64))],[(0,5,hb),(0,8,.rww 3 1)],[1]⟩ (fun a=>fd a.1 a.2.2.2.2.2.2.1 a.2.2.2.2.2.2.2.2.2.1)
def sg:=mkI 218 Tryz.f218 Tryz.call218 Tryz.func218 (cl [] [iV,oU]) (sl (sl (sl (.seq (.blk (jc 15 [16,17] 2 (.seq (.reg [(2,oi 0)]) .leaf) (jb 21 (rg 22 9) (.reg [(2,sp),(6,sp),(9,sp)]) (.cond .leaf (jb 35 (rg 36 21) (.reg [(2,sp),(5,sp),(10,sp),(13,sp),(21,sp)]) (.cond .leaf (jc 60 [61,62] 2 (.seq (.reg [(2,oi 1)]) .leaf) .leaf))))))) (sl (sl (sl (.seq (js 94 [] 0 .leaf) (.seq (.reg [(1,{fz:=[(95,.ti .i64)]})]) .leaf))))))))) [.ptr 0 0,hj] q10 ⟨[(0,.rww 3 6)],[],q16,[(0,0,.h (.tk [197,218,219])),(0,1,hb),(0,2,hb),(0,3,.k (.bool false)),(0,4,hb),(0,5,hb),(0,6,hj),(0,7,.h .ts),(0,8,.rww 4 1),(0,9,.rww 5 1)],[1,2]⟩ (u11 dX)
def vO:=mkI 197 Tryz.f197 Tryz.call197 Tryz.func197 (cl [] [iV]) (sl (.seq (jc 8 [7] 1 (.seq (.reg [(2,oi 0)]) .leaf) .leaf) (.joinX ⟨[],(rg 12 15),[],[],[]⟩ (jc 16 (rg 12 4) 4 (sl (.blk (.joinX ⟨[],(rg 18 9++[30,31,32]),[],[(0,2,hb)],[]⟩ (.blk (.seq (.blk (.seq (.blk (.seq (.seq (js 18 [19] 1 .leaf) (.seq (js 20 [21] 1 .leaf) (jb 22 (rg 23 4) (jc 22 [23] 1 .leaf (jc 22 [24] 1 .leaf (jc 22 [25] 1 .leaf (rs 1)))) .leaf))) .leaf)) .leaf)) .leaf)) .leaf))) .leaf) (sl (sl (sl (.seq (js 53 [] 0 .leaf) .leaf))))))) [.ptr 0 0,hj] q10 ⟨[(0,.rww 3 6)],[],q16,q9,[1,2]⟩ (u11 fV)
def qB:=mkI 149 Tryz.f149 Tryz.call149 Tryz.func149 (cl [] [vN,kY,yv,sg,vO]) (sl (.seq (.blk (.joinX ⟨[],(rg 6 35++[61,62,63]),[(3,.ls (.ti .i64)),(4,.ls (.ti .i32))],[(0,0,.h (.tk [197,218,219])),(0,1,hb),(0,2,hb),(0,3,hb),(0,4,hb),(0,5,hb),(0,6,hj),(0,7,.h .ts),(0,8,.rww 3 1),(0,9,.rww 4 1)],[1,2]⟩ (.blk (.seq (.blk (.seq (.blk (.seq (.blk (.seq (.blk (.seq (.blk (.seq (.seq (jb 6 (rg 7 9) (.reg [(4,{fz:=[(10,.tn)]}),(9,sp)]) .leaf) (.seq (js 16 [17,18] 2 .leaf) (.seq (jb 19 (rg 20 6) (.reg [(2,sp),(6,sp)]) .leaf) (.seq (js 26 (rg 27 4) 4 .leaf) (.seq (js 31 [32,33] 2 .leaf) (jb 34 (rg 35 6) (.reg [(2,sp),(6,sp)]) .leaf)))))) .leaf)) (.seq (.seq (.reg [(1,oi 0)]) .leaf) .leaf))) (.seq (.seq (.reg [(1,oi 1)]) .leaf) .leaf))) (.seq (sl (.seq (.reg [(1,oi 0)]) .leaf)) .leaf))) (.seq (.seq (.reg [(6,{fz:=[(57,.tn)],ios:=[(197,4),(218,3),(219,2)]})]) .leaf) .leaf))) .leaf)) (.seq (.seq (.reg [(1,oi 0)]) .leaf) .leaf))) (.seq (.reg [(6,{fz:=[(69,.tn)],ios:=[(197,4),(218,3),(219,2)]})]) .leaf))) [.ptr 0 0,hj] q10 ⟨[(0,.rww 3 6)],[],q16,q9,[1,2]⟩ (u11 dg)
def kZ:=mkI 95 Tryz.f95 Tryz.call95 Tryz.func95 (cl [C3] [qB]) (sl (sl (.seq (.reg [(1,cn 0)]) (.seq (jb 14 (rg 9 5) (.reg [(2,sp),(5,sp)]) (.cond (.seq (.reg [(1,oi 0),(5,oi 0)]) .leaf) .leaf)) (.seq (.reg [(2,oi 0)]) .leaf))))) [.ptr 0 0,hj] q10 ⟨[(0,.rww 3 6)],[],q16,q9,[1,2]⟩ (u11 d8)
def yM:=mkP 33 Tryz.f33 Tryz.call33 Tryz.func33 noC (sl (.seq (sl (.blk (jc 4 [5] 1 .leaf (jc 8 [9] 1 .leaf (jb 12 [13,14,15] (jc 12 [13] 1 .leaf (jc 12 [14] 1 .leaf (rs 1))) (.cond .leaf (js 18 [19] 1 .leaf))))))) .leaf)) [hj] (.h (.tl ap)) mj
def AG:=mkP 34 Tryz.f34 Tryz.call34 Tryz.func34 noC (sl (.seq (sl (.blk (jc 9 [10] 1 .leaf (jc 13 [14] 1 .leaf (jc 17 [18] 1 .leaf (jc 22 [23] 1 .leaf (jc 26 [27] 1 .leaf (jc 30 [31] 1 .leaf (jc 34 [35] 1 .leaf (js 38 [39] 1 .leaf)))))))))) .leaf)) [.st bI] (.h (.tl ap)) om
def xR:=mkP 35 Tryz.f35 Tryz.call35 Tryz.func35 noC (sl (.seq (.reg [(3,sp),(8,sp)]) .leaf)) [.st bI] hb pO
def pN:=mkP 41 Tryz.f41 Tryz.call41 Tryz.func41 noC (sl (.seq (js 9 (rg 5 4) 4 .leaf) .leaf)) [.st bI,hi] hi (u2 ja)
def Cg:=mkP 36 Tryz.f36 Tryz.call36 Tryz.func36 (cl [pN] []) (sl (.seq (.reg [(1,cn 0),(4,cn 0)]) (sl (.seq (sl (.blk (.seq (.blk (.seq (.blk (.seq (.blk (.joinX ⟨[(3,hi)],(rg 15 24++[75,76]),[],[],[]⟩ (.blk (.seq (.blk (.seq (.blk (.seq (.blk (.joinX ⟨[(3,hi)],(rg 15 14++[60,61]),[],[],[]⟩ (.blk (.seq (.blk (.seq (.blk (.joinX ⟨[(3,hi),(5,hb)],(rg 15 7++[45,46]),[],[],[]⟩ (.blk (.joinX ⟨[(3,hi)],(rg 15 4++[45,46]),[],[],[]⟩ (.blk (.seq (.blk (.seq (.seq (js 15 [16] 1 .leaf) (.seq (js 17 [18] 1 .leaf) (.seq (jb 19 [20,21] (jc 19 [20] 1 .leaf (rs 1)) .leaf) (.seq (js 22 [23] 1 .leaf) (.seq (js 24 [25] 1 .leaf) (.seq (jb 26 [27,28] (jc 26 [27] 1 .leaf (rs 1)) .leaf) (.seq (jb 29 [30,31] (jc 29 [30] 1 .leaf (rs 1)) .leaf) (.seq (jb 32 [33,34] (jc 32 [33] 1 .leaf (rs 1)) .leaf) (.seq (js 35 [36] 1 .leaf) (.seq (js 37 [38] 1 .leaf) (.seq (js 39 [40] 1 .leaf) (.seq (js 41 [42] 1 .leaf) (js 43 [44] 1 .leaf))))))))))))) .leaf)) .leaf)) .leaf)) (.seq (sl (.join ⟨[(6,.rww 2 6)],(rg 50 5++[49]),[(2,.ls ap)],[],[1]⟩ (js 50 [] 0 .leaf) .leaf)) .leaf))) .leaf)) .leaf)) .leaf)) .leaf)) .leaf)) .leaf)) .leaf)) .leaf)) .leaf)) .leaf))) .leaf)))) [.st bI] (.h (.tl ap)) qn
def yL:=mkP 87 Tryz.f87 Tryz.call87 Tryz.func87 noC (sl (.seq (js 4 [3] 1 .leaf) .leaf)) [hi] hi mi
def vZ:=mkP 38 Tryz.f38 Tryz.call38 Tryz.func38 (cl [yL] []) (sl (sl (.seq (jb 17 (rg 10 7) (.reg [(3,sp),(7,sp)]) .leaf) (.seq (sl (.blk (.loop ⟨[(5,.rww 1 6),(21,hi)],([7,8,9]++rg 22 19),[(1,.ls ap)],[],[]⟩ [(.exit 0,⟨[(5,.rww 1 6)],([7,8,9]++rg 21 20),[(1,.ls ap)],[],[]⟩)] (js 22 [] 0 (sl (.join ⟨[(5,.rww 2 6)],([7,8,9]++rg 23 17),[(2,.ls ap)],[],[1]⟩ (.blk (sl (.seq (.reg [(2,cn 0)]) (jc 29 [28] 1 (sl (.join ⟨[],(rg 32 4),[],[(2,2,hi)],[]⟩ (js 34 [32,33] 2 .leaf) .leaf)) .leaf)))) .leaf)))))) .leaf)))) [.st bI,.fn 87 []] (.h (.tl ap)) j9
theorem qI (a:HT (Sh.hss [.h (.tl (.ti .i64))])):DF En GTe noC Tryz.f88.ntmps Tryz.f88.results.toList (bw Tryz.f88) (sl (.seq (.seq (.reg [(1,{nq:=true})]) .leaf) .leaf)) [.h (.tl (.ti .i64))] (.h (.tl (.ti .i64))) a=kw a:=by kernel_rfl
def ru:PCon En:=⟨88,[.h (.tl (.ti .i64))],.h (.tl (.ti .i64)),fun a=>fp a,Tryz.call88,fun a v h=>Ie rfl bp rfl eu Tryz.func88 rfl rfl (by decide) ((qI a).trans (pi a h))⟩
def Ch:=mkP 37 Tryz.f37 Tryz.call37 Tryz.func37 (cl [pN,vZ,ru] []) (sl (.seq (.reg [(1,cn 0)]) (sl (.joinX ⟨[],(rg 12 29++rg 67 6),[],[],[]⟩ (sl (.blk (.seq (.blk (.seq (.blk (.seq (.blk (.seq (.blk (.joinX ⟨[(6,hi)],(rg 14 18++[62,63]),[],[],[]⟩ (.blk (.seq (.blk (.seq (.blk (.seq (.blk (.seq (.blk (.seq (.blk (.seq (.blk (.seq (.blk (.seq (.blk (.seq (.seq (js 14 [15] 1 .leaf) (.seq (js 16 [17] 1 .leaf) (.seq (js 18 [19] 1 .leaf) (.seq (js 20 [21] 1 .leaf) (.seq (js 22 [23] 1 .leaf) (.seq (js 24 [25] 1 .leaf) (.seq (js 26 [27] 1 .leaf) (.seq (js 28 [29] 1 .leaf) (.seq (js 30 [31] 1 .leaf) (.seq (js 32 [33] 1 .leaf) (.seq (jb 34 [35,36] (jc 34 [35] 1 .leaf (rs 1)) .leaf) (.seq (js 37 [38] 1 .leaf) (js 39 [40] 1 .leaf))))))))))))) .leaf)) .leaf)) .leaf)) .leaf)) .leaf)) .leaf)) .leaf)) .leaf)) .leaf)) .leaf)) (.seq (jb 72 (rg 67 5) (.reg [(2,sp),(5,sp)]) .leaf) .leaf))) (.seq (.seq (.reg [(1,cn 1)]) .leaf) .leaf))) (.seq (.seq (.reg [(2,cn 2)]) .leaf) .leaf))) (.seq (.seq (.reg [(1,cn 0)]) (.join ⟨[(7,hi)],(rg 87 4),[],[],[]⟩ (js 88 [87] 1 .leaf) .leaf)) .leaf)))) .leaf)))) [.st bI,hS] (.h (.tl ap)) (u2 nA)
def yK:=mkP 39 Tryz.f39 Tryz.call39 Tryz.func39 noC (sl (.seq (sl (.blk (jc 4 [5] 1 .leaf (jc 6 [7] 1 .leaf (jc 8 [9] 1 .leaf (jc 10 [11] 1 .leaf (jc 12 [13] 1 .leaf (jc 14 [15] 1 .leaf (jb 16 [17,18,19] (jc 16 [17] 1 .leaf (jc 16 [18] 1 .leaf (rs 1))) .leaf))))))))) .leaf)) [hi] hi mh
def vY:=mkP 38 Tryz.f38 Tryz.call38 Tryz.func38 (cl [yK] []) (sl (sl (.seq (jb 17 (rg 10 7) (.reg [(3,sp),(7,sp)]) .leaf) (.seq (sl (.blk (.loop ⟨[(5,.rww 1 6),(21,hi)],([7,8,9]++rg 22 19),[(1,.ls ap)],[],[]⟩ [(.exit 0,⟨[(5,.rww 1 6)],([7,8,9]++rg 21 20),[(1,.ls ap)],[],[]⟩)] (js 22 [] 0 (sl (.join ⟨[(5,.rww 2 6)],([7,8,9]++rg 23 17),[(2,.ls ap)],[],[1]⟩ (.blk (sl (.seq (.reg [(2,cn 0)]) (jc 29 [28] 1 (sl (.join ⟨[],(rg 32 4),[],[(2,2,hi)],[]⟩ (js 34 [32,33] 2 .leaf) .leaf)) .leaf)))) .leaf)))))) .leaf)))) [.st bI,.fn 39 []] (.h (.tl ap)) j8
def qU:=mkP 11 Tryz.f11 Tryz.call11 Tryz.func11 (cl [yM,AG,xR,Cg,Ch,vY] [iO]) (sl (.seq (.blk (jc 6 [7,8,9] 3 .leaf (jc 14 [15,16,17] 3 (.seq (.reg [(2,cn 0)]) .leaf) (jc 21 [22,23,24] 3 (.seq (.reg [(1,cn 1)]) .leaf) (jb 27 [28,29] (.reg [(1,cn 2),(2,sp)]) (.cond (.seq (.seq (.reg [(1,cn 3)]) (js 34 [32,33] 2 .leaf)) (.seq (.reg [(2,cn 4)]) .leaf)) (jb 39 (rg 40 13) (.reg [(3,sp),(8,sp),(13,sp)]) (.cond (.seq (.reg [(1,cn 5)]) .leaf) (jb 55 (rg 56 30) (.reg [(3,sp),(9,sp),(15,sp),(23,sp),(30,sp)]) (.cond (.seq (.reg [(3,oi 0),(4,{fz:=[(89,.ti .i32)]})]) .leaf) .leaf)))))))))) .leaf)) [.st bI,hS] (.h (.tl ap)) (u2 dI)
def tH:=mkP 12 Tryz.f12 Tryz.call12 Tryz.func12 (cl [xR,pN,Ky] []) (sl (.seq (jb 9 [7,8] (.reg [(1,cn 0),(2,sp)]) .leaf) (.seq (.seq (.reg [(1,cn 1)]) (.blk (jb 12 (rg 13 7) (.reg [(3,sp),(7,sp)]) (.cond .leaf (jb 22 (rg 23 7) (.reg [(3,sp),(7,sp)]) (.cond .leaf (jb 32 (rg 33 7) (.reg [(3,sp),(7,sp)]) (.cond (sl (.join ⟨[(6,hi)],(rg 42 9),[],[],[]⟩ (js 45 [42,43,44] 3 .leaf) (.seq (.reg [(2,cn 2),(8,cn 2)]) .leaf))) .leaf)))))))) .leaf))) [.st bI,hS] (.h (.tl .tu)) (u2 iR)
def dK:=mkP 85 Tryz.f85 Tryz.call85 Tryz.func85 noC .leaf [hi,hi,hi] hi (u3 bh)
def hU:List Sh:=[hl]
def hO:List (Nat×LSh):=[]
def k9:Tm:=⟨[(0,.rww 0 7)],[],q27,[],[]⟩
theorem qK (a:HT (Sh.hss hU++hsL hO)):DI En GTe noC Tryz.f134.ntmps Tryz.f134.results.toList (bw Tryz.f134) (sl (.seq (.seq (.reg [(1,{nq:=true})]) .leaf) .leaf)) hU hO k9 a=kz a:=by kernel_rfl
def cq:ICon En:=⟨134,hU,hO,k9,fun a=>aY a,Tryz.call134,fun a v h=>Fd rfl bp rfl eu Tryz.func134 rfl ⟨rfl,rfl,rfl,rfl⟩ ((qK a).trans (pl h))⟩
theorem uz (a:HT (Sh.hss [hl,hi,hj])):DFF En GTe (cl [lJ,jW] [cq]) Tryz.f169.ntmps Tryz.f169.results.toList (bw Tryz.f169) (sl (.seq (jb 12 [10,11] (.reg [(1,cn 0),(2,sp)]) .leaf) (.seq (.reg [(1,oi 0)]) (.seq (jb 27 (rg 15 12) (.reg [(2,sp),(8,sp),(10,cn 1),(12,sp)]) .leaf) (.join ⟨[(1,hi)],(rg 29 8),[],[],[]⟩ (js 34 (rg 29 5) 5 .leaf) (.seq (sl (.blk (.loop ⟨[(42,hi)],([8,9]++rg 43 5++[55]),[],[],[]⟩ [(.exit 0,⟨[],([8,9]++rg 42 14),q27,[],[]⟩)] (js 43 [] 0 (sl (.seq (.blk (.join ⟨[(8,hi),(9,hj)],[44,45],[],[],[]⟩ (.reg [(1,{sel:=true})]) (jc 47 [46] 1 (.seq (.reg [(6,{sel:=true})]) .leaf) .leaf))) .leaf)))))) .leaf)))))) [hl,hi,hj] 1 (.tp (.ti .i32) aa) a=iw a.1 a.2.1 a.2.2:=by kernel_rfl
def vV:PCon En:=⟨169,[hl,hi,hj],.h (.tf 1 (.tp (.ti .i32) aa)),fun a=>iw a.1 a.2.1 a.2.2,Tryz.call169,fun a v h=>jY rfl bp rfl eu Tryz.func169 rfl rfl (by decide) ((uz a).trans h)⟩
def me:=mkI 225 Tryz.f225 Tryz.call225 Tryz.func225 (cl [lD] []) (sl (.seq (.reg [(2,{fq:=1})]) (.seq (sl (.blk (.loop ⟨[(11,hi)],([4,5]++rg 12 10),q17,[],[]⟩ [(.exit 0,⟨[],([4,5]++rg 11 11),q17,[],[]⟩)] (js 12 [] 0 (sl (.seq (.blk (sl (.reg [(3,cn 0)]))) .leaf)))))) .leaf))) [.rww 0 1] q13 ⟨[(0,.rww 1 1)],[],q24,[],[]⟩ fO
theorem o9 (a:HT (Sh.hss [hl,hi])):DFF En GTe (cl [r9] []) Tryz.f167.ntmps Tryz.f167.results.toList (bw Tryz.f167) (sl (.seq (js 10 [9] 1 .leaf) (.seq (.reg [(5,cn 0)]) (.seq (jb 26 (rg 21 5) (.reg [(2,sp),(5,sp)]) .leaf) (sl (sl (.seq (.blk (.loop ⟨[(8,hi)],(rg 34 13),q27,[],[]⟩ [(.exit 0,⟨[],([8]++rg 34 13),q27,[],[]⟩)] (.seq (js 37 [34,35,36] 3 .leaf) .leaf))) .leaf))))))) [hl,hi] 1 (.tp (.ti .i32) aa) a=jn a.1 a.2:=by kernel_rfl
def qE:PCon En:=⟨167,[hl,hi],.h (.tf 1 (.tp (.ti .i32) aa)),fun a=>jn a.1 a.2,Tryz.call167,fun a v h=>jY rfl bp rfl eu Tryz.func167 rfl rfl (by decide) ((o9 a).trans h)⟩
theorem s8 (a:HT (Sh.hss [hi,hP])):DFF En GTe (cl [dM,lq,qE] []) Tryz.f132.ntmps Tryz.f132.results.toList (bw Tryz.f132) (sl (.seq (jb 15 (rg 5 10) (.reg [(2,sp),(6,sp),(8,cn 0),(10,sp)]) .leaf) (.seq (.reg [(1,cn 1),(4,cn 2)]) .leaf))) [hi,hP] 1 (.tp (.ti .i32) aa) a=gA a.1 a.2:=by kernel_rfl
def nr:PCon En:=⟨132,[hi,hP],.h (.tf 1 (.tp (.ti .i32) aa)),fun a=>gA a.1 a.2,Tryz.call132,fun a v h=>jY rfl bp rfl eu Tryz.func132 rfl rfl (by decide) ((s8 a).trans h)⟩
def th:=mkI 208 Tryz.f208 Tryz.call208 Tryz.func208 (cl [lL,dM,nr] [me]) (sl (.seq (jb 21 (rg 14 7) (.reg [(1,cn 0),(3,sp),(5,cn 1),(7,sp)]) .leaf) (.seq (.reg [(1,oi 0)]) (.seq (jb 36 (rg 24 12) (.reg [(2,sp),(7,sp),(12,sp)]) .leaf) (sl (sl (.join ⟨[(12,.rwf 1003 1)],(rg 51 23),q18,[],[]⟩ (js 52 [51] 1 .leaf) (.seq (sl (.blk (.loop ⟨[(76,hi)],([13]++rg 77 12),q18,[],[]⟩ [(.exit 0,⟨[],([13]++rg 76 13),q18,[],[]⟩)] (js 77 [] 0 (sl (.seq (.blk (sl (.reg [(7,cn 2)]))) .leaf)))))) .leaf)))))))) [.rww 0 1,hi,hi,hi,hP] q13 ⟨[(0,.rww 1 1)],[],q24,[],[]⟩ (u5 iJ)
def eH:=mkI 181 Tryz.f181 Tryz.call181 Tryz.func181 (cl [] [th]) (.reg [(18,oi 0)]) [.ptr 0 0,hi,hi] q6 ⟨[(0,.tup [])],[],q22,[(0,2,.rww 4 1)],[]⟩ (fun a=>bu a.1 a.2.1 a.2.2.2.2.2.2.2.1 a.2.2.2.2.2.2.2.2.1 a.2.2.2.2.2.2.2.2.2.1 a.2.2.2.2.2.2.2.2.2.2.2.1 a.2.2.2.2.2.2.2.2.2.2.2.2.2.2.2.2.2.2.2.2.2.2.2.2.2.2.2.2.2.2.2.1)
def jr:=mkI 170 Tryz.f170 Tryz.call170 Tryz.func170 (cl [] [eH]) (.seq (jc 12 (rg 2 10) 10 (.seq (.reg [(6,oi 0)]) .leaf) .leaf) .leaf) [.ptr 0 0] q6 ⟨[(0,.tup [])],[],q22,[(0,2,.rww 4 1),(0,4,hi)],[1]⟩ (fun a=>bl a.1 a.2.2.1 a.2.2.2.2.2.1 a.2.2.2.2.2.2.1 a.2.2.2.2.2.2.2.1 a.2.2.2.2.2.2.2.2.1 a.2.2.2.2.2.2.2.2.2.1 a.2.2.2.2.2.2.2.2.2.2.2.2.2.2.2.2.2.2.2.2.2.2.2.2.2.2.2.2.2.1 a.2.2.2.2.2.2.2.2.2.2.2.2.2.2.2.2.2.2.2.2.2.2.2.2.2.2.2.2.2.2.1 a.2.2.2.2.2.2.2.2.2.2.2.2.2.2.2.2.2.2.2.2.2.2.2.2.2.2.2.2.2.2.2)
def l8:=mkP 205 Tryz.f205 Tryz.call205 Tryz.func205 (cl [lJ,dM] []) (sl (.seq (.reg [(1,cn 0),(2,sp),(4,cn 1)]) .leaf)) [hl,hP] hb (u2 gT)
def d5:=mkI 206 Tryz.f206 Tryz.call206 Tryz.func206 (cl [lq] []) (jb 19 (rg 4 15) (.reg [(2,sp),(8,sp),(15,sp)]) (.cond (.reg [(11,cn 0),(17,cn 0)]) .leaf)) [.rww 0 7,hi] q27 ⟨[(0,.tup [])],[],q27,[],[]⟩ (u2 bC)
theorem rJ (a:HT (Sh.hss [hl,hi,hi,hP])):DFF En GTe (cl [l8,gV] [cq,d5]) Tryz.f171.ntmps Tryz.f171.results.toList (bw Tryz.f171) (sl (.seq (jb 13 [10,11,12] (.reg [(2,cn 0),(3,sp)]) .leaf) (.seq (.reg [(1,oi 0)]) (.seq (jb 27 (rg 16 11) (.reg [(2,sp),(6,sp),(11,sp)]) .leaf) (sl (.seq (.reg [(2,oi 1)]) (.seq (.reg [(5,oi 1)]) (sl (.seq (.reg [(5,cn 1)]) .leaf))))))))) [hl,hi,hi,hP] 1 (.tp (.ti .i32) aa) a=cN a.1 a.2.1 a.2.2.1 a.2.2.2:=by kernel_rfl
def l9:PCon En:=⟨171,[hl,hi,hi,hP],.h (.tf 1 (.tp (.ti .i32) aa)),fun a=>cN a.1 a.2.1 a.2.2.1 a.2.2.2,Tryz.call171,fun a v h=>jY rfl bp rfl eu Tryz.func171 rfl rfl (by decide) ((rJ a).trans h)⟩
theorem vU (a:HT (Sh.hss [hl,hi,hj,hP])):DFF En GTe (cl [l8,jW] [cq,d5]) Tryz.f172.ntmps Tryz.f172.results.toList (bw Tryz.f172) (sl (.seq (jb 14 [11,12,13] (.reg [(2,cn 0),(3,sp)]) .leaf) (.seq (.reg [(1,cn 1)]) (.seq (.reg [(1,oi 0)]) (.seq (jb 32 (rg 19 13) (.reg [(2,sp),(6,sp),(13,sp)]) .leaf) (.seq (.reg [(2,oi 1)]) (.seq (.reg [(4,oi 1)]) (sl (.join ⟨[],(rg 50 8),[(1,.ls (.tp (.ti .i32) aa))],[],[]⟩ (js 51 [50] 1 .leaf) .leaf))))))))) [hl,hi,hj,hP] 1 (.tp (.ti .i32) aa) a=gU a.1 a.2.1 a.2.2.1 a.2.2.2:=by kernel_rfl
def xu:PCon En:=⟨172,[hl,hi,hj,hP],.h (.tf 1 (.tp (.ti .i32) aa)),fun a=>gU a.1 a.2.1 a.2.2.1 a.2.2.2,Tryz.call172,fun a v h=>jY rfl bp rfl eu Tryz.func172 rfl rfl (by decide) ((vU a).trans h)⟩
def m6:=mkI 135 Tryz.f135 Tryz.call135 Tryz.func135 (cl [jW,vV,l9,xu] [jr]) (.seq (.reg [(1,cn 0)]) (sl (.seq (.blk (jb 22 (rg 23 11) (.reg [(2,sp),(11,sp)]) (.cond .leaf (jc 34 [35,36] 2 (sl (.join ⟨[(6,hi)],(rg 42 8),[],[],[]⟩ (js 47 (rg 42 5) 5 .leaf) (.seq (.reg [(13,cn 1)]) .leaf))) .leaf)))) (sl (.join ⟨[],(rg 72 14++[20,14]),q22,[(0,2,.rww 4 1),(0,4,hi),(0,5,hi)],[1]⟩ (jb 79 (rg 72 7) (.reg [(5,sp),(7,sp)]) (.cond (sl (.reg [(1,oi 0)])) .leaf)) (sl (.join ⟨[],(rg 90 31),[(5,.ls (.tf 1 (.tp (.ti .i32) aa)))],[(0,2,.rww 5 1),(0,4,hi),(0,5,hi)],[4]⟩ (jc 102 (rg 90 12) 12 (jc 103 [] 0 (sl (.reg [(1,oi 0)])) .leaf) .leaf) (sl (.join ⟨[(5,.h (.tf 1 (.tp (.ti .i32) aa)))],(rg 133 20),[],[],[]⟩ (jc 139 (rg 133 6) 6 (.reg [(12,cn 2)]) .leaf) (.seq (.reg [(22,cn 3)]) (sl (js 197 (rg 187 10) 10 .leaf)))))))))))) [.ptr 0 0,hj] q6 ⟨[(0,.tup [])],[],q22,[(0,2,.rww 4 1),(0,4,hi),(0,5,hi),(0,6,hb)],[1]⟩ (fun a=>dR a.1 a.2.1 a.2.2.1 a.2.2.2.1 a.2.2.2.2.1 a.2.2.2.2.2.1 a.2.2.2.2.2.2.1 a.2.2.2.2.2.2.2.1 a.2.2.2.2.2.2.2.2.1 a.2.2.2.2.2.2.2.2.2.1 a.2.2.2.2.2.2.2.2.2.2.1 a.2.2.2.2.2.2.2.2.2.2.2.1 a.2.2.2.2.2.2.2.2.2.2.2.2.2.2.2.2.2.2.2.2.2.2.2.2.2.2.2.2.2.2.1 a.2.2.2.2.2.2.2.2.2.2.2.2.2.2.2.2.2.2.2.2.2.2.2.2.2.2.2.2.2.2.2.1 a.2.2.2.2.2.2.2.2.2.2.2.2.2.2.2.2.2.2.2.2.2.2.2.2.2.2.2.2.2.2.2.2)
def De:=mkP 173 Tryz.f173 Tryz.call173 Tryz.func173 (cl [dM] []) (sl (.seq (jb 5 [3,4] (.reg [(1,cn 0),(2,sp)]) .leaf) .leaf)) [hP] hP w9
def BL:=mkP 175 Tryz.f175 Tryz.call175 Tryz.func175 noC (sl (.seq (.blk (jb 4 (rg 5 6) (.reg [(2,sp),(6,sp)]) (.cond .leaf (jb 14 (rg 15 12) (jb 14 (rg 15 6) (.reg [(2,sp),(6,sp)]) (.cond .leaf (.reg [(2,sp),(6,sp)]))) .leaf)))) .leaf)) [hi] (.tup [hi,hb]) ne
def BM:=mkP 176 Tryz.f176 Tryz.call176 Tryz.func176 noC (sl (.joinX ⟨[(0,hi)],(rg 3 16),[],[],[]⟩ (.blk (jb 3 (rg 4 10) (.reg [(2,sp),(6,sp),(10,sp)]) (.cond .leaf (js 14 [15,16] 2 .leaf)))) .leaf)) [hi] hi jS
def xa:=mkP 207 Tryz.f207 Tryz.call207 Tryz.func207 noC (sl (.seq (sl (.blk (.loop ⟨[(7,hi)],([4]++rg 8 10),[],[],[]⟩ [(.ret,⟨[(2,.k (.bool false))],([4]++rg 7 11),[],[],[]⟩),(.exit 0,⟨[],([4]++rg 7 11),[],[],[]⟩)] (js 8 [] 0 (sl (.seq (.blk (sl (jb 16 (rg 11 5) (.reg [(2,sp),(5,sp)]) .leaf))) .leaf)))))) .leaf)) [.h (.tl (.ti .i64))] hb dC
def Ao:=mkP 177 Tryz.f177 Tryz.call177 Tryz.func177 (cl [xa] []) (sl (sl (.seq (.blk (jb 5 (rg 6 17) (.reg [(3,sp),(9,sp),(15,cn 0),(17,sp)]) (.cond .leaf (jb 27 (rg 28 15) (.reg [(3,sp),(9,sp),(13,cn 0),(15,sp)]) .leaf)))) .leaf))) [.h (.tl (.ti .i64))] (.tup [hi,hi]) nZ
def sH:=mkI 174 Tryz.f174 Tryz.call174 Tryz.func174 noC (js 6 [5] 1 .leaf) [hi,hi,.ptr 0 0] [(0,.cs [hi,hi,hi])] ⟨[(0,.tup [])],[],[],[(0,1,hi),(0,2,hi)],[]⟩ (fun a=>cM a.1 a.2.1 a.2.2.2.1 a.2.2.2.2)
def BO:=mkP 136 Tryz.f136 Tryz.call136 Tryz.func136 (cl [De,BL,BM,Ao] [sH]) (sl (.seq (.reg [(1,cn 0)]) (.seq (js 16 [14,15] 2 .leaf) (sl (.seq (sl (.blk (.loop ⟨[(6,hi)],(rg 7 5++rg 19 72++rg 92 41),[],(sP 0),[]⟩ [(.ret,⟨[],(rg 6 6++rg 19 114),[],[(0,0,hi),(0,1,hi),(0,2,hi),(1,0,hi),(1,1,hi),(1,2,hi)],[]⟩),(.exit 0,⟨[],(rg 6 6++rg 19 72++rg 92 41),[],(sP 0),[]⟩)] (.seq (js 22 [19,20,21] 3 .leaf) (.joinX ⟨[(6,hi)],(rg 7 5++rg 25 66++rg 92 41),[],(sP 0),[]⟩ (.blk (sl (.seq (.reg [(1,cn 1)]) (.blk (jc 34 [35,36] 2 .leaf (jb 38 (rg 39 6) (.reg [(2,sp),(6,sp)]) (.cond (.reg [(4,cn 2)]) (jc 52 [53,54] 2 .leaf (jb 59 (rg 60 6) (.reg [(2,sp),(6,sp)]) (.cond (.reg [(4,cn 2)]) (jb 73 (rg 74 7) (.reg [(1,sp),(7,sp)]) (.cond (.seq (.reg [(4,cn 3)]) (.seq (js 90 [89] 1 .leaf) (.seq (.reg [(3,oi 0)]) .leaf))) (jb 99 (rg 100 7) (.reg [(1,sp),(7,sp)]) (.cond (.reg [(2,oi 0)]) (jb 110 (rg 111 5) (.reg [(1,sp),(5,sp)]) (.cond (.reg [(6,oi 0)]) (jc 123 [124] 1 (.reg [(7,oi 0)]) .leaf))))))))))))))))) .leaf))))) .leaf))))) [hP,.h (.tl (.ti .i64))] hP (u2 nf)
def Ae:=mkP 138 Tryz.f138 Tryz.call138 Tryz.func138 (cl [vc] []) (sl (.join ⟨[],(rg 5 11),[],q26,[]⟩ (jb 6 [5] (.reg [(1,{split:=true,con:=0})]) (.cond (.reg [(2,{sel:=true}),(8,{sel:=true})]) .leaf)) .leaf)) [hT,hi] hT (u2 jO)
def jq:=mkI 179 Tryz.f179 Tryz.call179 Tryz.func179 noC (sl (.seq (js 9 (rg 3 6) 6 .leaf) .leaf)) [.ptr 0 0] q6 ⟨[(0,hi)],[],[],[],[]⟩ (fun a=>da a.2.2.2.2.2.2.2.2.2.2.1)
def jp:=mkI 139 Tryz.f139 Tryz.call139 Tryz.func139 (cl [] [jq]) (.reg [(2,oi 0),(34,{sel:=true})]) [.ptr 0 0] q6 ⟨[(0,.tup [])],[],[],[(0,13,hi),(0,14,hi),(0,15,hi),(0,16,hi),(0,17,hi),(0,18,hb),(0,19,hb),(0,20,hi),(0,21,hi),(0,22,hi),(0,23,hi),(0,24,hi),(0,25,hb),(0,26,hb)],[]⟩ (fun a=>cZ a.2.2.1 a.2.2.2.1 a.2.2.2.2.1 a.2.2.2.2.2.1 a.2.2.2.2.2.2.1 a.2.2.2.2.2.2.2.1 a.2.2.2.2.2.2.2.2.2.2.1 a.2.2.2.2.2.2.2.2.2.2.2.1 a.2.2.2.2.2.2.2.2.2.2.2.2.1 a.2.2.2.2.2.2.2.2.2.2.2.2.2.1 a.2.2.2.2.2.2.2.2.2.2.2.2.2.2.1 a.2.2.2.2.2.2.2.2.2.2.2.2.2.2.2.1 a.2.2.2.2.2.2.2.2.2.2.2.2.2.2.2.2.1 a.2.2.2.2.2.2.2.2.2.2.2.2.2.2.2.2.2.1 a.2.2.2.2.2.2.2.2.2.2.2.2.2.2.2.2.2.2.1 a.2.2.2.2.2.2.2.2.2.2.2.2.2.2.2.2.2.2.2.1 a.2.2.2.2.2.2.2.2.2.2.2.2.2.2.2.2.2.2.2.2.1 a.2.2.2.2.2.2.2.2.2.2.2.2.2.2.2.2.2.2.2.2.2.1 a.2.2.2.2.2.2.2.2.2.2.2.2.2.2.2.2.2.2.2.2.2.2.1 a.2.2.2.2.2.2.2.2.2.2.2.2.2.2.2.2.2.2.2.2.2.2.2.1 a.2.2.2.2.2.2.2.2.2.2.2.2.2.2.2.2.2.2.2.2.2.2.2.2.1 a.2.2.2.2.2.2.2.2.2.2.2.2.2.2.2.2.2.2.2.2.2.2.2.2.2.2.2.2.2.1 a.2.2.2.2.2.2.2.2.2.2.2.2.2.2.2.2.2.2.2.2.2.2.2.2.2.2.2.2.2.2.1 a.2.2.2.2.2.2.2.2.2.2.2.2.2.2.2.2.2.2.2.2.2.2.2.2.2.2.2.2.2.2.2)
def jV:=mkI 82 Tryz.f82 Tryz.call82 Tryz.func82 (cl [i8,dM,nr] []) (sl (.seq (jb 21 (rg 9 12) (.reg [(1,cn 0),(3,sp),(5,cn 0),(8,sp),(10,cn 1),(12,sp)]) .leaf) (.seq (.reg [(1,{fq:=1})]) (.seq (sl (.blk (.loop ⟨[(26,hi)],([8]++rg 27 9),q18,[],[]⟩ [(.exit 0,⟨[],([8]++rg 26 10),q18,[],[]⟩)] (js 27 [] 0 (sl (.seq (.blk (sl (.reg [(4,cn 2)]))) .leaf)))))) .leaf)))) [hi,hi,hP] [(1000,.cs []),(1001,.cs [])] ⟨[(0,.rww 0 1)],[],q23,[],[]⟩ (u3 fy)
def fC:=mkI 180 Tryz.f180 Tryz.call180 Tryz.func180 (cl [dK] []) (.join ⟨[],(rg 6 41),[],[(0,4,hi)],[]⟩ (jc 12 (rg 6 6) 6 (.reg [(18,cn 0)]) (.reg [(8,cn 0)])) (.seq (.reg [(8,cn 0)]) .leaf)) [.ptr 0 0,hi,hi] q6 ⟨[(0,.tup [])],[],[],[(0,4,hi),(0,5,hi),(0,6,.k (.bool false))],[]⟩ (fun a=>bN a.1 a.2.1 a.2.2.1 a.2.2.2.1 a.2.2.2.2.2.2.2.2.2.2.1 a.2.2.2.2.2.2.2.2.2.2.2.1 a.2.2.2.2.2.2.2.2.2.2.2.2.1)
def gY:=mkI 141 Tryz.f141 Tryz.call141 Tryz.func141 (cl [dK] [jq]) (.join ⟨[(2,.ptr 4 0)],(rg 3 8),[(4,.cs [hi,hi,hi,hi,hi,hb,hb])],[],[]⟩ (.reg [(2,oi 0),(6,{sel:=true})]) (.seq (.reg [(11,cn 0),(20,cn 0)]) (sl (.join ⟨[],(rg 52 11),[],[(0,12,hi)],[]⟩ (js 53 [52] 1 .leaf) (rs 3))))) [.ptr 0 0] q6 ⟨[(0,.tup [])],[],[],[(0,4,hi),(0,5,hi),(0,6,hb),(0,7,hi),(0,8,hi),(0,9,hi),(0,12,hi)],[]⟩ (fun a=>bJ a.1 a.2.1 a.2.2.2.2.2.2.2.2.2.2.1 a.2.2.2.2.2.2.2.2.2.2.2.1 a.2.2.2.2.2.2.2.2.2.2.2.2.1 a.2.2.2.2.2.2.2.2.2.2.2.2.2.1 a.2.2.2.2.2.2.2.2.2.2.2.2.2.2.1 a.2.2.2.2.2.2.2.2.2.2.2.2.2.2.2.1 a.2.2.2.2.2.2.2.2.2.2.2.2.2.2.2.2.1 a.2.2.2.2.2.2.2.2.2.2.2.2.2.2.2.2.2.1 a.2.2.2.2.2.2.2.2.2.2.2.2.2.2.2.2.2.2.1 a.2.2.2.2.2.2.2.2.2.2.2.2.2.2.2.2.2.2.2.1 a.2.2.2.2.2.2.2.2.2.2.2.2.2.2.2.2.2.2.2.2.1 a.2.2.2.2.2.2.2.2.2.2.2.2.2.2.2.2.2.2.2.2.2.1 a.2.2.2.2.2.2.2.2.2.2.2.2.2.2.2.2.2.2.2.2.2.2.1 a.2.2.2.2.2.2.2.2.2.2.2.2.2.2.2.2.2.2.2.2.2.2.2.1 a.2.2.2.2.2.2.2.2.2.2.2.2.2.2.2.2.2.2.2.2.2.2.2.2.1 a.2.2.2.2.2.2.2.2.2.2.2.2.2.2.2.2.2.2.2.2.2.2.2.2.2.2.2.2.2.1 a.2.2.2.2.2.2.2.2.2.2.2.2.2.2.2.2.2.2.2.2.2.2.2.2.2.2.2.2.2.2.1 a.2.2.2.2.2.2.2.2.2.2.2.2.2.2.2.2.2.2.2.2.2.2.2.2.2.2.2.2.2.2.2)
def nT:=mkI 140 Tryz.f140 Tryz.call140 Tryz.func140 (cl [] [jp,jV,fC,gY]) (.seq (jb 19 (rg 7 12) (.reg [(2,sp),(6,sp),(12,sp)]) .leaf) (sl (.join ⟨[],(rg 28 48),q12,[(0,2,.rww 4 1),(0,3,.rww 5 1),(0,13,hi),(0,14,hi),(0,15,hi),(0,16,hi),(0,17,hi),(0,18,hb),(0,19,hb),(0,20,hi),(0,21,hi),(0,22,hi),(0,23,hi),(0,24,hi),(0,25,hb),(0,26,hb)],[2,1]⟩ (jb 34 (rg 28 6) (.reg [(2,sp),(6,sp)]) (.cond (jc 35 [] 0 (.seq (.reg [(1,oi 0)]) (.reg [(18,oi 1),(9999,{sw:=true})])) (.reg [(9999,{sw:=true})])) .leaf)) (sl (.join ⟨[],(rg 86 11),[],[(0,12,hi)],[]⟩ (js 86 [] 0 .leaf) (.blk (jc 97 [98,99] 2 (.reg [(1,oi 2)]) (jc 102 [103,104] 2 (sl (jb 113 (rg 109 4) (.reg [(1,sp),(4,sp)]) (.cond (.reg [(1,oi 3)]) .leaf))) .leaf)))))))) [.ptr 0 0,hi,hb] q7 ⟨[(0,.tup [])],[],q12,[(0,2,.rww 4 1),(0,3,.rww 5 1),(0,4,hi),(0,5,hi),(0,6,hb),(0,7,hi),(0,8,hi),(0,9,hi),(0,12,hi),(0,13,hi),(0,14,hi),(0,15,hi),(0,16,hi),(0,17,hi),(0,18,hb),(0,19,hb),(0,20,hi),(0,21,hi),(0,22,hi),(0,23,hi),(0,24,hi),(0,25,hb),(0,26,hb)],[1,2]⟩ (fun a=>ef a.1 a.2.1 a.2.2.1 a.2.2.2.1 a.2.2.2.2.1 a.2.2.2.2.2.1 a.2.2.2.2.2.2.1 a.2.2.2.2.2.2.2.1 a.2.2.2.2.2.2.2.2.1 a.2.2.2.2.2.2.2.2.2.1 a.2.2.2.2.2.2.2.2.2.2.1 a.2.2.2.2.2.2.2.2.2.2.2.1 a.2.2.2.2.2.2.2.2.2.2.2.2.1 a.2.2.2.2.2.2.2.2.2.2.2.2.2.1 a.2.2.2.2.2.2.2.2.2.2.2.2.2.2.1 a.2.2.2.2.2.2.2.2.2.2.2.2.2.2.2.1 a.2.2.2.2.2.2.2.2.2.2.2.2.2.2.2.2.1 a.2.2.2.2.2.2.2.2.2.2.2.2.2.2.2.2.2.1 a.2.2.2.2.2.2.2.2.2.2.2.2.2.2.2.2.2.2.1 a.2.2.2.2.2.2.2.2.2.2.2.2.2.2.2.2.2.2.2.1 a.2.2.2.2.2.2.2.2.2.2.2.2.2.2.2.2.2.2.2.2.1 a.2.2.2.2.2.2.2.2.2.2.2.2.2.2.2.2.2.2.2.2.2.1 a.2.2.2.2.2.2.2.2.2.2.2.2.2.2.2.2.2.2.2.2.2.2.1 a.2.2.2.2.2.2.2.2.2.2.2.2.2.2.2.2.2.2.2.2.2.2.2.1 a.2.2.2.2.2.2.2.2.2.2.2.2.2.2.2.2.2.2.2.2.2.2.2.2.1 a.2.2.2.2.2.2.2.2.2.2.2.2.2.2.2.2.2.2.2.2.2.2.2.2.2.1 a.2.2.2.2.2.2.2.2.2.2.2.2.2.2.2.2.2.2.2.2.2.2.2.2.2.2.1 a.2.2.2.2.2.2.2.2.2.2.2.2.2.2.2.2.2.2.2.2.2.2.2.2.2.2.2.2.2.2.2.1 a.2.2.2.2.2.2.2.2.2.2.2.2.2.2.2.2.2.2.2.2.2.2.2.2.2.2.2.2.2.2.2.2.1 a.2.2.2.2.2.2.2.2.2.2.2.2.2.2.2.2.2.2.2.2.2.2.2.2.2.2.2.2.2.2.2.2.2) [1001]
def uk:=mkI 30 Tryz.f30 Tryz.call30 Tryz.func30 (cl [su] [jV]) (sl (.seq (.reg [(3,oi 0)]) (.seq (js 13 [11,12] 2 .leaf) (.seq (.reg [(6,cn 0)]) .leaf)))) [hi,hi] [(1000,.cs []),(1001,.cs [])] ⟨[(0,.tup [.agg [hi,hi,.rww 0 1,.k .nils,.k (.int .i64 0),.k (.int .i64 0),.k (.bool false),.k (.int .i64 0),.k (.int .i64 0),.k (.int .i64 0),.k (.int .i64 0),hi,hi,.k (.int .i64 0),.k (.int .i64 0),.k (.int .i64 0),.k (.int .i64 0),.k (.int .i64 0),.k (.bool false),.k (.bool false),.k (.int .i64 0),.k (.int .i64 0),.k (.int .i64 0),.k (.int .i64 0),.k (.int .i64 0),.k (.bool false),.k (.bool false),hu,hu,hu,hu,.k .nils],hi])],[],q23,[],[]⟩ (u2 ju)
def nQ:=mkI 182 Tryz.f182 Tryz.call182 Tryz.func182 (cl [dK] []) (sl (.join ⟨[(6,hi)],(rg 14 16),[],[],[]⟩ (js 24 (rg 14 10) 10 .leaf) (.join ⟨[(7,hi)],(rg 30 16),[],[],[]⟩ (js 40 (rg 30 10) 10 .leaf) (.join ⟨[],(rg 46 32),[],[(0,4,hi)],[]⟩ (.blk (jc 46 [47,48] 2 .leaf (js 62 [63,64] 2 .leaf))) (.reg [(14,cn 0)]))))) [.ptr 0 0,hi,hi] q6 ⟨[(0,.tup [])],[],[],[(0,4,hi),(0,5,hi)],[]⟩ (fun a=>ed a.1 a.2.1 a.2.2.1 a.2.2.2.1 a.2.2.2.2.1 a.2.2.2.2.2.1 a.2.2.2.2.2.2.2.2.2.2.1 a.2.2.2.2.2.2.2.2.2.2.2.1)
def oA:=mkP 227 Tryz.f227 Tryz.call227 Tryz.func227 noC (sl (.seq (js 4 [3] 1 .leaf) .leaf)) [hu] hi cz
theorem yn:∀g cells,lget En.G g=some cells->cells.all plG=true:=by
 intro g cells h
 rcases En_G g cells h with rfl | rfl | ⟨_,rfl⟩ <;> kernel_rfl
abbrev tc4 (a:Int×jK.T):List PV:=[.int .u64 a.1,.int .u64 a.2.1,.int .u64 a.2.2.1,.int .u64 a.2.2.2]
def tI_B:Code:=bw Tryz.f226
def JQ:Code:=cFst tI_B
def tI_b:Code:=cIn (cIn (cSnd tI_B))
def JP:Code:=cFst tI_b
def JT:Code:=cIn (cFst (cSnd (cSnd tI_b)))
def JM:Code:=cSnd (cSnd (cSnd tI_b))
def Bv:Code:=cFst JT
def GC:Code:=cIn (cIn (cSnd JT))
def JO:Code:=cFst (cFst GC)
def JR:Code:=cIn (cFst (cSnd GC))
def JN:Code:=cSnd (cSnd GC)
def qN:Code:=cFst JR
def ib:Code:=cFst (cSnd JR)
def tI_o:Oper:=opAt ib 5
def Ei:Oper:=opAt qN 3
theorem LF:bw Tryz.f226 = .seq JQ (.block 0 (.loop (.seq JP (.seq (.cond (.tmp 8) .skip (.exit 0)) (.seq (.block 1 (.seq Bv (.block 2 (.loop (.seq (.seq JO (.cond (.tmp 12) .skip (.exit 2))) (.seq (.block 3 (.seq qN (.seq (.region 6 (aO ib) false) (.cond (.tmp 29) .ret .skip)))) JN)))))) JM))))) :=by kernel_rfl
theorem Iu:(aO ib).toList=(aO ib).toList.take 3++(((aO ib).toList.drop 3).take 2++(⟨some 27,.call ⟨.value (.tmp 25),#[.tmp 26],wL tI_o⟩,tI_o.type,tI_o.pos,tI_o.after,some (2,false)⟩::(aO ib).toList.drop 6)):=by kernel_rfl
theorem LG:(aO qN).toList.drop 3=⟨some 20,.call ⟨.value (.func 227),#[.tmp 19],wL Ei⟩,Ei.type,Ei.pos,Ei.after,none⟩::(aO qN).toList.drop 4:=by kernel_rfl
section
variable (a:Int×jK.T) (l:Nat) (i w x:Int)
theorem LA:fZ En.P En.G Tryz.f226.ntmps (aO JQ) [0,6,7] [(0,.raw l),(1,.rop (tc4 a) 0)] []=some (AO l (tc4 a) 0,[]):=by kernel_rfl
theorem Lz:fZ En.P En.G Tryz.f226.ntmps (aO JP) [8,0,6,7] (AO l (tc4 a) i) []=some ((8,.bool (decide (i<4)))::AO l (tc4 a) i,[]):=by kernel_rfl
theorem Kj:fZ En.P En.G Tryz.f226.ntmps (aO Bv) [4,3,0,6,7] (AO l (tc4 a) ((0:Nat):Int)) []=some (AI l (tc4 a) ((0:Nat):Int) a.1,[]):=by kernel_rfl
theorem Ki:fZ En.P En.G Tryz.f226.ntmps (aO Bv) [4,3,0,6,7] (AO l (tc4 a) ((1:Nat):Int)) []=some (AI l (tc4 a) ((1:Nat):Int) a.2.1,[]):=by kernel_rfl
theorem Kh:fZ En.P En.G Tryz.f226.ntmps (aO Bv) [4,3,0,6,7] (AO l (tc4 a) ((2:Nat):Int)) []=some (AI l (tc4 a) ((2:Nat):Int) a.2.2.1,[]):=by kernel_rfl
theorem Kg:fZ En.P En.G Tryz.f226.ntmps (aO Bv) [4,3,0,6,7] (AO l (tc4 a) ((3:Nat):Int)) []=some (AI l (tc4 a) ((3:Nat):Int) a.2.2.2,[]):=by kernel_rfl
theorem Ly:fZ En.P En.G Tryz.f226.ntmps (aO JO) [12,4,3,0,6,7] (AI l (tc4 a) i w) []=some ((12,.bool (w !=0))::AI l (tc4 a) i w,[]):=by kernel_rfl
theorem Lv:(xrun En.P En.G Tryz.f226.ntmps (aO qN) 3 (aO qN).toList (AI l (tc4 a) i w) []).map (fun s=>(g5 [19,18,4,3,0,6,7] s.1,s.2))=some ((19,.int .u64 w)::(18,.int .i64 (IntKind.wrap .i64 (64*i)))::AI l (tc4 a) i w,[]):=by kernel_rfl
theorem Lu:(xrun En.P En.G Tryz.f226.ntmps (aO qN) ((aO qN).toList.drop 4).length ((aO qN).toList.drop 4) ((20,.int .i64 x)::(19,.int .u64 w)::(18,.int .i64 (IntKind.wrap .i64 (64*i)))::AI l (tc4 a) i w) []).map (fun s=>(g5 [5,4,3,0,6,7] s.1,s.2))=some (A5 l (tc4 a) i w (Bu i x),[]):=by kernel_rfl
theorem LE:(xrun En.P En.G Tryz.f226.ntmps (aO ib) ((aO ib).toList.take 3).length ((aO ib).toList.take 3) (A5 l (tc4 a) i w x) []).map (fun s=>(g5 [24,5,4,3,0,6,7] s.1,s.2))=some ((24,.bool (decide (x>=200)))::A5 l (tc4 a) i w x,[]):=by kernel_rfl
theorem LD:(xrun En.P En.G Tryz.f226.ntmps (aO ib) (((aO ib).toList.drop 3).take 2++(⟨some 27,.call ⟨.value (.tmp 25),#[.tmp 26],wL tI_o⟩,tI_o.type,tI_o.pos,tI_o.after,some (2,false)⟩::(aO ib).toList.drop 6)).length (((aO ib).toList.drop 3).take 2++(⟨some 27,.call ⟨.value (.tmp 25),#[.tmp 26],wL tI_o⟩,tI_o.type,tI_o.pos,tI_o.after,some (2,false)⟩::(aO ib).toList.drop 6)) ((24,.bool true)::A5 l (tc4 a) i w x) []).map (fun s=>(g5 [29,5,4,3,0,6,7] s.1,s.2))=some ((29,.bool true)::A5 l (tc4 a) i w x,[]):=by kernel_rfl
theorem LC:(xrun En.P En.G Tryz.f226.ntmps (aO ib) (((aO ib).toList.drop 3).take 2).length (((aO ib).toList.drop 3).take 2) ((24,.bool false)::A5 l (tc4 a) i w x) []).map (fun s=>(g5 [25,26,24,5,4,3,0,6,7] s.1,s.2))=some ((25,.raw l)::(26,.int .i64 x)::(24,.bool false)::A5 l (tc4 a) i w x,[]):=by kernel_rfl
theorem LB (b:Bool):(xrun En.P En.G Tryz.f226.ntmps (aO ib) ((aO ib).toList.drop 6).length ((aO ib).toList.drop 6) ((27,.bool b)::(25,.raw l)::(26,.int .i64 x)::(24,.bool false)::A5 l (tc4 a) i w x) []).map (fun s=>(g5 [29,5,4,3,0,6,7] s.1,s.2))=some ((29,.bool (!b))::A5 l (tc4 a) i w x,[]):=by kernel_rfl
theorem Lx:fZ En.P En.G Tryz.f226.ntmps (aO JN) [4,3,0,6,7] (A5 l (tc4 a) i w x) []=some (AI l (tc4 a) i (Bt w),[]):=by kernel_rfl
theorem Lt:fZ En.P En.G Tryz.f226.ntmps (aO JM) [0,6,7] (AO l (tc4 a) i) []=some (AO l (tc4 a) (IntKind.wrap .i64 (i+1)),[]):=by kernel_rfl
theorem tI_w:ge (aO ib) ((25,.raw l)::(26,.int .i64 x)::(24,.bool false)::A5 l (tc4 a) i w x) ⟨some 27,.call ⟨.value (.tmp 25),#[.tmp 26],wL tI_o⟩,tI_o.type,tI_o.pos,tI_o.after,some (2,false)⟩=some true:=by kernel_rfl
end
theorem Ls (w z:Int) (h:cz w=some z):Pure En 227 [.int .u64 w] (.int .i64 z):=oA.ok w z h
theorem Ej (a:Int×jK.T) {full:List Int} (h:lC a=some full):CL En 226 [.rop (tc4 a) 0] full:=
 I3 rfl yn Tryz.func226 rfl rfl (by decide) rfl (ws:=[a.1,a.2.1,a.2.2.1,a.2.2.2]) rfl LF Iu (tI_w a)
  (fun l=>pcx _ _ _ rfl (LA a l)) (fun l i=>pcx _ _ _ rfl (Lz a l i))
  (fun l i w h=>by
   match i,h with
   | 0,h=>simp at h;subst h;exact pcx _ _ _ rfl (Kj a l)
   | 1,h=>simp at h;subst h;exact pcx _ _ _ rfl (Ki a l)
   | 2,h=>simp at h;subst h;exact pcx _ _ _ rfl (Kh a l)
   | 3,h=>simp at h;subst h;exact pcx _ _ _ rfl (Kg a l)
   | i+4,h=>simp at h)
  (fun l i w=>pcx _ _ _ rfl (Ly a l i w))
  (fun l i w z h=>pcut (c:=qN) rfl 3 _ _ _ (Lv a l i w) (by
   rw [LG]
   exact LN eu _ _ _ rfl rfl Tryz.call227 (Ls w z h) rfl rfl (Lu a l i w z) ⟨rfl,rfl,rfl⟩))
  (fun l i w x=>pcl _ _ _ (LE a l i w x)) (fun l i w x=>pcl _ _ _ (LD a l i w x)) (fun l i w x=>pcl _ _ _ (LC a l i w x)) (fun l i w x b=>pcl _ _ _ (LB a l i w x b))
  (fun l i w x=>pcx _ _ _ rfl (Lx a l i w x)) (fun l i=>pcx _ _ _ rfl (Lt a l i)) h
def Ek:Code:=cFst (bw Tryz.f209)
def LH:Code:=cFst (cSnd (bw Tryz.f209))
theorem LJ:bw Tryz.f209 = .seq Ek (.seq LH .ret):=by kernel_rfl
theorem LI:(aO Ek).toList=opAt Ek 0::(aO Ek).toList.drop 1:=by kernel_rfl
theorem GD (a:Int×jK.T) (lab:Nat):dQ En 209 [.agg (tc4 a)] [] fun r L'=>r = .fn 226 [.ptr lab 0]/\L'=[(lab,some (tc4 a))]:=
 C9 rfl Tryz.func209 rfl (by decide) lab LJ rfl rfl LI (by kernel_rfl) (by kernel_rfl) (by kernel_rfl) (by kernel_rfl) (by kernel_rfl) (by kernel_rfl)
def tN_B:Code:=bw Tryz.f183
def La:Code:=cFst tN_B
def K9:Code:=cFst (cSnd tN_B)
def tN_m:Code:=cFst (cSnd (cSnd tN_B))
def GA:Code:=cFst tN_m
def JI:Code:=cIn (cSnd tN_m)
def K8:Code:=cAs JI
def JJ:Code:=cIn (cBd JI)
def K7:Code:=cFst JJ
def K6:Code:=cFst (LV (cSnd JJ))
def K5:Code:=cFst (cSnd (cSnd (cSnd tN_B)))
def tN_o:Oper:=opAt GA 1
theorem Lf:bw Tryz.f183 = .seq La (.seq K9 (.seq (.seq GA (.block 0 (.rangeFunc (.tmp 12) #[13] K8 (.block 1 (.seq K7 (.cond (.tmp 21) (.seq K6 .ret) .skip)))))) (.seq K5 .ret))):=by kernel_rfl
theorem K4:(aO GA).toList.drop 1=[⟨some 12,.call ⟨.value (.func 209),#[.tmp 11],wL tN_o⟩,tN_o.type,tN_o.pos,tN_o.after,none⟩]:=by kernel_rfl
theorem Le (a:Int×jK.T) (b c:Int) (al:Al) (r:Int) (h:lget al 6=some (.ptr 3 0)):xres En.P al (Ln4 (tc4 a) b c r) Tryz.f183.results.toList=some [.int .i64 r]:=by
 show (match lget al 6,xres En.P al (Ln4 (tc4 a) b c r) [] with
  | some p,some xs=>match kg En.P 3 (Ln4 (tc4 a) b c r) p with
   | some x=>some (x::xs)
   | none=>none
  | _,_=>none)=_
 rw [h]
 kernel_rfl
theorem Ld (a:Int×jK.T) (b c:Int) {full:List Int} (h:lC a=some full):Pure En 183 [.agg (tc4 a),.int .i64 b,.int .i64 c] (.int .i64 (xi b (aR c) full)):=
 IX rfl eu yn Tryz.func183 rfl (by decide) rfl (by simp) rfl Tryz.call209 Tryz.call226 (GD a 4) (Ej a h) Lf ⟨rfl,rfl,rfl,rfl,rfl,rfl,rfl⟩ (by kernel_rfl) (by kernel_rfl) (by kernel_rfl) K4 rfl (fun r x=>by kernel_rfl) (fun r x=>by kernel_rfl) (fun r x=>by kernel_rfl) (fun r x=>by kernel_rfl) (fun r x=>by kernel_rfl) (fun r=>by kernel_rfl) (Le a b (aR c))
def Br:PCon En:=⟨183,[hT,hi,hi],hi,fun a=>mW a.1 a.2.1 a.2.2,Tryz.call183,fun a v h=>by
 obtain ⟨l,h1,h2⟩:=Option.bind_eq_some_iff.1 h
 have h2:=Option.some.inj h2;subst h2
 exact Ld a.1 a.2.1 a.2.2 h1⟩
def tK_B:Code:=bw Tryz.f184
def Lo:Code:=cFst tK_B
def Lm:Code:=cFst (cSnd tK_B)
def tK_m:Code:=cFst (cSnd (cSnd tK_B))
def GB:Code:=cFst tK_m
def JK:Code:=cIn (cSnd tK_m)
def Ll:Code:=cAs JK
def JL:Code:=cIn (cBd JK)
def Lj:Code:=cFst (cFst JL)
def Li:Code:=cSnd JL
def Lh:Code:=cFst (cSnd (cSnd (cSnd tK_B)))
def tK_o:Oper:=opAt GB 1
theorem Lq:bw Tryz.f184 = .seq Lo (.seq Lm (.seq (.seq GB (.block 0 (.rangeFunc (.tmp 8) #[9] Ll (.block 1 (.seq (.seq Lj (.cond (.tmp 12) (.exit 0) .skip)) Li))))) (.seq Lh .ret))):=by kernel_rfl
theorem Lg:(aO GB).toList.drop 1=[⟨some 8,.call ⟨.value (.func 209),#[.tmp 7],wL tK_o⟩,tK_o.type,tK_o.pos,tK_o.after,none⟩]:=by kernel_rfl
theorem Lp (a:Int×jK.T) (b:Int) {full:List Int} (h:lC a=some full):Pure En 184 [.agg (tc4 a),.int .i64 b] (.int .i64 (vF b full)):=
 Js rfl eu yn Tryz.func184 rfl (by decide) rfl (by simp) rfl Tryz.call209 Tryz.call226 (GD a 3) (Ej a h) Lq ⟨rfl,rfl,rfl,rfl,rfl,rfl,rfl⟩ (by kernel_rfl) (by kernel_rfl) (by kernel_rfl) Lg rfl (fun r x=>by kernel_rfl) (fun r x=>by kernel_rfl) (fun r x=>by kernel_rfl) (fun r=>by kernel_rfl) (fun r=>by kernel_rfl)
def Bs:PCon En:=⟨184,[hT,hi],hi,fun a=>mX a.1 a.2,Tryz.call184,fun a v h=>by
 obtain ⟨l,h1,h2⟩:=Option.bind_eq_some_iff.1 h
 have h2:=Option.some.inj h2;subst h2
 exact Lp a.1 a.2 h1⟩
def nR:=mkI 142 Tryz.f142 Tryz.call142 Tryz.func142 (cl [dK,Br,Bs] [jr,eH,fC,nQ]) (sl (sl (.blk (jc 6 [7] 1 (sl (.blk (.loop ⟨[(10,hi)],(rg 11 4),q22,[(0,2,.rww 4 1),(0,4,hi)],[1]⟩ [(.exit 1,⟨[],(rg 10 5),q22,[(0,2,.rww 4 1),(0,4,hi)],[1]⟩)] (js 11 [] 0 (sl (.seq (.blk (.reg [(1,oi 0)])) .leaf)))))) (jc 15 [16] 1 (jc 27 (rg 17 10) 10 (.reg [(6,oi 1)]) .leaf) (jc 46 [47] 1 .leaf (jc 52 [53] 1 (.reg [(5,oi 2)]) (jc 60 [61] 1 (.reg [(5,oi 3)]) (jc 68 [69] 1 (.reg [(9,cn 0)]) (jc 83 [84] 1 (.reg [(8,oi 2)]) (jc 94 [95] 1 (.seq (sl (.blk (.loop ⟨[(98,hi)],(rg 99 22),[],[(0,5,hi)],[]⟩ [(.exit 3,⟨[],(rg 98 23),[],[(0,5,hi)],[]⟩)] (js 99 [] 0 (sl (.seq (.blk (.reg [(16,cn 1)])) .leaf)))))) (sl (.blk (.loop ⟨[(124,hi)],(rg 125 17),[],[(0,5,hi)],[]⟩ [(.exit 5,⟨[],(rg 124 18),[],[(0,5,hi)],[]⟩)] (js 125 [] 0 (sl (.seq (.blk (.reg [(11,cn 2)])) .leaf))))))) .leaf))))))))))) [.ptr 0 0,hC] q6 ⟨[(0,.tup [])],[],q22,[(0,2,.rww 4 1),(0,4,hi),(0,5,hi),(0,6,hb)],[1]⟩ (fun a=>ee a.1 a.2.1 a.2.2.1 a.2.2.2.1 a.2.2.2.2.1 a.2.2.2.2.2.1 a.2.2.2.2.2.2.1 a.2.2.2.2.2.2.2.1 a.2.2.2.2.2.2.2.2.1 a.2.2.2.2.2.2.2.2.2.1 a.2.2.2.2.2.2.2.2.2.2.1 a.2.2.2.2.2.2.2.2.2.2.2.1 a.2.2.2.2.2.2.2.2.2.2.2.2.2.2.2.2.2.2.2.2.2.2.2.2.2.2.1 a.2.2.2.2.2.2.2.2.2.2.2.2.2.2.2.2.2.2.2.2.2.2.2.2.2.2.2.1 a.2.2.2.2.2.2.2.2.2.2.2.2.2.2.2.2.2.2.2.2.2.2.2.2.2.2.2.2.1 a.2.2.2.2.2.2.2.2.2.2.2.2.2.2.2.2.2.2.2.2.2.2.2.2.2.2.2.2.2.1 a.2.2.2.2.2.2.2.2.2.2.2.2.2.2.2.2.2.2.2.2.2.2.2.2.2.2.2.2.2.2.1 a.2.2.2.2.2.2.2.2.2.2.2.2.2.2.2.2.2.2.2.2.2.2.2.2.2.2.2.2.2.2.2.1 a.2.2.2.2.2.2.2.2.2.2.2.2.2.2.2.2.2.2.2.2.2.2.2.2.2.2.2.2.2.2.2.2)
def rN:=mkI 228 Tryz.f228 Tryz.call228 Tryz.func228 noC (sl (.seq (.reg [(3,sp),(10,sp),(15,sp)]) .leaf)) [.st (.tp (.ti .i64) (.ti .i64)),.ptr 0 0] [(0,.cs [.rww 1 1]),(1,.ls (.tf 1 (.tp (.ti .i32) aa))),(1000,.cs []),(1001,.cs [])] ⟨[(0,hb)],[],[],[],[]⟩ (u2 fx)
theorem sY (a:HT (Sh.hss [hl,hi,hi,hP])):DFF En GTe (cl [l8,gV] [cq,d5]) Tryz.f187.ntmps Tryz.f187.results.toList (bw Tryz.f187) (sl (.seq (jb 13 [10,11,12] (.reg [(2,cn 0),(3,sp)]) .leaf) (.seq (.reg [(1,oi 0)]) (sl (.seq (js 24 [22,23] 2 .leaf) (.seq (.reg [(2,oi 1)]) (.seq (.reg [(2,oi 1)]) (.seq (.reg [(8,cn 1)]) .leaf)))))))) [hl,hi,hi,hP] 1 (.tp (.ti .i32) aa) a=dN a.1 a.2.1 a.2.2.1 a.2.2.2:=by kernel_rfl
def np:PCon En:=⟨187,[hl,hi,hi,hP],.h (.tf 1 (.tp (.ti .i32) aa)),fun a=>dN a.1 a.2.1 a.2.2.1 a.2.2.2,Tryz.call187,fun a v h=>jY rfl bp rfl eu Tryz.func187 rfl rfl (by decide) ((sY a).trans h)⟩
def uE:=mkI 210 Tryz.f210 Tryz.call210 Tryz.func210 (cl [lL,dM,np] [me,rN]) (sl (.seq (jb 21 (rg 14 7) (.reg [(1,cn 0),(3,sp),(5,cn 1),(7,sp)]) .leaf) (.seq (.reg [(1,oi 0)]) (sl (.seq (jb 34 (rg 25 9) (.reg [(2,oi 1),(4,sp),(7,oi 1),(9,sp)]) .leaf) (.seq (sl (.blk (.loop ⟨[(11,hi)],([12,13]++rg 38 34),q20,[],[]⟩ [(.exit 0,⟨[],([11,12,13]++rg 38 34),q20,[],[]⟩)] (.seq (js 41 [38,39,40] 3 .leaf) (.seq (.blk (sl (.join ⟨[(12,hi)],(rg 48 6),[],[],[]⟩ (js 51 [48,49,50] 3 .leaf) (.join ⟨[(13,hi)],(rg 54 7),[],[],[]⟩ (js 57 [54,55,56] 3 .leaf) (.reg [(9,cn 2)]))))) .leaf))))) .leaf)))))) [.rww 0 1,.st (.tp (.ti .i64) (.ti .i64)),.st (.tp (.ti .i64) (.ti .i64)),hP] q13 ⟨[(0,.rww 1 1)],[],q24,[],[]⟩ (u4 dP)
def m7:=mkI 185 Tryz.f185 Tryz.call185 Tryz.func185 (cl [] [uE]) (sl (sl (.blk (jc 11 [12] 1 (.reg [(13,oi 0)]) (jc 30 [31] 1 (.reg [(13,oi 0)]) (jc 49 [50] 1 (.reg [(13,oi 0)]) .leaf)))))) [.ptr 0 0,hi,.st (.tp (.ti .i64) (.ti .i64)),.st (.tp (.ti .i64) (.ti .i64)),.st (.tp (.ti .i64) (.ti .i64))] q6 ⟨[(0,.tup [])],[],q22,[(0,2,.rww 4 1)],[1]⟩ (fun a=>cP a.1 a.2.1 a.2.2.1 a.2.2.2.1 a.2.2.2.2.2.2.2.2.2.1 a.2.2.2.2.2.2.2.2.2.2.1 a.2.2.2.2.2.2.2.2.2.2.2.1 a.2.2.2.2.2.2.2.2.2.2.2.2.2.2.2.2.2.2.2.2.2.2.2.2.2.2.2.2.2.2.2.2.2.1)
theorem rK (a:HT (Sh.hss [hl,hi,hi,hP])):DFF En GTe (cl [l8,gV] [cq,d5]) Tryz.f186.ntmps Tryz.f186.results.toList (bw Tryz.f186) (sl (.seq (jb 13 [10,11,12] (.reg [(2,cn 0),(3,sp)]) .leaf) (.seq (.reg [(1,oi 0)]) (.seq (jb 27 (rg 16 11) (.reg [(2,sp),(6,sp),(11,sp)]) .leaf) (sl (.seq (.reg [(2,oi 1)]) (.seq (.reg [(4,oi 1)]) (sl (.seq (.reg [(8,cn 1)]) .leaf))))))))) [hl,hi,hi,hP] 1 (.tp (.ti .i32) aa) a=d6 a.1 a.2.1 a.2.2.1 a.2.2.2:=by kernel_rfl
def sZ:PCon En:=⟨186,[hl,hi,hi,hP],.h (.tf 1 (.tp (.ti .i32) aa)),fun a=>d6 a.1 a.2.1 a.2.2.1 a.2.2.2,Tryz.call186,fun a v h=>jY rfl bp rfl eu Tryz.func186 rfl rfl (by decide) ((rK a).trans h)⟩
def au:List Sh:=[.ptr 0 0]
def af:List (Nat×LSh):=q7
def ip:Tm:=⟨[(0,.tup [])],[],q24,[(0,4,.k (.int .i64 0)),(0,5,.k (.int .i64 0)),(0,10,.k (.int .i64 0)),(0,11,hi)],[]⟩
abbrev ah:ET:=.tp (.ti .i32) aa
def iW:ah.T:=(69,(0,0),0,0,0,0)
def fu (a:HT (Sh.hss au++hsL af)):DLb:=(inS au af (ab _ a)).L
def aF (a:HT (Sh.hss au++hsL af)):List DV:=match fu a with
 | (_,.cs d)::_=>d
 | _=>[]
def aA (a:HT (Sh.hss au++hsL af)):DLb:=match fu a with
 | _::_::r=>r
 | _=>[]
def fw:Code:=(bw Tryz.f188)
def im:Code:=cFst (cFst fw)
def eM:Code:=cIn (cIn (cSnd (cFst fw)))
def il:Code:=cFst eM
def iu:Code:=cIn (cFst (cSnd (cSnd eM)))
def ic:Code:=cSnd (cSnd (cSnd eM))
def aE:Code:=cFst iu
def ir:Code:=cSnd iu
def ik:Code:=cFst ir
def eJ:Code:=cIn (cIn (cSnd ir))
def ij:Code:=cFst eJ
def ii:Code:=cIn (cFst (cSnd (cSnd eJ)))
def ig:Code:=cSnd (cSnd (cSnd eJ))
def iq:Code:=cSnd fw
theorem m8 (a:HT (Sh.hss au++hsL af)):fu a=(0,.cs (aF a))::(1,.ls (.tf 1 ah) a.2.2.2.2.2.2.2.2.2.2.2.2.2.2.2.2.2.2.2.2.2.2.2.2.2.2.2.2.2.1)::aA a:=by kernel_rfl
theorem mH (a:HT (Sh.hss au++hsL af)):D En GTe noC Tryz.f188.ntmps im .leaf _ (keys af) (sA0 ah (aF a) (aA a) a.2.2.2.2.2.2.2.2.2.2.2.2.2.2.2.2.2.2.2.2.2.2.2.2.2.2.2.2.2.1) pA (fun _ _=>none)=some (a.2.2.2.2.2.2.2.2.2.2.2.2.2.2.2.2.2.2.2.2.2.2.2.2.2.2.2.2.2.1.length,(a.2.2.2.2.2.2.2.2.2.2.2.2.2.2.2.2.2.2.2.2.2.2.2.2.2.2.2.2.2.1.length:Int),0):=by kernel_rfl
theorem mG (a:HT (Sh.hss au++hsL af)) (N:Nat) (r:Int) (rs:List (List ah.T)) (tl:DLb):D En GTe noC Tryz.f188.ntmps il .leaf _ (keys af) (sA ah (aF a) (aA a) N r rs tl) pB (fun _ _=>none)=some ((N,(N:Int),r),decide (r<N)):=by kernel_rfl
theorem mB (a:HT (Sh.hss au++hsL af)) (N:Nat) (r:Int) (rs:List (List ah.T)) (tl:DLb):D En GTe noC Tryz.f188.ntmps ic .leaf _ (keys af) (sA ah (aF a) (aA a) N r rs tl) pA (fun _ _=>none)=some (N,(N:Int),IntKind.wrap .i64 (r+1)):=by kernel_rfl
theorem mF (a:HT (Sh.hss au++hsL af)) (N:Nat) (r:Int) (nn:Nat) (dds:List DV) (cont:List ah.T):D En GTe noC Tryz.f188.ntmps ik .leaf _ (keys af) (s3 ah (aF a) (aA a) N r nn dds cont) (pI1 ah) (fun _ _=>none)=some ((N,(N:Int),r),(nn,(nn:Int),0)):=by kernel_rfl
theorem mE (a:HT (Sh.hss au++hsL af)) (N:Nat) (r:Int) (nn:Nat) (k:Int) (dds:List DV) (cont:List ah.T):D En GTe noC Tryz.f188.ntmps ij .leaf _ (keys af) (sI ah (aF a) (aA a) N r nn k dds cont) (pI2 ah) (fun _ _=>none)=some (((N,(N:Int),r),(nn,(nn:Int),k)),decide (k<nn)):=by kernel_rfl
theorem mD (a:HT (Sh.hss au++hsL af)) (N:Nat) (r:Int) (nn:Nat) (k:Int) (dds:List DV) (cont:List ah.T):D En GTe noC Tryz.f188.ntmps ii .leaf _ (keys af) (sI ah (aF a) (aA a) N r nn k dds cont) (pI3 ah) (fun _ _=>none)=req (0<=k/\k<nn) ((cont[k.toNat]?).bind fun _=>some (((N,(N:Int),r),(nn,(nn:Int),k)),cont.set k.toNat iW)):=by kernel_rfl
theorem mC (a:HT (Sh.hss au++hsL af)) (N:Nat) (r:Int) (nn:Nat) (k:Int) (dds:List DV) (cont:List ah.T):D En GTe noC Tryz.f188.ntmps ig .leaf _ (keys af) (sI ah (aF a) (aA a) N r nn k dds cont) (pI1 ah) (fun _ _=>none)=some ((N,(N:Int),r),(nn,(nn:Int),IntKind.wrap .i64 (k+1))):=by kernel_rfl
theorem mL (a:HT (Sh.hss au++hsL af)):DIA En GTe noC Tryz.f188.ntmps Tryz.f188.results.toList iq .leaf au af ip ah iW a=cQ a.1 a.2.2.2.2.2.2.2.2.2.2.2.2.2.2.2.2.2.2.2.2.2.2.2.2.2.2.2.2.2.1:=by kernel_rfl
theorem mJ:bw Tryz.f188 = .seq (.seq im (.block 0 (.loop (.seq il (.seq (.cond (.tmp 12) .skip (.exit 0)) (.seq (.block 1 (.seq aE (.seq ik (.block 2 (.loop (.seq ij (.seq (.cond (.tmp 18) .skip (.exit 2)) (.seq (.block 3 ii) ig)))))))) ic)))))) iq:=by kernel_rfl
theorem mK:aE = .region 2 #[⟨some 13,.indexAddr 29 (.tmp 9) (.tmp 11),(opAt aE 0).type,(opAt aE 0).pos,(opAt aE 0).after,none⟩,⟨some 14,.load 87 (.tmp 13),(opAt aE 1).type,(opAt aE 1).pos,(opAt aE 1).after,none⟩,⟨some 3,.assign (.tmp 14),(opAt aE 2).type,(opAt aE 2).pos,(opAt aE 2).after,none⟩] false:=by kernel_rfl
theorem mI (a:HT (Sh.hss au++hsL af)):(keys af).elem rlab=false/\(keys af).elem de=false/\lget (aA a) 1=none/\lget (aA a) rlab=none/\othC (.cs (aF a))=true/\(aA a).all (fun p=>othC p.2)=true/\(((0,.cs (aF a))::(1,.ls (.tf 1 ah) a.2.2.2.2.2.2.2.2.2.2.2.2.2.2.2.2.2.2.2.2.2.2.2.2.2.2.2.2.2.1)::aA a:DLb).all fun p=>iM (fun l=>(keys ((0,.cs (aF a))::(1,.ls (.tf 1 ah) a.2.2.2.2.2.2.2.2.2.2.2.2.2.2.2.2.2.2.2.2.2.2.2.2.2.2.2.2.2.1)::aA a:DLb)).elem l) p.2)=true:=
 ⟨by kernel_rfl,by kernel_rfl,by kernel_rfl,by kernel_rfl,by kernel_rfl,by kernel_rfl,by kernel_rfl⟩
theorem mA:En.P.underlying 29=some (.slice 87):=by kernel_rfl
theorem mz:(En.P.info? 87).map (fun i=>i.size)=some 1:=by kernel_rfl
theorem my:dS En.P 87=some false:=by kernel_rfl
def m9:ICon En:=⟨188,au,af,ip,fun a=>cQ a.1 a.2.2.2.2.2.2.2.2.2.2.2.2.2.2.2.2.2.2.2.2.2.2.2.2.2.2.2.2.2.1,Tryz.call188,fun a v h=>H5 rfl bp rfl eu Tryz.func188 rfl ⟨rfl,rfl,rfl,rfl⟩ mJ mK mA mz my (by decide) rfl (m8 a) rfl (mI a) (mH a) (mG a) (mB a) (mF a) (mE a) (fun N r nn k dds cont h0 h1 h2=>(mD a N r nn k dds cont).trans (by rw [ae ⟨h0,h1⟩,List.getElem?_eq_getElem (by omega)];rfl)) (mC a) ((mL a).trans h)⟩
theorem vW (a:HT (Sh.hss [hl,hi])):DFF En GTe (cl [lJ,gV] [cq,d5]) Tryz.f229.ntmps Tryz.f229.results.toList (bw Tryz.f229) (sl (.seq (jb 16 (rg 6 10) (.reg [(1,cn 0),(3,sp),(7,sp),(10,sp)]) .leaf) (.seq (.reg [(1,oi 0)]) (.seq (.reg [(2,oi 1)]) (.seq (.reg [(13,cn 1)]) .leaf))))) [hl,hi] 1 (.tp (.ti .i32) aa) a=jC a.1 a.2:=by kernel_rfl
def xv:PCon En:=⟨229,[hl,hi],.h (.tf 1 (.tp (.ti .i32) aa)),fun a=>jC a.1 a.2,Tryz.call229,fun a v h=>jY rfl bp rfl eu Tryz.func229 rfl rfl (by decide) ((vW a).trans h)⟩
def xH:=mkI 211 Tryz.f211 Tryz.call211 Tryz.func211 (cl [lL,i8,xv] [jV]) (sl (.seq (jb 34 (rg 12 22) (.reg [(1,cn 0),(3,sp),(5,cn 1),(8,sp),(10,cn 1),(13,sp),(17,sp),(22,sp)]) .leaf) (.seq (.reg [(3,oi 0)]) (.seq (sl (.blk (.loop ⟨[(43,hi)],([10,11]++rg 44 14),q17,[],[]⟩ [(.exit 0,⟨[],([10,11]++rg 43 15),q17,[],[]⟩)] (js 44 [] 0 (sl (.join ⟨[],([10,11]++rg 45 12),q17,[],[]⟩ (.blk (sl (jc 50 [48,49] 2 (.reg [(4,cn 2)]) .leaf))) .leaf)))))) .leaf)))) [.rww 0 1,hi,hi,hi] q13 ⟨[(0,.rww 1 1)],[],q24,[],[]⟩ (u4 gW)
theorem o8 (a:HT (Sh.hss [hl,hi])):DFF En GTe (cl [r9] []) Tryz.f167.ntmps Tryz.f167.results.toList (bw Tryz.f167) (sl (.seq (js 10 [9] 1 .leaf) (.seq (.reg [(5,cn 0)]) (.seq (jb 26 (rg 21 5) (.reg [(2,sp),(5,sp)]) .leaf) (sl (sl (.seq (.blk (.loop ⟨[(8,hi)],(rg 34 13),q27,[],[]⟩ [(.exit 0,⟨[],([8]++rg 34 13),q27,[],[]⟩)] (.seq (js 37 [34,35,36] 3 .leaf) .leaf))) .leaf))))))) [hl,hi] 2 (.tp (.ti .i32) aa) a=jm a.1 a.2:=by kernel_rfl
def qC:PCon En:=⟨167,[hl,hi],.h (.tf 2 (.tp (.ti .i32) aa)),fun a=>jm a.1 a.2,Tryz.call167,fun a v h=>jY rfl bp rfl eu Tryz.func167 rfl rfl (by decide) ((o8 a).trans h)⟩
theorem s9 (a:HT (Sh.hss [hi,hP])):DFF En GTe (cl [dM,lq,qC] []) Tryz.f132.ntmps Tryz.f132.results.toList (bw Tryz.f132) (sl (.seq (jb 15 (rg 5 10) (.reg [(2,sp),(6,sp),(8,cn 0),(10,sp)]) .leaf) (.seq (.reg [(1,cn 1),(4,cn 2)]) .leaf))) [hi,hP] 2 (.tp (.ti .i32) aa) a=lK a.1 a.2:=by kernel_rfl
def uB:PCon En:=⟨132,[hi,hP],.h (.tf 2 (.tp (.ti .i32) aa)),fun a=>lK a.1 a.2,Tryz.call132,fun a v h=>jY rfl bp rfl eu Tryz.func132 rfl rfl (by decide) ((s9 a).trans h)⟩
def uG:=mkI 82 Tryz.f82 Tryz.call82 Tryz.func82 (cl [i8,dM,uB] []) (sl (.seq (jb 21 (rg 9 12) (.reg [(1,cn 0),(3,sp),(5,cn 0),(8,sp),(10,cn 1),(12,sp)]) .leaf) (.seq (.reg [(1,{fq:=2})]) (.seq (sl (.blk (.loop ⟨[(26,hi)],([8]++rg 27 9),q21,[],[]⟩ [(.exit 0,⟨[],([8]++rg 26 10),q21,[],[]⟩)] (js 27 [] 0 (sl (.seq (.blk (sl (.reg [(4,cn 2)]))) .leaf)))))) .leaf)))) [hi,hi,hP] [(1000,.cs []),(1001,.cs [])] ⟨[(0,.rww 0 1)],[],q25,[],[]⟩ (u3 pJ)
theorem vX (a:HT (Sh.hss [hl,hi])):DFF En GTe (cl [lJ,gV] [cq,d5]) Tryz.f229.ntmps Tryz.f229.results.toList (bw Tryz.f229) (sl (.seq (jb 16 (rg 6 10) (.reg [(1,cn 0),(3,sp),(7,sp),(10,sp)]) .leaf) (.seq (.reg [(1,oi 0)]) (.seq (.reg [(2,oi 1)]) (.seq (.reg [(13,cn 1)]) .leaf))))) [hl,hi] 2 (.tp (.ti .i32) aa) a=oc a.1 a.2:=by kernel_rfl
def xw:PCon En:=⟨229,[hl,hi],.h (.tf 2 (.tp (.ti .i32) aa)),fun a=>oc a.1 a.2,Tryz.call229,fun a v h=>jY rfl bp rfl eu Tryz.func229 rfl rfl (by decide) ((vX a).trans h)⟩
def xG:=mkI 211 Tryz.f211 Tryz.call211 Tryz.func211 (cl [lL,i8,xw] [uG]) (sl (.seq (jb 34 (rg 12 22) (.reg [(1,cn 0),(3,sp),(5,cn 1),(8,sp),(10,cn 1),(13,sp),(17,sp),(22,sp)]) .leaf) (.seq (.reg [(3,oi 0)]) (.seq (sl (.blk (.loop ⟨[(43,hi)],([10,11]++rg 44 14),q19,[],[]⟩ [(.exit 0,⟨[],([10,11]++rg 43 15),q19,[],[]⟩)] (js 44 [] 0 (sl (.join ⟨[],([10,11]++rg 45 12),q19,[],[]⟩ (.blk (sl (jc 50 [48,49] 2 (.reg [(4,cn 2)]) .leaf))) .leaf)))))) .leaf)))) [.rww 0 1,hi,hi,hi] [(0,.ls (.tf 2 (.tp (.ti .i32) aa))),(1000,.cs []),(1001,.cs [])] ⟨[(0,.rww 1 1)],[],[(1,.ls (.tf 2 (.tp (.ti .i32) aa)))],[],[]⟩ (u4 og)
def mv:=mkI 189 Tryz.f189 Tryz.call189 Tryz.func189 (cl [sr] [xH,xG]) (sl (.seq (.reg [(9,oi 0)]) (.join ⟨[],([7]++rg 30 38),[(4,.ls (.tf 2 (.tp (.ti .i32) aa)))],[(0,3,.rww 4 1)],[2]⟩ (jc 36 (rg 30 6) 6 (sl (.reg [(13,oi 1)])) .leaf) (.join ⟨[],(rg 68 23),[],[(0,27,hu),(0,28,hu),(0,29,hu),(0,30,hu)],[]⟩ (jc 74 (rg 68 6) 6 (.reg [(12,cn 0)]) .leaf) .leaf)))) [.ptr 0 0,hi,hi] q6 ⟨[(0,.tup [])],[],q12,[(0,0,hi),(0,1,hi),(0,2,.rww 4 1),(0,3,.rww 5 1),(0,4,hi),(0,5,hi),(0,10,.k (.int .i64 0)),(0,11,hi),(0,27,hu),(0,28,hu),(0,29,hu),(0,30,hu)],[2]⟩ (fun a=>dB a.1 a.2.1 a.2.2.1 a.2.2.2.1 a.2.2.2.2.1 a.2.2.2.2.2.1 a.2.2.2.2.2.2.2.2.2.2.2.2.2.1 a.2.2.2.2.2.2.2.2.2.2.2.2.2.2.2.2.2.2.2.2.2.2.2.2.2.2.2.1 a.2.2.2.2.2.2.2.2.2.2.2.2.2.2.2.2.2.2.2.2.2.2.2.2.2.2.2.2.1 a.2.2.2.2.2.2.2.2.2.2.2.2.2.2.2.2.2.2.2.2.2.2.2.2.2.2.2.2.2.1 a.2.2.2.2.2.2.2.2.2.2.2.2.2.2.2.2.2.2.2.2.2.2.2.2.2.2.2.2.2.2.1 a.2.2.2.2.2.2.2.2.2.2.2.2.2.2.2.2.2.2.2.2.2.2.2.2.2.2.2.2.2.2.2.1 a.2.2.2.2.2.2.2.2.2.2.2.2.2.2.2.2.2.2.2.2.2.2.2.2.2.2.2.2.2.2.2.2.1)
def nU:=mkI 143 Tryz.f143 Tryz.call143 Tryz.func143 (cl [l9,sZ,np,dK] [m7,eH,fC,m9,mv]) (sl (sl (sl (.blk (jc 46 [47] 1 (.reg [(22,oi 0)]) (jc 71 [72] 1 (.reg [(6,oi 0)]) (jc 80 [81] 1 (.reg [(23,cn 0)]) (jc 107 [108] 1 (.reg [(23,cn 1)]) (jc 134 [135] 1 (.reg [(30,cn 2)]) (jb 168 [169,170] (jc 168 [169] 1 .leaf (rs 1)) (.cond (sl (.seq (jb 197 (rg 174 23) (.reg [(11,sp),(23,sp)]) .leaf) (.join ⟨[(7,hi)],(rg 198 5),[],[],[]⟩ (js 200 [198,199] 2 .leaf) (.seq (.reg [(7,oi 1)]) .leaf)))) (jc 215 [216] 1 (.reg [(8,oi 1)]) (jc 226 [227] 1 (jb 247 (rg 228 19) (.reg [(3,sp),(10,sp),(19,sp)]) (.cond (sl (.reg [(1,oi 2)])) .leaf)) (jc 262 [263] 1 (.reg [(1,{io:=some 3,wk:=true})]) (jc 266 [267] 1 (.reg [(3,cn 3),(6,cn 3),(7,oi 4)]) .leaf))))))))))))))) [.ptr 0 0,hC] q7 ⟨[(0,.tup [])],[],q12,[(0,0,hi),(0,1,hi),(0,2,.rww 4 1),(0,3,.rww 5 1),(0,4,hi),(0,5,hi),(0,6,hb),(0,10,hi),(0,11,hi),(0,27,hu),(0,28,hu),(0,29,hu),(0,30,hu)],[1,2]⟩ (fun a=>db a.1 a.2.1 a.2.2.1 a.2.2.2.1 a.2.2.2.2.1 a.2.2.2.2.2.1 a.2.2.2.2.2.2.1 a.2.2.2.2.2.2.2.1 a.2.2.2.2.2.2.2.2.1 a.2.2.2.2.2.2.2.2.2.1 a.2.2.2.2.2.2.2.2.2.2.1 a.2.2.2.2.2.2.2.2.2.2.2.1 a.2.2.2.2.2.2.2.2.2.2.2.2.1 a.2.2.2.2.2.2.2.2.2.2.2.2.2.2.2.2.2.2.2.2.2.2.2.2.2.2.1 a.2.2.2.2.2.2.2.2.2.2.2.2.2.2.2.2.2.2.2.2.2.2.2.2.2.2.2.1 a.2.2.2.2.2.2.2.2.2.2.2.2.2.2.2.2.2.2.2.2.2.2.2.2.2.2.2.2.1 a.2.2.2.2.2.2.2.2.2.2.2.2.2.2.2.2.2.2.2.2.2.2.2.2.2.2.2.2.2.1 a.2.2.2.2.2.2.2.2.2.2.2.2.2.2.2.2.2.2.2.2.2.2.2.2.2.2.2.2.2.2.1 a.2.2.2.2.2.2.2.2.2.2.2.2.2.2.2.2.2.2.2.2.2.2.2.2.2.2.2.2.2.2.2.1 a.2.2.2.2.2.2.2.2.2.2.2.2.2.2.2.2.2.2.2.2.2.2.2.2.2.2.2.2.2.2.2.2) [1001]
def mw:=mkI 86 Tryz.f86 Tryz.call86 Tryz.func86 (cl [BO,jW,wQ,Ae] [m6,jp,nT,gY,uk,nR,nU]) (sl (sl (.blk (jc 26 [27] 1 (.reg [(3,oi 0)]) (jc 32 [33] 1 (.reg [(8,cn 0)]) (jc 46 [47] 1 (sl (sl (.blk (.loop ⟨[(55,hi)],([5]++rg 56 28),[(4,.ls (.ti .i32))],[(0,31,.rww 4 1)],[]⟩ [(.exit 1,⟨[],([5]++rg 55 29),[(4,.ls (.ti .i32))],[(0,31,.rww 4 1)],[]⟩)] (js 56 [] 0 (sl (.join ⟨[],([5]++rg 57 26),[(5,.ls (.ti .i32))],[(0,31,.rww 5 1)],[4]⟩ (.blk (sl (jb 70 (rg 59 11) (.reg [(1,cn 1),(3,sp),(11,sp)]) .leaf))) .leaf))))))) (jc 84 [85] 1 (sl (.blk (jc 88 [89] 1 (.reg [(11,cn 2)]) (jc 105 [106] 1 (.reg [(11,cn 3)]) (js 122 [123] 1 .leaf))))) (jc 129 [130] 1 (.reg [(1,oi 1)]) (jc 133 [134] 1 (.reg [(6,{io:=some 2,wk:=true})]) (jc 142 [143] 1 (.reg [(1,oi 3)]) (jc 146 [147] 1 (.reg [(11,oi 4)]) (jb 15 (rg 8 7) (.reg [(3,sp),(7,sp)]) (.cond (sl (.seq (.reg [(2,oi 5)]) (.reg [(2,{io:=some 6,wk:=true})]))) .leaf))))))))))))) [.ptr 0 0,hC] q7 ⟨[(0,.tup [])],[],[(4,.ls (.tf 1 (.tp (.ti .i32) aa))),(5,.ls (.tf 2 (.tp (.ti .i32) aa))),(6,.ls (.ti .i32))],[(0,0,hi),(0,1,hi),(0,2,.rww 4 1),(0,3,.rww 5 1),(0,4,hi),(0,5,hi),(0,6,hb),(0,7,hi),(0,8,hi),(0,9,hi),(0,10,hi),(0,11,hi),(0,12,hi),(0,13,hi),(0,14,hi),(0,15,hi),(0,16,hi),(0,17,hi),(0,18,hb),(0,19,hb),(0,20,hi),(0,21,hi),(0,22,hi),(0,23,hi),(0,24,hi),(0,25,hb),(0,26,hb),(0,27,hu),(0,28,hu),(0,29,hu),(0,30,hu),(0,31,.rww 6 1)],[1,2,3]⟩ (u33 cH) [1001]
def iX:=mkP 31 Tryz.f31 Tryz.call31 Tryz.func31 (cl [jv,dK] [la,lc,iO,mw]) (sl (.seq (jb 10 [8,9] (.reg [(1,cn 0),(2,sp)]) .leaf) (sl (.seq (.reg [(5,oi 0),(8,oi 1),(11,oi 2)]) (.seq (sl (.blk (.loop ⟨[(38,hi)],([7,20,23,26]++rg 39 23),q11,q1,[1005,1006,1007]⟩ [(.exit 0,⟨[],([7,20,23,26]++rg 38 24),q11,q1,[1005,1006,1007]⟩)] (js 39 [] 0 (sl (.seq (.blk (sl (.join ⟨[],(rg 42 16),[],[(1008,1,hi),(1008,2,hi)],[]⟩ (jb 49 (rg 42 7) (.reg [(3,sp),(7,sp)]) (.cond (.reg [(2,cn 1),(5,cn 1)]) .leaf)) (.reg [(2,{io:=some 3,wk:=true})])))) .leaf)))))) .leaf))))) [hS,.h (.tl ap)] hS (u2 gR) [1000,1001]
def dq:List Sh:=[.ptr 0 0,.ptr 1 0,.ptr 2 0,.st bI]
def dp:List (Nat×LSh):=[(0,.cs [.ptr 3 0]),(1,.cs [.rww 4 1]),(2,.cs [.rww 5 6]),(3,.cs q8),(4,.ls .tu),(5,.ls ap),(6,.cs [hj,hi,hi,.h .tu,.h .tu]),(7,.cs [.h (.tk [197,218,219]),hb,hb,hb,hb,hb,hj,.h .ts,.rww 8 1,.rww 9 1]),(8,.ls (.ti .i64)),(9,.ls (.ti .i32))]
def fR:Tm:=⟨[(0,.k (.bool true))],[],[(10,.ls .tu),(11,.ls ap)],([(1,0,.rww 10 1),(2,0,.rww 11 6)]++sF 3),[4,5]⟩
theorem kW (a:HT (Sh.hss dq++hsL dp)) (l:Nat):DY (En.on (some l) none) GTe ((cl [qU,tH,iX] []).on (some l) none) 0 3 .leaf (.blk (.seq (.reg [(6,cn 0)]) (.seq (.reg [(5,cn 1)]) (.cond (.seq (.reg [(6,{fz:=[(36,ap)],con:=2})]) (.reg [(6,cn 1)])) .leaf)))) dq dp fR a=aW a.1 a.2.1 a.2.2.1 a.2.2.2.1 a.2.2.2.2.1 a.2.2.2.2.2.1 a.2.2.2.2.2.2.1 a.2.2.2.2.2.2.2.1 a.2.2.2.2.2.2.2.2.1 a.2.2.2.2.2.2.2.2.2.1 a.2.2.2.2.2.2.2.2.2.2.1 a.2.2.2.2.2.2.2.2.2.2.2.1 a.2.2.2.2.2.2.2.2.2.2.2.2.1 a.2.2.2.2.2.2.2.2.2.2.2.2.2.1 a.2.2.2.2.2.2.2.2.2.2.2.2.2.2.1 a.2.2.2.2.2.2.2.2.2.2.2.2.2.2.2.1 a.2.2.2.2.2.2.2.2.2.2.2.2.2.2.2.2.1 a.2.2.2.2.2.2.2.2.2.2.2.2.2.2.2.2.2.1 a.2.2.2.2.2.2.2.2.2.2.2.2.2.2.2.2.2.2.1 a.2.2.2.2.2.2.2.2.2.2.2.2.2.2.2.2.2.2.2.1 a.2.2.2.2.2.2.2.2.2.2.2.2.2.2.2.2.2.2.2.2.1 a.2.2.2.2.2.2.2.2.2.2.2.2.2.2.2.2.2.2.2.2.2.1 a.2.2.2.2.2.2.2.2.2.2.2.2.2.2.2.2.2.2.2.2.2.2.1 a.2.2.2.2.2.2.2.2.2.2.2.2.2.2.2.2.2.2.2.2.2.2.2.1 a.2.2.2.2.2.2.2.2.2.2.2.2.2.2.2.2.2.2.2.2.2.2.2.2.1 a.2.2.2.2.2.2.2.2.2.2.2.2.2.2.2.2.2.2.2.2.2.2.2.2.2.1 a.2.2.2.2.2.2.2.2.2.2.2.2.2.2.2.2.2.2.2.2.2.2.2.2.2.2.1 a.2.2.2.2.2.2.2.2.2.2.2.2.2.2.2.2.2.2.2.2.2.2.2.2.2.2.2.1 a.2.2.2.2.2.2.2.2.2.2.2.2.2.2.2.2.2.2.2.2.2.2.2.2.2.2.2.2.1 a.2.2.2.2.2.2.2.2.2.2.2.2.2.2.2.2.2.2.2.2.2.2.2.2.2.2.2.2.2.1 a.2.2.2.2.2.2.2.2.2.2.2.2.2.2.2.2.2.2.2.2.2.2.2.2.2.2.2.2.2.2.1 a.2.2.2.2.2.2.2.2.2.2.2.2.2.2.2.2.2.2.2.2.2.2.2.2.2.2.2.2.2.2.2.1 a.2.2.2.2.2.2.2.2.2.2.2.2.2.2.2.2.2.2.2.2.2.2.2.2.2.2.2.2.2.2.2.2.1 a.2.2.2.2.2.2.2.2.2.2.2.2.2.2.2.2.2.2.2.2.2.2.2.2.2.2.2.2.2.2.2.2.2.1 a.2.2.2.2.2.2.2.2.2.2.2.2.2.2.2.2.2.2.2.2.2.2.2.2.2.2.2.2.2.2.2.2.2.2.1:=by kernel_rfl
def gc:YCon En:=⟨0,dq,dp,fR,fun a=>aW a.1 a.2.1 a.2.2.1 a.2.2.2.1 a.2.2.2.2.1 a.2.2.2.2.2.1 a.2.2.2.2.2.2.1 a.2.2.2.2.2.2.2.1 a.2.2.2.2.2.2.2.2.1 a.2.2.2.2.2.2.2.2.2.1 a.2.2.2.2.2.2.2.2.2.2.1 a.2.2.2.2.2.2.2.2.2.2.2.1 a.2.2.2.2.2.2.2.2.2.2.2.2.1 a.2.2.2.2.2.2.2.2.2.2.2.2.2.1 a.2.2.2.2.2.2.2.2.2.2.2.2.2.2.1 a.2.2.2.2.2.2.2.2.2.2.2.2.2.2.2.1 a.2.2.2.2.2.2.2.2.2.2.2.2.2.2.2.2.1 a.2.2.2.2.2.2.2.2.2.2.2.2.2.2.2.2.2.1 a.2.2.2.2.2.2.2.2.2.2.2.2.2.2.2.2.2.2.1 a.2.2.2.2.2.2.2.2.2.2.2.2.2.2.2.2.2.2.2.1 a.2.2.2.2.2.2.2.2.2.2.2.2.2.2.2.2.2.2.2.2.1 a.2.2.2.2.2.2.2.2.2.2.2.2.2.2.2.2.2.2.2.2.2.1 a.2.2.2.2.2.2.2.2.2.2.2.2.2.2.2.2.2.2.2.2.2.2.1 a.2.2.2.2.2.2.2.2.2.2.2.2.2.2.2.2.2.2.2.2.2.2.2.1 a.2.2.2.2.2.2.2.2.2.2.2.2.2.2.2.2.2.2.2.2.2.2.2.2.1 a.2.2.2.2.2.2.2.2.2.2.2.2.2.2.2.2.2.2.2.2.2.2.2.2.2.1 a.2.2.2.2.2.2.2.2.2.2.2.2.2.2.2.2.2.2.2.2.2.2.2.2.2.2.1 a.2.2.2.2.2.2.2.2.2.2.2.2.2.2.2.2.2.2.2.2.2.2.2.2.2.2.2.1 a.2.2.2.2.2.2.2.2.2.2.2.2.2.2.2.2.2.2.2.2.2.2.2.2.2.2.2.2.1 a.2.2.2.2.2.2.2.2.2.2.2.2.2.2.2.2.2.2.2.2.2.2.2.2.2.2.2.2.2.1 a.2.2.2.2.2.2.2.2.2.2.2.2.2.2.2.2.2.2.2.2.2.2.2.2.2.2.2.2.2.2.1 a.2.2.2.2.2.2.2.2.2.2.2.2.2.2.2.2.2.2.2.2.2.2.2.2.2.2.2.2.2.2.2.1 a.2.2.2.2.2.2.2.2.2.2.2.2.2.2.2.2.2.2.2.2.2.2.2.2.2.2.2.2.2.2.2.2.1 a.2.2.2.2.2.2.2.2.2.2.2.2.2.2.2.2.2.2.2.2.2.2.2.2.2.2.2.2.2.2.2.2.2.1 a.2.2.2.2.2.2.2.2.2.2.2.2.2.2.2.2.2.2.2.2.2.2.2.2.2.2.2.2.2.2.2.2.2.2.1,fun a v h ro cvs cxs e1 e2=>Mh (C:=fun l=>(cl [qU,tH,iX] []).on (some l) none) bp rfl eu ⟨rfl,rfl,rfl,rfl,⟨by decide,rfl,rfl⟩,by kernel_rfl⟩ (by kernel_rfl) (fun l=>(kW a l).trans h) ro cvs cxs e1 e2 (by kernel_rfl),fun v vs=>by kernel_rfl⟩
def cC:List Sh:=[.ptr 0 0,.ptr 1 0,.ptr 2 0,.ptr 3 0,.ptr 4 0]
def cB:List (Nat×LSh):=[(0,.cs [.ptr 5 0]),(1,.cs [.k .nils]),(2,.cs [.k .nils]),(3,.cs [.ptr 5 0]),(4,.cs [.h (.tl .tu)]),(5,.cs q8),(6,.cs [hj,hi,hi,.h .tu,.h .tu]),(7,.cs [.h (.tk [197,218,219]),hb,hb,hb,hb,hb,hj,.h .ts,.k .nils,.k .nils])]
def dT:Tm:=⟨[(0,.tup [])],[],q14,[(1,0,.rww 8 1),(2,0,.rww 9 6),(5,0,hi),(5,1,hi),(5,2,hg),(5,3,hg),(5,4,hi),(5,5,hi),(5,6,hb),(5,7,hi),(5,8,hi),(5,9,hi),(5,10,hi),(5,11,hi),(5,12,hi),(5,13,hi),(5,14,hi),(5,15,hi),(5,16,hi),(5,17,hi),(5,18,hb),(5,19,hb),(5,20,hi),(5,21,hi),(5,22,hi),(5,23,hi),(5,24,hi),(5,25,hb),(5,26,hb),(5,27,hu),(5,28,hu),(5,29,hu),(5,30,hu),(5,31,.h (.tl (.ti .i32))),(6,0,hj),(6,1,hi),(6,2,hi),(6,3,.h .tu),(6,4,.h .tu),(7,0,.h (.tk [197,218,219])),(7,1,hb),(7,2,hb),(7,3,hb),(7,4,hb),(7,5,hb),(7,6,hj),(7,7,.h .ts),(7,8,.rww 10 1),(7,9,.rww 11 1)],[]⟩
theorem jj (a:HT (Sh.hss cC++hsL cB)):DR En GTe (cly [] [jM,kZ] [gc]) 0 3 Tryz.f93.ntmps Tryz.f93.results.toList (bw Tryz.f93) (.seq (.reg [(5,oi 0)]) (.blk (.loop ⟨[(15,hi)],([5,7]++rg 16 20),q14,q0,[]⟩ [(.exit 0,⟨[],([5,7]++rg 15 21),q14,q0,[]⟩)] (js 16 [] 0 (sl (.seq (.blk (sl (.seq (.reg [(5,oi 1)]) (.blk (.loop ⟨[(26,hi)],([7]++rg 27 8),[(12,.ls .tu),(13,.ls ap)],q3,[8,9]⟩ [(.exit 2,⟨[],([7]++rg 26 9),[(12,.ls .tu),(13,.ls ap)],q3,[8,9]⟩)] (js 27 [] 0 (sl (.seq (.blk (sl (.seq (.reg [(2,{yi:=some 0})]) .leaf))) .leaf)))))))) .leaf)))))) cC cB dT a=bT a.1 a.2.1 a.2.2.1 a.2.2.2.1 a.2.2.2.2.1 a.2.2.2.2.2.1 a.2.2.2.2.2.2.1 a.2.2.2.2.2.2.2.1 a.2.2.2.2.2.2.2.2.1 a.2.2.2.2.2.2.2.2.2.1 a.2.2.2.2.2.2.2.2.2.2.1 a.2.2.2.2.2.2.2.2.2.2.2.1 a.2.2.2.2.2.2.2.2.2.2.2.2.1 a.2.2.2.2.2.2.2.2.2.2.2.2.2.1 a.2.2.2.2.2.2.2.2.2.2.2.2.2.2.1 a.2.2.2.2.2.2.2.2.2.2.2.2.2.2.2.1 a.2.2.2.2.2.2.2.2.2.2.2.2.2.2.2.2.1 a.2.2.2.2.2.2.2.2.2.2.2.2.2.2.2.2.2.1 a.2.2.2.2.2.2.2.2.2.2.2.2.2.2.2.2.2.2.1 a.2.2.2.2.2.2.2.2.2.2.2.2.2.2.2.2.2.2.2.1 a.2.2.2.2.2.2.2.2.2.2.2.2.2.2.2.2.2.2.2.2.1 a.2.2.2.2.2.2.2.2.2.2.2.2.2.2.2.2.2.2.2.2.2.1 a.2.2.2.2.2.2.2.2.2.2.2.2.2.2.2.2.2.2.2.2.2.2.1 a.2.2.2.2.2.2.2.2.2.2.2.2.2.2.2.2.2.2.2.2.2.2.2.1 a.2.2.2.2.2.2.2.2.2.2.2.2.2.2.2.2.2.2.2.2.2.2.2.2.1 a.2.2.2.2.2.2.2.2.2.2.2.2.2.2.2.2.2.2.2.2.2.2.2.2.2.1 a.2.2.2.2.2.2.2.2.2.2.2.2.2.2.2.2.2.2.2.2.2.2.2.2.2.2.1 a.2.2.2.2.2.2.2.2.2.2.2.2.2.2.2.2.2.2.2.2.2.2.2.2.2.2.2.1 a.2.2.2.2.2.2.2.2.2.2.2.2.2.2.2.2.2.2.2.2.2.2.2.2.2.2.2.2.1 a.2.2.2.2.2.2.2.2.2.2.2.2.2.2.2.2.2.2.2.2.2.2.2.2.2.2.2.2.2.1 a.2.2.2.2.2.2.2.2.2.2.2.2.2.2.2.2.2.2.2.2.2.2.2.2.2.2.2.2.2.2.1 a.2.2.2.2.2.2.2.2.2.2.2.2.2.2.2.2.2.2.2.2.2.2.2.2.2.2.2.2.2.2.2.1 a.2.2.2.2.2.2.2.2.2.2.2.2.2.2.2.2.2.2.2.2.2.2.2.2.2.2.2.2.2.2.2.2.1 a.2.2.2.2.2.2.2.2.2.2.2.2.2.2.2.2.2.2.2.2.2.2.2.2.2.2.2.2.2.2.2.2.2.1 a.2.2.2.2.2.2.2.2.2.2.2.2.2.2.2.2.2.2.2.2.2.2.2.2.2.2.2.2.2.2.2.2.2.2.1 a.2.2.2.2.2.2.2.2.2.2.2.2.2.2.2.2.2.2.2.2.2.2.2.2.2.2.2.2.2.2.2.2.2.2.2.1 a.2.2.2.2.2.2.2.2.2.2.2.2.2.2.2.2.2.2.2.2.2.2.2.2.2.2.2.2.2.2.2.2.2.2.2.2.1 a.2.2.2.2.2.2.2.2.2.2.2.2.2.2.2.2.2.2.2.2.2.2.2.2.2.2.2.2.2.2.2.2.2.2.2.2.2.1 a.2.2.2.2.2.2.2.2.2.2.2.2.2.2.2.2.2.2.2.2.2.2.2.2.2.2.2.2.2.2.2.2.2.2.2.2.2.2.1 a.2.2.2.2.2.2.2.2.2.2.2.2.2.2.2.2.2.2.2.2.2.2.2.2.2.2.2.2.2.2.2.2.2.2.2.2.2.2.2.1 a.2.2.2.2.2.2.2.2.2.2.2.2.2.2.2.2.2.2.2.2.2.2.2.2.2.2.2.2.2.2.2.2.2.2.2.2.2.2.2.2.1 a.2.2.2.2.2.2.2.2.2.2.2.2.2.2.2.2.2.2.2.2.2.2.2.2.2.2.2.2.2.2.2.2.2.2.2.2.2.2.2.2.2.1 a.2.2.2.2.2.2.2.2.2.2.2.2.2.2.2.2.2.2.2.2.2.2.2.2.2.2.2.2.2.2.2.2.2.2.2.2.2.2.2.2.2.2.1 a.2.2.2.2.2.2.2.2.2.2.2.2.2.2.2.2.2.2.2.2.2.2.2.2.2.2.2.2.2.2.2.2.2.2.2.2.2.2.2.2.2.2.2.1 a.2.2.2.2.2.2.2.2.2.2.2.2.2.2.2.2.2.2.2.2.2.2.2.2.2.2.2.2.2.2.2.2.2.2.2.2.2.2.2.2.2.2.2.2.1 a.2.2.2.2.2.2.2.2.2.2.2.2.2.2.2.2.2.2.2.2.2.2.2.2.2.2.2.2.2.2.2.2.2.2.2.2.2.2.2.2.2.2.2.2.2:=by kernel_rfl
def en:RCon En:=⟨0,93,cC,cB,dT,fun a=>bT a.1 a.2.1 a.2.2.1 a.2.2.2.1 a.2.2.2.2.1 a.2.2.2.2.2.1 a.2.2.2.2.2.2.1 a.2.2.2.2.2.2.2.1 a.2.2.2.2.2.2.2.2.1 a.2.2.2.2.2.2.2.2.2.1 a.2.2.2.2.2.2.2.2.2.2.1 a.2.2.2.2.2.2.2.2.2.2.2.1 a.2.2.2.2.2.2.2.2.2.2.2.2.1 a.2.2.2.2.2.2.2.2.2.2.2.2.2.1 a.2.2.2.2.2.2.2.2.2.2.2.2.2.2.1 a.2.2.2.2.2.2.2.2.2.2.2.2.2.2.2.1 a.2.2.2.2.2.2.2.2.2.2.2.2.2.2.2.2.1 a.2.2.2.2.2.2.2.2.2.2.2.2.2.2.2.2.2.1 a.2.2.2.2.2.2.2.2.2.2.2.2.2.2.2.2.2.2.1 a.2.2.2.2.2.2.2.2.2.2.2.2.2.2.2.2.2.2.2.1 a.2.2.2.2.2.2.2.2.2.2.2.2.2.2.2.2.2.2.2.2.1 a.2.2.2.2.2.2.2.2.2.2.2.2.2.2.2.2.2.2.2.2.2.1 a.2.2.2.2.2.2.2.2.2.2.2.2.2.2.2.2.2.2.2.2.2.2.1 a.2.2.2.2.2.2.2.2.2.2.2.2.2.2.2.2.2.2.2.2.2.2.2.1 a.2.2.2.2.2.2.2.2.2.2.2.2.2.2.2.2.2.2.2.2.2.2.2.2.1 a.2.2.2.2.2.2.2.2.2.2.2.2.2.2.2.2.2.2.2.2.2.2.2.2.2.1 a.2.2.2.2.2.2.2.2.2.2.2.2.2.2.2.2.2.2.2.2.2.2.2.2.2.2.1 a.2.2.2.2.2.2.2.2.2.2.2.2.2.2.2.2.2.2.2.2.2.2.2.2.2.2.2.1 a.2.2.2.2.2.2.2.2.2.2.2.2.2.2.2.2.2.2.2.2.2.2.2.2.2.2.2.2.1 a.2.2.2.2.2.2.2.2.2.2.2.2.2.2.2.2.2.2.2.2.2.2.2.2.2.2.2.2.2.1 a.2.2.2.2.2.2.2.2.2.2.2.2.2.2.2.2.2.2.2.2.2.2.2.2.2.2.2.2.2.2.1 a.2.2.2.2.2.2.2.2.2.2.2.2.2.2.2.2.2.2.2.2.2.2.2.2.2.2.2.2.2.2.2.1 a.2.2.2.2.2.2.2.2.2.2.2.2.2.2.2.2.2.2.2.2.2.2.2.2.2.2.2.2.2.2.2.2.1 a.2.2.2.2.2.2.2.2.2.2.2.2.2.2.2.2.2.2.2.2.2.2.2.2.2.2.2.2.2.2.2.2.2.1 a.2.2.2.2.2.2.2.2.2.2.2.2.2.2.2.2.2.2.2.2.2.2.2.2.2.2.2.2.2.2.2.2.2.2.1 a.2.2.2.2.2.2.2.2.2.2.2.2.2.2.2.2.2.2.2.2.2.2.2.2.2.2.2.2.2.2.2.2.2.2.2.1 a.2.2.2.2.2.2.2.2.2.2.2.2.2.2.2.2.2.2.2.2.2.2.2.2.2.2.2.2.2.2.2.2.2.2.2.2.1 a.2.2.2.2.2.2.2.2.2.2.2.2.2.2.2.2.2.2.2.2.2.2.2.2.2.2.2.2.2.2.2.2.2.2.2.2.2.1 a.2.2.2.2.2.2.2.2.2.2.2.2.2.2.2.2.2.2.2.2.2.2.2.2.2.2.2.2.2.2.2.2.2.2.2.2.2.2.1 a.2.2.2.2.2.2.2.2.2.2.2.2.2.2.2.2.2.2.2.2.2.2.2.2.2.2.2.2.2.2.2.2.2.2.2.2.2.2.2.1 a.2.2.2.2.2.2.2.2.2.2.2.2.2.2.2.2.2.2.2.2.2.2.2.2.2.2.2.2.2.2.2.2.2.2.2.2.2.2.2.2.1 a.2.2.2.2.2.2.2.2.2.2.2.2.2.2.2.2.2.2.2.2.2.2.2.2.2.2.2.2.2.2.2.2.2.2.2.2.2.2.2.2.2.1 a.2.2.2.2.2.2.2.2.2.2.2.2.2.2.2.2.2.2.2.2.2.2.2.2.2.2.2.2.2.2.2.2.2.2.2.2.2.2.2.2.2.2.1 a.2.2.2.2.2.2.2.2.2.2.2.2.2.2.2.2.2.2.2.2.2.2.2.2.2.2.2.2.2.2.2.2.2.2.2.2.2.2.2.2.2.2.2.1 a.2.2.2.2.2.2.2.2.2.2.2.2.2.2.2.2.2.2.2.2.2.2.2.2.2.2.2.2.2.2.2.2.2.2.2.2.2.2.2.2.2.2.2.2.1 a.2.2.2.2.2.2.2.2.2.2.2.2.2.2.2.2.2.2.2.2.2.2.2.2.2.2.2.2.2.2.2.2.2.2.2.2.2.2.2.2.2.2.2.2.2,Tryz.call93,fun a v h tmps cvs cs e1 e2 e3 e4=>J9 rfl bp rfl eu Tryz.func93 rfl ⟨rfl,rfl,rfl,rfl,by decide,rfl⟩ (by kernel_rfl) (by kernel_rfl) ((jj a).trans h) tmps cvs cs e1 e2 e3 e4,fun v vs=>by kernel_rfl⟩
def eY:List Sh:=[.ptr 0 0,.h (.tl .tu)]
def eX:List (Nat×LSh):=q5
def iC:Tm:=⟨[(0,.rww 3 1)],[],[(3,.ls .tu),(4,.ls (.ti .i64)),(5,.ls (.ti .i32))],(sF 0++[(1,0,hj),(1,1,hi),(1,2,hi),(1,3,.h .tu),(1,4,.h .tu),(2,0,.h (.tk [197,218,219])),(2,1,hb),(2,2,hb),(2,3,hb),(2,4,hb),(2,5,hb),(2,6,hj),(2,7,.h .ts),(2,8,.rww 4 1),(2,9,.rww 5 1)]),[]⟩
theorem mO (a:HT (Sh.hss eY++hsL eX)) (b:Nat):DIr GTe ((cl [iX] [iB,gG]).on none (some b)) (en.on none (some b)) Tryz.f19.ntmps Tryz.f19.results.toList (bw Tryz.f19) (sl (.seq (.seq (.reg [(1,oi 0)]) .leaf) (sl (sl (.seq (.seq (.reg [(2,oi 1)]) .leaf) (.seq (.reg [(6,{fz:=[(53,ap)],con:=0})]) .leaf)))))) eY eX iC a=bG a.1 a.2.1 a.2.2.1 a.2.2.2.1 a.2.2.2.2.1 a.2.2.2.2.2.1 a.2.2.2.2.2.2.1 a.2.2.2.2.2.2.2.1 a.2.2.2.2.2.2.2.2.1 a.2.2.2.2.2.2.2.2.2.1 a.2.2.2.2.2.2.2.2.2.2.1 a.2.2.2.2.2.2.2.2.2.2.2.1 a.2.2.2.2.2.2.2.2.2.2.2.2.1 a.2.2.2.2.2.2.2.2.2.2.2.2.2.1 a.2.2.2.2.2.2.2.2.2.2.2.2.2.2.1 a.2.2.2.2.2.2.2.2.2.2.2.2.2.2.2.1 a.2.2.2.2.2.2.2.2.2.2.2.2.2.2.2.2.1 a.2.2.2.2.2.2.2.2.2.2.2.2.2.2.2.2.2.1 a.2.2.2.2.2.2.2.2.2.2.2.2.2.2.2.2.2.2.1 a.2.2.2.2.2.2.2.2.2.2.2.2.2.2.2.2.2.2.2.1 a.2.2.2.2.2.2.2.2.2.2.2.2.2.2.2.2.2.2.2.2.1 a.2.2.2.2.2.2.2.2.2.2.2.2.2.2.2.2.2.2.2.2.2.1 a.2.2.2.2.2.2.2.2.2.2.2.2.2.2.2.2.2.2.2.2.2.2.1 a.2.2.2.2.2.2.2.2.2.2.2.2.2.2.2.2.2.2.2.2.2.2.2.1 a.2.2.2.2.2.2.2.2.2.2.2.2.2.2.2.2.2.2.2.2.2.2.2.2.1 a.2.2.2.2.2.2.2.2.2.2.2.2.2.2.2.2.2.2.2.2.2.2.2.2.2.1 a.2.2.2.2.2.2.2.2.2.2.2.2.2.2.2.2.2.2.2.2.2.2.2.2.2.2.1 a.2.2.2.2.2.2.2.2.2.2.2.2.2.2.2.2.2.2.2.2.2.2.2.2.2.2.2.1 a.2.2.2.2.2.2.2.2.2.2.2.2.2.2.2.2.2.2.2.2.2.2.2.2.2.2.2.2.1 a.2.2.2.2.2.2.2.2.2.2.2.2.2.2.2.2.2.2.2.2.2.2.2.2.2.2.2.2.2.1 a.2.2.2.2.2.2.2.2.2.2.2.2.2.2.2.2.2.2.2.2.2.2.2.2.2.2.2.2.2.2.1 a.2.2.2.2.2.2.2.2.2.2.2.2.2.2.2.2.2.2.2.2.2.2.2.2.2.2.2.2.2.2.2.1 a.2.2.2.2.2.2.2.2.2.2.2.2.2.2.2.2.2.2.2.2.2.2.2.2.2.2.2.2.2.2.2.2.1 a.2.2.2.2.2.2.2.2.2.2.2.2.2.2.2.2.2.2.2.2.2.2.2.2.2.2.2.2.2.2.2.2.2.1 a.2.2.2.2.2.2.2.2.2.2.2.2.2.2.2.2.2.2.2.2.2.2.2.2.2.2.2.2.2.2.2.2.2.2.1 a.2.2.2.2.2.2.2.2.2.2.2.2.2.2.2.2.2.2.2.2.2.2.2.2.2.2.2.2.2.2.2.2.2.2.2.1 a.2.2.2.2.2.2.2.2.2.2.2.2.2.2.2.2.2.2.2.2.2.2.2.2.2.2.2.2.2.2.2.2.2.2.2.2.1 a.2.2.2.2.2.2.2.2.2.2.2.2.2.2.2.2.2.2.2.2.2.2.2.2.2.2.2.2.2.2.2.2.2.2.2.2.2.1 a.2.2.2.2.2.2.2.2.2.2.2.2.2.2.2.2.2.2.2.2.2.2.2.2.2.2.2.2.2.2.2.2.2.2.2.2.2.2.1 a.2.2.2.2.2.2.2.2.2.2.2.2.2.2.2.2.2.2.2.2.2.2.2.2.2.2.2.2.2.2.2.2.2.2.2.2.2.2.2.1 a.2.2.2.2.2.2.2.2.2.2.2.2.2.2.2.2.2.2.2.2.2.2.2.2.2.2.2.2.2.2.2.2.2.2.2.2.2.2.2.2.1 a.2.2.2.2.2.2.2.2.2.2.2.2.2.2.2.2.2.2.2.2.2.2.2.2.2.2.2.2.2.2.2.2.2.2.2.2.2.2.2.2.2.1 a.2.2.2.2.2.2.2.2.2.2.2.2.2.2.2.2.2.2.2.2.2.2.2.2.2.2.2.2.2.2.2.2.2.2.2.2.2.2.2.2.2.2.1 a.2.2.2.2.2.2.2.2.2.2.2.2.2.2.2.2.2.2.2.2.2.2.2.2.2.2.2.2.2.2.2.2.2.2.2.2.2.2.2.2.2.2.2.1 a.2.2.2.2.2.2.2.2.2.2.2.2.2.2.2.2.2.2.2.2.2.2.2.2.2.2.2.2.2.2.2.2.2.2.2.2.2.2.2.2.2.2.2.2.1 a.2.2.2.2.2.2.2.2.2.2.2.2.2.2.2.2.2.2.2.2.2.2.2.2.2.2.2.2.2.2.2.2.2.2.2.2.2.2.2.2.2.2.2.2.2:=by kernel_rfl
def je:ICon En:=⟨19,eY,eX,iC,fun a=>bG a.1 a.2.1 a.2.2.1 a.2.2.2.1 a.2.2.2.2.1 a.2.2.2.2.2.1 a.2.2.2.2.2.2.1 a.2.2.2.2.2.2.2.1 a.2.2.2.2.2.2.2.2.1 a.2.2.2.2.2.2.2.2.2.1 a.2.2.2.2.2.2.2.2.2.2.1 a.2.2.2.2.2.2.2.2.2.2.2.1 a.2.2.2.2.2.2.2.2.2.2.2.2.1 a.2.2.2.2.2.2.2.2.2.2.2.2.2.1 a.2.2.2.2.2.2.2.2.2.2.2.2.2.2.1 a.2.2.2.2.2.2.2.2.2.2.2.2.2.2.2.1 a.2.2.2.2.2.2.2.2.2.2.2.2.2.2.2.2.1 a.2.2.2.2.2.2.2.2.2.2.2.2.2.2.2.2.2.1 a.2.2.2.2.2.2.2.2.2.2.2.2.2.2.2.2.2.2.1 a.2.2.2.2.2.2.2.2.2.2.2.2.2.2.2.2.2.2.2.1 a.2.2.2.2.2.2.2.2.2.2.2.2.2.2.2.2.2.2.2.2.1 a.2.2.2.2.2.2.2.2.2.2.2.2.2.2.2.2.2.2.2.2.2.1 a.2.2.2.2.2.2.2.2.2.2.2.2.2.2.2.2.2.2.2.2.2.2.1 a.2.2.2.2.2.2.2.2.2.2.2.2.2.2.2.2.2.2.2.2.2.2.2.1 a.2.2.2.2.2.2.2.2.2.2.2.2.2.2.2.2.2.2.2.2.2.2.2.2.1 a.2.2.2.2.2.2.2.2.2.2.2.2.2.2.2.2.2.2.2.2.2.2.2.2.2.1 a.2.2.2.2.2.2.2.2.2.2.2.2.2.2.2.2.2.2.2.2.2.2.2.2.2.2.1 a.2.2.2.2.2.2.2.2.2.2.2.2.2.2.2.2.2.2.2.2.2.2.2.2.2.2.2.1 a.2.2.2.2.2.2.2.2.2.2.2.2.2.2.2.2.2.2.2.2.2.2.2.2.2.2.2.2.1 a.2.2.2.2.2.2.2.2.2.2.2.2.2.2.2.2.2.2.2.2.2.2.2.2.2.2.2.2.2.1 a.2.2.2.2.2.2.2.2.2.2.2.2.2.2.2.2.2.2.2.2.2.2.2.2.2.2.2.2.2.2.1 a.2.2.2.2.2.2.2.2.2.2.2.2.2.2.2.2.2.2.2.2.2.2.2.2.2.2.2.2.2.2.2.1 a.2.2.2.2.2.2.2.2.2.2.2.2.2.2.2.2.2.2.2.2.2.2.2.2.2.2.2.2.2.2.2.2.1 a.2.2.2.2.2.2.2.2.2.2.2.2.2.2.2.2.2.2.2.2.2.2.2.2.2.2.2.2.2.2.2.2.2.1 a.2.2.2.2.2.2.2.2.2.2.2.2.2.2.2.2.2.2.2.2.2.2.2.2.2.2.2.2.2.2.2.2.2.2.1 a.2.2.2.2.2.2.2.2.2.2.2.2.2.2.2.2.2.2.2.2.2.2.2.2.2.2.2.2.2.2.2.2.2.2.2.1 a.2.2.2.2.2.2.2.2.2.2.2.2.2.2.2.2.2.2.2.2.2.2.2.2.2.2.2.2.2.2.2.2.2.2.2.2.1 a.2.2.2.2.2.2.2.2.2.2.2.2.2.2.2.2.2.2.2.2.2.2.2.2.2.2.2.2.2.2.2.2.2.2.2.2.2.1 a.2.2.2.2.2.2.2.2.2.2.2.2.2.2.2.2.2.2.2.2.2.2.2.2.2.2.2.2.2.2.2.2.2.2.2.2.2.2.1 a.2.2.2.2.2.2.2.2.2.2.2.2.2.2.2.2.2.2.2.2.2.2.2.2.2.2.2.2.2.2.2.2.2.2.2.2.2.2.2.1 a.2.2.2.2.2.2.2.2.2.2.2.2.2.2.2.2.2.2.2.2.2.2.2.2.2.2.2.2.2.2.2.2.2.2.2.2.2.2.2.2.1 a.2.2.2.2.2.2.2.2.2.2.2.2.2.2.2.2.2.2.2.2.2.2.2.2.2.2.2.2.2.2.2.2.2.2.2.2.2.2.2.2.2.1 a.2.2.2.2.2.2.2.2.2.2.2.2.2.2.2.2.2.2.2.2.2.2.2.2.2.2.2.2.2.2.2.2.2.2.2.2.2.2.2.2.2.2.1 a.2.2.2.2.2.2.2.2.2.2.2.2.2.2.2.2.2.2.2.2.2.2.2.2.2.2.2.2.2.2.2.2.2.2.2.2.2.2.2.2.2.2.2.1 a.2.2.2.2.2.2.2.2.2.2.2.2.2.2.2.2.2.2.2.2.2.2.2.2.2.2.2.2.2.2.2.2.2.2.2.2.2.2.2.2.2.2.2.2.1 a.2.2.2.2.2.2.2.2.2.2.2.2.2.2.2.2.2.2.2.2.2.2.2.2.2.2.2.2.2.2.2.2.2.2.2.2.2.2.2.2.2.2.2.2.2,Tryz.call19,fun a v h=>Ic (C:=(cl [iX] [iB,gG])) (con:=en) (g:=.tmp 13) (ps:=#[14]) bp rfl eu Tryz.func19 rfl (by kernel_rfl) rfl rfl ⟨rfl,rfl,rfl,rfl⟩ fun b=>(mO a b).trans h⟩
def cX:=mkI 54 Tryz.f54 Tryz.call54 Tryz.func54 noC .leaf [.ptr 0 0] q4 ⟨[(0,.k (.bool true))],[],[],[],[]⟩ (fun a=>bv)
def g6:=mkI 25 Tryz.f25 Tryz.call25 Tryz.func25 (cl [kR] [cX]) (sl (.seq (.seq (.reg [(1,oi 0)]) .leaf) (.seq (.reg [(4,cn 0)]) .leaf))) [.ptr 0 0] q4 ⟨[(0,hS)],[],[],[],[]⟩ (fun a=>aV a.1 a.2.1 a.2.2.1 a.2.2.2.1 a.2.2.2.2.1 a.2.2.2.2.2.1 a.2.2.2.2.2.2.1 a.2.2.2.2.2.2.2.1 a.2.2.2.2.2.2.2.2.1 a.2.2.2.2.2.2.2.2.2.1 a.2.2.2.2.2.2.2.2.2.2.1 a.2.2.2.2.2.2.2.2.2.2.2.1 a.2.2.2.2.2.2.2.2.2.2.2.2.1 a.2.2.2.2.2.2.2.2.2.2.2.2.2.1 a.2.2.2.2.2.2.2.2.2.2.2.2.2.2.1 a.2.2.2.2.2.2.2.2.2.2.2.2.2.2.2.1 a.2.2.2.2.2.2.2.2.2.2.2.2.2.2.2.2.1 a.2.2.2.2.2.2.2.2.2.2.2.2.2.2.2.2.2.1 a.2.2.2.2.2.2.2.2.2.2.2.2.2.2.2.2.2.2.1 a.2.2.2.2.2.2.2.2.2.2.2.2.2.2.2.2.2.2.2.1 a.2.2.2.2.2.2.2.2.2.2.2.2.2.2.2.2.2.2.2.2.1 a.2.2.2.2.2.2.2.2.2.2.2.2.2.2.2.2.2.2.2.2.2.1 a.2.2.2.2.2.2.2.2.2.2.2.2.2.2.2.2.2.2.2.2.2.2.1 a.2.2.2.2.2.2.2.2.2.2.2.2.2.2.2.2.2.2.2.2.2.2.2.1 a.2.2.2.2.2.2.2.2.2.2.2.2.2.2.2.2.2.2.2.2.2.2.2.2.1 a.2.2.2.2.2.2.2.2.2.2.2.2.2.2.2.2.2.2.2.2.2.2.2.2.2.1 a.2.2.2.2.2.2.2.2.2.2.2.2.2.2.2.2.2.2.2.2.2.2.2.2.2.2.1 a.2.2.2.2.2.2.2.2.2.2.2.2.2.2.2.2.2.2.2.2.2.2.2.2.2.2.2.1 a.2.2.2.2.2.2.2.2.2.2.2.2.2.2.2.2.2.2.2.2.2.2.2.2.2.2.2.2.1 a.2.2.2.2.2.2.2.2.2.2.2.2.2.2.2.2.2.2.2.2.2.2.2.2.2.2.2.2.2.1 a.2.2.2.2.2.2.2.2.2.2.2.2.2.2.2.2.2.2.2.2.2.2.2.2.2.2.2.2.2.2.1 a.2.2.2.2.2.2.2.2.2.2.2.2.2.2.2.2.2.2.2.2.2.2.2.2.2.2.2.2.2.2.2.1 a.2.2.2.2.2.2.2.2.2.2.2.2.2.2.2.2.2.2.2.2.2.2.2.2.2.2.2.2.2.2.2.2.2.2.2.2.2.2.2.2.2.2.2.2.2.1 a.2.2.2.2.2.2.2.2.2.2.2.2.2.2.2.2.2.2.2.2.2.2.2.2.2.2.2.2.2.2.2.2.2.2.2.2.2.2.2.2.2.2.2.2.2.2)
def gH:=mkI 55 Tryz.f55 Tryz.call55 Tryz.func55 noC .leaf [.ptr 0 0,.h (.tl .tu)] q4 ⟨[(0,.fn 93 [.ptr 5 0,.ptr 6 0])],[],[(5,.cs [.ptr 0 0]),(6,.cs [.h (.tl .tu)])],[],[]⟩ (fun a=>eW a.1)
end Go.SH
set_option maxRecDepth 100000
namespace Go.SH
open Go.Proofs
abbrev q32:List (Nat×LSh):=[(10,.ls .tu),(11,.ls ap),(12,.ls (.ti .i64)),(13,.ls (.ti .i32))]
abbrev q31:List (Nat×LSh):=[(0,.cs [hi,hi,hg,hg,hi,hi,hb,hi,hi,hi,hi,hi,hi,hi,hi,hi,hi,hi,hb,hb,hi,hi,hi,hi,hi,hb,hb,hu,hu,hu,hu,.h (.tl (.ti .i32)),.ptr 1 0,.ptr 2 0]),(1,.cs [hj,hi,hi,.h .tu,.h .tu]),(2,.cs [.h (.tk [197,218,219]),hb,hb,hb,hb,hb,hj,.h .ts,.rww 3 1,.rww 4 1]),(3,.ls (.ti .i64)),(4,.ls (.ti .i32))]
abbrev q30:List (Nat×Nat×Sh):=[(1,0,.rww 14 1),(2,0,.rww 15 6),(5,0,hi),(5,1,hi),(5,2,hg),(5,3,hg),(5,4,hi),(5,5,hi),(5,6,hb),(5,7,hi),(5,8,hi),(5,9,hi),(5,10,hi),(5,11,hi),(5,12,hi),(5,13,hi),(5,14,hi),(5,15,hi),(5,16,hi),(5,17,hi),(5,18,hb),(5,19,hb),(5,20,hi),(5,21,hi),(5,22,hi),(5,23,hi),(5,24,hi),(5,25,hb),(5,26,hb),(5,27,hu),(5,28,hu),(5,29,hu),(5,30,hu),(5,31,.h (.tl (.ti .i32)))]
abbrev q29:List (Nat×Nat×Sh):=[(1,0,.rww 10 1),(2,0,.rww 11 6),(5,0,hi),(5,1,hi),(5,2,hg),(5,3,hg),(5,4,hi),(5,5,hi),(5,6,hb),(5,7,hi),(5,8,hi),(5,9,hi),(5,10,hi),(5,11,hi),(5,12,hi),(5,13,hi),(5,14,hi),(5,15,hi),(5,16,hi),(5,17,hi),(5,18,hb),(5,19,hb),(5,20,hi),(5,21,hi),(5,22,hi),(5,23,hi),(5,24,hi),(5,25,hb),(5,26,hb),(5,27,hu),(5,28,hu),(5,29,hu),(5,30,hu),(5,31,.h (.tl (.ti .i32))),(7,0,.h (.tk [197,218,219])),(7,1,hb),(7,2,hb),(7,3,hb),(7,4,hb),(7,5,hb),(7,6,hj),(7,7,.h .ts),(7,8,.rww 12 1),(7,9,.rww 13 1)]
def cE:List Sh:=[.ptr 0 0,.ptr 1 0,.ptr 2 0,.ptr 3 0,.ptr 4 0]
def cD:List (Nat×LSh):=[(0,.cs [.ptr 5 0]),(1,.cs [.k .nils]),(2,.cs [.k .nils]),(3,.cs [.ptr 5 0]),(4,.cs [.h (.tl .tu)]),(5,.cs [hi,hi,hg,hg,hi,hi,hb,hi,hi,hi,hi,hi,hi,hi,hi,hi,hi,hi,hb,hb,hi,hi,hi,hi,hi,hb,hb,hu,hu,hu,hu,.h (.tl (.ti .i32)),.ptr 6 0,.ptr 7 0]),(6,.cs [hj,hi,hi,.h .tu,.h .tu]),(7,.cs [.h (.tk [197,218,219]),hb,hb,hb,hb,hb,hj,.h .ts,.rww 8 1,.rww 9 1]),(8,.ls (.ti .i64)),(9,.ls (.ti .i32))]
def dU:Tm:=⟨[(0,.tup [])],[],q32,[(1,0,.rww 10 1),(2,0,.rww 11 6),(5,0,hi),(5,1,hi),(5,2,hg),(5,3,hg),(5,4,hi),(5,5,hi),(5,6,hb),(5,7,hi),(5,8,hi),(5,9,hi),(5,10,hi),(5,11,hi),(5,12,hi),(5,13,hi),(5,14,hi),(5,15,hi),(5,16,hi),(5,17,hi),(5,18,hb),(5,19,hb),(5,20,hi),(5,21,hi),(5,22,hi),(5,23,hi),(5,24,hi),(5,25,hb),(5,26,hb),(5,27,hu),(5,28,hu),(5,29,hu),(5,30,hu),(5,31,.h (.tl (.ti .i32))),(6,0,hj),(6,1,hi),(6,2,hi),(6,3,.h .tu),(6,4,.h .tu),(7,0,.h (.tk [197,218,219])),(7,1,hb),(7,2,hb),(7,3,hb),(7,4,hb),(7,5,hb),(7,6,hj),(7,7,.h .ts),(7,8,.rww 12 1),(7,9,.rww 13 1)],[8,9]⟩
theorem jk (a:HT (Sh.hss cE++hsL cD)):DR En GTe (cly [] [jM,kZ] [gc]) 0 3 Tryz.f93.ntmps Tryz.f93.results.toList (bw Tryz.f93) (.seq (.reg [(5,oi 0)]) (.blk (.loop ⟨[(15,hi)],([5,7]++rg 16 20),q32,q29,[8,9]⟩ [(.exit 0,⟨[],([5,7]++rg 15 21),q32,q29,[8,9]⟩)] (js 16 [] 0 (sl (.seq (.blk (sl (.seq (.reg [(5,oi 1)]) (.blk (.loop ⟨[(26,hi)],([7]++rg 27 8),[(14,.ls .tu),(15,.ls ap)],q30,[10,11]⟩ [(.exit 2,⟨[],([7]++rg 26 9),[(14,.ls .tu),(15,.ls ap)],q30,[10,11]⟩)] (js 27 [] 0 (sl (.seq (.blk (sl (.seq (.reg [(2,{yi:=some 0})]) .leaf))) .leaf)))))))) .leaf)))))) cE cD dU a=bU a.1 a.2.1 a.2.2.1 a.2.2.2.1 a.2.2.2.2.1 a.2.2.2.2.2.1 a.2.2.2.2.2.2.1 a.2.2.2.2.2.2.2.1 a.2.2.2.2.2.2.2.2.1 a.2.2.2.2.2.2.2.2.2.1 a.2.2.2.2.2.2.2.2.2.2.1 a.2.2.2.2.2.2.2.2.2.2.2.1 a.2.2.2.2.2.2.2.2.2.2.2.2.1 a.2.2.2.2.2.2.2.2.2.2.2.2.2.1 a.2.2.2.2.2.2.2.2.2.2.2.2.2.2.1 a.2.2.2.2.2.2.2.2.2.2.2.2.2.2.2.1 a.2.2.2.2.2.2.2.2.2.2.2.2.2.2.2.2.1 a.2.2.2.2.2.2.2.2.2.2.2.2.2.2.2.2.2.1 a.2.2.2.2.2.2.2.2.2.2.2.2.2.2.2.2.2.2.1 a.2.2.2.2.2.2.2.2.2.2.2.2.2.2.2.2.2.2.2.1 a.2.2.2.2.2.2.2.2.2.2.2.2.2.2.2.2.2.2.2.2.1 a.2.2.2.2.2.2.2.2.2.2.2.2.2.2.2.2.2.2.2.2.2.1 a.2.2.2.2.2.2.2.2.2.2.2.2.2.2.2.2.2.2.2.2.2.2.1 a.2.2.2.2.2.2.2.2.2.2.2.2.2.2.2.2.2.2.2.2.2.2.2.1 a.2.2.2.2.2.2.2.2.2.2.2.2.2.2.2.2.2.2.2.2.2.2.2.2.1 a.2.2.2.2.2.2.2.2.2.2.2.2.2.2.2.2.2.2.2.2.2.2.2.2.2.1 a.2.2.2.2.2.2.2.2.2.2.2.2.2.2.2.2.2.2.2.2.2.2.2.2.2.2.1 a.2.2.2.2.2.2.2.2.2.2.2.2.2.2.2.2.2.2.2.2.2.2.2.2.2.2.2.1 a.2.2.2.2.2.2.2.2.2.2.2.2.2.2.2.2.2.2.2.2.2.2.2.2.2.2.2.2.1 a.2.2.2.2.2.2.2.2.2.2.2.2.2.2.2.2.2.2.2.2.2.2.2.2.2.2.2.2.2.1 a.2.2.2.2.2.2.2.2.2.2.2.2.2.2.2.2.2.2.2.2.2.2.2.2.2.2.2.2.2.2.1 a.2.2.2.2.2.2.2.2.2.2.2.2.2.2.2.2.2.2.2.2.2.2.2.2.2.2.2.2.2.2.2.1 a.2.2.2.2.2.2.2.2.2.2.2.2.2.2.2.2.2.2.2.2.2.2.2.2.2.2.2.2.2.2.2.2.1 a.2.2.2.2.2.2.2.2.2.2.2.2.2.2.2.2.2.2.2.2.2.2.2.2.2.2.2.2.2.2.2.2.2.1 a.2.2.2.2.2.2.2.2.2.2.2.2.2.2.2.2.2.2.2.2.2.2.2.2.2.2.2.2.2.2.2.2.2.2.1 a.2.2.2.2.2.2.2.2.2.2.2.2.2.2.2.2.2.2.2.2.2.2.2.2.2.2.2.2.2.2.2.2.2.2.2.1 a.2.2.2.2.2.2.2.2.2.2.2.2.2.2.2.2.2.2.2.2.2.2.2.2.2.2.2.2.2.2.2.2.2.2.2.2.1 a.2.2.2.2.2.2.2.2.2.2.2.2.2.2.2.2.2.2.2.2.2.2.2.2.2.2.2.2.2.2.2.2.2.2.2.2.2.1 a.2.2.2.2.2.2.2.2.2.2.2.2.2.2.2.2.2.2.2.2.2.2.2.2.2.2.2.2.2.2.2.2.2.2.2.2.2.2.1 a.2.2.2.2.2.2.2.2.2.2.2.2.2.2.2.2.2.2.2.2.2.2.2.2.2.2.2.2.2.2.2.2.2.2.2.2.2.2.2.1 a.2.2.2.2.2.2.2.2.2.2.2.2.2.2.2.2.2.2.2.2.2.2.2.2.2.2.2.2.2.2.2.2.2.2.2.2.2.2.2.2.1 a.2.2.2.2.2.2.2.2.2.2.2.2.2.2.2.2.2.2.2.2.2.2.2.2.2.2.2.2.2.2.2.2.2.2.2.2.2.2.2.2.2.1 a.2.2.2.2.2.2.2.2.2.2.2.2.2.2.2.2.2.2.2.2.2.2.2.2.2.2.2.2.2.2.2.2.2.2.2.2.2.2.2.2.2.2.1 a.2.2.2.2.2.2.2.2.2.2.2.2.2.2.2.2.2.2.2.2.2.2.2.2.2.2.2.2.2.2.2.2.2.2.2.2.2.2.2.2.2.2.2.1 a.2.2.2.2.2.2.2.2.2.2.2.2.2.2.2.2.2.2.2.2.2.2.2.2.2.2.2.2.2.2.2.2.2.2.2.2.2.2.2.2.2.2.2.2.1 a.2.2.2.2.2.2.2.2.2.2.2.2.2.2.2.2.2.2.2.2.2.2.2.2.2.2.2.2.2.2.2.2.2.2.2.2.2.2.2.2.2.2.2.2.2.1 a.2.2.2.2.2.2.2.2.2.2.2.2.2.2.2.2.2.2.2.2.2.2.2.2.2.2.2.2.2.2.2.2.2.2.2.2.2.2.2.2.2.2.2.2.2.2.1 a.2.2.2.2.2.2.2.2.2.2.2.2.2.2.2.2.2.2.2.2.2.2.2.2.2.2.2.2.2.2.2.2.2.2.2.2.2.2.2.2.2.2.2.2.2.2.2:=by kernel_rfl
def eo:RCon En:=⟨0,93,cE,cD,dU,fun a=>bU a.1 a.2.1 a.2.2.1 a.2.2.2.1 a.2.2.2.2.1 a.2.2.2.2.2.1 a.2.2.2.2.2.2.1 a.2.2.2.2.2.2.2.1 a.2.2.2.2.2.2.2.2.1 a.2.2.2.2.2.2.2.2.2.1 a.2.2.2.2.2.2.2.2.2.2.1 a.2.2.2.2.2.2.2.2.2.2.2.1 a.2.2.2.2.2.2.2.2.2.2.2.2.1 a.2.2.2.2.2.2.2.2.2.2.2.2.2.1 a.2.2.2.2.2.2.2.2.2.2.2.2.2.2.1 a.2.2.2.2.2.2.2.2.2.2.2.2.2.2.2.1 a.2.2.2.2.2.2.2.2.2.2.2.2.2.2.2.2.1 a.2.2.2.2.2.2.2.2.2.2.2.2.2.2.2.2.2.1 a.2.2.2.2.2.2.2.2.2.2.2.2.2.2.2.2.2.2.1 a.2.2.2.2.2.2.2.2.2.2.2.2.2.2.2.2.2.2.2.1 a.2.2.2.2.2.2.2.2.2.2.2.2.2.2.2.2.2.2.2.2.1 a.2.2.2.2.2.2.2.2.2.2.2.2.2.2.2.2.2.2.2.2.2.1 a.2.2.2.2.2.2.2.2.2.2.2.2.2.2.2.2.2.2.2.2.2.2.1 a.2.2.2.2.2.2.2.2.2.2.2.2.2.2.2.2.2.2.2.2.2.2.2.1 a.2.2.2.2.2.2.2.2.2.2.2.2.2.2.2.2.2.2.2.2.2.2.2.2.1 a.2.2.2.2.2.2.2.2.2.2.2.2.2.2.2.2.2.2.2.2.2.2.2.2.2.1 a.2.2.2.2.2.2.2.2.2.2.2.2.2.2.2.2.2.2.2.2.2.2.2.2.2.2.1 a.2.2.2.2.2.2.2.2.2.2.2.2.2.2.2.2.2.2.2.2.2.2.2.2.2.2.2.1 a.2.2.2.2.2.2.2.2.2.2.2.2.2.2.2.2.2.2.2.2.2.2.2.2.2.2.2.2.1 a.2.2.2.2.2.2.2.2.2.2.2.2.2.2.2.2.2.2.2.2.2.2.2.2.2.2.2.2.2.1 a.2.2.2.2.2.2.2.2.2.2.2.2.2.2.2.2.2.2.2.2.2.2.2.2.2.2.2.2.2.2.1 a.2.2.2.2.2.2.2.2.2.2.2.2.2.2.2.2.2.2.2.2.2.2.2.2.2.2.2.2.2.2.2.1 a.2.2.2.2.2.2.2.2.2.2.2.2.2.2.2.2.2.2.2.2.2.2.2.2.2.2.2.2.2.2.2.2.1 a.2.2.2.2.2.2.2.2.2.2.2.2.2.2.2.2.2.2.2.2.2.2.2.2.2.2.2.2.2.2.2.2.2.1 a.2.2.2.2.2.2.2.2.2.2.2.2.2.2.2.2.2.2.2.2.2.2.2.2.2.2.2.2.2.2.2.2.2.2.1 a.2.2.2.2.2.2.2.2.2.2.2.2.2.2.2.2.2.2.2.2.2.2.2.2.2.2.2.2.2.2.2.2.2.2.2.1 a.2.2.2.2.2.2.2.2.2.2.2.2.2.2.2.2.2.2.2.2.2.2.2.2.2.2.2.2.2.2.2.2.2.2.2.2.1 a.2.2.2.2.2.2.2.2.2.2.2.2.2.2.2.2.2.2.2.2.2.2.2.2.2.2.2.2.2.2.2.2.2.2.2.2.2.1 a.2.2.2.2.2.2.2.2.2.2.2.2.2.2.2.2.2.2.2.2.2.2.2.2.2.2.2.2.2.2.2.2.2.2.2.2.2.2.1 a.2.2.2.2.2.2.2.2.2.2.2.2.2.2.2.2.2.2.2.2.2.2.2.2.2.2.2.2.2.2.2.2.2.2.2.2.2.2.2.1 a.2.2.2.2.2.2.2.2.2.2.2.2.2.2.2.2.2.2.2.2.2.2.2.2.2.2.2.2.2.2.2.2.2.2.2.2.2.2.2.2.1 a.2.2.2.2.2.2.2.2.2.2.2.2.2.2.2.2.2.2.2.2.2.2.2.2.2.2.2.2.2.2.2.2.2.2.2.2.2.2.2.2.2.1 a.2.2.2.2.2.2.2.2.2.2.2.2.2.2.2.2.2.2.2.2.2.2.2.2.2.2.2.2.2.2.2.2.2.2.2.2.2.2.2.2.2.2.1 a.2.2.2.2.2.2.2.2.2.2.2.2.2.2.2.2.2.2.2.2.2.2.2.2.2.2.2.2.2.2.2.2.2.2.2.2.2.2.2.2.2.2.2.1 a.2.2.2.2.2.2.2.2.2.2.2.2.2.2.2.2.2.2.2.2.2.2.2.2.2.2.2.2.2.2.2.2.2.2.2.2.2.2.2.2.2.2.2.2.1 a.2.2.2.2.2.2.2.2.2.2.2.2.2.2.2.2.2.2.2.2.2.2.2.2.2.2.2.2.2.2.2.2.2.2.2.2.2.2.2.2.2.2.2.2.2.1 a.2.2.2.2.2.2.2.2.2.2.2.2.2.2.2.2.2.2.2.2.2.2.2.2.2.2.2.2.2.2.2.2.2.2.2.2.2.2.2.2.2.2.2.2.2.2.1 a.2.2.2.2.2.2.2.2.2.2.2.2.2.2.2.2.2.2.2.2.2.2.2.2.2.2.2.2.2.2.2.2.2.2.2.2.2.2.2.2.2.2.2.2.2.2.2,Tryz.call93,fun a v h tmps cvs cs e1 e2 e3 e4=>J9 rfl bp rfl eu Tryz.func93 rfl ⟨rfl,rfl,rfl,rfl,by decide,rfl⟩ (by kernel_rfl) (by kernel_rfl) ((jk a).trans h) tmps cvs cs e1 e2 e3 e4,fun v vs=>by kernel_rfl⟩
def fa:List Sh:=[.ptr 0 0,.h (.tl .tu)]
def eZ:List (Nat×LSh):=q31
def iD:Tm:=⟨[(0,.rww 5 1)],[],[(5,.ls .tu),(6,.ls (.ti .i64)),(7,.ls (.ti .i32))],(sF 0++[(1,0,hj),(1,1,hi),(1,2,hi),(1,3,.h .tu),(1,4,.h .tu),(2,0,.h (.tk [197,218,219])),(2,1,hb),(2,2,hb),(2,3,hb),(2,4,hb),(2,5,hb),(2,6,hj),(2,7,.h .ts),(2,8,.rww 6 1),(2,9,.rww 7 1)]),[3,4]⟩
theorem mP (a:HT (Sh.hss fa++hsL eZ)) (b:Nat):DIr GTe ((cl [iX] [cX,gH]).on none (some b)) (eo.on none (some b)) Tryz.f19.ntmps Tryz.f19.results.toList (bw Tryz.f19) (sl (.seq (.seq (.reg [(1,oi 0)]) .leaf) (sl (sl (.seq (.seq (.reg [(2,oi 1)]) .leaf) (.seq (.reg [(6,{fz:=[(53,ap)],con:=0})]) .leaf)))))) fa eZ iD a=bH a.1 a.2.1 a.2.2.1 a.2.2.2.1 a.2.2.2.2.1 a.2.2.2.2.2.1 a.2.2.2.2.2.2.1 a.2.2.2.2.2.2.2.1 a.2.2.2.2.2.2.2.2.1 a.2.2.2.2.2.2.2.2.2.1 a.2.2.2.2.2.2.2.2.2.2.1 a.2.2.2.2.2.2.2.2.2.2.2.1 a.2.2.2.2.2.2.2.2.2.2.2.2.1 a.2.2.2.2.2.2.2.2.2.2.2.2.2.1 a.2.2.2.2.2.2.2.2.2.2.2.2.2.2.1 a.2.2.2.2.2.2.2.2.2.2.2.2.2.2.2.1 a.2.2.2.2.2.2.2.2.2.2.2.2.2.2.2.2.1 a.2.2.2.2.2.2.2.2.2.2.2.2.2.2.2.2.2.1 a.2.2.2.2.2.2.2.2.2.2.2.2.2.2.2.2.2.2.1 a.2.2.2.2.2.2.2.2.2.2.2.2.2.2.2.2.2.2.2.1 a.2.2.2.2.2.2.2.2.2.2.2.2.2.2.2.2.2.2.2.2.1 a.2.2.2.2.2.2.2.2.2.2.2.2.2.2.2.2.2.2.2.2.2.1 a.2.2.2.2.2.2.2.2.2.2.2.2.2.2.2.2.2.2.2.2.2.2.1 a.2.2.2.2.2.2.2.2.2.2.2.2.2.2.2.2.2.2.2.2.2.2.2.1 a.2.2.2.2.2.2.2.2.2.2.2.2.2.2.2.2.2.2.2.2.2.2.2.2.1 a.2.2.2.2.2.2.2.2.2.2.2.2.2.2.2.2.2.2.2.2.2.2.2.2.2.1 a.2.2.2.2.2.2.2.2.2.2.2.2.2.2.2.2.2.2.2.2.2.2.2.2.2.2.1 a.2.2.2.2.2.2.2.2.2.2.2.2.2.2.2.2.2.2.2.2.2.2.2.2.2.2.2.1 a.2.2.2.2.2.2.2.2.2.2.2.2.2.2.2.2.2.2.2.2.2.2.2.2.2.2.2.2.1 a.2.2.2.2.2.2.2.2.2.2.2.2.2.2.2.2.2.2.2.2.2.2.2.2.2.2.2.2.2.1 a.2.2.2.2.2.2.2.2.2.2.2.2.2.2.2.2.2.2.2.2.2.2.2.2.2.2.2.2.2.2.1 a.2.2.2.2.2.2.2.2.2.2.2.2.2.2.2.2.2.2.2.2.2.2.2.2.2.2.2.2.2.2.2.1 a.2.2.2.2.2.2.2.2.2.2.2.2.2.2.2.2.2.2.2.2.2.2.2.2.2.2.2.2.2.2.2.2.1 a.2.2.2.2.2.2.2.2.2.2.2.2.2.2.2.2.2.2.2.2.2.2.2.2.2.2.2.2.2.2.2.2.2.1 a.2.2.2.2.2.2.2.2.2.2.2.2.2.2.2.2.2.2.2.2.2.2.2.2.2.2.2.2.2.2.2.2.2.2.1 a.2.2.2.2.2.2.2.2.2.2.2.2.2.2.2.2.2.2.2.2.2.2.2.2.2.2.2.2.2.2.2.2.2.2.2.1 a.2.2.2.2.2.2.2.2.2.2.2.2.2.2.2.2.2.2.2.2.2.2.2.2.2.2.2.2.2.2.2.2.2.2.2.2.1 a.2.2.2.2.2.2.2.2.2.2.2.2.2.2.2.2.2.2.2.2.2.2.2.2.2.2.2.2.2.2.2.2.2.2.2.2.2.1 a.2.2.2.2.2.2.2.2.2.2.2.2.2.2.2.2.2.2.2.2.2.2.2.2.2.2.2.2.2.2.2.2.2.2.2.2.2.2.1 a.2.2.2.2.2.2.2.2.2.2.2.2.2.2.2.2.2.2.2.2.2.2.2.2.2.2.2.2.2.2.2.2.2.2.2.2.2.2.2.1 a.2.2.2.2.2.2.2.2.2.2.2.2.2.2.2.2.2.2.2.2.2.2.2.2.2.2.2.2.2.2.2.2.2.2.2.2.2.2.2.2.1 a.2.2.2.2.2.2.2.2.2.2.2.2.2.2.2.2.2.2.2.2.2.2.2.2.2.2.2.2.2.2.2.2.2.2.2.2.2.2.2.2.2.1 a.2.2.2.2.2.2.2.2.2.2.2.2.2.2.2.2.2.2.2.2.2.2.2.2.2.2.2.2.2.2.2.2.2.2.2.2.2.2.2.2.2.2.1 a.2.2.2.2.2.2.2.2.2.2.2.2.2.2.2.2.2.2.2.2.2.2.2.2.2.2.2.2.2.2.2.2.2.2.2.2.2.2.2.2.2.2.2.1 a.2.2.2.2.2.2.2.2.2.2.2.2.2.2.2.2.2.2.2.2.2.2.2.2.2.2.2.2.2.2.2.2.2.2.2.2.2.2.2.2.2.2.2.2.1 a.2.2.2.2.2.2.2.2.2.2.2.2.2.2.2.2.2.2.2.2.2.2.2.2.2.2.2.2.2.2.2.2.2.2.2.2.2.2.2.2.2.2.2.2.2.1 a.2.2.2.2.2.2.2.2.2.2.2.2.2.2.2.2.2.2.2.2.2.2.2.2.2.2.2.2.2.2.2.2.2.2.2.2.2.2.2.2.2.2.2.2.2.2.1 a.2.2.2.2.2.2.2.2.2.2.2.2.2.2.2.2.2.2.2.2.2.2.2.2.2.2.2.2.2.2.2.2.2.2.2.2.2.2.2.2.2.2.2.2.2.2.2:=by kernel_rfl
def jf:ICon En:=⟨19,fa,eZ,iD,fun a=>bH a.1 a.2.1 a.2.2.1 a.2.2.2.1 a.2.2.2.2.1 a.2.2.2.2.2.1 a.2.2.2.2.2.2.1 a.2.2.2.2.2.2.2.1 a.2.2.2.2.2.2.2.2.1 a.2.2.2.2.2.2.2.2.2.1 a.2.2.2.2.2.2.2.2.2.2.1 a.2.2.2.2.2.2.2.2.2.2.2.1 a.2.2.2.2.2.2.2.2.2.2.2.2.1 a.2.2.2.2.2.2.2.2.2.2.2.2.2.1 a.2.2.2.2.2.2.2.2.2.2.2.2.2.2.1 a.2.2.2.2.2.2.2.2.2.2.2.2.2.2.2.1 a.2.2.2.2.2.2.2.2.2.2.2.2.2.2.2.2.1 a.2.2.2.2.2.2.2.2.2.2.2.2.2.2.2.2.2.1 a.2.2.2.2.2.2.2.2.2.2.2.2.2.2.2.2.2.2.1 a.2.2.2.2.2.2.2.2.2.2.2.2.2.2.2.2.2.2.2.1 a.2.2.2.2.2.2.2.2.2.2.2.2.2.2.2.2.2.2.2.2.1 a.2.2.2.2.2.2.2.2.2.2.2.2.2.2.2.2.2.2.2.2.2.1 a.2.2.2.2.2.2.2.2.2.2.2.2.2.2.2.2.2.2.2.2.2.2.1 a.2.2.2.2.2.2.2.2.2.2.2.2.2.2.2.2.2.2.2.2.2.2.2.1 a.2.2.2.2.2.2.2.2.2.2.2.2.2.2.2.2.2.2.2.2.2.2.2.2.1 a.2.2.2.2.2.2.2.2.2.2.2.2.2.2.2.2.2.2.2.2.2.2.2.2.2.1 a.2.2.2.2.2.2.2.2.2.2.2.2.2.2.2.2.2.2.2.2.2.2.2.2.2.2.1 a.2.2.2.2.2.2.2.2.2.2.2.2.2.2.2.2.2.2.2.2.2.2.2.2.2.2.2.1 a.2.2.2.2.2.2.2.2.2.2.2.2.2.2.2.2.2.2.2.2.2.2.2.2.2.2.2.2.1 a.2.2.2.2.2.2.2.2.2.2.2.2.2.2.2.2.2.2.2.2.2.2.2.2.2.2.2.2.2.1 a.2.2.2.2.2.2.2.2.2.2.2.2.2.2.2.2.2.2.2.2.2.2.2.2.2.2.2.2.2.2.1 a.2.2.2.2.2.2.2.2.2.2.2.2.2.2.2.2.2.2.2.2.2.2.2.2.2.2.2.2.2.2.2.1 a.2.2.2.2.2.2.2.2.2.2.2.2.2.2.2.2.2.2.2.2.2.2.2.2.2.2.2.2.2.2.2.2.1 a.2.2.2.2.2.2.2.2.2.2.2.2.2.2.2.2.2.2.2.2.2.2.2.2.2.2.2.2.2.2.2.2.2.1 a.2.2.2.2.2.2.2.2.2.2.2.2.2.2.2.2.2.2.2.2.2.2.2.2.2.2.2.2.2.2.2.2.2.2.1 a.2.2.2.2.2.2.2.2.2.2.2.2.2.2.2.2.2.2.2.2.2.2.2.2.2.2.2.2.2.2.2.2.2.2.2.1 a.2.2.2.2.2.2.2.2.2.2.2.2.2.2.2.2.2.2.2.2.2.2.2.2.2.2.2.2.2.2.2.2.2.2.2.2.1 a.2.2.2.2.2.2.2.2.2.2.2.2.2.2.2.2.2.2.2.2.2.2.2.2.2.2.2.2.2.2.2.2.2.2.2.2.2.1 a.2.2.2.2.2.2.2.2.2.2.2.2.2.2.2.2.2.2.2.2.2.2.2.2.2.2.2.2.2.2.2.2.2.2.2.2.2.2.1 a.2.2.2.2.2.2.2.2.2.2.2.2.2.2.2.2.2.2.2.2.2.2.2.2.2.2.2.2.2.2.2.2.2.2.2.2.2.2.2.1 a.2.2.2.2.2.2.2.2.2.2.2.2.2.2.2.2.2.2.2.2.2.2.2.2.2.2.2.2.2.2.2.2.2.2.2.2.2.2.2.2.1 a.2.2.2.2.2.2.2.2.2.2.2.2.2.2.2.2.2.2.2.2.2.2.2.2.2.2.2.2.2.2.2.2.2.2.2.2.2.2.2.2.2.1 a.2.2.2.2.2.2.2.2.2.2.2.2.2.2.2.2.2.2.2.2.2.2.2.2.2.2.2.2.2.2.2.2.2.2.2.2.2.2.2.2.2.2.1 a.2.2.2.2.2.2.2.2.2.2.2.2.2.2.2.2.2.2.2.2.2.2.2.2.2.2.2.2.2.2.2.2.2.2.2.2.2.2.2.2.2.2.2.1 a.2.2.2.2.2.2.2.2.2.2.2.2.2.2.2.2.2.2.2.2.2.2.2.2.2.2.2.2.2.2.2.2.2.2.2.2.2.2.2.2.2.2.2.2.1 a.2.2.2.2.2.2.2.2.2.2.2.2.2.2.2.2.2.2.2.2.2.2.2.2.2.2.2.2.2.2.2.2.2.2.2.2.2.2.2.2.2.2.2.2.2.1 a.2.2.2.2.2.2.2.2.2.2.2.2.2.2.2.2.2.2.2.2.2.2.2.2.2.2.2.2.2.2.2.2.2.2.2.2.2.2.2.2.2.2.2.2.2.2.1 a.2.2.2.2.2.2.2.2.2.2.2.2.2.2.2.2.2.2.2.2.2.2.2.2.2.2.2.2.2.2.2.2.2.2.2.2.2.2.2.2.2.2.2.2.2.2.2,Tryz.call19,fun a v h=>Ic (C:=(cl [iX] [cX,gH])) (con:=eo) (g:=.tmp 13) (ps:=#[14]) bp rfl eu Tryz.func19 rfl (by kernel_rfl) rfl rfl ⟨rfl,rfl,rfl,rfl⟩ fun b=>(mP a b).trans h⟩
def sL:=mkP 32 Tryz.f32 Tryz.call32 Tryz.func32 noC (sl (sl (.seq (.blk (.loop ⟨[(3,hi)],(rg 9 32),[],[],[]⟩ [(.exit 0,⟨[(3,hi)],(rg 9 32),[],[],[]⟩)] (.seq (jb 38 (rg 9 29) (.reg [(2,sp),(11,sp),(20,sp),(29,sp)]) .leaf) .leaf))) (sl (.seq (sl (.blk (.loop ⟨[(4,.rww 0 1),(5,hi)],([6]++rg 41 41),[(0,.ls (.ti .i32))],[],[]⟩ [(.exit 2,⟨[(4,.rww 0 1)],([5,6]++rg 41 41),[(0,.ls (.ti .i32))],[],[]⟩)] (.seq (js 43 [41,42] 2 .leaf) (.join ⟨[(4,.rww 1 1)],([6]++rg 46 36),[(1,.ls (.ti .i32))],[],[0]⟩ (.blk (.seq (js 51 (rg 46 5) 5 .leaf) (sl (sl (.blk (.loop ⟨[(4,.rww 3 1),(6,hi)],(rg 59 23),[(3,.ls (.ti .i32))],[],[2]⟩ [(.exit 4,⟨[(4,.rww 3 1)],([6]++rg 59 23),[(3,.ls (.ti .i32))],[],[2]⟩)] (.seq (js 61 [60] 1 .leaf) (.join ⟨[(4,.rww 4 1)],(rg 64 18),[(4,.ls (.ti .i32))],[],[3]⟩ (.blk (jb 71 (rg 64 7) (.reg [(5,{sel:=true}),(7,sp)]) (.cond (.reg [(6,{sel:=true})]) .leaf))) .leaf)))))))) .leaf))))) .leaf))))) [hl] (.h (.tl (.ti .i32))) kU
def nL:=mkI 73 Tryz.f73 Tryz.call73 Tryz.func73 noC .leaf [.ptr 0 0] [(0,.cs [hj,hi,hi,.h .tu,.h .tu])] ⟨[(0,hi)],[],[],[],[]⟩ (fun a=>gf a.2.1)
def oZ:=mkI 74 Tryz.f74 Tryz.call74 Tryz.func74 noC (sl (.seq (.reg [(7,{fz:=[(9,.tn)]})]) .leaf)) [.ptr 0 0] [(0,.cs [.h (.tk [197,218,219]),hb,hb,hb,hb,hb,hj,.h .ts,.rww 1 1,.rww 2 1]),(1,.ls (.ti .i64)),(2,.ls (.ti .i32))] ⟨[(0,hb)],[],[],[],[]⟩ (fun a=>iN a.1)
def jd:=mkI 27 Tryz.f27 Tryz.call27 Tryz.func27 (cl [] [cX,nL,oZ]) (sl (.seq (.reg [(1,oi 0),(8,oi 1),(10,sp),(15,oi 2)]) .leaf)) [.ptr 0 0] q31 ⟨[(0,hb)],[],[],[],[]⟩ (fun a=>ci a.2.2.2.2.2.2.2.2.2.2.2.2.2.2.2.2.2.2.2.2.2.2.2.2.2.2.2.2.2.2.2.2.2.1 a.2.2.2.2.2.2.2.2.2.2.2.2.2.2.2.2.2.2.2.2.2.2.2.2.2.2.2.2.2.2.2.2.2.2.2.2.2.1 a.2.2.2.2.2.2.2.2.2.2.2.2.2.2.2.2.2.2.2.2.2.2.2.2.2.2.2.2.2.2.2.2.2.2.2.2.2.2.2.2.2.2.2.2.2.1 a.2.2.2.2.2.2.2.2.2.2.2.2.2.2.2.2.2.2.2.2.2.2.2.2.2.2.2.2.2.2.2.2.2.2.2.2.2.2.2.2.2.2.2.2.2.2)
theorem qL (a:HT (Sh.hss [])):DF En GTe (cl [sL] [qT,ml,je,g6,jf,jd]) Tryz.f9.ntmps Tryz.f9.results.toList (bw Tryz.f9) (sl (.seq (.reg [(0,{io:=some 0,alt:=some 1})]) (sl (.seq (.reg [(3,{fz:=[(19,.tu)],io:=some 2})]) (.seq (.reg [(1,oi 3)]) (.seq (.reg [(3,{fz:=[(25,.tu)],io:=some 4})]) (.seq (.reg [(1,oi 3)]) (.seq (jb 47 (rg 29 18) (.reg [(4,sp),(9,sp),(14,sp),(18,sp)]) .leaf) (.seq (.reg [(4,cn 0),(7,sp),(12,cn 0),(16,sp),(21,sp),(27,sp),(29,oi 5)]) .leaf))))))))) [] hb a=gq:=by kernel_rfl
def rC:PCon En:=⟨9,[],hb,fun a=>gS,Tryz.call9,fun a v h=>Ie rfl bp rfl eu Tryz.func9 rfl rfl (by decide) ((qL a).trans (pu h))⟩
def rm:=mkP 124 Tryz.f124 Tryz.call124 Tryz.func124 noC (sl (.seq (js 10 (rg 6 4) 4 .leaf) (.seq (sl (.blk (.loop ⟨[(13,hi)],([5]++rg 14 12),[],[],[]⟩ [(.ret,⟨[(4,.k (.bool false))],([5]++rg 13 13),[],[],[]⟩),(.exit 0,⟨[],([5]++rg 13 13),[],[],[]⟩)] (js 14 [] 0 (sl (.seq (.blk (sl (js 24 (rg 16 8) 8 .leaf))) .leaf)))))) .leaf))) [hl,hl] hb (u2 gO)
def yH:=mkP 123 Tryz.f123 Tryz.call123 Tryz.func123 (cl [rm] []) (sl (.seq (.reg [(2,cn 0)]) .leaf)) [hl,hl] hb (u2 pF)
def nP:=mkP 122 Tryz.f122 Tryz.call122 Tryz.func122 (cl [yH] []) (sl (.seq (js 14 (rg 10 4) 4 .leaf) (.seq (sl (.blk (.loop ⟨[(17,hi)],([7,8,9]++rg 18 14),[],[],[]⟩ [(.ret,⟨[(6,.k (.bool false))],([7,8,9]++rg 17 15),[],[],[]⟩),(.exit 0,⟨[],([7,8,9]++rg 17 15),[],[],[]⟩)] (js 18 [] 0 (sl (.seq (.blk (sl (sl (jb 30 (rg 26 4) (.reg [(3,cn 0),(4,sp)]) .leaf)))) .leaf)))))) .leaf))) [hg,hg,.fn 123 []] hb (u2 d9)
def B7:=mkP 75 Tryz.f75 Tryz.call75 Tryz.func75 (cl [nP] []) (sl (.seq (sl (.blk (.loop ⟨[(3,hi)],(rg 4 15),[],[],[]⟩ [(.ret,⟨[(2,.k (.bool false))],(rg 3 16),[],[],[]⟩),(.exit 0,⟨[],(rg 3 16),[],[],[]⟩)] (.seq (js 7 [4,5,6] 3 .leaf) (.seq (.blk (jb 18 (rg 10 8) (.reg [(7,cn 0),(8,sp)]) .leaf)) .leaf))))) .leaf)) [.h (.tl (.tl (.tl (.tp (.ti .i32) aa))))] hb nz
def rk:=mkP 76 Tryz.f76 Tryz.call76 Tryz.func76 noC (sl (.seq (js 10 (rg 6 4) 4 .leaf) (.seq (sl (.blk (.loop ⟨[(13,hi)],([5]++rg 14 12),[],[],[]⟩ [(.ret,⟨[(4,.k (.bool false))],([5]++rg 13 13),[],[],[]⟩),(.exit 0,⟨[],([5]++rg 13 13),[],[],[]⟩)] (js 14 [] 0 (sl (.seq (.blk (sl (js 24 (rg 16 8) 8 .leaf))) .leaf)))))) .leaf))) [.h (.tl (.ti .i32)),.h (.tl (.ti .i32))] hb (u2 gN)
def yy:=mkP 28 Tryz.f28 Tryz.call28 Tryz.func28 (cl [B7,rk] []) (sl (.seq (jb 28 (rg 5 23) (.reg [(5,cn 0),(7,sp),(13,cn 0),(16,sp),(21,cn 1),(23,sp)]) .leaf) (.seq (.reg [(5,sp),(12,sp),(19,sp),(26,sp),(33,sp),(40,sp),(47,sp),(54,sp),(61,sp),(68,sp)]) .leaf))) [hS,hS] hb (u2 kC)
def n5:=mkP 6 Tryz.f6 Tryz.call6 Tryz.func6 (cl [rC,yy,jv] [qT,ml,je,jf,g6,jd]) (sl (.seq (jb 18 [17] (.reg [(0,cn 0),(1,sp)]) .leaf) (.seq (jb 58 (rg 19 39) (.reg [(2,sp),(6,sp),(10,sp),(14,sp),(19,sp),(23,sp),(29,sp),(34,sp),(39,sp)]) .leaf) (.seq (.reg [(2,{io:=some 0,alt:=some 1})]) (.seq (.reg [(2,{io:=some 0,alt:=some 1})]) (sl (.seq (.reg [(2,oi 2)]) (.seq (.reg [(4,oi 2)]) (.seq (.reg [(6,oi 3)]) (.seq (.reg [(5,oi 3)]) (.seq (.reg [(3,sp),(5,oi 4),(7,oi 4),(8,cn 1),(10,sp),(12,oi 5),(14,oi 5),(17,sp),(19,oi 4),(20,cn 2)]) .leaf))))))))))) [hi,hi,.h (.tl .tu),hi,hi] hb (u5 gr)
end Go.SH
namespace Go.SH
open Go.RowKit
def av0:Nat->Prop:=avo (fun _=>False) sig0 []
theorem A0 (β:Nat):¬av0 β:=by
 rintro (h | h)
 ·exact h
 ·exact avz h
theorem FG {E:Env} {f:FuncId} {args:List PV} (h:Pure E f args (.bool true)) (w:World) (cargs:Array Value) (hl:cargs.size=args.length)
  (hv:∀(i:Nat) (x:PV) (u:Value),args[i]?=some x->cargs[i]?=some u->VR w sig0 av0 x u)
  (hg:∀g cells,lget E.G g=some cells->VR w sig0 av0 (.rop cells 0) (.pointer (some ⟨g,0,none⟩))) :
  Calls E.P f cargs w fun e w'=>e = .returned (.bool true)/\Below w.heap.size w w':=by
 have:=h (fun _=>False) w sig0 cargs.toList (by simpa using hl) (fun i x u hx hu=>hv i x u hx (by simpa using hu)) (BR0 fun _ h=>h.elim) hg
 refine this.mono ?_
 rintro e w' ⟨r,c,L',σ',rfl,⟨rfl,rfl⟩,hvr,_,hgr⟩
 cases hvr
 refine ⟨rfl,hgr.out.1,hgr.out.2.2,hgr.out.2.1,hgr.size,fun k hk=>(hgr.keep k hk avz).2⟩
theorem Gs {w:World} {k:IntKind} {g:Nat} {zs:List Int} (hg:g<w.heap.size) (h:∀i,i<zs.length->w.cell? ⟨g,i,none⟩=some (.int k (zs.getD i 0))) :
  VR w sig0 av0 (.rop (fl (eI k) zs) 0) (.pointer (some ⟨g,0,none⟩)):=by
 refine .rop (off:=0) (add:=0) (zs.map fun z=>.int k z) ⟨hg,A0 _,fun i v hi=>?_⟩ (by simp [bD,eI]) (fun i y v hy hv=>?_)
 ·simp only [List.getElem?_map,Option.map_eq_some_iff] at hi
  obtain ⟨z,hz',rfl⟩:=hi
  have hi2:i<zs.length:=(List.getElem?_eq_some_iff.1 hz').1
  rw [Nat.zero_add,h i hi2]
  simp [List.getD,hz']
 ·simp only [List.getElem?_map,Option.map_eq_some_iff] at hv
  obtain ⟨z,hz',rfl⟩:=hv
  have:=AD (e:=eI k) (k:=0) hz' Nat.zero_lt_one
  simp [eI] at this
  simp only [eI] at hy
  rw [this] at hy
  simp at hy;subst hy
  exact .int _ _
inductive VRs (w:World) (σ:Sig) (av:Nat->Prop):List PV->List Value->Prop where
 | nil:VRs w σ av [] []
 | cons {x:PV} {v:Value} {xs:List PV} {vs:List Value} (h:VR w σ av x v) (r:VRs w σ av xs vs):VRs w σ av (x::xs) (v::vs)
theorem VRs.get {w:World} {σ:Sig} {av:Nat->Prop} {xs:List PV} {cs:List Value} (h:VRs w σ av xs cs):xs.length=cs.length/\∀(i:Nat) (x:PV) (v:Value),xs[i]?=some x->cs[i]?=some v->VR w σ av x v:=by
 induction h with
 | nil=>simp
 | cons h _ ih=>
  refine ⟨by simp [ih.1],fun i x v hx hv=>?_⟩
  cases i with
  | zero=>simp at hx hv;subst hx;subst hv;exact h
  | succ i=>exact ih.2 i x v (by simpa using hx) (by simpa using hv)
theorem Dv {E:Env} {f:FuncId} {args:List PV} (h:Pure E f args (.bool true)) (w:World) (cargs:List Value) (hv:VRs w sig0 av0 args cargs)
  (hg:∀g cells,lget E.G g=some cells->VR w sig0 av0 (.rop cells 0) (.pointer (some ⟨g,0,none⟩))) :
  Calls E.P f cargs.toArray w fun e w'=>e = .returned (.bool true)/\Below w.heap.size w w':=
 FG h w cargs.toArray (by simpa using hv.get.1.symm) (fun i x u hx hu=>hv.get.2 i x u hx (by simpa using hu)) hg
end Go.SH
set_option maxRecDepth 100000
namespace Go.SH
theorem EP (k:IntKind) (zs:List Int):fl (eI k) zs=zs.map (PV.int k):=by
 induction zs with
 | nil=>rfl
 | cons z r ih=>rw [cj,ih];rfl
theorem HW {α:Type} (s:Nat):∀(n:Nat) (cs:List α) (f:Nat->List α),cs.length=n*s->(∀i,i<n->(cs.drop (i*s)).take s=f i)->cs=(List.range n).flatMap f
 | 0,cs,f,h,_=>by simp at h;simp [h]
 | n+1,cs,f,h,hf=>by
  have h0:=hf 0 (by omega)
  simp only [Nat.zero_mul,List.drop_zero] at h0
  have ih:=HW s n (cs.drop s) (fun i=>f (i+1)) (by rw [List.length_drop,h,Nat.succ_mul];omega) (fun i hi=>by
   have:=hf (i+1) (by omega)
   rw [List.drop_drop,<-this];congr 2;rw [Nat.succ_mul];omega)
  rw [List.range_succ_eq_map,List.flatMap_cons,List.flatMap_map,<-ih,<-h0,List.take_append_drop]
theorem yR {H:Type} {enc:TypeId×Value->H} {P:Program} {w:World} {base:Nat} {sp:Nat->Bool} {held:Bool} {fuel:Nat} {t e e2:TypeId} {n s:Nat} {k:IntKind} {cs:List Value} {rows:List (List Int)} {p:List MemPlace}
  (ht:P.underlying t=some (.array n e)) (he:P.underlying e=some (.array s e2)) (he2:P.underlying e2=some (.int k)) (hc2:P.cellsOf e2=1) (hce:P.cellsOf e=s) (hct:P.cellsOf t=n*s)
  (h:DataW.trod enc P w base sp held fuel t cs=some (.agg (rows.map (Lib.tabData k)),p)):cs=(List.range n).flatMap fun i=>(rows.getD i []).map (Value.int k):=by
 cases fuel with
 | zero=>simp [DataW.trod] at h
 | succ fuel=>
  simp only [DataW.trod,ht,hce,hct] at h
  split at h
  ·rename_i hl
   obtain ⟨xs,hm,hx⟩:=Option.map_eq_some_iff.1 h
   have hxs:xs.map (·.1)=rows.map fun zs=>(Lib.tabData k zs:DataW H):=by
    have:=congrArg Prod.fst hx
    simpa using this
   have hxl:xs.length=n:=by simpa using Lib.mapM_length hm
   have hrl:rows.length=n:=by
    have:=congrArg List.length hxs
    simp at this
    omega
   refine HW s n cs _ hl fun i hi=>?_
   obtain ⟨b,hb,hf⟩:=Lib.mapM_at hm i i (by simp [hi])
   have h2:(xs.map (·.1))[i]?=some b.1:=by simp [hb]
   rw [hxs] at h2
   simp only [List.getElem?_map,Option.map_eq_some_iff] at h2
   obtain ⟨zs,hz,hzb⟩:=h2
   obtain ⟨b1,b2⟩:=b
   simp only at hzb;subst hzb
   rw [List.getD_eq_getElem?_getD,hz,Option.getD_some]
   exact Lib.cells_of_tab he he2 hc2 hce hf
  ·cases h
end Go.SH
namespace Go.SH
open Go.RowKit Go.ChangeShapes
theorem Gt {P:Program} {W:World} {n:String} {cs:Array Value} {g:Nat} (h:W.var? P n=some cs) (hg:P.globalNamed n=some g):∃T fr,W.heap[g]?=some (.cells cs T fr):=by
 unfold World.var? at h
 rw [hg] at h
 simp only [Option.bind_some] at h
 split at h
 ·rename_i c T fr e
  simp at h;subst h
  exact ⟨T,fr,e⟩
 ·cases h
theorem rop1 {W:World} {g:Nat} {x:PV} {v:Value} {c:Array Value} {T:TypeId} {fr:Nat×Nat} (hh:W.heap[g]?=some (.cells c T fr)) (h0:c[0]?=some v) (hv:VR W sig0 av0 x v) :
  VR W sig0 av0 (.rop [x] 0) (.pointer (some ⟨g,0,none⟩)):=
 .rop (add:=0) [v] ⟨(Array.getElem?_eq_some_iff.1 hh).1,A0 _,fun i u hi=>by
  cases i with
  | zero=>simp at hi;subst hi;simp [World.cell?,hh,h0]
  | succ i=>simp at hi⟩ rfl fun i y u hy hu=>by
  cases i with
  | zero=>simp at hy hu;subst hy;subst hu;exact hv
  | succ i=>simp at hy
end Go.SH
namespace Go.Proofs.YtaaolcldpfcikaaGreatDoor
open Go.ChangeShapes Go.WideShapes Go.ChangeAt Go.RowKit Go.Joins Go.SH
theorem own:ownKnob Tryz.prog.godebug=none:=by kernel_rfl
theorem td:laidOutB Tryz.prog=true:=by kernel_rfl
def zA:List Int:=bc.flatMap fun e=>[e.1,e.2.1,e.2.2]
def zz:List Int:=kr.map fun x=>(x.toNat:Int)
def xA:List (String×DataW Unit):=Rows.emuNoneRow.laid
theorem gB:Tryz.prog.globalNamed "oriel/cols.bounds" = some 0:=by kernel_rfl
theorem tB:(Tryz.prog.globals[0]?).map (·.type)=some 193:=by kernel_rfl
theorem gP:Tryz.prog.globalNamed "internal/strconv.uint64pow10" = some 1:=by kernel_rfl
theorem tP:(Tryz.prog.globals[1]?).map (·.type)=some 219:=by kernel_rfl
theorem gD:Tryz.prog.globalNamed "math/bits.deBruijn64tab" = some 2:=by kernel_rfl
theorem tD:(Tryz.prog.globals[2]?).map (·.type)=some 230:=by kernel_rfl
def JV:List (List Int):=bc.map fun e=>[e.1,e.2.1,e.2.2]
theorem CD:(Rows.laid_oriel_cols_bounds:DataW Unit) = .agg (JV.map (Lib.tabData .i32)):=by kernel_rfl
theorem HS:(Rows.laid_math_bits_deBruijn64tab:DataW Unit)=Lib.tabData .u8 zz:=by kernel_rfl
theorem IM:(Rows.laid_internal_strconv_uint64pow10:DataW Unit)=Lib.tabData .u64 Lib.pow10Tab:=by kernel_rfl
theorem CE:((List.range 22).flatMap fun i=>(JV.getD i []).map (Value.int .i32))=zA.map fun z=>Value.int .i32 z:=by kernel_rfl
theorem I2:xA=[("math/bits.deBruijn32tab",Rows.laid_math_bits_deBruijn32tab),("math/bits.deBruijn64tab",Rows.laid_math_bits_deBruijn64tab),("internal/strconv.uint64pow10",Rows.laid_internal_strconv_uint64pow10),("oriel/cols.bounds",Rows.laid_oriel_cols_bounds)]:=by kernel_rfl
theorem HC (os:Os) (args:Array Value):laidMetH Tryz.prog xA ((World.doorLaid Tryz.prog 400 os).forCall (fun _ _=>0) ⟨#[],args,[]⟩).memory:=
 laidMetH_of_parts3 (fuel:=8) (laidMet_of_run' 8 (by kernel_rfl) (by kernel_rfl)) (by kernel_rfl) (by kernel_rfl)
theorem IU {W:World} (h:laidMetH Tryz.prog xA W):(∀i,i<zA.length->W.cell? ⟨0,i,none⟩=some (.int .i32 (zA.getD i 0)))/\(∀i,i<zz.length->W.cell? ⟨2,i,none⟩=some (.int .u8 (zz.getD i 0)))/\∃T fr,W.heap[1]?=some (.cells p10T.toArray T fr):=by
 rw [MakeChecks.laidMetH_plain _ _ _ (by kernel_rfl),I2] at h
 obtain ⟨ps,⟨g3,t3,cs3,f3,p3,q3,hg3,ht3,hv3,hd3,⟨g0,t0,cs0,f0,p0,q0,hg0,ht0,hv0,hd0,⟨g2,t2,cs2,f2,p2,q2,hg2,ht2,hv2,hd2,⟨g1,t1,cs1,f1,p1,q1,hg1,ht1,hv1,hd1,_,_⟩,_⟩,_⟩,_⟩,_,_⟩:=h
 obtain rfl:=Option.some.inj (gD.symm.trans hg0)
 obtain rfl:=Option.some.inj (tD.symm.trans ht0)
 obtain rfl:=Option.some.inj (gB.symm.trans hg1)
 obtain rfl:=Option.some.inj (tB.symm.trans ht1)
 obtain rfl:=Option.some.inj (gP.symm.trans hg2)
 obtain rfl:=Option.some.inj (tP.symm.trans ht2)
 rw [HS] at hd0
 rw [CD] at hd1
 rw [IM] at hd2
 have hc0:cs0.toList=zz.map fun z=>Value.int .u8 z:=Lib.cells_of_tab (k:=.u8) Tryz.underlying230 Tryz.underlying5 (by kernel_rfl) (by kernel_rfl) hd0
 have hc1:cs1.toList=zA.map fun z=>Value.int .i32 z:=(yR (k:=.i32) Tryz.underlying193 Tryz.underlying192 Tryz.underlying21 (by kernel_rfl) (by kernel_rfl) (by kernel_rfl) hd1).trans CE
 have hc2:cs2.toList=Lib.pow10Tab.map fun z=>Value.int .u64 z:=Lib.cells_of_tab (k:=.u64) Tryz.underlying219 Tryz.underlying35 (by kernel_rfl) (by kernel_rfl) hd2
 have i0:Lib.TabIs Tryz.prog W "math/bits.deBruijn64tab" .u8 zz:=by unfold Lib.TabIs;rw [hv0,<-hc0]
 have i1:Lib.TabIs Tryz.prog W "oriel/cols.bounds" .i32 zA:=by unfold Lib.TabIs;rw [hv1,<-hc1]
 obtain ⟨T,fr,hh⟩:=Gt hv2 gP
 have:cs2=p10T.toArray:=by apply Array.toList_inj.1;rw [hc2];rfl
 subst this
 exact ⟨fun i hi=>i1.cell gB i hi,fun i hi=>i0.cell gD i hi,T,fr,hh⟩
theorem D9 {W:World} (h:laidMetH Tryz.prog xA W):∀g cells,lget En.G g=some cells->VR W sig0 av0 (.rop cells 0) (.pointer (some ⟨g,0,none⟩)):=by
 intro g cells hg
 obtain ⟨h1,h2,T,fr,h3⟩:=IU h
 have hz:∀(g:Nat) (v:Value),W.cell? ⟨g,0,none⟩=some v->g<W.heap.size:=by
  intro g v hv
  rcases Nat.lt_or_ge g W.heap.size with h' | h'
  ·exact h'
  ·simp [World.cell?,Array.getElem?_eq_none h'] at hv
 have hg':lget (gtPV GTe) g=some cells:=hg
 have cellsB:(gtPV GTe)=[(0,zA.map (PV.int .i32)),(2,zz.map (PV.int .u8)),(1,[.xc 1 p10T])]:=by kernel_rfl
 rw [cellsB] at hg'
 simp only [lget] at hg'
 split at hg'
 ·rename_i e;subst e
  simp at hg';subst hg'
  have:=Gs (k:=.i32) (hz 0 _ (h1 0 (by decide))) h1
  rw [EP] at this;exact this
 ·split at hg'
  ·rename_i e;subst e
   simp at hg';subst hg'
   have:=Gs (k:=.u8) (hz 2 _ (h2 0 (by decide))) h2
   rw [EP] at this;exact this
  ·split at hg'
   ·rename_i e;subst e
    simp at hg';subst hg'
    exact rop1 (v:=.int .u64 1) h3 (by kernel_rfl) (.xc 1 p10T T fr _ rfl (A0 _) h3)
   ·simp at hg'
end Go.Proofs.YtaaolcldpfcikaaGreatDoor
namespace Go.SH
def ET.wf:(t:ET)->t.T->Prop
 | .ti k,x=>(Lit.int k x).wf=true
 | .tp a c,x=>a.wf x.1/\c.wf x.2
 | .tl t,l=>(∀x∈l,t.wf x)/\l.length<=maxLen
 | _,_=>True
def BP (P:Program) (tot:Nat):Nat->List Field->Bool
 | o,[]=>o==tot
 | o,f::r=>(f.offset==o)&&BP P tot (o+P.cellsOf f.type) r
inductive Fit (P:Program):ET->List TypeId->Prop where
 | int {k:IntKind} {τ:TypeId} (h:P.underlying τ=some (.int k)):Fit P (.ti k) [τ]
 | u8 {τ:TypeId} (h:P.underlying τ=some (.int .u8)):Fit P .tu [τ]
 | bool {τ:TypeId} (h:P.underlying τ=some .bool):Fit P .tb [τ]
 | slice {t:ET} {τ e:TypeId} (h:P.underlying τ=some (.slice e)) (hs:P.cellsOf e=t.sz) (f:Fit P t [e]):Fit P (.tl t) [τ]
 | struct {t:ET} {τ:TypeId} {fs:Array Field} (h:P.underlying τ=some (.struct fs)) (ho:BP P (P.cellsOf τ) 0 fs.toList=true) (f:Fit P t (fs.toList.map (·.type))):Fit P t [τ]
 | array {t:ET} {τ e:TypeId} {n:Nat} (h:P.underlying τ=some (.array n e)) (hz:P.cellsOf τ=n*P.cellsOf e) (f:Fit P t (List.replicate n e)):Fit P t [τ]
 | cons {a c:ET} {τ τ':TypeId} {τs:List TypeId} (f:Fit P a [τ]) (g:Fit P c (τ'::τs)):Fit P (.tp a c) (τ::τ'::τs)
section
variable {H:Type} {enc:TypeId×Value->H} {P:Program} {w:World} {base:Nat} {sp:Nat->Bool} {held:Bool}
def CI (enc:TypeId×Value->H) (P:Program) (w:World) (base:Nat) (sp:Nat->Bool) (held:Bool):List TypeId->List Value->Prop
 | [],cs=>cs=[]
 | τ::r,cs=>(∃fuel x,DataW.trod enc P w base sp held fuel τ (cs.take (P.cellsOf τ))=some x)/\CI enc P w base sp held r (cs.drop (P.cellsOf τ))
theorem lw {τ:TypeId} {cs:List Value} (h:CI enc P w base sp held [τ] cs):∃fuel x,DataW.trod enc P w base sp held fuel τ cs=some x:=by
 obtain ⟨⟨f,x,hx⟩,hd⟩:=h
 have hd':cs.drop (P.cellsOf τ)=[]:=hd
 have:cs.take (P.cellsOf τ)=cs:=List.take_of_length_le (by simpa using hd')
 rw [this] at hx
 exact ⟨f,x,hx⟩
theorem VRs.append {w:World} {σ:Sig} {av:Nat->Prop} {xs ys:List PV} {cs ds:List Value} (h:VRs w σ av xs cs) (h':VRs w σ av ys ds):VRs w σ av (xs++ys) (cs++ds):=by
 induction h with
 | nil=>exact h'
 | cons h _ ih=>exact .cons h ih
theorem sD {n:Nat} {tot:Nat} {cs:List Value} (hl:cs.length=tot):∀(l:List Field) (o:Nat),BP P tot o l=true->(∀f∈l,∃x,DataW.trod enc P w base sp held n f.type ((cs.drop f.offset).take (P.cellsOf f.type))=some x) ->
  CI enc P w base sp held (l.map (·.type)) (cs.drop o)
 | [],o,ho,_=>by
  have:o=tot:=by simpa [BP] using ho
  show cs.drop o=[]
  rw [this,<-hl,List.drop_length]
 | f::r,o,ho,h=>by
  simp only [BP,Bool.and_eq_true,beq_iff_eq] at ho
  obtain ⟨rfl,ho⟩:=ho
  obtain ⟨x,hx⟩:=h f (by simp)
  refine ⟨⟨n,x,hx⟩,?_⟩
  have:=sD hl r _ ho (fun g hg=>h g (by simp [hg]))
  rw [List.drop_drop]
  exact this
theorem zg {m n:Nat} {e:TypeId} {cs:List Value} (hl:cs.length=n*P.cellsOf e) (h:∀i,i<n->∃x,DataW.trod enc P w base sp held m e ((cs.drop (i*P.cellsOf e)).take (P.cellsOf e))=some x) :
  ∀(k i:Nat),i+k=n->CI enc P w base sp held (List.replicate k e) (cs.drop (i*P.cellsOf e))
 | 0,i,hi=>by
  have:i=n:=by omega
  subst this
  show cs.drop _=[]
  rw [<-hl,List.drop_length]
 | k+1,i,hi=>by
  obtain ⟨x,hx⟩:=h i (by omega)
  refine ⟨⟨m,x,hx⟩,?_⟩
  have:=zg hl h k (i+1) (by omega)
  rw [List.drop_drop]
  rw [Nat.succ_mul] at this
  exact this
variable [SentA]
theorem xS {t:ET} {s β:Nat}:∀(n off:Nat),(∀i,i<n->∃(v:t.T) (cs:List Value),cs.length=s/\(∀j,j<s->w.cell? ⟨β,off+(i*s+j),none⟩=cs[j]?)/\VRs w sig0 av0 ((el t).pv v) cs/\t.wf v) ->
  ∃(l:List t.T) (cs:List Value),l.length=n/\cs.length=n*s/\(∀j,j<n*s->w.cell? ⟨β,off+j,none⟩=cs[j]?)/\VRs w sig0 av0 (fl (el t) l) cs/\∀x∈l,t.wf x
 | 0,off,_=>⟨[],[],rfl,by simp,fun j hj=>by simp at hj,.nil,fun x hx=>by simp at hx⟩
 | n+1,off,h=>by
  obtain ⟨v,cs,h1,h2,h3,h4⟩:=h 0 (by omega)
  obtain ⟨l,ds,k1,k2,k3,k4,k5⟩:=xS n (off+s) fun i hi=>by
   obtain ⟨v',cs',q1,q2,q3⟩:=h (i+1) (by omega)
   refine ⟨v',cs',q1,fun j hj=>?_,q3⟩
   rw [<-q2 j hj]
   congr 2
   rw [Nat.succ_mul];omega
  refine ⟨v::l,cs++ds,by simp [k1],by rw [List.length_append,h1,k2,Nat.succ_mul];omega,fun j hj=>?_,by rw [cj];exact h3.append k4,fun x hx=>?_⟩
  ·by_cases hj2:j<s
   ·rw [List.getElem?_append_left (by omega),<-h2 j hj2]
    congr 2;omega
   ·rw [List.getElem?_append_right (by omega),h1,<-k3 (j-s) (by rw [Nat.succ_mul] at hj;omega)]
    congr 2;omega
  ·rcases List.mem_cons.1 hx with rfl | hx
   ·exact h4
   ·exact k5 x hx
theorem Hr {t:ET} {τs:List TypeId} (hf:Fit P t τs):∀{cs:List Value},CI enc P w base sp held τs cs->∃v:t.T,VRs w sig0 av0 ((el t).pv v) cs/\t.wf v:=by
 induction hf with
 | int h=>
  intro cs hr
  obtain ⟨f,x,hx⟩:=lw hr
  obtain ⟨n,rfl,_,hw⟩:=DataW.trod_int h hx
  exact ⟨n,.cons (.int _ _) .nil,hw⟩
 | u8 h=>
  intro cs hr
  obtain ⟨f,x,hx⟩:=lw hr
  obtain ⟨n,rfl,_,hw⟩:=DataW.trod_int h hx
  have h1:IntKind.u8.min=0:=rfl
  have h2:IntKind.u8.max=255:=rfl
  simp only [Lit.wf,Bool.and_eq_true,decide_eq_true_eq,h1,h2] at hw
  refine ⟨UInt8.ofNat n.toNat,?_,trivial⟩
  have e:((UInt8.ofNat n.toNat).toNat:Int)=n:=by rw [UInt8.toNat_ofNat'];omega
  have:(el .tu).pv (UInt8.ofNat n.toNat)=[.int .u8 n]:=by
   show [PV.int .u8 ((UInt8.ofNat n.toNat).toNat:Int)]=_
   rw [e]
  rw [this]
  exact .cons (.int _ _) .nil
 | bool h=>
  intro cs hr
  obtain ⟨f,x,hx⟩:=lw hr
  obtain ⟨b,rfl,_⟩:=DataW.trod_bool h hx
  exact ⟨b,.cons (.bool _) .nil,trivial⟩
 | @slice t τ e h hs hf ih=>
  intro cs hr
  obtain ⟨f,x,hx⟩:=lw hr
  rcases DataW.trod_slice h hx with ⟨rfl,_⟩ | ⟨a,len,cap,elems,rest,n,_,rfl,_,hb,hl,hm,hlen,hel,_⟩
  ·exact ⟨[],.cons (.roE _ _ (by simp)) .nil,fun x hx=>by simp at hx,Nat.zero_le _⟩
  ·by_cases h0:len=0
   ·subst h0
    exact ⟨[],.cons (.roE _ _ (by simp)) .nil,fun x hx=>by simp at hx,Nat.zero_le _⟩
   ·have each:∀i,i<len->∃(v:t.T) (ds:List Value),ds.length=t.sz/\(∀j,j<t.sz->w.cell? ((a.add (i*t.sz)).add j)=ds[j]?)/\VRs w sig0 av0 ((el t).pv v) ds/\t.wf v:=by
     intro i hi
     have k:=hel i hi
     rw [List.getElem?_eq_getElem (by omega)] at k
     obtain ⟨ds,d1,d2⟩:=Option.bind_eq_some_iff.1 k
     obtain ⟨_,e1,e2⟩:=World.cells?_some d1
     rw [hs] at e1 e2
     obtain ⟨v,v1,v2⟩:=ih (cs:=ds) ⟨⟨n,_,by rw [List.take_of_length_le (by omega)];exact d2⟩,by show ds.drop _=[];rw [hs,<-e1,List.drop_length]⟩
     exact ⟨v,ds,e1,e2,v1,v2⟩
    obtain ⟨b,off,spot⟩:=a
    obtain ⟨v0,ds0,q1,q2,_⟩:=each 0 (by omega)
    have hpos:0<t.sz:=t.sz_pos
    have c0:=q2 0 hpos
    rw [List.getElem?_eq_getElem (by omega)] at c0
    have hspot:spot=none:=by simpa [Addr.add] using World.cell?_spot c0
    subst hspot
    obtain ⟨l,ds,l1,l2,l3,l4,l5⟩:=xS (w:=w) (t:=t) (s:=t.sz) (β:=b) len off fun i hi=>by
     obtain ⟨v,ds,q1,q2,q3⟩:=each i hi
     refine ⟨v,ds,q1,fun j hj=>?_,q3⟩
     rw [<-q2 j hj,Go.WideShapes.add_plain,Go.WideShapes.add_plain,Nat.add_assoc]
    have hlt:b<w.heap.size:=by
     have:=l3 0 (Nat.mul_pos (by omega) hpos)
     have hds:0<ds.length:=by rw [l2];exact Nat.mul_pos (by omega) hpos
     rw [List.getElem?_eq_getElem hds] at this
     rcases Nat.lt_or_ge b w.heap.size with h' | h'
     ·exact h'
     ·simp [World.cell?,Array.getElem?_eq_none h'] at this
    refine ⟨l,.cons ?_ .nil,l5,by omega⟩
    show VR w sig0 av0 (.ro (fl (el t) l) l.length none) _
    rw [l1]
    refine .ro ds ⟨hlt,A0 _,fun i v hi=>?_⟩ l4.get.1 l4.get.2 hl (by simp)
    have:i<ds.length:=(List.getElem?_eq_some_iff.1 hi).1
    rw [l3 i (by omega),hi]
 | struct h ho hf ih=>
  intro cs hr
  obtain ⟨f,x,hx⟩:=lw hr
  obtain ⟨xs,n,_,_,hl,hxl,hfs⟩:=DataW.trod_struct h hx
  refine ih ?_
  have:=sD (enc:=enc) (P:=P) (w:=w) (base:=base) (sp:=sp) (held:=held) (n:=n) hl _ 0 ho fun g hg=>by
   obtain ⟨i,hi,he⟩:=List.getElem_of_mem hg
   have hi':i<xs.length:=by rw [hxl];simpa using hi
   refine ⟨xs[i],?_⟩
   rw [hfs i g (by rw [<-he];simp at hi ⊢),List.getElem?_eq_getElem hi']
  simpa using this
 | @array t τ e n h hz hf ih=>
  intro cs hr
  obtain ⟨f,x,hx⟩:=lw hr
  obtain ⟨xs,m,_,_,hl,hxl,hfs⟩:=DataW.trod_array h hx
  refine ih ?_
  have:=zg (enc:=enc) (w:=w) (base:=base) (sp:=sp) (held:=held) (m:=m) (hl.trans hz) (fun i hi=>⟨xs[i]'(by omega),by rw [hfs i hi,List.getElem?_eq_getElem (by omega)]⟩) n 0 (by omega)
  simpa using this
 | @cons a c τ τ' τs hf hg ih1 ih2=>
  intro cs hr
  obtain ⟨⟨f,x,hx⟩,hd⟩:=hr
  by_cases hle:P.cellsOf τ<=cs.length
  ·obtain ⟨v,v1,v2⟩:=ih1 (cs:=cs.take (P.cellsOf τ)) ⟨⟨f,x,by rw [List.take_take,Nat.min_self];exact hx⟩,by show List.drop _ _=[];rw [List.drop_take,Nat.sub_self,List.take_zero]⟩
   obtain ⟨u,u1,u2⟩:=ih2 hd
   refine ⟨(v,u),?_,v2,u2⟩
   show VRs w sig0 av0 ((el a).pv v++(el c).pv u) cs
   have:=v1.append u1
   rwa [List.take_append_drop] at this
  ·have e1:cs.take (P.cellsOf τ)=cs:=List.take_of_length_le (by omega)
   obtain ⟨v,v1,v2⟩:=ih1 (cs:=cs) ⟨⟨f,x,hx⟩,by show cs.drop _=[];exact List.drop_eq_nil_of_le (by omega)⟩
   obtain ⟨u,u1,u2⟩:=ih2 hd
   rw [List.drop_eq_nil_of_le (by omega)] at u1
   refine ⟨(v,u),?_,v2,u2⟩
   show VRs w sig0 av0 ((el a).pv v++(el c).pv u) cs
   have:=v1.append u1
   rwa [List.append_nil] at this
end
end Go.SH
set_option maxRecDepth 100000
namespace Go.Proofs.YtaaolcldpfcikaaGreatDoor
open Go.ChangeShapes Go.WideShapes Go.ChangeAt Go.RowKit Go.Joins Go.SH
theorem Dh {H:Type} {enc:TypeId×Value->H} {W:World} {base:Nat} {v:Value} {d:DataW H} {p:List MemPlace} (hval:Value.okWide Tryz.prog W .any base 42 v) (h:DataW.Trod enc Tryz.prog W 0 (fun _=>true) true 42 v d p) :
  ∃l:List UInt8,VR W sig0 av0 (.ro (fl (el .tu) l) l.length none) v:=by
 obtain ⟨a,len,cap,rfl⟩:=okWide_slice Tryz.underlying42 hval
 obtain ⟨fuel,hf⟩:=h
 have hc:(Value.slice a len cap).cells.toList=[.slice a len cap]:=by simp [Value.cells]
 have h1:Tryz.prog.cellsOf 42=1:=by kernel_rfl
 rw [hc] at hf
 obtain ⟨l,h2,_⟩:=Hr (Fit.slice Tryz.underlying42 (by kernel_rfl) (.u8 Tryz.underlying5)) (cs:=[.slice a len cap]) ⟨⟨fuel,_,by rw [h1];exact hf⟩,by show List.drop _ _=[];rw [h1];rfl⟩
 cases h2 with
 | cons h r=>exact ⟨l,h⟩
end Go.Proofs.YtaaolcldpfcikaaGreatDoor
set_option maxRecDepth 100000
namespace Go.Proofs.YtaaolcldpfcikaaGreatDoor
open Go Go.ChangeShapes Go.WideShapes Go.ChangeAt Go.RowKit Go.Joins Go.SH
theorem Hd (a0:Int) (wf0:(Lit.int .i64 a0).wf=true) (a1:Int) (wf1:(Lit.int .i64 a1).wf=true) (a2:List UInt8) (a3:Int) (wf3:(Lit.int .i64 a3).wf=true) (a4:Int) (wf4:(Lit.int .i64 a4).wf=true):Pure En 6 [.int .i64 a0,.int .i64 a1,.ro (fl (el .tu) a2) a2.length none,.int .i64 a3,.int .i64 a4] (.bool true):=
 n5.ok (a0,a1,a2,a3,a4) true (BK a0 a1 a2 a3 a4)
theorem Du (os:Os) (started:os.Started) (H:Type) (enc:TypeId×Value->H) :
  ReturnsInHanded {} Tryz.checked os 6 .any (fun w args=>(Rows.emuPiecesSpec.pre enc Tryz.prog Tryz.f6 [] false w args/\laidMetH Tryz.prog xA w)/\sizedMet enc Tryz.prog Tryz.f6 (OpenSpec.ofChange Rows.emuPiecesSpec) false w args)
   (Rows.emuPiecesSpec.post enc Tryz.prog Tryz.f6 false true false false):=by
 refine returnsInHanded_of_change_and (C:=Tryz.checked) (X:=fun w _=>laidMetH Tryz.prog xA w) (fun _ _ _ hh h=>h.of_heap hh) own started (by kernel_rfl) Tryz.func6
  (ChangeSpec.witness_shaped (enc:=enc) (C:=Tryz.checked) (os:=os) (X:=fun w _=>laidMetH Tryz.prog xA w) false (World.doorLaid Tryz.prog 400 os) #[.int .i64 0,.int .i64 0,.slice none 0 0,.int .i64 0,.int .i64 0] 8 rfl (World.shaped_of_RefB (by kernel_rfl) (by kernel_rfl)) (by kernel_rfl) (by kernel_rfl) (by kernel_rfl) (HC os _)) ?_
 intro W base args ds gs before hval0 hW _ _ hL _
 have hval:∀(j:Nat) t v,Tryz.f6.params[j]?=some t->args[j]?=some v->Value.okWide Tryz.prog W .any base t v:=hval0
 have hW':=hW
 obtain ⟨p,q,hA0,hV,rfl,hfz,hnd⟩:=hW
 have hA:DataW.TrodAll enc Tryz.prog W 0 (fun _=>true) true Tryz.f6.params.toList args.toList ds p:=hA0
 rw [Tryz.params6] at hA hval
 obtain ⟨v0,vs0,d0,ds0,p0,q0,ha0,rfl,rfl,h0,hA⟩:=trodAll_cons hA
 obtain ⟨v1,vs1,d1,ds1,p1,q1,rfl,rfl,rfl,h1,hA⟩:=trodAll_cons hA
 obtain ⟨v2,vs2,d2,ds2,p2,q2,rfl,rfl,rfl,h2,hA⟩:=trodAll_cons hA
 obtain ⟨v3,vs3,d3,ds3,p3,q3,rfl,rfl,rfl,h3,hA⟩:=trodAll_cons hA
 obtain ⟨v4,vs4,d4,ds4,p4,q4,rfl,rfl,rfl,h4,hA⟩:=trodAll_cons hA
 obtain ⟨rfl,rfl,rfl⟩:=trodAll_nil hA
 have hargs:args=#[v0,v1,v2,v3,v4]:=by
  apply Array.toList_inj.1;rw [ha0]
 subst hargs
 obtain ⟨rfl,rfl⟩:=trodVars_none hV
 have ltp:∀{t:TypeId} {v:Value} {d:DataW H} {p:List MemPlace},DataW.Trod enc Tryz.prog W 0 (fun _=>true) true t v d p->∀x∈p,x.block<W.heap.size:=fun h=>by obtain ⟨m,hm⟩:=h;exact DataW.trod_lt m _ _ _ hm
 have hS:=D9 hL
 have h0':=h0
 obtain ⟨n0,rfl,rfl,rfl,w0⟩:=open_int Tryz.underlying3 (hval 0 3 v0 rfl rfl) h0'
 have hv0:VR W sig0 av0 (.int .i64 n0) (.int .i64 n0):=.int _ _
 have h1':=h1
 obtain ⟨n1,rfl,rfl,rfl,w1⟩:=open_int Tryz.underlying3 (hval 1 3 v1 rfl rfl) h1'
 have hv1:VR W sig0 av0 (.int .i64 n1) (.int .i64 n1):=.int _ _
 obtain ⟨n2,hv2⟩:=Dh (hval 2 42 v2 rfl rfl) h2
 have h3':=h3
 obtain ⟨n3,rfl,rfl,rfl,w3⟩:=open_int Tryz.underlying3 (hval 3 3 v3 rfl rfl) h3'
 have hv3:VR W sig0 av0 (.int .i64 n3) (.int .i64 n3):=.int _ _
 have h4':=h4
 obtain ⟨n4,rfl,rfl,rfl,w4⟩:=open_int Tryz.underlying3 (hval 4 3 v4 rfl rfl) h4'
 have hv4:VR W sig0 av0 (.int .i64 n4) (.int .i64 n4):=.int _ _
 refine (Dv (Hd n0 w0 n1 w1 n2 n3 w3 n4 w4) W [.int .i64 n0,.int .i64 n1,v2,.int .i64 n3,.int .i64 n4]
  (.cons hv0 (.cons hv1 (.cons hv2 (.cons hv3 (.cons hv4 .nil))))) hS).mono fun e W' ⟨he,bel⟩=>?_
 subst he
 exact ⟨_,rfl,_,_,_,[],_,[],hW',trodAll_mk1 (shut_bool Tryz.underlying4 _),
  (trodAll_cons_mk (Below.trod td (by kernel_rfl) (of_decide_eq_true (by kernel_rfl)) h0 bel (ltp h0)) (trodAll_cons_mk (Below.trod td (by kernel_rfl) (of_decide_eq_true (by kernel_rfl)) h1 bel (ltp h1)) (trodAll_cons_mk (Below.trod td (by kernel_rfl) (of_decide_eq_true (by kernel_rfl)) h2 bel (ltp h2)) (trodAll_cons_mk (Below.trod td (by kernel_rfl) (of_decide_eq_true (by kernel_rfl)) h3 bel (ltp h3)) (trodAll_cons_mk (Below.trod td (by kernel_rfl) (of_decide_eq_true (by kernel_rfl)) h4 bel (ltp h4)) trodAll_mk0))))),rfl,bel.frame _,fun h=>by cases h⟩
theorem I1:Rows.EmuPiecesSaid:=
 OpenClaim.holds_of_wide 6 Tryz.f6 rfl rfl rfl rfl rfl rfl rfl ⟨rfl,rfl,rfl,rfl,rfl⟩ rfl rfl rfl rfl rfl (by kernel_rfl) Tryz.func6 (by kernel_rfl)
  (of_decide_eq_true (by kernel_rfl)) (by unfold Func.isWrapper;first | (rw [if_pos (by decide +kernel)];kernel_rfl) | (rw [if_neg (by decide +kernel)];exact ⟨rfl,rfl⟩))
  (fun os started H enc _=>Du os started H enc)
theorem emu_pieces_holds:Rows.EmuPiecesCardSaid:=
 Claim7.holds_tied_plain_at .later [] [.data,.data,.data,.data] true (true,"142c0f2f96be348abb1f491eadbd570df9ca662900d8db9231022070097fb6e4") false
  I1 (fun _ h=>by cases h) (by kernel_rfl) (fun _ h=>by cases h) emuPieces_row_tie rfl ⟨rfl,rfl⟩ (by kernel_rfl) rfl
  (fun f fn hf hfn=>by
   obtain rfl:f=6:=Option.some.inj ((show Tryz.prog.funcNamed "oriel/oriellaw18.EmuPieces" = some 6 by kernel_rfl).symm.trans hf) |>.symm
   obtain rfl:fn=Tryz.f6:=(Option.some.inj (Tryz.func6.symm.trans hfn)).symm
   exact ⟨by kernel_rfl,fun j t ht=>by
    rw [Tryz.params6] at ht
    have hm:t∈[3,3,42,3,3]:=by simpa using Array.mem_of_getElem? ht
    have hall:([3,3,42,3,3].all fun u=>!Tryz.prog.wantsStandIn u)=true:=by kernel_rfl
    exact (show Tryz.prog.wantsStandIn t=false by simpa using List.all_eq_true.1 hall t hm)⟩)
  (by kernel_rfl)
end Go.Proofs.YtaaolcldpfcikaaGreatDoor
