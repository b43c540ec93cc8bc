/- Part 4 of: ScreenAny: any screen, any change, as the document. -/
import Derived.Test.YtfadcigdmddndaaGreatDoorC
import Derived.KernelRfl
set_option linter.unusedVariables false
set_option linter.unusedSimpArgs false
noncomputable section
set_option maxRecDepth 100000
namespace Go.SH
open IntKind (i64 u64 i32 u8)
abbrev zfP (x:(Int×Int×Int)×Int×Int×Int×((Int×Int×(Int×Int×Int)×Bool×Bool)×(Int×Int×(Int×Int×Int)×Bool×Bool))×(Int×Int×Int×Int)×List Int):Int×Int×Int×Int×Int×Int×Int×Int×Int×Int×Int×Bool×Bool×Int×Int×Int×Int×Int×Bool×Bool×Int×Int×Int×Int×List Int:=(x.1.1,x.1.2.1,x.1.2.2,x.2.1,x.2.2.1,x.2.2.2.1,x.2.2.2.2.1.1.1,x.2.2.2.2.1.1.2.1,x.2.2.2.2.1.1.2.2.1.1,x.2.2.2.2.1.1.2.2.1.2.1,x.2.2.2.2.1.1.2.2.1.2.2,x.2.2.2.2.1.1.2.2.2.1,x.2.2.2.2.1.1.2.2.2.2,x.2.2.2.2.1.2.1,x.2.2.2.2.1.2.2.1,x.2.2.2.2.1.2.2.2.1.1,x.2.2.2.2.1.2.2.2.1.2.1,x.2.2.2.2.1.2.2.2.1.2.2,x.2.2.2.2.1.2.2.2.2.1,x.2.2.2.2.1.2.2.2.2.2,x.2.2.2.2.2.1.1,x.2.2.2.2.2.1.2.1,x.2.2.2.2.2.1.2.2.1,x.2.2.2.2.2.1.2.2.2,x.2.2.2.2.2.2)
abbrev znP (x:Int×Int×Int×Int×Int×Int×Int×Int×Int×Int×Int×Bool×Bool×Int×Int×Int×Int×Int×Bool×Bool×Int×Int×Int×Int×List Int):(Int×Int×Int)×Int×Int×Int×((Int×Int×(Int×Int×Int)×Bool×Bool)×(Int×Int×(Int×Int×Int)×Bool×Bool))×(Int×Int×Int×Int)×List Int:=((x.1,x.2.1,x.2.2.1),x.2.2.2.1,x.2.2.2.2.1,x.2.2.2.2.2.1,((x.2.2.2.2.2.2.1,x.2.2.2.2.2.2.2.1,(x.2.2.2.2.2.2.2.2.1,x.2.2.2.2.2.2.2.2.2.1,x.2.2.2.2.2.2.2.2.2.2.1),x.2.2.2.2.2.2.2.2.2.2.2.1,x.2.2.2.2.2.2.2.2.2.2.2.2.1),x.2.2.2.2.2.2.2.2.2.2.2.2.2.1,x.2.2.2.2.2.2.2.2.2.2.2.2.2.2.1,(x.2.2.2.2.2.2.2.2.2.2.2.2.2.2.2.1,x.2.2.2.2.2.2.2.2.2.2.2.2.2.2.2.2.1,x.2.2.2.2.2.2.2.2.2.2.2.2.2.2.2.2.2.1),x.2.2.2.2.2.2.2.2.2.2.2.2.2.2.2.2.2.2.1,x.2.2.2.2.2.2.2.2.2.2.2.2.2.2.2.2.2.2.2.1),(x.2.2.2.2.2.2.2.2.2.2.2.2.2.2.2.2.2.2.2.2.1,x.2.2.2.2.2.2.2.2.2.2.2.2.2.2.2.2.2.2.2.2.2.1,x.2.2.2.2.2.2.2.2.2.2.2.2.2.2.2.2.2.2.2.2.2.2.1,x.2.2.2.2.2.2.2.2.2.2.2.2.2.2.2.2.2.2.2.2.2.2.2.1),x.2.2.2.2.2.2.2.2.2.2.2.2.2.2.2.2.2.2.2.2.2.2.2.2)
abbrev zeP {v0 v1 v2 v3 v4 v5 v6 v7 v8 v9 v10 v11 v12 v13 v14 v15 v16 v17 v18 v19 v20 v21 v22 v23 v24:Type} (x:v0×v1×v2×v3×v4×v5×v6×v7×v8×v9×v10×v11×v12×v13×v14×v15×v16×v17×v18×v19×v20×v21×v22×v23×v24):v0×v1×v2×v3×v4×v5×v6×v7×v8×v9×v10×v11×v12×v13×v14×v15×v16×v17×v18×v19×v20×v21×v22×v23×v24:=(x.1,x.2.1,x.2.2.1,x.2.2.2.1,x.2.2.2.2.1,x.2.2.2.2.2.1,x.2.2.2.2.2.2.1,x.2.2.2.2.2.2.2.1,x.2.2.2.2.2.2.2.2.1,x.2.2.2.2.2.2.2.2.2.1,x.2.2.2.2.2.2.2.2.2.2.1,x.2.2.2.2.2.2.2.2.2.2.2.1,x.2.2.2.2.2.2.2.2.2.2.2.2.1,x.2.2.2.2.2.2.2.2.2.2.2.2.2.1,x.2.2.2.2.2.2.2.2.2.2.2.2.2.2.1,x.2.2.2.2.2.2.2.2.2.2.2.2.2.2.2.1,x.2.2.2.2.2.2.2.2.2.2.2.2.2.2.2.2.1,x.2.2.2.2.2.2.2.2.2.2.2.2.2.2.2.2.2.1,x.2.2.2.2.2.2.2.2.2.2.2.2.2.2.2.2.2.2.1,x.2.2.2.2.2.2.2.2.2.2.2.2.2.2.2.2.2.2.2.1,x.2.2.2.2.2.2.2.2.2.2.2.2.2.2.2.2.2.2.2.2.1,x.2.2.2.2.2.2.2.2.2.2.2.2.2.2.2.2.2.2.2.2.2.1,x.2.2.2.2.2.2.2.2.2.2.2.2.2.2.2.2.2.2.2.2.2.2.1,x.2.2.2.2.2.2.2.2.2.2.2.2.2.2.2.2.2.2.2.2.2.2.2.1,x.2.2.2.2.2.2.2.2.2.2.2.2.2.2.2.2.2.2.2.2.2.2.2.2)
abbrev zfK {r:Type} (x:(Int×Int×Int)×Int×Int×Int×((Int×Int×(Int×Int×Int)×Bool×Bool)×(Int×Int×(Int×Int×Int)×Bool×Bool))×(Int×Int×Int×Int)×List Int) (y:r):Int×Int×Int×Int×Int×Int×Int×Int×Int×Int×Int×Bool×Bool×Int×Int×Int×Int×Int×Bool×Bool×Int×Int×Int×Int×List Int×r:=(x.1.1,x.1.2.1,x.1.2.2,x.2.1,x.2.2.1,x.2.2.2.1,x.2.2.2.2.1.1.1,x.2.2.2.2.1.1.2.1,x.2.2.2.2.1.1.2.2.1.1,x.2.2.2.2.1.1.2.2.1.2.1,x.2.2.2.2.1.1.2.2.1.2.2,x.2.2.2.2.1.1.2.2.2.1,x.2.2.2.2.1.1.2.2.2.2,x.2.2.2.2.1.2.1,x.2.2.2.2.1.2.2.1,x.2.2.2.2.1.2.2.2.1.1,x.2.2.2.2.1.2.2.2.1.2.1,x.2.2.2.2.1.2.2.2.1.2.2,x.2.2.2.2.1.2.2.2.2.1,x.2.2.2.2.1.2.2.2.2.2,x.2.2.2.2.2.1.1,x.2.2.2.2.2.1.2.1,x.2.2.2.2.2.1.2.2.1,x.2.2.2.2.2.1.2.2.2,x.2.2.2.2.2.2,y)
abbrev znK {r:Type} (x:Int×Int×Int×Int×Int×Int×Int×Int×Int×Int×Int×Bool×Bool×Int×Int×Int×Int×Int×Bool×Bool×Int×Int×Int×Int×List Int×r):(Int×Int×Int)×Int×Int×Int×((Int×Int×(Int×Int×Int)×Bool×Bool)×(Int×Int×(Int×Int×Int)×Bool×Bool))×(Int×Int×Int×Int)×List Int:=((x.1,x.2.1,x.2.2.1),x.2.2.2.1,x.2.2.2.2.1,x.2.2.2.2.2.1,((x.2.2.2.2.2.2.1,x.2.2.2.2.2.2.2.1,(x.2.2.2.2.2.2.2.2.1,x.2.2.2.2.2.2.2.2.2.1,x.2.2.2.2.2.2.2.2.2.2.1),x.2.2.2.2.2.2.2.2.2.2.2.1,x.2.2.2.2.2.2.2.2.2.2.2.2.1),x.2.2.2.2.2.2.2.2.2.2.2.2.2.1,x.2.2.2.2.2.2.2.2.2.2.2.2.2.2.1,(x.2.2.2.2.2.2.2.2.2.2.2.2.2.2.2.1,x.2.2.2.2.2.2.2.2.2.2.2.2.2.2.2.2.1,x.2.2.2.2.2.2.2.2.2.2.2.2.2.2.2.2.2.1),x.2.2.2.2.2.2.2.2.2.2.2.2.2.2.2.2.2.2.1,x.2.2.2.2.2.2.2.2.2.2.2.2.2.2.2.2.2.2.2.1),(x.2.2.2.2.2.2.2.2.2.2.2.2.2.2.2.2.2.2.2.2.1,x.2.2.2.2.2.2.2.2.2.2.2.2.2.2.2.2.2.2.2.2.2.1,x.2.2.2.2.2.2.2.2.2.2.2.2.2.2.2.2.2.2.2.2.2.2.1,x.2.2.2.2.2.2.2.2.2.2.2.2.2.2.2.2.2.2.2.2.2.2.2.1),x.2.2.2.2.2.2.2.2.2.2.2.2.2.2.2.2.2.2.2.2.2.2.2.2.1)
def dC (a0:Int):Option (Bool):=bif decide (a0>=1) then some (decide (a0<=200)) else some false
def lO (a0:Int) (a1:Int):Option (Bool):=bif decide (a0>=0) then some (decide (a0<=a1)) else some false
def fD (a0:bg.T):Option (Bool):=(lO a0.1 255).bind fun x1=>bif x1 then (lO a0.2.1 256).bind fun x2=>bif x2 then (lO a0.2.2 256).bind fun x3=>some x3 else some false else some false
def hH (a0:bg.T):Option ((Int×aa.T)):=some (32,(0,0),0,0,0,a0.2.2)
def yq (a0:Int) (a1:Int):Option (Int×Int):=some (u64.wrap ((u64.wrap ((u64.wrap ((Int.fdiv a0 (2^32))*(Int.fdiv a1 (2^32))))+(Int.fdiv (u64.wrap ((u64.wrap ((Int.fdiv a0 (2^32))*(az .and .u64 a1 4294967295)))+(Int.fdiv (u64.wrap ((az .and .u64 a0 4294967295)*(az .and .u64 a1 4294967295))) (2^32)))) (2^32))))+(Int.fdiv (u64.wrap ((az .and .u64 (u64.wrap ((u64.wrap ((Int.fdiv a0 (2^32))*(az .and .u64 a1 4294967295)))+(Int.fdiv (u64.wrap ((az .and .u64 a0 4294967295)*(az .and .u64 a1 4294967295))) (2^32)))) 4294967295)+(u64.wrap ((az .and .u64 a0 4294967295)*(Int.fdiv a1 (2^32)))))) (2^32))),u64.wrap (a0*a1))
def pX (a0:Int) (a1:Int):Option (Int×Int):=(yq a0 a1).bind fun x1=>some (x1.1,x1.2)
def cM (x2:Int×Int) (x5:Int×(List (Int×aa.T))):Option ((((List (Int×aa.T))))⊕(Int×(List (Int×aa.T)))):=(bif decide (x5.1<(((i64.wrap x2.2).toNat:Nat):Int)) then some true else some false:Option (Bool)).bind fun x6=>bif x6 then req (0<=x5.1/\x5.1<=(((i64.wrap x2.2).toNat:Nat):Int)/\(((i64.wrap x2.2).toNat:Nat):Int)<=(((i64.wrap x2.2).toNat:Nat):Int)) <| req (0<=(0:Int)/\(0:Int)<=x5.1/\x5.1<=(((i64.wrap x2.2).toNat:Nat):Int)) <| req (x5.1.toNat+((i64.wrap x2.2).toNat-x5.1.toNat)<=x5.2.length) <| req (0+x5.1.toNat<=x5.2.length) <| some (.inr (i64.wrap (x5.1+((min ((x5.2.drop 0).take x5.1.toNat).length ((i64.wrap x2.2).toNat-x5.1.toNat):Nat):Int)),cpy x5.2 x5.1.toNat ((x5.2.drop 0).take x5.1.toNat) (min ((x5.2.drop 0).take x5.1.toNat).length ((i64.wrap x2.2).toNat-x5.1.toNat)))) else some (.inl x5.2)
def gQ (a0:List (Int×aa.T)) (a1:Int):Option ((List (Int×aa.T))):=(bif decide (a1<0) then some true else some false:Option (Bool)).bind fun x1=>bif x1 then none else (pX (u64.wrap (a0.length:Int)) (u64.wrap a1)).bind fun x2=>(bif decide (x2.1>0) then some true else bif decide (x2.2>9223372036854775807) then some true else some false:Option (Bool)).bind fun x3=>bif x3 then none else req (0<=(i64.wrap x2.2)/\(i64.wrap x2.2)<=(i64.wrap x2.2)/\(i64.wrap x2.2).toNat*48<=aS) <| req (0+((i64.wrap x2.2).toNat)<=(List.replicate ((i64.wrap x2.2).toNat) (0,(0,0),0,0,0,0):List (Int×aa.T)).length) <| (ap (cM x2) (((min a0.length ((i64.wrap x2.2).toNat):Nat):Int),cpy (List.replicate ((i64.wrap x2.2).toNat) (0,(0,0),0,0,0,0):List (Int×aa.T)) 0 a0 (min a0.length ((i64.wrap x2.2).toNat)))).bind fun x7=>req ((i64.wrap x2.2).toNat=x7.length) (some x7)
def fP (a0:Int) (a1:bg.T):Option ((List (Int×aa.T))):=(bif decide (a0<0) then some true else bif decide (a0>1000) then some true else (fD a1).bind fun x2=>bif !x2 then some true else some false:Option (Bool)).bind fun x3=>bif x3 then some ([]) else (hH a1).bind fun x4=>(gQ [x4] a0).bind fun x5=>some x5
def cT (a0:Int) (a1:Int) (a2:bg.T) (x11:Int×(List (List (Int×aa.T)))):Option ((((List (List (Int×aa.T)))))⊕(Int×(List (List (Int×aa.T))))):=(bif decide (x11.1<((a0.toNat:Nat):Int)) then some true else some false:Option (Bool)).bind fun x12=>bif x12 then (fP a1 a2).bind fun x13=>req (0<=x11.1/\x11.1<((a0.toNat:Nat):Int)) <| (x11.2[x11.1.toNat]?).bind fun x14=>some (.inr (i64.wrap (x11.1+1),x11.2.set x11.1.toNat x13)) else some (.inl x11.2)
def eO (a0:Int) (a1:Int) (a2:bg.T):Option ((List (List (Int×aa.T)))):=((dC a0).bind fun x4=>bif !x4 then some true else (dC a1).bind fun x5=>bif !x5 then some true else (fD a2).bind fun x6=>bif !x6 then some true else some false:Option (Bool)).bind fun x7=>bif x7 then some ([]) else req (0<=a0/\a0<=a0/\a0.toNat*24<=aS) <| (ap (cT a0 a1 a2) (0,(List.replicate a0.toNat []:List (List (Int×aa.T))))).bind fun x15=>req (a0.toNat=x15.length) (some x15)
def nh (a0:Int):Option (Bool):=bif decide (a0>=0) then some (decide (a0<200)) else some false
def gx (a0:Int×fa.T) (a1:Int):Option ((Int×fa.T)):=(((nh a1).bind fun x5=>bif x5 then some true else some false:Option (Bool)).bind fun x6=>bif x6 then bif (i64.wrap (Int.tdiv a1 64))==0 then req (0<=(Int.tmod a1 64)) <| bif (i64.wrap (Int.tdiv a1 64))==0 then some (az .or .u64 a0.1 (u64.wrap ((1:Int)*2^(min (Int.tmod a1 64).toNat 64))),a0.2.1,a0.2.2.1,a0.2.2.2) else bif (i64.wrap (Int.tdiv a1 64))==1 then some (a0.1,az .or .u64 a0.1 (u64.wrap ((1:Int)*2^(min (Int.tmod a1 64).toNat 64))),a0.2.2.1,a0.2.2.2) else bif (i64.wrap (Int.tdiv a1 64))==2 then some (a0.1,a0.2.1,az .or .u64 a0.1 (u64.wrap ((1:Int)*2^(min (Int.tmod a1 64).toNat 64))),a0.2.2.2) else bif (i64.wrap (Int.tdiv a1 64))==3 then some (a0.1,a0.2.1,a0.2.2.1,az .or .u64 a0.1 (u64.wrap ((1:Int)*2^(min (Int.tmod a1 64).toNat 64)))) else none else bif (i64.wrap (Int.tdiv a1 64))==1 then req (0<=(Int.tmod a1 64)) <| bif (i64.wrap (Int.tdiv a1 64))==0 then some (az .or .u64 a0.2.1 (u64.wrap ((1:Int)*2^(min (Int.tmod a1 64).toNat 64))),a0.2.1,a0.2.2.1,a0.2.2.2) else bif (i64.wrap (Int.tdiv a1 64))==1 then some (a0.1,az .or .u64 a0.2.1 (u64.wrap ((1:Int)*2^(min (Int.tmod a1 64).toNat 64))),a0.2.2.1,a0.2.2.2) else bif (i64.wrap (Int.tdiv a1 64))==2 then some (a0.1,a0.2.1,az .or .u64 a0.2.1 (u64.wrap ((1:Int)*2^(min (Int.tmod a1 64).toNat 64))),a0.2.2.2) else bif (i64.wrap (Int.tdiv a1 64))==3 then some (a0.1,a0.2.1,a0.2.2.1,az .or .u64 a0.2.1 (u64.wrap ((1:Int)*2^(min (Int.tmod a1 64).toNat 64)))) else none else bif (i64.wrap (Int.tdiv a1 64))==2 then req (0<=(Int.tmod a1 64)) <| bif (i64.wrap (Int.tdiv a1 64))==0 then some (az .or .u64 a0.2.2.1 (u64.wrap ((1:Int)*2^(min (Int.tmod a1 64).toNat 64))),a0.2.1,a0.2.2.1,a0.2.2.2) else bif (i64.wrap (Int.tdiv a1 64))==1 then some (a0.1,az .or .u64 a0.2.2.1 (u64.wrap ((1:Int)*2^(min (Int.tmod a1 64).toNat 64))),a0.2.2.1,a0.2.2.2) else bif (i64.wrap (Int.tdiv a1 64))==2 then some (a0.1,a0.2.1,az .or .u64 a0.2.2.1 (u64.wrap ((1:Int)*2^(min (Int.tmod a1 64).toNat 64))),a0.2.2.2) else bif (i64.wrap (Int.tdiv a1 64))==3 then some (a0.1,a0.2.1,a0.2.2.1,az .or .u64 a0.2.2.1 (u64.wrap ((1:Int)*2^(min (Int.tmod a1 64).toNat 64)))) else none else bif (i64.wrap (Int.tdiv a1 64))==3 then req (0<=(Int.tmod a1 64)) <| bif (i64.wrap (Int.tdiv a1 64))==0 then some (az .or .u64 a0.2.2.2 (u64.wrap ((1:Int)*2^(min (Int.tmod a1 64).toNat 64))),a0.2.1,a0.2.2.1,a0.2.2.2) else bif (i64.wrap (Int.tdiv a1 64))==1 then some (a0.1,az .or .u64 a0.2.2.2 (u64.wrap ((1:Int)*2^(min (Int.tmod a1 64).toNat 64))),a0.2.2.1,a0.2.2.2) else bif (i64.wrap (Int.tdiv a1 64))==2 then some (a0.1,a0.2.1,az .or .u64 a0.2.2.2 (u64.wrap ((1:Int)*2^(min (Int.tmod a1 64).toNat 64))),a0.2.2.2) else bif (i64.wrap (Int.tdiv a1 64))==3 then some (a0.1,a0.2.1,a0.2.2.1,az .or .u64 a0.2.2.2 (u64.wrap ((1:Int)*2^(min (Int.tmod a1 64).toNat 64)))) else none else none else some (a0.1,a0.2.1,a0.2.2.1,a0.2.2.2):Option (Int×Int×Int×Int)).bind fun x7=>some x7
def aY (a2:Int) (a1:Int) (x7:Int×Int×Int×Int×Int):Option (((Int×Int×Int×Int))⊕(Int×Int×Int×Int×Int)):=(bif decide (x7.1<(if (200:Int)<a2 then (200:Int) else a2)) then some true else some false:Option (Bool)).bind fun x8=>bif x8 then ((bif decide (x7.1>=a1) then some true else some false:Option (Bool)).bind fun x11=>bif x11 then (gx x7.2 x7.1).bind fun x12=>some (x12.1,x12.2.1,x12.2.2.1,x12.2.2.2) else some (x7.2.1,x7.2.2.1,x7.2.2.2.1,x7.2.2.2.2):Option (Int×Int×Int×Int)).bind fun x13=>some (.inr (i64.wrap (x7.1+8),x13.1,x13.2.1,x13.2.2.1,x13.2.2.2)) else some (.inl (x7.2.1,x7.2.2.1,x7.2.2.2.1,x7.2.2.2.2))
def cx (a0:Int×fa.T) (a1:Int) (a2:Int):Option ((Int×fa.T)):=(ap (aY a2 a1) (8,a0.1,a0.2.1,a0.2.2.1,a0.2.2.2)).bind fun x14=>some x14
def gh (a0:Int):Option ((Int×fa.T)):=(cx (0,0,0,0) 0 a0).bind fun x1=>some x1
def gX (a0:Int) (a1:Int):Option ((Int×Int×bJ.T)×Int):=(eO a0 a1 (0,0,0)).bind fun x1=>(bif ((x1.length:Nat):Int)==0 then some true else some false:Option (Bool)).bind fun x2=>bif x2 then some ((0,0,[],[],0,0,false,(0,0,0),0,0,0,((0,0,(0,0,0),false,false),0,0,(0,0,0),false,false),(0,0,0,0),[]),2) else (gh a1).bind fun x3=>req (x1.length=x1.length) (some ((a0,a1,x1,[],0,0,false,(0,0,0),0,i64.wrap (a0-1),9,((0,0,(0,0,0),false,false),0,0,(0,0,0),false,false),x3,[]),0))
def nc (a0:Int) (a1:Int):Option (Bool):=(getI bf a0).bind fun x1=>some (decide (x1.2.1>=a1))
def bQ (a1:Int) (x5:Int×Int):Option (((Int))⊕(Int×Int)):=(bif decide (x5.1<x5.2) then some true else some false:Option (Bool)).bind fun x6=>bif x6 then ((nc (i64.wrap (Int.fdiv (u64.wrap (i64.wrap (x5.1+x5.2))) (2^1))) a1).bind fun x8=>bif !x8 then some true else some false:Option (Bool)).bind fun x9=>bif x9 then some (.inr (i64.wrap ((i64.wrap (Int.fdiv (u64.wrap (i64.wrap (x5.1+x5.2))) (2^1)))+1),x5.2)) else some (.inr (x5.1,i64.wrap (Int.fdiv (u64.wrap (i64.wrap (x5.1+x5.2))) (2^1)))) else some (.inl x5.1)
def lh (a0:Int) (a1:Int):Option (Int):=(ap (bQ a1) (0,a0)).bind fun x10=>some x10
def j5 (a0:Int):Option (Int):=(bif decide (a0<32) then some true else bif decide (a0>=127) then bif decide (a0<160) then some true else bif decide (a0>=55296) then bif decide (a0<=57343) then some true else bif decide (a0>1114111) then some true else some false else bif decide (a0>1114111) then some true else some false else bif decide (a0>=55296) then bif decide (a0<=57343) then some true else bif decide (a0>1114111) then some true else some false else bif decide (a0>1114111) then some true else some false:Option (Bool)).bind fun x1=>bif x1 then some (-1) else (lh 22 a0).bind fun x2=>(bif decide (x2<22) then (getI bf x2).bind fun x4=>bif decide (x4.1<=a0) then some true else some false else some false:Option (Bool)).bind fun x5=>bif x5 then (getI bf x2).bind fun x6=>some (i64.wrap x6.2.2) else some 1
def mB (a0:Int×Int):Option (Bool):=(bif a0.1==0 then some true else some false:Option (Bool)).bind fun x1=>bif x1 then some (a0.2==0) else (j5 a0.1).bind fun x2=>bif x2==0 then bif a0.2==0 then some true else (j5 a0.2).bind fun x3=>some (x3==0) else some false
def tJ (a0:Int×aa.T):Option (Bool):=((bif a0.2.2.1==0 then some true else some false:Option (Bool)).bind fun x2=>bif x2 then some x2 else bif a0.2.2.1==1 then some true else some false:Option (Bool)).bind fun x3=>bif x3 then (fD a0.2.2.2).bind fun x4=>bif x4 then (j5 a0.1).bind fun x5=>bif x5==(i64.wrap (a0.2.2.1+1)) then (mB a0.2.1).bind fun x6=>some x6 else some false else some false else (bif a0.2.2.1==2 then some true else some false:Option (Bool)).bind fun x7=>bif x7 then (fD a0.2.2.2).bind fun x8=>bif x8 then some ((a0.1==0)&&(((a0.2.1.1==0)&&((a0.2.1.2==0)&&true))&&((a0.2.2.1==2)&&(((a0.2.2.2.1==a0.2.2.2.1)&&((a0.2.2.2.2.1==a0.2.2.2.2.1)&&((a0.2.2.2.2.2==a0.2.2.2.2.2)&&true)))&&true)))) else some false else some false
def hM (a0:List (Int×aa.T)) (x7:Int):Option (((Unit)⊕(Unit))⊕(Int)):=(bif decide (x7<(a0.length:Int)) then some true else some false:Option (Bool)).bind fun x8=>bif x8 then (getI a0 x7).bind fun x9=>(bif decide (x7>0) then (getI a0 (i64.wrap (x7-1))).bind fun x11=>some (x11.2.2.1==1) else some false:Option (Bool)).bind fun x12=>((tJ x9).bind fun x15=>bif !x15 then some true else bif !(x12==(x9.2.2.1==2)) then some true else bif x12 then (getI a0 (i64.wrap (x7-1))).bind fun x16=>bif !((x16.2.2.2.1==x9.2.2.2.1)&&((x16.2.2.2.2.1==x9.2.2.2.2.1)&&((x16.2.2.2.2.2==x9.2.2.2.2.2)&&true))) then some true else bif x9.2.2.1==1 then bif x7==(i64.wrap ((a0.length:Int)-1)) then some true else some false else some false else bif x9.2.2.1==1 then bif x7==(i64.wrap ((a0.length:Int)-1)) then some true else some false else some false:Option (Bool)).bind fun x17=>bif x17 then some (.inl (.inl ())) else some (.inr (i64.wrap (x7+1))) else some (.inl (.inr ()))
def kX (a0:List (Int×aa.T)):Option (Bool):=(bif decide ((a0.length:Int)>1000) then some true else some false:Option (Bool)).bind fun x1=>bif x1 then some false else (ap (hM a0) 0).bind fun o=>match o with | .inl _=>some false | .inr _=>some true
def jY (a0:List (Int×aa.T)) (a1:List (List (Int×aa.T))):Option (Bool):=(getI a1 0).bind fun x1=>bif (a0.length:Int) !=(x1.length:Int) then some true else (kX a0).bind fun x2=>some (!x2)
def cf (a0:List (List (Int×aa.T))) (a1:List (List (Int×aa.T))) (x7:Int):Option (((Int)⊕(Unit))⊕(Int)):=(bif decide (x7<(a0.length:Int)) then some true else some false:Option (Bool)).bind fun x8=>bif x8 then ((getI a0 x7).bind fun x11=>(jY x11 a1).bind fun x12=>bif x12 then some true else some false:Option (Bool)).bind fun x13=>bif x13 then some (.inl (.inl x7)) else some (.inr (i64.wrap (x7+1))) else some (.inl (.inr ()))
def gV (a0:List (List (Int×aa.T))) (a1:List (List (Int×aa.T))):Option (Int):=(ap (cf a0 a1) 0).bind fun o=>match o with | .inl x14=>some x14 | .inr _=>some (-1)
def dQ (a0:List (List (Int×aa.T))) (a1:List (List (Int×aa.T))):Option (Bool):=(gV a0 a1).bind fun x1=>some (decide (x1>=0))
def k8 (a0:List (List (Int×aa.T))):Option (Bool):=((dC (a0.length:Int)).bind fun x4=>bif !x4 then some true else (getI a0 0).bind fun x5=>(dC (x5.length:Int)).bind fun x6=>bif !x6 then some true else some false:Option (Bool)).bind fun x7=>bif x7 then some false else (dQ a0 a0).bind fun x8=>some (!x8)
def jK (a0:List (List (Int×aa.T))) (a1:Int×Int×bJ.T):Option (Bool):=(k8 a0).bind fun x1=>bif x1 then bif (a0.length:Int)==a1.1 then (getI a0 0).bind fun x2=>some ((x2.length:Int)==a1.2.1) else some false else some false
def eu (a0:Int) (a1:Int):Option (Bool):=bif decide (a0>=0) then some (decide (a0<a1)) else some false
def iY (a0:Int):Option (Bool):=bif decide (a0>=0) then some (decide (a0<200)) else some false
def kT (a0:Fj.T):Option (Bool):=(iY a0.1).bind fun x1=>bif x1 then (iY a0.2.1).bind fun x2=>bif x2 then (fD a0.2.2.1).bind fun x3=>some x3 else some false else some false
def li (a0:Int):Option (Bool):=(j5 a0).bind fun x1=>some (decide (x1<1))
def cg (a0:List Int) (x7:Int):Option (((Int)⊕(Unit))⊕(Int)):=(bif decide (x7<(a0.length:Int)) then some true else some false:Option (Bool)).bind fun x8=>bif x8 then ((getI a0 x7).bind fun x11=>(li x11).bind fun x12=>bif x12 then some true else some false:Option (Bool)).bind fun x13=>bif x13 then some (.inl (.inl x7)) else some (.inr (i64.wrap (x7+1))) else some (.inl (.inr ()))
def gW (a0:List Int):Option (Int):=(ap (cg a0) 0).bind fun o=>match o with | .inl x14=>some x14 | .inr _=>some (-1)
def fS (a0:List Int):Option (Bool):=(gW a0).bind fun x1=>some (decide (x1>=0))
def kG (a0:List Int):Option (Bool):=bif decide ((a0.length:Int)<=60) then (fS a0).bind fun x1=>some (!x1) else some false
def oy (a0:Int×Int×bJ.T):Option (Bool):=((jK a0.2.2.1 a0).bind fun x3=>bif !x3 then some true else bif !(((az .and .i64 a0.2.2.2.2.2.2.2.2.2.2.1 128) !=0)==(decide ((a0.2.2.2.1.length:Int)>0))) then some true else bif (az .and .i64 a0.2.2.2.2.2.2.2.2.2.2.1 128) !=0 then (jK a0.2.2.2.1 a0).bind fun x4=>bif !x4 then some true else some false else some false:Option (Bool)).bind fun x5=>bif x5 then some false else ((eu a0.2.2.2.2.1 a0.1).bind fun x9=>bif !x9 then some true else (eu a0.2.2.2.2.2.2.2.2.1 a0.1).bind fun x10=>bif !x10 then some true else (eu a0.2.2.2.2.2.2.2.2.2.1 a0.1).bind fun x11=>bif !x11 then some true else bif decide (a0.2.2.2.2.2.1<0) then some true else bif decide (a0.2.2.2.2.2.1>=a0.2.1) then some true else bif a0.2.2.2.2.2.2.1 then bif decide (a0.2.2.2.2.2.1<(i64.wrap (a0.2.1-1))) then some true else some false else some false:Option (Bool)).bind fun x12=>bif x12 then some false else (bif decide (a0.2.2.2.2.2.2.2.2.1>=a0.2.2.2.2.2.2.2.2.2.1) then bif decide (a0.1>1) then some true else bif decide (a0.2.2.2.2.2.2.2.2.2.2.1<0) then some true else bif decide (a0.2.2.2.2.2.2.2.2.2.2.1>255) then some true else some false else bif decide (a0.2.2.2.2.2.2.2.2.2.2.1<0) then some true else bif decide (a0.2.2.2.2.2.2.2.2.2.2.1>255) then some true else some false:Option (Bool)).bind fun x13=>bif x13 then some false else (fD a0.2.2.2.2.2.2.2.1).bind fun x14=>bif x14 then (kT a0.2.2.2.2.2.2.2.2.2.2.2.1.1).bind fun x15=>bif x15 then (kT a0.2.2.2.2.2.2.2.2.2.2.2.1.2).bind fun x16=>bif x16 then (kG a0.2.2.2.2.2.2.2.2.2.2.2.2.2).bind fun x17=>some x17 else some false else some false else some false
def kR (a0:List (Int×aa.T)):Option ((List (Int×aa.T))):=bif a0.isEmpty then p6 (some ([])) (req ((([]:List (Int×aa.T))++a0).length*48<=aS) <| req ((([]:List (Int×aa.T))++a0).length=(([]:List (Int×aa.T))++a0).length) (some (([]:List (Int×aa.T))++a0))) else req ((([]:List (Int×aa.T))++a0).length*48<=aS) <| req ((([]:List (Int×aa.T))++a0).length=(([]:List (Int×aa.T))++a0).length) (some (([]:List (Int×aa.T))++a0))
def fU (a0:List (Int×aa.T)):Option ((List (Int×aa.T))):=req (a0.length*48<=aS) (some a0)
theorem py (a0:List (Int×aa.T)) {v:((List (Int×aa.T)))} (h:fU a0=some v):kR a0=some v:=qD h
def bY (a0:List (List (Int×aa.T))) (x4:Int×(List (List (Int×aa.T)))):Option ((((List (List (Int×aa.T)))))⊕(Int×(List (List (Int×aa.T))))):=(bif decide (x4.1<(a0.length:Int)) then some true else some false:Option (Bool)).bind fun x5=>bif x5 then (getI a0 x4.1).bind fun x6=>(fU x6).bind fun x7=>req (x4.2.length=x4.2.length) <| req ((x4.2++[x7]).length*24<=aS) <| req ((x4.2++[x7]).length=(x4.2++[x7]).length) (some (.inr (i64.wrap (x4.1+1),x4.2++[x7]))) else req (x4.2.length=x4.2.length) (some (.inl x4.2))
def fC (a0:List (List (Int×aa.T))):Option ((List (List (Int×aa.T)))):=(ap (bY a0) (0,[])).bind fun x8=>req (x8.length=x8.length) (some x8)
def kQ (a0:List (Int×aa.T)):Option ((List (Int×aa.T))):=bif a0.isEmpty then p6 (some ([])) (req ((([]:List (Int×aa.T))++a0).length*48<=aS) <| req ((([]:List (Int×aa.T))++a0).length=(([]:List (Int×aa.T))++a0).length) (some (([]:List (Int×aa.T))++a0))) else req ((([]:List (Int×aa.T))++a0).length*48<=aS) <| req ((([]:List (Int×aa.T))++a0).length=(([]:List (Int×aa.T))++a0).length) (some (([]:List (Int×aa.T))++a0))
def km (a0:List (Int×aa.T)):Option ((List (Int×aa.T))):=req (a0.length*48<=aS) (some a0)
theorem px (a0:List (Int×aa.T)) {v:((List (Int×aa.T)))} (h:km a0=some v):kQ a0=some v:=qD h
def nv (a0:List (List (Int×aa.T))) (x4:Int×(List (List (Int×aa.T)))):Option ((((List (List (Int×aa.T)))))⊕(Int×(List (List (Int×aa.T))))):=(bif decide (x4.1<(a0.length:Int)) then some true else some false:Option (Bool)).bind fun x5=>bif x5 then (getI a0 x4.1).bind fun x6=>(km x6).bind fun x7=>req (x4.2.length=x4.2.length) <| req ((x4.2++[x7]).length*24<=aS) <| req ((x4.2++[x7]).length=(x4.2++[x7]).length) (some (.inr (i64.wrap (x4.1+1),x4.2++[x7]))) else req (x4.2.length=x4.2.length) (some (.inl x4.2))
def jL (a0:List (List (Int×aa.T))):Option ((List (List (Int×aa.T)))):=(ap (nv a0) (0,[])).bind fun x8=>req (x8.length=x8.length) (some x8)
def kP (a0:List Int):Option (List Int):=bif a0.isEmpty then p6 (some ([])) (req ((([]:List (Int))++a0).length*4<=aS) <| req ((([]:List (Int))++a0).length=(([]:List (Int))++a0).length) (some (([]:List (Int))++a0))) else req ((([]:List (Int))++a0).length*4<=aS) <| req ((([]:List (Int))++a0).length=(([]:List (Int))++a0).length) (some (([]:List (Int))++a0))
def fT (a0:List Int):Option (List Int):=req (a0.length*4<=aS) (some a0)
theorem pw {a0:List Int} {v:(List Int)} (h:fT a0=some v):kP a0=some v:=qD h
def bv (a0:Int) (a1:Int) (a2:Int):Option (Int):=some (if (if a2<a0 then a2 else a0)>a1 then (if a2<a0 then a2 else a0) else a1)
def kS (a0:List (Int×aa.T)):Option ((List (Int×aa.T))):=bif a0.isEmpty then p6 (some ([])) (req ((([]:List (Int×aa.T))++a0).length*48<=aS) <| req ((([]:List (Int×aa.T))++a0).length=(([]:List (Int×aa.T))++a0).length) (some (([]:List (Int×aa.T))++a0))) else req ((([]:List (Int×aa.T))++a0).length*48<=aS) <| req ((([]:List (Int×aa.T))++a0).length=(([]:List (Int×aa.T))++a0).length) (some (([]:List (Int×aa.T))++a0))
def bi (a0:List (Int×aa.T)):Option ((List (Int×aa.T))):=req (a0.length*48<=aS) (some a0)
theorem pz {a0:List (Int×aa.T)} {v:((List (Int×aa.T)))} (h:bi a0=some v):kS a0=some v:=qD h
def bP (x15:Int×aa.T) (x14:Int) (x4:(List (Int×aa.T))) (a2:Int) (x18:Int):Option ((((List (Int×aa.T))))⊕(Int)):=(bif decide (x18<2) then some true else some false:Option (Bool)).bind fun x19=>bif x19 then (bif x18==0 then some (x18,x15.2.1.1) else bif x18==1 then some (x18,x15.2.1.2) else none:Option (Int×Int)).bind fun x20=>(bif x20.2==0 then some true else some false:Option (Bool)).bind fun x21=>bif x21 then req (0<=x14/\x14<((x4.length:Nat):Int)) <| bif x20.1==0 then (x4[x14.toNat]?).bind fun x23=>some (.inl (x4.set x14.toNat (x23.1,(a2,x23.2.1.2),x23.2.2))) else bif x20.1==1 then (x4[x14.toNat]?).bind fun x22=>some (.inl (x4.set x14.toNat (x22.1,(x22.2.1.1,a2),x22.2.2))) else none else some (.inr (i64.wrap (x18+1))) else some (.inl x4)
def iZ (a0:List (Int×aa.T)) (a1:Int) (a2:Int):Option ((List (Int×aa.T))):=((kX a0).bind fun x2=>bif !x2 then some true else some false:Option (Bool)).bind fun x3=>bif x3 then some ([]) else (bi a0).bind fun x4=>(bif decide (a1<0) then some true else bif decide (a1>=(a0.length:Int)) then some true else (j5 a2).bind fun x6=>bif x6 !=0 then some true else some false:Option (Bool)).bind fun x7=>bif x7 then req (x4.length=x4.length) (some x4) else (((getI a0 a1).bind fun x12=>bif x12.2.2.1==2 then some true else some false:Option (Bool)).bind fun x13=>bif x13 then some (i64.wrap (a1-1)) else some a1:Option (Int)).bind fun x14=>req (0<=x14/\x14<((x4.length:Nat):Int)) <| (x4[x14.toNat]?).bind fun x15=>(ap (bP x15 x14 x4 a2) 0).bind fun x24=>req (x4.length=x24.length) (some x24)
def dt (a0:List (List (Int×aa.T))) (x5:Int×(List (List (Int×aa.T)))):Option ((((List (List (Int×aa.T)))))⊕(Int×(List (List (Int×aa.T))))):=(bif decide (x5.1<((a0.length:Nat):Int)) then some true else some false:Option (Bool)).bind fun x6=>bif x6 then req (0<=x5.1/\x5.1<((a0.length:Nat):Int)) <| (a0[x5.1.toNat]?).bind fun x7=>(fU x7).bind fun x8=>req (0<=x5.1/\x5.1<((((a0.length:Nat):Int).toNat:Nat):Int)) <| (x5.2[x5.1.toNat]?).bind fun x9=>some (.inr (i64.wrap (x5.1+1),x5.2.set x5.1.toNat x8)) else some (.inl x5.2)
def gF (a0:List (List (Int×aa.T))):Option ((List (List (Int×aa.T)))):=req (0<=((a0.length:Nat):Int)/\((a0.length:Nat):Int)<=((a0.length:Nat):Int)/\((a0.length:Nat):Int).toNat*24<=aS) <| (ap (dt a0) (0,(List.replicate (((a0.length:Nat):Int).toNat) []:List (List (Int×aa.T))))).bind fun x10=>req (((a0.length:Nat):Int).toNat=x10.length) (some x10)
def nk (x2:Int×Int) (x5:Int×(List (Int×aa.T))):Option ((((List (Int×aa.T))))⊕(Int×(List (Int×aa.T)))):=(bif decide (x5.1<(((i64.wrap x2.2).toNat:Nat):Int)) then some true else some false:Option (Bool)).bind fun x6=>bif x6 then req (0<=x5.1/\x5.1<=(((i64.wrap x2.2).toNat:Nat):Int)/\(((i64.wrap x2.2).toNat:Nat):Int)<=(((i64.wrap x2.2).toNat:Nat):Int)) <| req (0<=(0:Int)/\(0:Int)<=x5.1/\x5.1<=(((i64.wrap x2.2).toNat:Nat):Int)) <| req (x5.1.toNat+((i64.wrap x2.2).toNat-x5.1.toNat)<=x5.2.length) <| req (0+x5.1.toNat<=x5.2.length) <| some (.inr (i64.wrap (x5.1+((min ((x5.2.drop 0).take x5.1.toNat).length ((i64.wrap x2.2).toNat-x5.1.toNat):Nat):Int)),cpy x5.2 x5.1.toNat ((x5.2.drop 0).take x5.1.toNat) (min ((x5.2.drop 0).take x5.1.toNat).length ((i64.wrap x2.2).toNat-x5.1.toNat)))) else some (.inl x5.2)
def jE (a0:List (Int×aa.T)) (a1:Int):Option ((List (Int×aa.T))):=(bif decide (a1<0) then some true else some false:Option (Bool)).bind fun x1=>bif x1 then none else (pX (u64.wrap (a0.length:Int)) (u64.wrap a1)).bind fun x2=>(bif decide (x2.1>0) then some true else bif decide (x2.2>9223372036854775807) then some true else some false:Option (Bool)).bind fun x3=>bif x3 then none else req (0<=(i64.wrap x2.2)/\(i64.wrap x2.2)<=(i64.wrap x2.2)/\(i64.wrap x2.2).toNat*48<=aS) <| req (0+((i64.wrap x2.2).toNat)<=(List.replicate ((i64.wrap x2.2).toNat) (0,(0,0),0,0,0,0):List (Int×aa.T)).length) <| (ap (nk x2) (((min a0.length ((i64.wrap x2.2).toNat):Nat):Int),cpy (List.replicate ((i64.wrap x2.2).toNat) (0,(0,0),0,0,0,0):List (Int×aa.T)) 0 a0 (min a0.length ((i64.wrap x2.2).toNat)))).bind fun x7=>req ((i64.wrap x2.2).toNat=x7.length) (some x7)
def hU (a0:Int) (a1:bg.T):Option ((List (Int×aa.T))):=(bif decide (a0<0) then some true else bif decide (a0>1000) then some true else (fD a1).bind fun x2=>bif !x2 then some true else some false:Option (Bool)).bind fun x3=>bif x3 then some ([]) else (hH a1).bind fun x4=>(jE [x4] a0).bind fun x5=>some x5
def cE (x10:Nat×Nat×(List (List (Int×aa.T)))) (a4:List (List (Int×aa.T))) (a3:bg.T) (x15:Int×(List (List (Int×aa.T)))):Option ((((List (List (Int×aa.T)))))⊕(Int×(List (List (Int×aa.T))))):=(bif decide (x15.1<((x10.2.1:Nat):Int)) then some true else some false:Option (Bool)).bind fun x16=>bif x16 then req (0<=(0:Int)/\(0:Int)<((a4.length:Nat):Int)) <| (a4[(0:Int).toNat]?).bind fun x17=>(hU (x17.length:Int) a3).bind fun x18=>req (0<=x15.1/\x15.1<((x10.2.1:Nat):Int)) <| (x15.2[x15.1.toNat+x10.1]?).bind fun x19=>some (.inr (i64.wrap (x15.1+1),x15.2.set (x15.1.toNat+x10.1) x18)) else some (.inl x15.2)
def jg (a0:Int) (a1:Int) (a2:Int) (a3:bg.T) (a4:List (List (Int×aa.T))):Option ((List (List (Int×aa.T)))):=(req (a4.length=a4.length) <| (k8 a4).bind fun x3=>bif !x3 then some true else (fD a3).bind fun x4=>bif !x4 then some true else some false:Option (Bool)).bind fun x5=>bif x5 then some ([]) else req (a4.length=a4.length) <| (gF a4).bind fun x6=>(bif decide (a0<0) then some true else bif decide (a0>a1) then some true else bif decide (a1>=((a4.length:Nat):Int)) then some true else some false:Option (Bool)).bind fun x7=>bif x7 then req (x6.length=x6.length) (some x6) else req (0<=a0/\a0<=(i64.wrap (a1+1))/\(i64.wrap (a1+1))<=((x6.length:Nat):Int)) <| ((bif decide ((if (if (((i64.wrap (a1+1)).toNat-a0.toNat:Nat):Int)<a2 then (((i64.wrap (a1+1)).toNat-a0.toNat:Nat):Int) else a2)>(i64.wrap ((0:Int)-(((i64.wrap (a1+1)).toNat-a0.toNat:Nat):Int))) then (if (((i64.wrap (a1+1)).toNat-a0.toNat:Nat):Int)<a2 then (((i64.wrap (a1+1)).toNat-a0.toNat:Nat):Int) else a2) else (i64.wrap ((0:Int)-(((i64.wrap (a1+1)).toNat-a0.toNat:Nat):Int))))>=0) then some true else some false:Option (Bool)).bind fun x9=>bif x9 then req (0<=(if (if (((i64.wrap (a1+1)).toNat-a0.toNat:Nat):Int)<a2 then (((i64.wrap (a1+1)).toNat-a0.toNat:Nat):Int) else a2)>(i64.wrap ((0:Int)-(((i64.wrap (a1+1)).toNat-a0.toNat:Nat):Int))) then (if (((i64.wrap (a1+1)).toNat-a0.toNat:Nat):Int)<a2 then (((i64.wrap (a1+1)).toNat-a0.toNat:Nat):Int) else a2) else (i64.wrap ((0:Int)-(((i64.wrap (a1+1)).toNat-a0.toNat:Nat):Int))))/\(if (if (((i64.wrap (a1+1)).toNat-a0.toNat:Nat):Int)<a2 then (((i64.wrap (a1+1)).toNat-a0.toNat:Nat):Int) else a2)>(i64.wrap ((0:Int)-(((i64.wrap (a1+1)).toNat-a0.toNat:Nat):Int))) then (if (((i64.wrap (a1+1)).toNat-a0.toNat:Nat):Int)<a2 then (((i64.wrap (a1+1)).toNat-a0.toNat:Nat):Int) else a2) else (i64.wrap ((0:Int)-(((i64.wrap (a1+1)).toNat-a0.toNat:Nat):Int))))<=(((i64.wrap (a1+1)).toNat-a0.toNat:Nat):Int)/\(((i64.wrap (a1+1)).toNat-a0.toNat:Nat):Int)<=(((i64.wrap (a1+1)).toNat-a0.toNat:Nat):Int)) <| req (a0.toNat+((i64.wrap (a1+1)).toNat-a0.toNat)<=x6.length) <| req (((if (if (((i64.wrap (a1+1)).toNat-a0.toNat:Nat):Int)<a2 then (((i64.wrap (a1+1)).toNat-a0.toNat:Nat):Int) else a2)>(i64.wrap ((0:Int)-(((i64.wrap (a1+1)).toNat-a0.toNat:Nat):Int))) then (if (((i64.wrap (a1+1)).toNat-a0.toNat:Nat):Int)<a2 then (((i64.wrap (a1+1)).toNat-a0.toNat:Nat):Int) else a2) else (i64.wrap ((0:Int)-(((i64.wrap (a1+1)).toNat-a0.toNat:Nat):Int)))).toNat+a0.toNat)+((i64.wrap (a1+1)).toNat-a0.toNat-(if (if (((i64.wrap (a1+1)).toNat-a0.toNat:Nat):Int)<a2 then (((i64.wrap (a1+1)).toNat-a0.toNat:Nat):Int) else a2)>(i64.wrap ((0:Int)-(((i64.wrap (a1+1)).toNat-a0.toNat:Nat):Int))) then (if (((i64.wrap (a1+1)).toNat-a0.toNat:Nat):Int)<a2 then (((i64.wrap (a1+1)).toNat-a0.toNat:Nat):Int) else a2) else (i64.wrap ((0:Int)-(((i64.wrap (a1+1)).toNat-a0.toNat:Nat):Int)))).toNat)<=x6.length) <| req (0<=(i64.wrap ((((i64.wrap (a1+1)).toNat-a0.toNat:Nat):Int)-(if (if (((i64.wrap (a1+1)).toNat-a0.toNat:Nat):Int)<a2 then (((i64.wrap (a1+1)).toNat-a0.toNat:Nat):Int) else a2)>(i64.wrap ((0:Int)-(((i64.wrap (a1+1)).toNat-a0.toNat:Nat):Int))) then (if (((i64.wrap (a1+1)).toNat-a0.toNat:Nat):Int)<a2 then (((i64.wrap (a1+1)).toNat-a0.toNat:Nat):Int) else a2) else (i64.wrap ((0:Int)-(((i64.wrap (a1+1)).toNat-a0.toNat:Nat):Int))))))/\(i64.wrap ((((i64.wrap (a1+1)).toNat-a0.toNat:Nat):Int)-(if (if (((i64.wrap (a1+1)).toNat-a0.toNat:Nat):Int)<a2 then (((i64.wrap (a1+1)).toNat-a0.toNat:Nat):Int) else a2)>(i64.wrap ((0:Int)-(((i64.wrap (a1+1)).toNat-a0.toNat:Nat):Int))) then (if (((i64.wrap (a1+1)).toNat-a0.toNat:Nat):Int)<a2 then (((i64.wrap (a1+1)).toNat-a0.toNat:Nat):Int) else a2) else (i64.wrap ((0:Int)-(((i64.wrap (a1+1)).toNat-a0.toNat:Nat):Int))))))<=(((i64.wrap (a1+1)).toNat-a0.toNat:Nat):Int)/\(((i64.wrap (a1+1)).toNat-a0.toNat:Nat):Int)<=(((i64.wrap (a1+1)).toNat-a0.toNat:Nat):Int)) <| some ((i64.wrap ((((i64.wrap (a1+1)).toNat-a0.toNat:Nat):Int)-(if (if (((i64.wrap (a1+1)).toNat-a0.toNat:Nat):Int)<a2 then (((i64.wrap (a1+1)).toNat-a0.toNat:Nat):Int) else a2)>(i64.wrap ((0:Int)-(((i64.wrap (a1+1)).toNat-a0.toNat:Nat):Int))) then (if (((i64.wrap (a1+1)).toNat-a0.toNat:Nat):Int)<a2 then (((i64.wrap (a1+1)).toNat-a0.toNat:Nat):Int) else a2) else (i64.wrap ((0:Int)-(((i64.wrap (a1+1)).toNat-a0.toNat:Nat):Int)))))).toNat+a0.toNat,(i64.wrap (a1+1)).toNat-a0.toNat-(i64.wrap ((((i64.wrap (a1+1)).toNat-a0.toNat:Nat):Int)-(if (if (((i64.wrap (a1+1)).toNat-a0.toNat:Nat):Int)<a2 then (((i64.wrap (a1+1)).toNat-a0.toNat:Nat):Int) else a2)>(i64.wrap ((0:Int)-(((i64.wrap (a1+1)).toNat-a0.toNat:Nat):Int))) then (if (((i64.wrap (a1+1)).toNat-a0.toNat:Nat):Int)<a2 then (((i64.wrap (a1+1)).toNat-a0.toNat:Nat):Int) else a2) else (i64.wrap ((0:Int)-(((i64.wrap (a1+1)).toNat-a0.toNat:Nat):Int)))))).toNat,cpy x6 a0.toNat ((x6.drop ((if (if (((i64.wrap (a1+1)).toNat-a0.toNat:Nat):Int)<a2 then (((i64.wrap (a1+1)).toNat-a0.toNat:Nat):Int) else a2)>(i64.wrap ((0:Int)-(((i64.wrap (a1+1)).toNat-a0.toNat:Nat):Int))) then (if (((i64.wrap (a1+1)).toNat-a0.toNat:Nat):Int)<a2 then (((i64.wrap (a1+1)).toNat-a0.toNat:Nat):Int) else a2) else (i64.wrap ((0:Int)-(((i64.wrap (a1+1)).toNat-a0.toNat:Nat):Int)))).toNat+a0.toNat)).take ((i64.wrap (a1+1)).toNat-a0.toNat-(if (if (((i64.wrap (a1+1)).toNat-a0.toNat:Nat):Int)<a2 then (((i64.wrap (a1+1)).toNat-a0.toNat:Nat):Int) else a2)>(i64.wrap ((0:Int)-(((i64.wrap (a1+1)).toNat-a0.toNat:Nat):Int))) then (if (((i64.wrap (a1+1)).toNat-a0.toNat:Nat):Int)<a2 then (((i64.wrap (a1+1)).toNat-a0.toNat:Nat):Int) else a2) else (i64.wrap ((0:Int)-(((i64.wrap (a1+1)).toNat-a0.toNat:Nat):Int)))).toNat)) (min ((x6.drop ((if (if (((i64.wrap (a1+1)).toNat-a0.toNat:Nat):Int)<a2 then (((i64.wrap (a1+1)).toNat-a0.toNat:Nat):Int) else a2)>(i64.wrap ((0:Int)-(((i64.wrap (a1+1)).toNat-a0.toNat:Nat):Int))) then (if (((i64.wrap (a1+1)).toNat-a0.toNat:Nat):Int)<a2 then (((i64.wrap (a1+1)).toNat-a0.toNat:Nat):Int) else a2) else (i64.wrap ((0:Int)-(((i64.wrap (a1+1)).toNat-a0.toNat:Nat):Int)))).toNat+a0.toNat)).take ((i64.wrap (a1+1)).toNat-a0.toNat-(if (if (((i64.wrap (a1+1)).toNat-a0.toNat:Nat):Int)<a2 then (((i64.wrap (a1+1)).toNat-a0.toNat:Nat):Int) else a2)>(i64.wrap ((0:Int)-(((i64.wrap (a1+1)).toNat-a0.toNat:Nat):Int))) then (if (((i64.wrap (a1+1)).toNat-a0.toNat:Nat):Int)<a2 then (((i64.wrap (a1+1)).toNat-a0.toNat:Nat):Int) else a2) else (i64.wrap ((0:Int)-(((i64.wrap (a1+1)).toNat-a0.toNat:Nat):Int)))).toNat)).length ((i64.wrap (a1+1)).toNat-a0.toNat))) else req (0<=(i64.wrap ((0:Int)-(if (if (((i64.wrap (a1+1)).toNat-a0.toNat:Nat):Int)<a2 then (((i64.wrap (a1+1)).toNat-a0.toNat:Nat):Int) else a2)>(i64.wrap ((0:Int)-(((i64.wrap (a1+1)).toNat-a0.toNat:Nat):Int))) then (if (((i64.wrap (a1+1)).toNat-a0.toNat:Nat):Int)<a2 then (((i64.wrap (a1+1)).toNat-a0.toNat:Nat):Int) else a2) else (i64.wrap ((0:Int)-(((i64.wrap (a1+1)).toNat-a0.toNat:Nat):Int))))))/\(i64.wrap ((0:Int)-(if (if (((i64.wrap (a1+1)).toNat-a0.toNat:Nat):Int)<a2 then (((i64.wrap (a1+1)).toNat-a0.toNat:Nat):Int) else a2)>(i64.wrap ((0:Int)-(((i64.wrap (a1+1)).toNat-a0.toNat:Nat):Int))) then (if (((i64.wrap (a1+1)).toNat-a0.toNat:Nat):Int)<a2 then (((i64.wrap (a1+1)).toNat-a0.toNat:Nat):Int) else a2) else (i64.wrap ((0:Int)-(((i64.wrap (a1+1)).toNat-a0.toNat:Nat):Int))))))<=(((i64.wrap (a1+1)).toNat-a0.toNat:Nat):Int)/\(((i64.wrap (a1+1)).toNat-a0.toNat:Nat):Int)<=(((i64.wrap (a1+1)).toNat-a0.toNat:Nat):Int)) <| req (((i64.wrap ((0:Int)-(if (if (((i64.wrap (a1+1)).toNat-a0.toNat:Nat):Int)<a2 then (((i64.wrap (a1+1)).toNat-a0.toNat:Nat):Int) else a2)>(i64.wrap ((0:Int)-(((i64.wrap (a1+1)).toNat-a0.toNat:Nat):Int))) then (if (((i64.wrap (a1+1)).toNat-a0.toNat:Nat):Int)<a2 then (((i64.wrap (a1+1)).toNat-a0.toNat:Nat):Int) else a2) else (i64.wrap ((0:Int)-(((i64.wrap (a1+1)).toNat-a0.toNat:Nat):Int)))))).toNat+a0.toNat)+((i64.wrap (a1+1)).toNat-a0.toNat-(i64.wrap ((0:Int)-(if (if (((i64.wrap (a1+1)).toNat-a0.toNat:Nat):Int)<a2 then (((i64.wrap (a1+1)).toNat-a0.toNat:Nat):Int) else a2)>(i64.wrap ((0:Int)-(((i64.wrap (a1+1)).toNat-a0.toNat:Nat):Int))) then (if (((i64.wrap (a1+1)).toNat-a0.toNat:Nat):Int)<a2 then (((i64.wrap (a1+1)).toNat-a0.toNat:Nat):Int) else a2) else (i64.wrap ((0:Int)-(((i64.wrap (a1+1)).toNat-a0.toNat:Nat):Int)))))).toNat)<=x6.length) <| req (a0.toNat+((i64.wrap (a1+1)).toNat-a0.toNat)<=x6.length) <| req (0<=(0:Int)/\(0:Int)<=(i64.wrap ((0:Int)-(if (if (((i64.wrap (a1+1)).toNat-a0.toNat:Nat):Int)<a2 then (((i64.wrap (a1+1)).toNat-a0.toNat:Nat):Int) else a2)>(i64.wrap ((0:Int)-(((i64.wrap (a1+1)).toNat-a0.toNat:Nat):Int))) then (if (((i64.wrap (a1+1)).toNat-a0.toNat:Nat):Int)<a2 then (((i64.wrap (a1+1)).toNat-a0.toNat:Nat):Int) else a2) else (i64.wrap ((0:Int)-(((i64.wrap (a1+1)).toNat-a0.toNat:Nat):Int))))))/\(i64.wrap ((0:Int)-(if (if (((i64.wrap (a1+1)).toNat-a0.toNat:Nat):Int)<a2 then (((i64.wrap (a1+1)).toNat-a0.toNat:Nat):Int) else a2)>(i64.wrap ((0:Int)-(((i64.wrap (a1+1)).toNat-a0.toNat:Nat):Int))) then (if (((i64.wrap (a1+1)).toNat-a0.toNat:Nat):Int)<a2 then (((i64.wrap (a1+1)).toNat-a0.toNat:Nat):Int) else a2) else (i64.wrap ((0:Int)-(((i64.wrap (a1+1)).toNat-a0.toNat:Nat):Int))))))<=(((i64.wrap (a1+1)).toNat-a0.toNat:Nat):Int)) <| some (0+a0.toNat,(i64.wrap ((0:Int)-(if (if (((i64.wrap (a1+1)).toNat-a0.toNat:Nat):Int)<a2 then (((i64.wrap (a1+1)).toNat-a0.toNat:Nat):Int) else a2)>(i64.wrap ((0:Int)-(((i64.wrap (a1+1)).toNat-a0.toNat:Nat):Int))) then (if (((i64.wrap (a1+1)).toNat-a0.toNat:Nat):Int)<a2 then (((i64.wrap (a1+1)).toNat-a0.toNat:Nat):Int) else a2) else (i64.wrap ((0:Int)-(((i64.wrap (a1+1)).toNat-a0.toNat:Nat):Int)))))).toNat,cpy x6 ((i64.wrap ((0:Int)-(if (if (((i64.wrap (a1+1)).toNat-a0.toNat:Nat):Int)<a2 then (((i64.wrap (a1+1)).toNat-a0.toNat:Nat):Int) else a2)>(i64.wrap ((0:Int)-(((i64.wrap (a1+1)).toNat-a0.toNat:Nat):Int))) then (if (((i64.wrap (a1+1)).toNat-a0.toNat:Nat):Int)<a2 then (((i64.wrap (a1+1)).toNat-a0.toNat:Nat):Int) else a2) else (i64.wrap ((0:Int)-(((i64.wrap (a1+1)).toNat-a0.toNat:Nat):Int)))))).toNat+a0.toNat) ((x6.drop a0.toNat).take ((i64.wrap (a1+1)).toNat-a0.toNat)) (min ((x6.drop a0.toNat).take ((i64.wrap (a1+1)).toNat-a0.toNat)).length ((i64.wrap (a1+1)).toNat-a0.toNat-(i64.wrap ((0:Int)-(if (if (((i64.wrap (a1+1)).toNat-a0.toNat:Nat):Int)<a2 then (((i64.wrap (a1+1)).toNat-a0.toNat:Nat):Int) else a2)>(i64.wrap ((0:Int)-(((i64.wrap (a1+1)).toNat-a0.toNat:Nat):Int))) then (if (((i64.wrap (a1+1)).toNat-a0.toNat:Nat):Int)<a2 then (((i64.wrap (a1+1)).toNat-a0.toNat:Nat):Int) else a2) else (i64.wrap ((0:Int)-(((i64.wrap (a1+1)).toNat-a0.toNat:Nat):Int)))))).toNat))):Option (Nat×Nat×(List (List (Int×aa.T))))).bind fun x10=>(ap (cE x10 a4 a3) (0,x10.2.2)).bind fun x20=>req (x6.length=x20.length) (some x20)
def bD (a0:Int) (a1:Int) (a7:Int) (a8:Int) (a9:Int) (a11:Int) (a31:List (List (Int×aa.T))):Option ((List (List (Int×aa.T)))):=req (a31.length=a31.length) <| (jg a0 a11 a1 (a7,a8,a9) a31).bind fun x1=>req (x1.length=x1.length) (some x1)
def bA (a0:Int) (a2:Int) (a5:Int) (a6:Int) (a7:Int) (a8:Int) (a9:Int) (a29:List (List (Int×aa.T))) (a30:List (List (Int×aa.T))) (a31:List Int):Option ((List (List (Int×aa.T)))×Int):=(bif a2==a9 then some true else some false:Option (Bool)).bind fun x1=>bif x1 then req (a31.length=a31.length) <| req (a30.length=a30.length) <| req (a29.length=a29.length) <| (bD a8 1 a5 a6 a7 a9 a29).bind fun x2=>req (x2.length=x2.length) (some (x2,a2)) else req (a29.length=a29.length) (some (a29,(if (i64.wrap (a0-1))<(i64.wrap (a2+1)) then (i64.wrap (a0-1)) else (i64.wrap (a2+1)))))
def im (a0:List (Int×aa.T)) (a1:bg.T):Option (Bool):=(kX a0).bind fun x1=>bif x1 then (fD a1).bind fun x2=>some x2 else some false
def bL (a0:Int) (a1:List (Int×aa.T)):Option ((List (Int×aa.T))):=(bif decide (a0>0) then bif decide (a0<((a1.length:Nat):Int)) then req (0<=a0/\a0<((a1.length:Nat):Int)) <| (a1[a0.toNat]?).bind fun x2=>bif x2.2.2.1==2 then some true else some false else some false else some false:Option (Bool)).bind fun x3=>bif x3 then req (0<=(i64.wrap (a0-1))/\(i64.wrap (a0-1))<((a1.length:Nat):Int)) <| (a1[(i64.wrap (a0-1)).toNat]?).bind fun x4=>(hH x4.2.2.2).bind fun x5=>req (0<=a0/\a0<((a1.length:Nat):Int)) <| (a1[a0.toNat]?).bind fun x6=>(hH x6.2.2.2).bind fun x7=>req (0<=(i64.wrap (a0-1))/\(i64.wrap (a0-1))<((a1.length:Nat):Int)) <| (a1[(i64.wrap (a0-1)).toNat]?).bind fun x8=>req (0<=a0/\a0<((a1.length:Nat):Int)) <| ((a1.set ((i64.wrap (a0-1)).toNat) x5)[a0.toNat]?).bind fun x9=>some ((a1.set ((i64.wrap (a0-1)).toNat) x5).set a0.toNat x7) else some a1
def de (a0:List (Int×aa.T)) (a1:Int) (a2:Int) (a3:bg.T):Option ((List (Int×aa.T))):=((im a0 a3).bind fun x2=>bif !x2 then some true else some false:Option (Bool)).bind fun x3=>bif x3 then some ([]) else (bi a0).bind fun x4=>(bif decide (a2<1) then some true else bif decide (a1<0) then some true else bif decide (a1>=(a0.length:Int)) then some true else some false:Option (Bool)).bind fun x5=>bif x5 then req (x4.length=x4.length) (some x4) else req (x4.length=x4.length) <| (bL a1 x4).bind fun x6=>req (x4.length=x6.length) <| (bL (i64.wrap ((a0.length:Int)-(if (i64.wrap ((a0.length:Int)-a1))<a2 then (i64.wrap ((a0.length:Int)-a1)) else a2))) x6).bind fun x7=>req (0<=(i64.wrap (a1+(if (i64.wrap ((a0.length:Int)-a1))<a2 then (i64.wrap ((a0.length:Int)-a1)) else a2)))/\(i64.wrap (a1+(if (i64.wrap ((a0.length:Int)-a1))<a2 then (i64.wrap ((a0.length:Int)-a1)) else a2)))<=((x4.length:Nat):Int)/\((x4.length:Nat):Int)<=((x4.length:Nat):Int)) <| req (0<=a1/\a1<=((x4.length:Nat):Int)/\((x4.length:Nat):Int)<=((x4.length:Nat):Int)) <| req (((i64.wrap (a1+(if (i64.wrap ((a0.length:Int)-a1))<a2 then (i64.wrap ((a0.length:Int)-a1)) else a2))).toNat)+(x4.length-(i64.wrap (a1+(if (i64.wrap ((a0.length:Int)-a1))<a2 then (i64.wrap ((a0.length:Int)-a1)) else a2))).toNat)<=x7.length) <| req (a1.toNat+(x4.length-a1.toNat)<=x7.length) <| req (0<=a1/\a1<=((x4.length:Nat):Int)/\((x4.length:Nat):Int)<=((x4.length:Nat):Int)) <| (fP (if (i64.wrap ((a0.length:Int)-a1))<a2 then (i64.wrap ((a0.length:Int)-a1)) else a2) a3).bind fun x8=>req (a1.toNat+(x4.length-a1.toNat)<=(cpy x7 ((i64.wrap (a1+(if (i64.wrap ((a0.length:Int)-a1))<a2 then (i64.wrap ((a0.length:Int)-a1)) else a2))).toNat) ((x7.drop a1.toNat).take (x4.length-a1.toNat)) (min ((x7.drop a1.toNat).take (x4.length-a1.toNat)).length (x4.length-(i64.wrap (a1+(if (i64.wrap ((a0.length:Int)-a1))<a2 then (i64.wrap ((a0.length:Int)-a1)) else a2))).toNat))).length) <| req (x4.length=(cpy (cpy x7 ((i64.wrap (a1+(if (i64.wrap ((a0.length:Int)-a1))<a2 then (i64.wrap ((a0.length:Int)-a1)) else a2))).toNat) ((x7.drop a1.toNat).take (x4.length-a1.toNat)) (min ((x7.drop a1.toNat).take (x4.length-a1.toNat)).length (x4.length-(i64.wrap (a1+(if (i64.wrap ((a0.length:Int)-a1))<a2 then (i64.wrap ((a0.length:Int)-a1)) else a2))).toNat))) a1.toNat x8 (min x8.length (x4.length-a1.toNat))).length) (some (cpy (cpy x7 ((i64.wrap (a1+(if (i64.wrap ((a0.length:Int)-a1))<a2 then (i64.wrap ((a0.length:Int)-a1)) else a2))).toNat) ((x7.drop a1.toNat).take (x4.length-a1.toNat)) (min ((x7.drop a1.toNat).take (x4.length-a1.toNat)).length (x4.length-(i64.wrap (a1+(if (i64.wrap ((a0.length:Int)-a1))<a2 then (i64.wrap ((a0.length:Int)-a1)) else a2))).toNat))) a1.toNat x8 (min x8.length (x4.length-a1.toNat))))
def ip (a0:List (Int×aa.T)) (a1:Int) (a2:Int) (a3:bg.T):Option ((List (Int×aa.T))):=((im a0 a3).bind fun x2=>bif !x2 then some true else some false:Option (Bool)).bind fun x3=>bif x3 then some ([]) else (j5 a2).bind fun x4=>(bi a0).bind fun x5=>(bif decide (x4<1) then some true else bif decide (a1<0) then some true else bif decide (a1>(i64.wrap ((a0.length:Int)-x4))) then some true else some false:Option (Bool)).bind fun x6=>bif x6 then req (x5.length=x5.length) (some x5) else req (x5.length=x5.length) <| (bL a1 x5).bind fun x7=>req (x5.length=x7.length) <| (bL (i64.wrap (a1+x4)) x7).bind fun x8=>req (0<=a1/\a1<((x5.length:Nat):Int)) <| (x8[a1.toNat]?).bind fun x9=>((bif x4==2 then some true else some false:Option (Bool)).bind fun x12=>bif x12 then req (0<=(i64.wrap (a1+1))/\(i64.wrap (a1+1))<((x5.length:Nat):Int)) <| ((x8.set a1.toNat (a2,(0,0),i64.wrap (x4-1),a3))[(i64.wrap (a1+1)).toNat]?).bind fun x13=>some ((x8.set a1.toNat (a2,(0,0),i64.wrap (x4-1),a3)).set ((i64.wrap (a1+1)).toNat) (0,(0,0),2,a3)) else some (x8.set a1.toNat (a2,(0,0),i64.wrap (x4-1),a3)):Option ((List (Int×aa.T)))).bind fun x14=>req (x5.length=x14.length) (some x14)
def eU (a0:Int) (a1:Int) (a2:Int) (a3:Int) (a4:Int) (a5:Bool) (a6:Int) (a7:Int) (a8:Int) (a9:Int) (a10:Int) (a11:Int) (a30:List (List (Int×aa.T))) (a31:List (List (Int×aa.T))) (a32:List Int):Option ((List (List (Int×aa.T)))×Int×Int×Bool):=(j5 a0).bind fun x1=>req (0<=a3/\a3<((a30.length:Nat):Int)) <| (a30[a3.toNat]?).bind fun x2=>(bif decide (x1<0) then some true else bif decide (x1>a2) then some true else some false:Option (Bool)).bind fun x3=>bif x3 then req (a30.length=a30.length) (some (a30,a3,a4,a5)) else (bif x1==0 then some true else some false:Option (Bool)).bind fun x4=>bif x4 then ((bif !a5 then some true else some false:Option (Bool)).bind fun x6=>bif x6 then some (i64.wrap (a4-1)) else some a4:Option (Int)).bind fun x7=>(iZ x2 x7 a0).bind fun x8=>req (0<=a3/\a3<((a30.length:Nat):Int)) <| (a30[a3.toNat]?).bind fun x9=>req (a30.length=(a30.set a3.toNat x8).length) (some (a30.set a3.toNat x8,a3,a4,a5)) else ((bif a5 then bif (az .and .i64 a11 1) !=0 then some true else some false else some false:Option (Bool)).bind fun x12=>bif x12 then req (a32.length=a32.length) <| req (a31.length=a31.length) <| req (a30.length=a30.length) <| (bA a1 a3 a6 a7 a8 a9 a10 a30 a31 a32).bind fun x13=>req (x13.1.length=x13.1.length) (some (x13.1,x13.2,0)) else req (a30.length=a30.length) (some (a30,a3,a4)):Option ((List (List (Int×aa.T)))×Int×Int)).bind fun x14=>((bif decide (x14.2.2>(i64.wrap (a2-x1))) then some true else some false:Option (Bool)).bind fun x18=>bif x18 then (bif (az .and .i64 a11 1) !=0 then some true else some false:Option (Bool)).bind fun x19=>bif x19 then req (a32.length=a32.length) <| req (a31.length=a31.length) <| req (x14.1.length=x14.1.length) <| (bA a1 x14.2.1 a6 a7 a8 a9 a10 x14.1 a31 a32).bind fun x20=>req (x20.1.length=x20.1.length) (some (x20.1,x20.2,0)) else req (x14.1.length=x14.1.length) (some (x14.1,x14.2.1,i64.wrap (a2-x1))) else req (x14.1.length=x14.1.length) (some (x14.1,x14.2.1,x14.2.2)):Option ((List (List (Int×aa.T)))×Int×Int)).bind fun x21=>req (0<=x21.2.1/\x21.2.1<((x21.1.length:Nat):Int)) <| (x21.1[x21.2.1.toNat]?).bind fun x22=>((bif (az .and .i64 a11 4) !=0 then some true else some false:Option (Bool)).bind fun x25=>bif x25 then (de x22 x21.2.2 x1 (a6,a7,a8)).bind fun x26=>some x26 else some x22:Option ((List (Int×aa.T)))).bind fun x27=>(ip x27 x21.2.2 a0 (a6,a7,a8)).bind fun x28=>req (0<=x21.2.1/\x21.2.1<((x21.1.length:Nat):Int)) <| (x21.1[x21.2.1.toNat]?).bind fun x29=>(bif decide ((i64.wrap (x21.2.2+x1))>=a2) then some true else some false:Option (Bool)).bind fun x30=>bif x30 then req (x21.1.length=(x21.1.set x21.2.1.toNat x28).length) (some (x21.1.set x21.2.1.toNat x28,x21.2.1,i64.wrap (a2-1),((az .and .i64 a11 1) !=0))) else req (x21.1.length=(x21.1.set x21.2.1.toNat x28).length) (some (x21.1.set x21.2.1.toNat x28,x21.2.1,i64.wrap (x21.2.2+x1),false))
def xq (a0:bg.T):Option (bg.T):=((fD a0).bind fun x2=>bif !x2 then some true else some false:Option (Bool)).bind fun x3=>bif x3 then some (0,0,0) else some a0
def nA (a0:Int):Option (Int×Bool):=(bif decide (a0>=30) then bif decide (a0<50) then some true else some false else some false:Option (Bool)).bind fun x1=>bif x1 then some (i64.wrap ((i64.wrap (Int.tdiv a0 10))*10),true) else ((bif decide (a0>=90) then bif decide (a0<98) then some true else some false else some false:Option (Bool)).bind fun x3=>bif x3 then some x3 else bif decide (a0>=100) then bif decide (a0<108) then some true else some false else some false:Option (Bool)).bind fun x4=>bif x4 then some (i64.wrap ((i64.wrap ((i64.wrap (Int.tdiv a0 10))*10))-60),true) else some (0,false)
def kp (a0:Int):Option (Int):=((bif decide (a0<0) then some true else bif decide (a0>8) then some true else bif a0==5 then some true else some false:Option (Bool)).bind fun x3=>bif x3 then some (.inr 0) else (bif decide (a0>4) then some true else some false:Option (Bool)).bind fun x4=>bif x4 then some (.inl (i64.wrap (a0-1))) else some (.inl a0):Option ((Int)⊕(Int))).bind fun o=>match o with | .inr r=>some r | .inl x5=>req (0<=x5) <| some (i64.wrap ((1:Int)*2^(min x5.toNat 64)))
def du (a0:List Int) (x4:Int):Option (((Unit)⊕(Unit))⊕(Int)):=(bif decide (x4<(a0.length:Int)) then some true else some false:Option (Bool)).bind fun x5=>bif x5 then (getI a0 x4).bind fun x6=>(bif decide (x6<0) then some true else bif decide (x6>255) then some true else some false:Option (Bool)).bind fun x7=>bif x7 then some (.inl (.inl ())) else some (.inr (i64.wrap (x4+1))) else some (.inl (.inr ()))
def ee (a0:List Int):Option (Bool):=(ap (du a0) 0).bind fun o=>match o with | .inl _=>some false | .inr _=>some true
def oE (a0:List Int):Option (Int×Int):=(bif decide ((a0.length:Int)>=2) then (getI a0 0).bind fun x4=>bif x4==5 then (getI a0 1).bind fun x5=>(ee [x5]).bind fun x6=>bif x6 then some true else some false else some false else some false:Option (Bool)).bind fun x7=>bif x7 then (getI a0 1).bind fun x8=>some (i64.wrap ((1:Int)+x8),2) else (bif decide ((a0.length:Int)>=4) then (getI a0 0).bind fun x11=>bif x11==2 then req (0<=(1:Int)/\(1:Int)<=(4:Int)/\(4:Int)<=((a0.length:Nat):Int)) <| (ee (sub a0 1 4)).bind fun x12=>bif x12 then some true else some false else some false else some false:Option (Bool)).bind fun x13=>bif x13 then (getI a0 1).bind fun x14=>(getI a0 2).bind fun x15=>(getI a0 3).bind fun x16=>some (i64.wrap ((i64.wrap ((i64.wrap ((17:Int)+(i64.wrap ((36:Int)*(i64.wrap (Int.tdiv (i64.wrap ((6:Int)*x14)) 256))))))+(i64.wrap ((6:Int)*(i64.wrap (Int.tdiv (i64.wrap ((6:Int)*x15)) 256))))))+(i64.wrap (Int.tdiv (i64.wrap ((6:Int)*x16)) 256))),4) else some (0,0)
def da (a0:Int) (a1:Int) (a3:Int) (a4:Int):Option (Int×Int):=(bif a0==30 then some true else some false:Option (Bool)).bind fun x1=>bif x1 then some (a1,a4) else some (a3,a1)
def fe (a1:List Int) (x41:Int×Int×Int×Int):Option (((Int×Int×Int×Int×Int×Int)⊕(Int×Int×Int))⊕(Int×Int×Int×Int)):=(bif decide (x41.1<(a1.length:Int)) then some true else some false:Option (Bool)).bind fun x42=>bif x42 then ((getI a1 x41.1).bind fun x61=>(nA x61).bind fun x62=>(bif x61==0 then some true else some false:Option (Bool)).bind fun x63=>bif x63 then some (.inl (x41.1,0,0,0)) else (bif decide (x61>=1) then bif decide (x61<=9) then some true else some false else some false:Option (Bool)).bind fun x64=>bif x64 then (kp (i64.wrap (x61-1))).bind fun x65=>some (.inl (x41.1,az .or .i64 x41.2.1 x65,x41.2.2.1,x41.2.2.2)) else (bif x61==22 then some true else some false:Option (Bool)).bind fun x66=>bif x66 then some (.inl (x41.1,az .andNot .i64 x41.2.1 3,x41.2.2.1,x41.2.2.2)) else (bif decide (x61>=23) then bif decide (x61<=29) then some true else some false else some false:Option (Bool)).bind fun x67=>bif x67 then (kp (i64.wrap (x61-21))).bind fun x68=>some (.inl (x41.1,az .andNot .i64 x41.2.1 x68,x41.2.2.1,x41.2.2.2)) else (bif x62.2 then bif x61==(i64.wrap (x62.1+8)) then some true else some false else some false:Option (Bool)).bind fun x69=>bif x69 then req (0<=(i64.wrap (x41.1+1))/\(i64.wrap (x41.1+1))<=((a1.length:Nat):Int)/\((a1.length:Nat):Int)<=((a1.length:Nat):Int)) <| (oE (sub a1 ((i64.wrap (x41.1+1)).toNat) a1.length)).bind fun x70=>(bif x70.2==0 then some true else some false:Option (Bool)).bind fun x71=>bif x71 then some (.inr (.inl (.inl (x41.2.1,x41.2.2.1,x41.2.2.2,x41.2.1,x41.2.2.1,x41.2.2.2)))) else (da x62.1 x70.1 x41.2.2.1 x41.2.2.2).bind fun x72=>some (.inl (i64.wrap (x41.1+x70.2),x41.2.1,x72.1,x72.2)) else (bif x62.2 then bif x61==(i64.wrap (x62.1+9)) then some true else some false else some false:Option (Bool)).bind fun x73=>bif x73 then (da x62.1 0 x41.2.2.1 x41.2.2.2).bind fun x74=>some (.inl (x41.1,x41.2.1,x74.1,x74.2)) else (bif x62.2 then bif decide (x61<90) then some true else some false else some false:Option (Bool)).bind fun x75=>bif x75 then (da x62.1 (i64.wrap ((i64.wrap (x61-x62.1))+1)) x41.2.2.1 x41.2.2.2).bind fun x76=>some (.inl (x41.1,x41.2.1,x76.1,x76.2)) else (bif x62.2 then some true else some false:Option (Bool)).bind fun x77=>bif x77 then (da x62.1 (i64.wrap ((i64.wrap ((i64.wrap (x61-x62.1))-60))+9)) x41.2.2.1 x41.2.2.2).bind fun x78=>some (.inl (x41.1,x41.2.1,x78.1,x78.2)) else some (.inl (x41.1,x41.2.1,x41.2.2.1,x41.2.2.2)):Option ((Int×Int×Int×Int)⊕(((Int×Int×Int×Int×Int×Int)⊕(Int×Int×Int))⊕(Int×Int×Int×Int)))).bind fun o=>match o with | .inr r=>some r | .inl x79=>some (.inr (i64.wrap (x79.1+1),x79.2.1,x79.2.2.1,x79.2.2.2)) else some (.inl (.inr (x41.2.1,x41.2.2.1,x41.2.2.2)))
def nB (a0:bg.T) (a1:List Int):Option (bg.T):=(xq a0).bind fun x1=>(bif (a1.length:Int)==0 then some true else some false:Option (Bool)).bind fun x2=>bif x2 then some (0,0,0) else (ap (fe a1) (0,x1.1,x1.2.1,x1.2.2)).bind fun o=>match o with | .inl x80=>some x80.2.2.2 | .inr x81=>some x81
def gi (a0:Int×fa.T) (a1:Int):Option ((Int×fa.T)):=(((nh a1).bind fun x5=>bif x5 then some true else some false:Option (Bool)).bind fun x6=>bif x6 then bif (i64.wrap (Int.tdiv a1 64))==0 then req (0<=(Int.tmod a1 64)) <| bif (i64.wrap (Int.tdiv a1 64))==0 then some (az .andNot .u64 a0.1 (u64.wrap ((1:Int)*2^(min (Int.tmod a1 64).toNat 64))),a0.2.1,a0.2.2.1,a0.2.2.2) else bif (i64.wrap (Int.tdiv a1 64))==1 then some (a0.1,az .andNot .u64 a0.1 (u64.wrap ((1:Int)*2^(min (Int.tmod a1 64).toNat 64))),a0.2.2.1,a0.2.2.2) else bif (i64.wrap (Int.tdiv a1 64))==2 then some (a0.1,a0.2.1,az .andNot .u64 a0.1 (u64.wrap ((1:Int)*2^(min (Int.tmod a1 64).toNat 64))),a0.2.2.2) else bif (i64.wrap (Int.tdiv a1 64))==3 then some (a0.1,a0.2.1,a0.2.2.1,az .andNot .u64 a0.1 (u64.wrap ((1:Int)*2^(min (Int.tmod a1 64).toNat 64)))) else none else bif (i64.wrap (Int.tdiv a1 64))==1 then req (0<=(Int.tmod a1 64)) <| bif (i64.wrap (Int.tdiv a1 64))==0 then some (az .andNot .u64 a0.2.1 (u64.wrap ((1:Int)*2^(min (Int.tmod a1 64).toNat 64))),a0.2.1,a0.2.2.1,a0.2.2.2) else bif (i64.wrap (Int.tdiv a1 64))==1 then some (a0.1,az .andNot .u64 a0.2.1 (u64.wrap ((1:Int)*2^(min (Int.tmod a1 64).toNat 64))),a0.2.2.1,a0.2.2.2) else bif (i64.wrap (Int.tdiv a1 64))==2 then some (a0.1,a0.2.1,az .andNot .u64 a0.2.1 (u64.wrap ((1:Int)*2^(min (Int.tmod a1 64).toNat 64))),a0.2.2.2) else bif (i64.wrap (Int.tdiv a1 64))==3 then some (a0.1,a0.2.1,a0.2.2.1,az .andNot .u64 a0.2.1 (u64.wrap ((1:Int)*2^(min (Int.tmod a1 64).toNat 64)))) else none else bif (i64.wrap (Int.tdiv a1 64))==2 then req (0<=(Int.tmod a1 64)) <| bif (i64.wrap (Int.tdiv a1 64))==0 then some (az .andNot .u64 a0.2.2.1 (u64.wrap ((1:Int)*2^(min (Int.tmod a1 64).toNat 64))),a0.2.1,a0.2.2.1,a0.2.2.2) else bif (i64.wrap (Int.tdiv a1 64))==1 then some (a0.1,az .andNot .u64 a0.2.2.1 (u64.wrap ((1:Int)*2^(min (Int.tmod a1 64).toNat 64))),a0.2.2.1,a0.2.2.2) else bif (i64.wrap (Int.tdiv a1 64))==2 then some (a0.1,a0.2.1,az .andNot .u64 a0.2.2.1 (u64.wrap ((1:Int)*2^(min (Int.tmod a1 64).toNat 64))),a0.2.2.2) else bif (i64.wrap (Int.tdiv a1 64))==3 then some (a0.1,a0.2.1,a0.2.2.1,az .andNot .u64 a0.2.2.1 (u64.wrap ((1:Int)*2^(min (Int.tmod a1 64).toNat 64)))) else none else bif (i64.wrap (Int.tdiv a1 64))==3 then req (0<=(Int.tmod a1 64)) <| bif (i64.wrap (Int.tdiv a1 64))==0 then some (az .andNot .u64 a0.2.2.2 (u64.wrap ((1:Int)*2^(min (Int.tmod a1 64).toNat 64))),a0.2.1,a0.2.2.1,a0.2.2.2) else bif (i64.wrap (Int.tdiv a1 64))==1 then some (a0.1,az .andNot .u64 a0.2.2.2 (u64.wrap ((1:Int)*2^(min (Int.tmod a1 64).toNat 64))),a0.2.2.1,a0.2.2.2) else bif (i64.wrap (Int.tdiv a1 64))==2 then some (a0.1,a0.2.1,az .andNot .u64 a0.2.2.2 (u64.wrap ((1:Int)*2^(min (Int.tmod a1 64).toNat 64))),a0.2.2.2) else bif (i64.wrap (Int.tdiv a1 64))==3 then some (a0.1,a0.2.1,a0.2.2.1,az .andNot .u64 a0.2.2.2 (u64.wrap ((1:Int)*2^(min (Int.tmod a1 64).toNat 64)))) else none else none else some (a0.1,a0.2.1,a0.2.2.1,a0.2.2.2):Option (Int×Int×Int×Int)).bind fun x7=>some x7
def dI (a10:Int):Option (Int):=(bif (az .and .i64 a10 128) !=0 then some true else some false:Option (Bool)).bind fun x1=>bif x1 then some 1 else some 0
def dH (a2:Int) (a3:Int) (a4:Bool) (a5:Int) (a6:Int) (a7:Int) (a10:Int) (a11:Int) (a12:Int) (a13:Int) (a14:Int) (a15:Int) (a16:Bool) (a17:Bool) (a18:Int) (a19:Int) (a20:Int) (a21:Int) (a22:Int) (a23:Bool) (a24:Bool) (a29:List (List (Int×aa.T))) (a30:List (List (Int×aa.T))) (a31:List Int):Option (Int×Int×Int×Int×Int×Bool×Bool×Int×Int×Int×Int×Int×Bool×Bool):=req (a31.length=a31.length) <| req (a30.length=a30.length) <| req (a29.length=a29.length) <| (dI a10).bind fun x1=>bif x1==0 then some (a2,a3,a5,a6,a7,((az .and .i64 a10 2) !=0),a4,a18,a19,a20,a21,a22,a23,a24) else bif x1==1 then some (a11,a12,a13,a14,a15,a16,a17,a2,a3,a5,a6,a7,((az .and .i64 a10 2) !=0),a4) else none
def pT (a0:Int) (a1:Int) (a2:bg.T) (x11:Int×(List (List (Int×aa.T)))):Option ((((List (List (Int×aa.T)))))⊕(Int×(List (List (Int×aa.T))))):=(bif decide (x11.1<((a0.toNat:Nat):Int)) then some true else some false:Option (Bool)).bind fun x12=>bif x12 then (hU a1 a2).bind fun x13=>req (0<=x11.1/\x11.1<((a0.toNat:Nat):Int)) <| (x11.2[x11.1.toNat]?).bind fun x14=>some (.inr (i64.wrap (x11.1+1),x11.2.set x11.1.toNat x13)) else some (.inl x11.2)
def gb (a0:Int) (a1:Int) (a2:bg.T):Option ((List (List (Int×aa.T)))):=((dC a0).bind fun x4=>bif !x4 then some true else (dC a1).bind fun x5=>bif !x5 then some true else (fD a2).bind fun x6=>bif !x6 then some true else some false:Option (Bool)).bind fun x7=>bif x7 then some ([]) else req (0<=a0/\a0<=a0/\a0.toNat*24<=aS) <| (ap (pT a0 a1 a2) (0,(List.replicate a0.toNat []:List (List (Int×aa.T))))).bind fun x15=>req (a0.toNat=x15.length) (some x15)
def ci (a0:Int) (a1:Int) (a2:Int) (a3:Int) (a10:Int) (a11:Int) (a12:Int):Option (Int×Int):=((bif (az .and .i64 a12 2) !=0 then some true else some false:Option (Bool)).bind fun x4=>bif x4 then (bv (i64.wrap (a10+a0)) a10 a11).bind fun x5=>some x5 else (bv a0 0 (i64.wrap (a2-1))).bind fun x6=>some x6:Option (Int)).bind fun x7=>(bv a1 0 (i64.wrap (a3-1))).bind fun x8=>some (x7,x8)
def bX (a0:Int) (a1:Int) (a10:Int) (a11:Int) (a12:Int) (a13:Int) (a14:Int) (a15:Int) (a16:Bool) (a17:Bool) (a18:Int) (a19:Int) (a20:Int) (a21:Int) (a22:Int) (a23:Bool) (a24:Bool) (a29:List (List (Int×aa.T))) (a30:List (List (Int×aa.T))) (a31:List Int):Option (Int×Int×Bool×Int×Int×Int×Int):=(req (a31.length=a31.length) <| req (a30.length=a30.length) <| req (a29.length=a29.length) <| (dI a10).bind fun x2=>bif x2==0 then some (a11,a12,a13,a14,a15,a16,a17) else bif x2==1 then some (a18,a19,a20,a21,a22,a23,a24) else none:Option (Int×Int×Int×Int×Int×Bool×Bool)).bind fun x3=>(bv x3.1 0 (i64.wrap (a0-1))).bind fun x4=>(bv x3.2.1 0 (i64.wrap (a1-1))).bind fun x5=>((bif x3.2.2.2.2.2.1 then some true else some false:Option (Bool)).bind fun x7=>bif x7 then some (az .or .i64 (az .andNot .i64 a10 2) 2) else some (az .andNot .i64 a10 2):Option (Int)).bind fun x8=>bif x3.2.2.2.2.2.2 then some (x4,x5,(x5==(i64.wrap (a1-1))),x3.2.2.1,x3.2.2.2.1,x3.2.2.2.2.1,x8) else some (x4,x5,false,x3.2.2.1,x3.2.2.2.1,x3.2.2.2.2.1,x8)
def fB (a0:Int) (a1:Bool) (a2:Int) (a3:Int) (a4:Int) (a5:Int) (a6:Bool) (a7:Int) (a8:Int) (a9:Int) (a10:Int) (a11:Int) (a12:Int) (a13:Int) (a14:Int) (a15:Int) (a16:Int) (a17:Int) (a18:Bool) (a19:Bool) (a20:Int) (a21:Int) (a22:Int) (a23:Int) (a24:Int) (a25:Bool) (a26:Bool) (a31:List (List (Int×aa.T))) (a32:List (List (Int×aa.T))) (a33:List Int):Option ((List (List (Int×aa.T)))×(List (List (Int×aa.T)))×Int×Int×Bool×Int×Int×Int×Int×Int×Int×Int×Int×Int×Bool×Bool×Int×Int×Int×Int×Int×Bool×Bool):=(bif decide (a0<1) then some true else bif decide (a0>255) then some true else bif (az .and .i64 a0 (i64.wrap (a0-1))) !=0 then some true else some false:Option (Bool)).bind fun x1=>bif x1 then req (a32.length=a32.length) (req (a31.length=a31.length) (some (a31,a32,a4,a5,a6,a7,a8,a9,a12,a13,a14,a15,a16,a17,a18,a19,a20,a21,a22,a23,a24,a25,a26))) else ((bif a0==128 then bif !(((az .and .i64 a12 a0) !=0)==a1) then some true else some false else some false:Option (Bool)).bind fun x6=>bif x6 then (bif a1 then some true else some false:Option (Bool)).bind fun x7=>bif x7 then req (a33.length=a33.length) <| req (a32.length=a32.length) <| req (a31.length=a31.length) <| (dH a4 a5 a6 a7 a8 a9 a12 a13 a14 a15 a16 a17 a18 a19 a20 a21 a22 a23 a24 a25 a26 a31 a32 a33).bind fun x8=>(gb a2 a3 (0,0,0)).bind fun x9=>req (a31.length=a31.length) (req (x9.length=x9.length) (some (x9,a31,x8.1,x8.2.1,x8.2.2.1,x8.2.2.2.1,x8.2.2.2.2.1,x8.2.2.2.2.2.1,x8.2.2.2.2.2.2.1,x8.2.2.2.2.2.2.2.1,x8.2.2.2.2.2.2.2.2.1,x8.2.2.2.2.2.2.2.2.2.1,x8.2.2.2.2.2.2.2.2.2.2.1,x8.2.2.2.2.2.2.2.2.2.2.2.1,x8.2.2.2.2.2.2.2.2.2.2.2.2.1,x8.2.2.2.2.2.2.2.2.2.2.2.2.2))) else req (a32.length=a32.length) (some (a32,[],a13,a14,a15,a16,a17,a18,a19,a20,a21,a22,a23,a24,a25,a26)) else req (a32.length=a32.length) (req (a31.length=a31.length) (some (a31,a32,a13,a14,a15,a16,a17,a18,a19,a20,a21,a22,a23,a24,a25,a26))):Option ((List (List (Int×aa.T)))×(List (List (Int×aa.T)))×Int×Int×Int×Int×Int×Bool×Bool×Int×Int×Int×Int×Int×Bool×Bool)).bind fun x10=>((bif a1 then some true else some false:Option (Bool)).bind fun x12=>bif x12 then some (az .or .i64 (az .andNot .i64 a12 a0) a0) else some (az .andNot .i64 a12 a0):Option (Int)).bind fun x13=>(bif a0==2 then some true else some false:Option (Bool)).bind fun x14=>bif x14 then req (a33.length=a33.length) <| req (x10.2.1.length=x10.2.1.length) <| req (x10.1.length=x10.1.length) <| (ci 0 0 a2 a3 a10 a11 x13).bind fun x15=>req (x10.2.1.length=x10.2.1.length) (req (x10.1.length=x10.1.length) (some (x10.1,x10.2.1,x15.1,x15.2,false,a7,a8,a9,x13,x10.2.2.1,x10.2.2.2.1,x10.2.2.2.2.1,x10.2.2.2.2.2.1,x10.2.2.2.2.2.2.1,x10.2.2.2.2.2.2.2.1,x10.2.2.2.2.2.2.2.2.1,x10.2.2.2.2.2.2.2.2.2.1,x10.2.2.2.2.2.2.2.2.2.2.1,x10.2.2.2.2.2.2.2.2.2.2.2.1,x10.2.2.2.2.2.2.2.2.2.2.2.2.1,x10.2.2.2.2.2.2.2.2.2.2.2.2.2.1,x10.2.2.2.2.2.2.2.2.2.2.2.2.2.2.1,x10.2.2.2.2.2.2.2.2.2.2.2.2.2.2.2))) else (bif a0==128 then some true else some false:Option (Bool)).bind fun x16=>bif x16 then (bif (az .and .i64 a12 a0) !=0 then bif !a1 then some true else some false else some false:Option (Bool)).bind fun x17=>bif x17 then req (a33.length=a33.length) <| req (x10.2.1.length=x10.2.1.length) <| req (x10.1.length=x10.1.length) <| (bX a2 a3 x13 x10.2.2.1 x10.2.2.2.1 x10.2.2.2.2.1 x10.2.2.2.2.2.1 x10.2.2.2.2.2.2.1 x10.2.2.2.2.2.2.2.1 x10.2.2.2.2.2.2.2.2.1 x10.2.2.2.2.2.2.2.2.2.1 x10.2.2.2.2.2.2.2.2.2.2.1 x10.2.2.2.2.2.2.2.2.2.2.2.1 x10.2.2.2.2.2.2.2.2.2.2.2.2.1 x10.2.2.2.2.2.2.2.2.2.2.2.2.2.1 x10.2.2.2.2.2.2.2.2.2.2.2.2.2.2.1 x10.2.2.2.2.2.2.2.2.2.2.2.2.2.2.2 x10.1 x10.2.1 a33).bind fun x18=>req (x10.2.1.length=x10.2.1.length) (req (x10.1.length=x10.1.length) (some (x10.1,x10.2.1,x18.1,x18.2.1,x18.2.2.1,x18.2.2.2.1,x18.2.2.2.2.1,x18.2.2.2.2.2.1,x18.2.2.2.2.2.2,x10.2.2.1,x10.2.2.2.1,x10.2.2.2.2.1,x10.2.2.2.2.2.1,x10.2.2.2.2.2.2.1,x10.2.2.2.2.2.2.2.1,x10.2.2.2.2.2.2.2.2.1,x10.2.2.2.2.2.2.2.2.2.1,x10.2.2.2.2.2.2.2.2.2.2.1,x10.2.2.2.2.2.2.2.2.2.2.2.1,x10.2.2.2.2.2.2.2.2.2.2.2.2.1,x10.2.2.2.2.2.2.2.2.2.2.2.2.2.1,x10.2.2.2.2.2.2.2.2.2.2.2.2.2.2.1,x10.2.2.2.2.2.2.2.2.2.2.2.2.2.2.2))) else req (x10.2.1.length=x10.2.1.length) (req (x10.1.length=x10.1.length) (some (x10.1,x10.2.1,a4,a5,false,a7,a8,a9,x13,x10.2.2.1,x10.2.2.2.1,x10.2.2.2.2.1,x10.2.2.2.2.2.1,x10.2.2.2.2.2.2.1,x10.2.2.2.2.2.2.2.1,x10.2.2.2.2.2.2.2.2.1,x10.2.2.2.2.2.2.2.2.2.1,x10.2.2.2.2.2.2.2.2.2.2.1,x10.2.2.2.2.2.2.2.2.2.2.2.1,x10.2.2.2.2.2.2.2.2.2.2.2.2.1,x10.2.2.2.2.2.2.2.2.2.2.2.2.2.1,x10.2.2.2.2.2.2.2.2.2.2.2.2.2.2.1,x10.2.2.2.2.2.2.2.2.2.2.2.2.2.2.2))) else req (x10.2.1.length=x10.2.1.length) (req (x10.1.length=x10.1.length) (some (x10.1,x10.2.1,a4,a5,a6,a7,a8,a9,x13,x10.2.2.1,x10.2.2.2.1,x10.2.2.2.2.1,x10.2.2.2.2.2.1,x10.2.2.2.2.2.2.1,x10.2.2.2.2.2.2.2.1,x10.2.2.2.2.2.2.2.2.1,x10.2.2.2.2.2.2.2.2.2.1,x10.2.2.2.2.2.2.2.2.2.2.1,x10.2.2.2.2.2.2.2.2.2.2.2.1,x10.2.2.2.2.2.2.2.2.2.2.2.2.1,x10.2.2.2.2.2.2.2.2.2.2.2.2.2.1,x10.2.2.2.2.2.2.2.2.2.2.2.2.2.2.1,x10.2.2.2.2.2.2.2.2.2.2.2.2.2.2.2)))
def jM (a0:Int) (a1:Int):Option (Int×Int×Int×Int×Int×Int×Int×Int×Int×(List (List (Int×aa.T)))):=(gb a0 a1 (0,0,0)).bind fun x1=>(bif ((x1.length:Nat):Int)==0 then some true else some false:Option (Bool)).bind fun x2=>bif x2 then some (0,0,0,0,0,0,0,0,2,[]) else (gh a1).bind fun x3=>req (x1.length=x1.length) (some (a0,a1,i64.wrap (a0-1),9,x3.1,x3.2.1,x3.2.2.1,x3.2.2.2,0,x1))
def fx (a0:Int) (a1:Int) (a2:Int) (a3:Int) (a4:Int) (a5:Int) (a10:Int) (a11:Int):Option (Int×Int):=((bif decide (a4>=a10) then some true else some false:Option (Bool)).bind fun x2=>bif x2 then some a10 else some 0:Option (Int)).bind fun x3=>((bif decide (a4<=a11) then some true else some false:Option (Bool)).bind fun x5=>bif x5 then some a11 else some (i64.wrap (a2-1)):Option (Int)).bind fun x6=>((bif decide (a0>0) then some true else some false:Option (Bool)).bind fun x9=>bif x9 then some (if x6<(i64.wrap (a4+a0)) then x6 else (i64.wrap (a4+a0))) else (bif decide (a0<0) then some true else some false:Option (Bool)).bind fun x10=>bif x10 then some (if x3>(i64.wrap (a4+a0)) then x3 else (i64.wrap (a4+a0))) else some a4:Option (Int)).bind fun x11=>(bv (i64.wrap (a5+a1)) 0 (i64.wrap (a3-1))).bind fun x12=>some (x11,x12)
def bn (a0:Int):Option (Int):=(bif a0==0 then some true else some false:Option (Bool)).bind fun x1=>bif x1 then some 64 else (getI lV (Int.fdiv (u64.wrap ((az .and .u64 a0 (u64.wrap ((0:Int)-a0)))*285870213051353865)) (2^58))).bind fun x2=>some (i64.wrap (x2.toNat:Int))
def jB (a0:Int×fa.T):Option (List Int):=outF bn vA wU [a0.1,a0.2.1,a0.2.2.1,a0.2.2.2] 300 0
def jm (a0:Int×fa.T) (a1:Int) (a2:Int):Option (Int):=(jB a0).bind fun l=>some (vG a1 (aR a2) l)
def jn (a0:Int×fa.T) (a1:Int):Option (Int):=(jB a0).bind fun l=>some (uh a1 l)
def bu (a0:dP.T) (a32:List Int) (a31:List (List (Int×aa.T))) (a1:Int) (a6:Int) (a7:Int) (a8:Int) (a9:Int) (a10:Int) (x4:Int×(List (List (Int×aa.T)))×Int):Option ((((List (List (Int×aa.T)))×Int))⊕(Int×(List (List (Int×aa.T)))×Int)):=(bif decide (x4.1<a0.2.1) then some true else some false:Option (Bool)).bind fun x5=>bif x5 then req (a32.length=a32.length) <| req (a31.length=a31.length) <| req (x4.2.1.length=x4.2.1.length) <| (bA a1 x4.2.2 a6 a7 a8 a9 a10 x4.2.1 a31 a32).bind fun x6=>req (x6.1.length=x6.1.length) (some (.inr (i64.wrap (x4.1+1),x6.1,x6.2))) else req (x4.2.1.length=x4.2.1.length) (some (.inl (x4.2.1,x4.2.2)))
def bq (a0:dP.T) (a26:Int) (a27:Int) (a28:Int) (a29:Int) (a2:Int) (x23:Int×Int):Option (((Int))⊕(Int×Int)):=(bif decide (x23.1<a0.2.1) then some true else some false:Option (Bool)).bind fun x24=>bif x24 then (jm (a26,a27,a28,a29) x23.2 a2).bind fun x25=>some (.inr (i64.wrap (x23.1+1),x25)) else some (.inl x23.2)
def bp (a0:dP.T) (a26:Int) (a27:Int) (a28:Int) (a29:Int) (x29:Int×Int):Option (((Int))⊕(Int×Int)):=(bif decide (x29.1<(i64.wrap ((0:Int)-a0.2.1))) then some true else some false:Option (Bool)).bind fun x30=>bif x30 then (jn (a26,a27,a28,a29) x29.2).bind fun x31=>some (.inr (i64.wrap (x29.1+1),x31)) else some (.inl x29.2)
def fy (a0:dP.T) (a1:Int) (a2:Int) (a3:Int) (a4:Int) (a5:Bool) (a6:Int) (a7:Int) (a8:Int) (a9:Int) (a10:Int) (a11:Int) (a26:Int) (a27:Int) (a28:Int) (a29:Int) (a30:List (List (Int×aa.T))) (a31:List (List (Int×aa.T))) (a32:List Int):Option ((List (List (Int×aa.T)))×Int×Int×Bool):=(bif a0.1==2 then some true else some false:Option (Bool)).bind fun x1=>bif x1 then req (a30.length=a30.length) ((ap (bu a0 a32 a31 a1 a6 a7 a8 a9 a10) (0,a30,a3)).bind fun x7=>req (x7.1.length=x7.1.length) (some (x7.1,x7.2,a4,a5))) else (bif a0.1==3 then some true else some false:Option (Bool)).bind fun x8=>bif x8 then (bif a3==a9 then some true else some false:Option (Bool)).bind fun x9=>bif x9 then req (a32.length=a32.length) <| req (a31.length=a31.length) <| req (a30.length=a30.length) <| (bD a9 (-1) a6 a7 a8 a10 a30).bind fun x10=>req (x10.length=x10.length) (some (x10,a3,a4,a5)) else req (a30.length=a30.length) (some (a30,(if (i64.wrap (a3-1))>(0:Int) then (i64.wrap (a3-1)) else (0:Int)),a4,a5)) else (bif a0.1==4 then some true else some false:Option (Bool)).bind fun x11=>bif x11 then req (a30.length=a30.length) (some (a30,a3,0,a5)) else (bif a0.1==5 then some true else some false:Option (Bool)).bind fun x12=>bif x12 then req (a32.length=a32.length) <| req (a31.length=a31.length) <| req (a30.length=a30.length) <| (ci a0.2.1 a0.2.2.1 a1 a2 a9 a10 a11).bind fun x13=>req (a30.length=a30.length) (some (a30,x13.1,x13.2,false)) else (bif a0.1==6 then some true else some false:Option (Bool)).bind fun x14=>bif x14 then req (a32.length=a32.length) <| req (a31.length=a31.length) <| req (a30.length=a30.length) <| (fx a0.2.1 a0.2.2.1 a1 a2 a3 a4 a9 a10).bind fun x15=>req (a30.length=a30.length) (some (a30,x15.1,x15.2,a5)) else (bif a0.1==7 then some true else some false:Option (Bool)).bind fun x16=>bif x16 then (bv a0.2.1 0 (i64.wrap (a2-1))).bind fun x17=>req (a30.length=a30.length) (some (a30,a3,x17,a5)) else (bif a0.1==8 then some true else some false:Option (Bool)).bind fun x18=>bif x18 then req (a32.length=a32.length) <| req (a31.length=a31.length) <| req (a30.length=a30.length) <| (ci a0.2.1 a4 a1 a2 a9 a10 a11).bind fun x19=>req (a30.length=a30.length) (some (a30,x19.1,x19.2,false)) else (bif a0.1==9 then some true else some false:Option (Bool)).bind fun x20=>bif x20 then (ap (bq a0 a26 a27 a28 a29 a2) (0,a4)).bind fun x26=>(ap (bp a0 a26 a27 a28 a29) (0,x26)).bind fun x32=>req (a30.length=a30.length) (some (a30,a3,x32,a5)) else req (a30.length=a30.length) (some (a30,a3,a4,a5))
def ga (a0:Int×Int) (a1:List (List (Int×aa.T))):Option (Bool):=bif decide (a0.1>=0) then bif decide (a0.1<((a1.length:Nat):Int)) then bif decide (a0.2>=0) then req (0<=(0:Int)/\(0:Int)<((a1.length:Nat):Int)) <| (a1[(0:Int).toNat]?).bind fun x1=>some (decide (a0.2<(x1.length:Int))) else some false else some false else some false
def eJ (a0:List (Int×aa.T)) (a1:Int) (a2:Int) (a3:bg.T):Option ((List (Int×aa.T))):=((im a0 a3).bind fun x2=>bif !x2 then some true else some false:Option (Bool)).bind fun x3=>bif x3 then some ([]) else (bi a0).bind fun x4=>(bif decide ((if a1>(0:Int) then a1 else (0:Int))>=(if (a0.length:Int)<a2 then (a0.length:Int) else a2)) then some true else some false:Option (Bool)).bind fun x5=>bif x5 then req (x4.length=x4.length) (some x4) else req (x4.length=x4.length) <| (bL (if a1>(0:Int) then a1 else (0:Int)) x4).bind fun x6=>req (x4.length=x6.length) <| (bL (if (a0.length:Int)<a2 then (a0.length:Int) else a2) x6).bind fun x7=>req (0<=(if a1>(0:Int) then a1 else (0:Int))/\(if a1>(0:Int) then a1 else (0:Int))<=(if (a0.length:Int)<a2 then (a0.length:Int) else a2)/\(if (a0.length:Int)<a2 then (a0.length:Int) else a2)<=((x4.length:Nat):Int)) <| (fP (i64.wrap ((if (a0.length:Int)<a2 then (a0.length:Int) else a2)-(if a1>(0:Int) then a1 else (0:Int)))) a3).bind fun x8=>req (((if a1>(0:Int) then a1 else (0:Int)).toNat)+((if (a0.length:Int)<a2 then (a0.length:Int) else a2).toNat-(if a1>(0:Int) then a1 else (0:Int)).toNat)<=x7.length) <| req (x4.length=(cpy x7 ((if a1>(0:Int) then a1 else (0:Int)).toNat) x8 (min x8.length ((if (a0.length:Int)<a2 then (a0.length:Int) else a2).toNat-(if a1>(0:Int) then a1 else (0:Int)).toNat))).length) (some (cpy x7 ((if a1>(0:Int) then a1 else (0:Int)).toNat) x8 (min x8.length ((if (a0.length:Int)<a2 then (a0.length:Int) else a2).toNat-(if a1>(0:Int) then a1 else (0:Int)).toNat))))
def bC (a1:Int×Int) (a3:List (List (Int×aa.T))) (a0:Int×Int) (x6:(List (List (Int×aa.T)))) (a2:bg.T) (x23:Int×(List (List (Int×aa.T)))):Option ((((List (List (Int×aa.T)))))⊕(Int×(List (List (Int×aa.T))))):=(bif decide (x23.1<=a1.1) then some true else some false:Option (Bool)).bind fun x24=>bif x24 then req (0<=(0:Int)/\(0:Int)<((a3.length:Nat):Int)) <| (a3[(0:Int).toNat]?).bind fun x25=>((bif x23.1==a0.1 then some true else some false:Option (Bool)).bind fun x27=>bif x27 then some a0.2 else some 0:Option (Int)).bind fun x28=>((bif x23.1==a1.1 then some true else some false:Option (Bool)).bind fun x30=>bif x30 then some (i64.wrap (a1.2+1)) else some (x25.length:Int):Option (Int)).bind fun x31=>req (0<=x23.1/\x23.1<((x6.length:Nat):Int)) <| (x23.2[x23.1.toNat]?).bind fun x32=>(eJ x32 x28 x31 a2).bind fun x33=>req (0<=x23.1/\x23.1<((x6.length:Nat):Int)) <| (x23.2[x23.1.toNat]?).bind fun x34=>some (.inr (i64.wrap (x23.1+1),x23.2.set x23.1.toNat x33)) else some (.inl x23.2)
def eM (a0:Int×Int) (a1:Int×Int) (a2:bg.T) (a3:List (List (Int×aa.T))):Option ((List (List (Int×aa.T)))):=(req (a3.length=a3.length) <| (k8 a3).bind fun x3=>bif !x3 then some true else (fD a2).bind fun x4=>bif !x4 then some true else some false:Option (Bool)).bind fun x5=>bif x5 then some ([]) else req (a3.length=a3.length) <| (gF a3).bind fun x6=>(req (a3.length=a3.length) <| (ga a0 a3).bind fun x9=>bif !x9 then some true else req (a3.length=a3.length) <| (ga a1 a3).bind fun x10=>bif !x10 then some true else some false:Option (Bool)).bind fun x11=>bif x11 then req (x6.length=x6.length) (some x6) else (ap (bC a1 a3 a0 x6 a2) (a0.1,x6)).bind fun x35=>req (x6.length=x35.length) (some x35)
def dj (a0:Int) (a1:Int×Int) (a2:Int×Int) (a3:Int×Int) (a9:Int) (a10:Int) (a11:Int) (a33:List (List (Int×aa.T))):Option ((List (List (Int×aa.T)))):=(bif a0==0 then some true else some false:Option (Bool)).bind fun x1=>bif x1 then req (a33.length=a33.length) <| (eM a2 a3 (a9,a10,a11) a33).bind fun x2=>req (x2.length=x2.length) (some x2) else (bif a0==1 then some true else some false:Option (Bool)).bind fun x3=>bif x3 then req (a33.length=a33.length) <| (eM a1 a2 (a9,a10,a11) a33).bind fun x4=>req (x4.length=x4.length) (some x4) else (bif a0==2 then some true else some false:Option (Bool)).bind fun x5=>bif x5 then req (a33.length=a33.length) <| (eM a1 a3 (a9,a10,a11) a33).bind fun x6=>req (x6.length=x6.length) (some x6) else req (a33.length=a33.length) (some a33)
def fw (a0:List (Int×aa.T)) (a1:Int) (a2:Int) (a3:bg.T):Option ((List (Int×aa.T))):=((im a0 a3).bind fun x2=>bif !x2 then some true else some false:Option (Bool)).bind fun x3=>bif x3 then some ([]) else (bi a0).bind fun x4=>(bif decide (a2<1) then some true else bif decide (a1<0) then some true else bif decide (a1>=(a0.length:Int)) then some true else some false:Option (Bool)).bind fun x5=>bif x5 then req (x4.length=x4.length) (some x4) else req (x4.length=x4.length) <| (bL a1 x4).bind fun x6=>req (x4.length=x6.length) <| (bL (i64.wrap (a1+(if (i64.wrap ((a0.length:Int)-a1))<a2 then (i64.wrap ((a0.length:Int)-a1)) else a2))) x6).bind fun x7=>req (0<=a1/\a1<=((x4.length:Nat):Int)/\((x4.length:Nat):Int)<=((x4.length:Nat):Int)) <| req (0<=(i64.wrap (a1+(if (i64.wrap ((a0.length:Int)-a1))<a2 then (i64.wrap ((a0.length:Int)-a1)) else a2)))/\(i64.wrap (a1+(if (i64.wrap ((a0.length:Int)-a1))<a2 then (i64.wrap ((a0.length:Int)-a1)) else a2)))<=((x4.length:Nat):Int)/\((x4.length:Nat):Int)<=((x4.length:Nat):Int)) <| req (a1.toNat+(x4.length-a1.toNat)<=x7.length) <| req (((i64.wrap (a1+(if (i64.wrap ((a0.length:Int)-a1))<a2 then (i64.wrap ((a0.length:Int)-a1)) else a2))).toNat)+(x4.length-(i64.wrap (a1+(if (i64.wrap ((a0.length:Int)-a1))<a2 then (i64.wrap ((a0.length:Int)-a1)) else a2))).toNat)<=x7.length) <| req (0<=(i64.wrap ((a0.length:Int)-(if (i64.wrap ((a0.length:Int)-a1))<a2 then (i64.wrap ((a0.length:Int)-a1)) else a2)))/\(i64.wrap ((a0.length:Int)-(if (i64.wrap ((a0.length:Int)-a1))<a2 then (i64.wrap ((a0.length:Int)-a1)) else a2)))<=((x4.length:Nat):Int)/\((x4.length:Nat):Int)<=((x4.length:Nat):Int)) <| (fP (if (i64.wrap ((a0.length:Int)-a1))<a2 then (i64.wrap ((a0.length:Int)-a1)) else a2) a3).bind fun x8=>req (((i64.wrap ((a0.length:Int)-(if (i64.wrap ((a0.length:Int)-a1))<a2 then (i64.wrap ((a0.length:Int)-a1)) else a2))).toNat)+(x4.length-(i64.wrap ((a0.length:Int)-(if (i64.wrap ((a0.length:Int)-a1))<a2 then (i64.wrap ((a0.length:Int)-a1)) else a2))).toNat)<=(cpy x7 a1.toNat ((x7.drop ((i64.wrap (a1+(if (i64.wrap ((a0.length:Int)-a1))<a2 then (i64.wrap ((a0.length:Int)-a1)) else a2))).toNat)).take (x4.length-(i64.wrap (a1+(if (i64.wrap ((a0.length:Int)-a1))<a2 then (i64.wrap ((a0.length:Int)-a1)) else a2))).toNat)) (min ((x7.drop ((i64.wrap (a1+(if (i64.wrap ((a0.length:Int)-a1))<a2 then (i64.wrap ((a0.length:Int)-a1)) else a2))).toNat)).take (x4.length-(i64.wrap (a1+(if (i64.wrap ((a0.length:Int)-a1))<a2 then (i64.wrap ((a0.length:Int)-a1)) else a2))).toNat)).length (x4.length-a1.toNat))).length) <| req (x4.length=(cpy (cpy x7 a1.toNat ((x7.drop ((i64.wrap (a1+(if (i64.wrap ((a0.length:Int)-a1))<a2 then (i64.wrap ((a0.length:Int)-a1)) else a2))).toNat)).take (x4.length-(i64.wrap (a1+(if (i64.wrap ((a0.length:Int)-a1))<a2 then (i64.wrap ((a0.length:Int)-a1)) else a2))).toNat)) (min ((x7.drop ((i64.wrap (a1+(if (i64.wrap ((a0.length:Int)-a1))<a2 then (i64.wrap ((a0.length:Int)-a1)) else a2))).toNat)).take (x4.length-(i64.wrap (a1+(if (i64.wrap ((a0.length:Int)-a1))<a2 then (i64.wrap ((a0.length:Int)-a1)) else a2))).toNat)).length (x4.length-a1.toNat))) ((i64.wrap ((a0.length:Int)-(if (i64.wrap ((a0.length:Int)-a1))<a2 then (i64.wrap ((a0.length:Int)-a1)) else a2))).toNat) x8 (min x8.length (x4.length-(i64.wrap ((a0.length:Int)-(if (i64.wrap ((a0.length:Int)-a1))<a2 then (i64.wrap ((a0.length:Int)-a1)) else a2))).toNat))).length) (some (cpy (cpy x7 a1.toNat ((x7.drop ((i64.wrap (a1+(if (i64.wrap ((a0.length:Int)-a1))<a2 then (i64.wrap ((a0.length:Int)-a1)) else a2))).toNat)).take (x4.length-(i64.wrap (a1+(if (i64.wrap ((a0.length:Int)-a1))<a2 then (i64.wrap ((a0.length:Int)-a1)) else a2))).toNat)) (min ((x7.drop ((i64.wrap (a1+(if (i64.wrap ((a0.length:Int)-a1))<a2 then (i64.wrap ((a0.length:Int)-a1)) else a2))).toNat)).take (x4.length-(i64.wrap (a1+(if (i64.wrap ((a0.length:Int)-a1))<a2 then (i64.wrap ((a0.length:Int)-a1)) else a2))).toNat)).length (x4.length-a1.toNat))) ((i64.wrap ((a0.length:Int)-(if (i64.wrap ((a0.length:Int)-a1))<a2 then (i64.wrap ((a0.length:Int)-a1)) else a2))).toNat) x8 (min x8.length (x4.length-(i64.wrap ((a0.length:Int)-(if (i64.wrap ((a0.length:Int)-a1))<a2 then (i64.wrap ((a0.length:Int)-a1)) else a2))).toNat))))
def dk (a0:Int) (a29:List (List (Int×aa.T))):Option ((List (List (Int×aa.T)))×Int):=if rB a29 ((a29).headD []).length=true then some ((List.map (fun l=>List.replicate l.length (69,(0,0),0,0,0,0)) a29),i64.wrap (a0-1)) else none
def jU (a0:List (Int×aa.T)) (a1:Int):Option ((List (Int×aa.T))):=((kX a0).bind fun x2=>bif !x2 then some true else bif decide (a1<0) then some true else bif decide (a1>1000) then some true else some false:Option (Bool)).bind fun x3=>bif x3 then some ([]) else (bi a0).bind fun x4=>req (x4.length=x4.length) <| (bL a1 x4).bind fun x5=>req (0<=(0:Int)/\(0:Int)<=(if (a0.length:Int)<a1 then (a0.length:Int) else a1)/\(if (a0.length:Int)<a1 then (a0.length:Int) else a1)<=((x4.length:Nat):Int)) <| (fP (i64.wrap (a1-(if (a0.length:Int)<a1 then (a0.length:Int) else a1))) (0,0,0)).bind fun x6=>req (0+((if (a0.length:Int)<a1 then (a0.length:Int) else a1).toNat)<=x5.length) <| req ((((x5.drop 0).take ((if (a0.length:Int)<a1 then (a0.length:Int) else a1).toNat))++x6).length*48<=aS) <| req ((((x5.drop 0).take ((if (a0.length:Int)<a1 then (a0.length:Int) else a1).toNat))++x6).length=(((x5.drop 0).take ((if (a0.length:Int)<a1 then (a0.length:Int) else a1).toNat))++x6).length) (some (((x5.drop 0).take ((if (a0.length:Int)<a1 then (a0.length:Int) else a1).toNat))++x6))
def eK (a3:List (List (Int×aa.T))) (a2:Int) (a0:Int) (a1:Int) (x8:(List (List (Int×aa.T)))) (x19:Int×(List (List (Int×aa.T)))):Option ((((List (List (Int×aa.T)))))⊕(Int×(List (List (Int×aa.T))))):=(bif decide (x19.1<((a3.length-a2.toNat:Nat):Int)) then some true else some false:Option (Bool)).bind fun x20=>bif x20 then (req (0<=x19.1/\x19.1<((a3.length-a2.toNat:Nat):Int)) <| (a3[x19.1.toNat+a2.toNat]?).bind fun x25=>(bif decide (x19.1<a0) then some true else some false:Option (Bool)).bind fun x26=>bif x26 then (jU x25 a1).bind fun x27=>req (0<=x19.1/\x19.1<((x8.length:Nat):Int)) <| (x19.2[x19.1.toNat]?).bind fun x28=>some (x19.2.set x19.1.toNat x27) else some x19.2:Option ((List (List (Int×aa.T))))).bind fun x29=>some (.inr (i64.wrap (x19.1+1),x29)) else some (.inl x19.2)
def iu (a0:Int) (a1:Int) (a2:Int) (a3:List (List (Int×aa.T))):Option ((List (List (Int×aa.T)))):=(req (a3.length=a3.length) <| (k8 a3).bind fun x4=>bif !x4 then some true else (dC a0).bind fun x5=>bif !x5 then some true else (dC a1).bind fun x6=>bif !x6 then some true else bif decide (a2<0) then some true else bif decide (a2>((a3.length:Nat):Int)) then some true else some false:Option (Bool)).bind fun x7=>bif x7 then some ([]) else (gb a0 a1 (0,0,0)).bind fun x8=>req (0<=a2/\a2<=((a3.length:Nat):Int)/\((a3.length:Nat):Int)<=((a3.length:Nat):Int)) <| (ap (eK a3 a2 a0 a1 x8) (0,x8)).bind fun x30=>req (x8.length=x30.length) (some x30)
def nj (x2:Int×Int) (x5:Int×(List (Int×aa.T))):Option ((((List (Int×aa.T))))⊕(Int×(List (Int×aa.T)))):=(bif decide (x5.1<(((i64.wrap x2.2).toNat:Nat):Int)) then some true else some false:Option (Bool)).bind fun x6=>bif x6 then req (0<=x5.1/\x5.1<=(((i64.wrap x2.2).toNat:Nat):Int)/\(((i64.wrap x2.2).toNat:Nat):Int)<=(((i64.wrap x2.2).toNat:Nat):Int)) <| req (0<=(0:Int)/\(0:Int)<=x5.1/\x5.1<=(((i64.wrap x2.2).toNat:Nat):Int)) <| req (x5.1.toNat+((i64.wrap x2.2).toNat-x5.1.toNat)<=x5.2.length) <| req (0+x5.1.toNat<=x5.2.length) <| some (.inr (i64.wrap (x5.1+((min ((x5.2.drop 0).take x5.1.toNat).length ((i64.wrap x2.2).toNat-x5.1.toNat):Nat):Int)),cpy x5.2 x5.1.toNat ((x5.2.drop 0).take x5.1.toNat) (min ((x5.2.drop 0).take x5.1.toNat).length ((i64.wrap x2.2).toNat-x5.1.toNat)))) else some (.inl x5.2)
def jD (a0:List (Int×aa.T)) (a1:Int):Option ((List (Int×aa.T))):=(bif decide (a1<0) then some true else some false:Option (Bool)).bind fun x1=>bif x1 then none else (pX (u64.wrap (a0.length:Int)) (u64.wrap a1)).bind fun x2=>(bif decide (x2.1>0) then some true else bif decide (x2.2>9223372036854775807) then some true else some false:Option (Bool)).bind fun x3=>bif x3 then none else req (0<=(i64.wrap x2.2)/\(i64.wrap x2.2)<=(i64.wrap x2.2)/\(i64.wrap x2.2).toNat*48<=aS) <| req (0+((i64.wrap x2.2).toNat)<=(List.replicate ((i64.wrap x2.2).toNat) (0,(0,0),0,0,0,0):List (Int×aa.T)).length) <| (ap (nj x2) (((min a0.length ((i64.wrap x2.2).toNat):Nat):Int),cpy (List.replicate ((i64.wrap x2.2).toNat) (0,(0,0),0,0,0,0):List (Int×aa.T)) 0 a0 (min a0.length ((i64.wrap x2.2).toNat)))).bind fun x7=>req ((i64.wrap x2.2).toNat=x7.length) (some x7)
def ma (a0:Int) (a1:bg.T):Option ((List (Int×aa.T))):=(bif decide (a0<0) then some true else bif decide (a0>1000) then some true else (fD a1).bind fun x2=>bif !x2 then some true else some false:Option (Bool)).bind fun x3=>bif x3 then some ([]) else (hH a1).bind fun x4=>(jD [x4] a0).bind fun x5=>some x5
def pU (a0:Int) (a1:Int) (a2:bg.T) (x11:Int×(List (List (Int×aa.T)))):Option ((((List (List (Int×aa.T)))))⊕(Int×(List (List (Int×aa.T))))):=(bif decide (x11.1<((a0.toNat:Nat):Int)) then some true else some false:Option (Bool)).bind fun x12=>bif x12 then (ma a1 a2).bind fun x13=>req (0<=x11.1/\x11.1<((a0.toNat:Nat):Int)) <| (x11.2[x11.1.toNat]?).bind fun x14=>some (.inr (i64.wrap (x11.1+1),x11.2.set x11.1.toNat x13)) else some (.inl x11.2)
def pV (a0:Int) (a1:Int) (a2:bg.T):Option ((List (List (Int×aa.T)))):=((dC a0).bind fun x4=>bif !x4 then some true else (dC a1).bind fun x5=>bif !x5 then some true else (fD a2).bind fun x6=>bif !x6 then some true else some false:Option (Bool)).bind fun x7=>bif x7 then some ([]) else req (0<=a0/\a0<=a0/\a0.toNat*24<=aS) <| (ap (pU a0 a1 a2) (0,(List.replicate a0.toNat []:List (List (Int×aa.T))))).bind fun x15=>req (a0.toNat=x15.length) (some x15)
def oN (a0:List (Int×aa.T)) (a1:Int):Option ((List (Int×aa.T))):=((kX a0).bind fun x2=>bif !x2 then some true else bif decide (a1<0) then some true else bif decide (a1>1000) then some true else some false:Option (Bool)).bind fun x3=>bif x3 then some ([]) else (bi a0).bind fun x4=>req (x4.length=x4.length) <| (bL a1 x4).bind fun x5=>req (0<=(0:Int)/\(0:Int)<=(if (a0.length:Int)<a1 then (a0.length:Int) else a1)/\(if (a0.length:Int)<a1 then (a0.length:Int) else a1)<=((x4.length:Nat):Int)) <| (fP (i64.wrap (a1-(if (a0.length:Int)<a1 then (a0.length:Int) else a1))) (0,0,0)).bind fun x6=>req (0+((if (a0.length:Int)<a1 then (a0.length:Int) else a1).toNat)<=x5.length) <| req ((((x5.drop 0).take ((if (a0.length:Int)<a1 then (a0.length:Int) else a1).toNat))++x6).length*48<=aS) <| req ((((x5.drop 0).take ((if (a0.length:Int)<a1 then (a0.length:Int) else a1).toNat))++x6).length=(((x5.drop 0).take ((if (a0.length:Int)<a1 then (a0.length:Int) else a1).toNat))++x6).length) (some (((x5.drop 0).take ((if (a0.length:Int)<a1 then (a0.length:Int) else a1).toNat))++x6))
def rT (a3:List (List (Int×aa.T))) (a2:Int) (a0:Int) (a1:Int) (x8:(List (List (Int×aa.T)))) (x19:Int×(List (List (Int×aa.T)))):Option ((((List (List (Int×aa.T)))))⊕(Int×(List (List (Int×aa.T))))):=(bif decide (x19.1<((a3.length-a2.toNat:Nat):Int)) then some true else some false:Option (Bool)).bind fun x20=>bif x20 then (req (0<=x19.1/\x19.1<((a3.length-a2.toNat:Nat):Int)) <| (a3[x19.1.toNat+a2.toNat]?).bind fun x25=>(bif decide (x19.1<a0) then some true else some false:Option (Bool)).bind fun x26=>bif x26 then (oN x25 a1).bind fun x27=>req (0<=x19.1/\x19.1<((x8.length:Nat):Int)) <| (x19.2[x19.1.toNat]?).bind fun x28=>some (x19.2.set x19.1.toNat x27) else some x19.2:Option ((List (List (Int×aa.T))))).bind fun x29=>some (.inr (i64.wrap (x19.1+1),x29)) else some (.inl x19.2)
def oQ (a0:Int) (a1:Int) (a2:Int) (a3:List (List (Int×aa.T))):Option ((List (List (Int×aa.T)))):=(req (a3.length=a3.length) <| (k8 a3).bind fun x4=>bif !x4 then some true else (dC a0).bind fun x5=>bif !x5 then some true else (dC a1).bind fun x6=>bif !x6 then some true else bif decide (a2<0) then some true else bif decide (a2>((a3.length:Nat):Int)) then some true else some false:Option (Bool)).bind fun x7=>bif x7 then some ([]) else (pV a0 a1 (0,0,0)).bind fun x8=>req (0<=a2/\a2<=((a3.length:Nat):Int)/\((a3.length:Nat):Int)<=((a3.length:Nat):Int)) <| (ap (rT a3 a2 a0 a1 x8) (0,x8)).bind fun x30=>req (x8.length=x30.length) (some x30)
def d9 (a0:Int) (a1:Int) (a2:Int) (a3:Int) (a4:Int) (a5:Int) (a13:Int) (a27:Int) (a28:Int) (a29:Int) (a30:Int) (a31:List (List (Int×aa.T))) (a32:List (List (Int×aa.T))):Option ((List (List (Int×aa.T)))×(List (List (Int×aa.T)))×Int×Int×Int×Int×Int×Int×Int×Int×Int):=req (a31.length=a31.length) <| (iu a0 a1 (if (i64.wrap ((i64.wrap (a4+1))-a0))>(0:Int) then (i64.wrap ((i64.wrap (a4+1))-a0)) else (0:Int)) a31).bind fun x1=>((bif decide (((a32.length:Nat):Int)>0) then some true else some false:Option (Bool)).bind fun x4=>bif x4 then req (a32.length=a32.length) <| (oQ a0 a1 (if (i64.wrap ((i64.wrap ((if (i64.wrap (a2-1))<a13 then (i64.wrap (a2-1)) else a13)+1))-a0))>(0:Int) then (i64.wrap ((i64.wrap ((if (i64.wrap (a2-1))<a13 then (i64.wrap (a2-1)) else a13)+1))-a0)) else (0:Int)) a32).bind fun x5=>req (x5.length=x5.length) (some x5) else req (a32.length=a32.length) (some a32):Option ((List (List (Int×aa.T))))).bind fun x6=>((bif decide (a1>a3) then some true else some false:Option (Bool)).bind fun x9=>bif x9 then (cx (a27,a28,a29,a30) a3 a1).bind fun x10=>some (x10.1,x10.2.1,x10.2.2.1,x10.2.2.2) else some (a27,a28,a29,a30):Option (Int×Int×Int×Int)).bind fun x11=>req (x6.length=x6.length) (req (x1.length=x1.length) (some (x1,x6,a0,a1,i64.wrap (a4-(if (i64.wrap ((i64.wrap (a4+1))-a0))>(0:Int) then (i64.wrap ((i64.wrap (a4+1))-a0)) else (0:Int))),(if (i64.wrap (a1-1))<a5 then (i64.wrap (a1-1)) else a5),i64.wrap (a0-1),x11.1,x11.2.1,x11.2.2.1,x11.2.2.2)))
def dJ (a0:dP.T) (a1:Int) (a2:Int) (a3:Int) (a4:Int) (a5:Bool) (a6:Int) (a7:Int) (a8:Int) (a9:Int) (a10:Int) (a11:Int) (a12:Int) (a26:Int) (a27:Int) (a28:Int) (a29:Int) (a30:List (List (Int×aa.T))) (a31:List (List (Int×aa.T))) (a32:List Int):Option ((List (List (Int×aa.T)))×(List (List (Int×aa.T)))×Int×Int×Int×Int×Bool×Int×Int×Int×Int×Int×Int):=req (0<=a3/\a3<((a30.length:Nat):Int)) <| (a30[a3.toNat]?).bind fun x1=>(bif a0.1==11 then some true else some false:Option (Bool)).bind fun x2=>bif x2 then req (a32.length=a32.length) <| req (a31.length=a31.length) <| req (a30.length=a30.length) <| (dj a0.2.1 (a3,0) (a3,a4) (a3,i64.wrap (a2-1)) a6 a7 a8 a30).bind fun x3=>req (a31.length=a31.length) (req (x3.length=x3.length) (some (x3,a31,a1,a2,a3,a4,a5,a9,a10,a26,a27,a28,a29))) else (bif a0.1==12 then some true else some false:Option (Bool)).bind fun x4=>bif x4 then req (a32.length=a32.length) <| req (a31.length=a31.length) <| req (a30.length=a30.length) <| (dj a0.2.1 (0,0) (a3,a4) (i64.wrap (a1-1),i64.wrap (a2-1)) a6 a7 a8 a30).bind fun x5=>req (a31.length=a31.length) (req (x5.length=x5.length) (some (x5,a31,a1,a2,a3,a4,a5,a9,a10,a26,a27,a28,a29))) else (bif a0.1==13 then some true else some false:Option (Bool)).bind fun x6=>bif x6 then (de x1 a4 a0.2.1 (a6,a7,a8)).bind fun x7=>req (0<=a3/\a3<((a30.length:Nat):Int)) <| (a30[a3.toNat]?).bind fun x8=>req (a31.length=a31.length) (req (a30.length=(a30.set a3.toNat x7).length) (some (a30.set a3.toNat x7,a31,a1,a2,a3,a4,a5,a9,a10,a26,a27,a28,a29))) else (bif a0.1==14 then some true else some false:Option (Bool)).bind fun x9=>bif x9 then (fw x1 a4 a0.2.1 (a6,a7,a8)).bind fun x10=>req (0<=a3/\a3<((a30.length:Nat):Int)) <| (a30[a3.toNat]?).bind fun x11=>req (a31.length=a31.length) (req (a30.length=(a30.set a3.toNat x10).length) (some (a30.set a3.toNat x10,a31,a1,a2,a3,a4,a5,a9,a10,a26,a27,a28,a29))) else (bif a0.1==15 then some true else some false:Option (Bool)).bind fun x12=>bif x12 then (eJ x1 a4 (i64.wrap (a4+(if a0.2.1>(0:Int) then a0.2.1 else (0:Int)))) (a6,a7,a8)).bind fun x13=>req (0<=a3/\a3<((a30.length:Nat):Int)) <| (a30[a3.toNat]?).bind fun x14=>req (a31.length=a31.length) (req (a30.length=(a30.set a3.toNat x13).length) (some (a30.set a3.toNat x13,a31,a1,a2,a3,a4,a5,a9,a10,a26,a27,a28,a29))) else ((bif a0.1==16 then some true else some false:Option (Bool)).bind fun x16=>bif x16 then some x16 else bif a0.1==17 then some true else some false:Option (Bool)).bind fun x17=>bif x17 then (bif decide (a3<a9) then some true else bif decide (a3>a10) then some true else some false:Option (Bool)).bind fun x18=>bif x18 then req (a31.length=a31.length) (req (a30.length=a30.length) (some (a30,a31,a1,a2,a3,a4,a5,a9,a10,a26,a27,a28,a29))) else ((bif a0.1==16 then some true else some false:Option (Bool)).bind fun x20=>bif x20 then some (i64.wrap ((0:Int)-(if a0.2.1>(0:Int) then a0.2.1 else (0:Int)))) else some (if a0.2.1>(0:Int) then a0.2.1 else (0:Int)):Option (Int)).bind fun x21=>req (a32.length=a32.length) <| req (a31.length=a31.length) <| req (a30.length=a30.length) <| (bD a3 x21 a6 a7 a8 a10 a30).bind fun x22=>req (a31.length=a31.length) (req (x22.length=x22.length) (some (x22,a31,a1,a2,a3,0,a5,a9,a10,a26,a27,a28,a29))) else (bif a0.1==18 then some true else some false:Option (Bool)).bind fun x23=>bif x23 then req (a32.length=a32.length) <| req (a31.length=a31.length) <| req (a30.length=a30.length) <| (bD a9 a0.2.1 a6 a7 a8 a10 a30).bind fun x24=>req (a31.length=a31.length) (req (x24.length=x24.length) (some (x24,a31,a1,a2,a3,a4,a5,a9,a10,a26,a27,a28,a29))) else (bif a0.1==19 then some true else some false:Option (Bool)).bind fun x25=>bif x25 then (bif decide (a0.2.1>=0) then bif decide (a0.2.1<a0.2.2.1) then bif decide (a0.2.2.1<a1) then some true else some false else some false else some false:Option (Bool)).bind fun x26=>bif x26 then req (a32.length=a32.length) <| req (a31.length=a31.length) <| req (a30.length=a30.length) <| (ci 0 0 a1 a2 a0.2.1 a0.2.2.1 a11).bind fun x27=>req (a31.length=a31.length) (req (a30.length=a30.length) (some (a30,a31,a1,a2,x27.1,x27.2,false,a0.2.1,a0.2.2.1,a26,a27,a28,a29))) else req (a31.length=a31.length) (req (a30.length=a30.length) (some (a30,a31,a1,a2,a3,a4,a5,a9,a10,a26,a27,a28,a29))) else (bif a0.1==23 then some true else some false:Option (Bool)).bind fun x28=>bif x28 then req (a32.length=a32.length) <| req (a31.length=a31.length) <| req (a30.length=a30.length) <| (dk a1 a30).bind fun x29=>req (a31.length=a31.length) (req (a30.length=x29.1.length) (some (x29.1,a31,a1,a2,0,0,a5,0,x29.2,a26,a27,a28,a29))) else (bif a0.1==27 then some true else some false:Option (Bool)).bind fun x30=>bif x30 then (bv a0.2.1 1 200).bind fun x31=>(bv a0.2.2.1 1 200).bind fun x32=>req (a32.length=a32.length) <| req (a31.length=a31.length) <| req (a30.length=a30.length) <| (d9 x31 x32 a1 a2 a3 a4 a12 a26 a27 a28 a29 a30 a31).bind fun x33=>req (x33.2.1.length=x33.2.1.length) (req (x33.1.length=x33.1.length) (some (x33.1,x33.2.1,x33.2.2.1,x33.2.2.2.1,x33.2.2.2.2.1,x33.2.2.2.2.2.1,a5,0,x33.2.2.2.2.2.2.1,x33.2.2.2.2.2.2.2.1,x33.2.2.2.2.2.2.2.2.1,x33.2.2.2.2.2.2.2.2.2.1,x33.2.2.2.2.2.2.2.2.2.2))) else req (a31.length=a31.length) (req (a30.length=a30.length) (some (a30,a31,a1,a2,a3,a4,a5,a9,a10,a26,a27,a28,a29)))
def aZ (a0:dP.T) (x16:Int×List Int):Option (((List Int))⊕(Int×List Int)):=(bif decide (x16.1<(a0.2.2.2.2.2.length:Int)) then some true else some false:Option (Bool)).bind fun x17=>bif x17 then ((getI a0.2.2.2.2.2 x16.1).bind fun x22=>((j5 x22).bind fun x24=>bif decide (x24>0) then bif decide (((x16.2.length:Nat):Int)<60) then some true else some false else some false:Option (Bool)).bind fun x25=>bif x25 then req (x16.2.length=x16.2.length) <| req ((x16.2++[x22]).length*4<=aS) <| req ((x16.2++[x22]).length=(x16.2++[x22]).length) (some (x16.2++[x22])) else req (x16.2.length=x16.2.length) (some x16.2):Option (List Int)).bind fun x26=>req (x26.length=x26.length) (some (.inr (i64.wrap (x16.1+1),x26))) else req (x16.2.length=x16.2.length) (some (.inl x16.2))
def cW (a0:dP.T) (a1:Int) (a2:Int) (a3:Int) (a4:Int) (a5:Bool) (a6:Int) (a7:Int) (a8:Int) (a9:Int) (a10:Int) (a11:Int) (a12:Int) (a13:Int) (a14:Int) (a15:Int) (a16:Int) (a17:Bool) (a18:Bool) (a19:Int) (a20:Int) (a21:Int) (a22:Int) (a23:Int) (a24:Bool) (a25:Bool) (a26:Int) (a27:Int) (a28:Int) (a29:Int) (a30:List (List (Int×aa.T))) (a31:List (List (Int×aa.T))) (a32:List Int):Option ((List (List (Int×aa.T)))×(List (List (Int×aa.T)))×List Int×Int×Int×Int×Int×Bool×Int×Int×Int×Int×Int×Int×Int×Int×Int×Int×Int×Bool×Bool×Int×Int×Int×Int×Int×Bool×Bool×Int×Int×Int×Int):=(bif a0.1==1 then some true else some false:Option (Bool)).bind fun x1=>bif x1 then req (a32.length=a32.length) <| req (a31.length=a31.length) <| req (a30.length=a30.length) <| (eU a0.2.2.2.1 a1 a2 a3 a4 a5 a6 a7 a8 a9 a10 a11 a30 a31 a32).bind fun x2=>req (a32.length=a32.length) (req (a31.length=a31.length) (req (x2.1.length=x2.1.length) (some (x2.1,a31,a32,a1,a2,x2.2.1,x2.2.2.1,x2.2.2.2,a6,a7,a8,a9,a10,a11,a12,a13,a14,a15,a16,a17,a18,a19,a20,a21,a22,a23,a24,a25,a26,a27,a28,a29)))) else (bif a0.1==25 then some true else some false:Option (Bool)).bind fun x3=>bif x3 then (nB (a6,a7,a8) a0.2.2.2.2.1).bind fun x4=>req (a32.length=a32.length) (req (a31.length=a31.length) (req (a30.length=a30.length) (some (a30,a31,a32,a1,a2,a3,a4,a5,x4.1,x4.2.1,x4.2.2,a9,a10,a11,a12,a13,a14,a15,a16,a17,a18,a19,a20,a21,a22,a23,a24,a25,a26,a27,a28,a29)))) else (bif a0.1==26 then some true else some false:Option (Bool)).bind fun x5=>bif x5 then (ap (aZ a0) (0,[])).bind fun x27=>req (x27.length=x27.length) (req (a31.length=a31.length) (req (a30.length=a30.length) (some (a30,a31,x27,a1,a2,a3,a4,a5,a6,a7,a8,a9,a10,a11,a12,a13,a14,a15,a16,a17,a18,a19,a20,a21,a22,a23,a24,a25,a26,a27,a28,a29)))) else (bif a0.1==10 then some true else some false:Option (Bool)).bind fun x28=>bif x28 then (bif a0.2.1==0 then some true else some false:Option (Bool)).bind fun x29=>bif x29 then (gx (a26,a27,a28,a29) a4).bind fun x30=>req (a32.length=a32.length) (req (a31.length=a31.length) (req (a30.length=a30.length) (some (a30,a31,a32,a1,a2,a3,a4,a5,a6,a7,a8,a9,a10,a11,a12,a13,a14,a15,a16,a17,a18,a19,a20,a21,a22,a23,a24,a25,x30.1,x30.2.1,x30.2.2.1,x30.2.2.2)))) else (bif a0.2.1==1 then some true else some false:Option (Bool)).bind fun x31=>bif x31 then (gi (a26,a27,a28,a29) a4).bind fun x32=>req (a32.length=a32.length) (req (a31.length=a31.length) (req (a30.length=a30.length) (some (a30,a31,a32,a1,a2,a3,a4,a5,a6,a7,a8,a9,a10,a11,a12,a13,a14,a15,a16,a17,a18,a19,a20,a21,a22,a23,a24,a25,x32.1,x32.2.1,x32.2.2.1,x32.2.2.2)))) else (bif a0.2.1==2 then some true else some false:Option (Bool)).bind fun x33=>bif x33 then req (a32.length=a32.length) (req (a31.length=a31.length) (req (a30.length=a30.length) (some (a30,a31,a32,a1,a2,a3,a4,a5,a6,a7,a8,a9,a10,a11,a12,a13,a14,a15,a16,a17,a18,a19,a20,a21,a22,a23,a24,a25,0,0,0,0)))) else req (a32.length=a32.length) (req (a31.length=a31.length) (req (a30.length=a30.length) (some (a30,a31,a32,a1,a2,a3,a4,a5,a6,a7,a8,a9,a10,a11,a12,a13,a14,a15,a16,a17,a18,a19,a20,a21,a22,a23,a24,a25,a26,a27,a28,a29)))) else (bif a0.1==21 then some true else some false:Option (Bool)).bind fun x34=>bif x34 then req (a32.length=a32.length) <| req (a31.length=a31.length) <| req (a30.length=a30.length) <| (dH a3 a4 a5 a6 a7 a8 a11 a12 a13 a14 a15 a16 a17 a18 a19 a20 a21 a22 a23 a24 a25 a30 a31 a32).bind fun x35=>req (a32.length=a32.length) (req (a31.length=a31.length) (req (a30.length=a30.length) (some (a30,a31,a32,a1,a2,a3,a4,a5,a6,a7,a8,a9,a10,a11,x35.1,x35.2.1,x35.2.2.1,x35.2.2.2.1,x35.2.2.2.2.1,x35.2.2.2.2.2.1,x35.2.2.2.2.2.2.1,x35.2.2.2.2.2.2.2.1,x35.2.2.2.2.2.2.2.2.1,x35.2.2.2.2.2.2.2.2.2.1,x35.2.2.2.2.2.2.2.2.2.2.1,x35.2.2.2.2.2.2.2.2.2.2.2.1,x35.2.2.2.2.2.2.2.2.2.2.2.2.1,x35.2.2.2.2.2.2.2.2.2.2.2.2.2,a26,a27,a28,a29)))) else (bif a0.1==20 then some true else some false:Option (Bool)).bind fun x36=>bif x36 then req (a32.length=a32.length) <| req (a31.length=a31.length) <| req (a30.length=a30.length) <| (fB a0.2.1 (a0.2.2.1 !=0) a1 a2 a3 a4 a5 a6 a7 a8 a9 a10 a11 a12 a13 a14 a15 a16 a17 a18 a19 a20 a21 a22 a23 a24 a25 a30 a31 a32).bind fun x37=>req (a32.length=a32.length) (req (x37.2.1.length=x37.2.1.length) (req (x37.1.length=x37.1.length) (some (x37.1,x37.2.1,a32,a1,a2,x37.2.2.1,x37.2.2.2.1,x37.2.2.2.2.1,x37.2.2.2.2.2.1,x37.2.2.2.2.2.2.1,x37.2.2.2.2.2.2.2.1,a9,a10,x37.2.2.2.2.2.2.2.2.1,x37.2.2.2.2.2.2.2.2.2.1,x37.2.2.2.2.2.2.2.2.2.2.1,x37.2.2.2.2.2.2.2.2.2.2.2.1,x37.2.2.2.2.2.2.2.2.2.2.2.2.1,x37.2.2.2.2.2.2.2.2.2.2.2.2.2.1,x37.2.2.2.2.2.2.2.2.2.2.2.2.2.2.1,x37.2.2.2.2.2.2.2.2.2.2.2.2.2.2.2.1,x37.2.2.2.2.2.2.2.2.2.2.2.2.2.2.2.2.1,x37.2.2.2.2.2.2.2.2.2.2.2.2.2.2.2.2.2.1,x37.2.2.2.2.2.2.2.2.2.2.2.2.2.2.2.2.2.2.1,x37.2.2.2.2.2.2.2.2.2.2.2.2.2.2.2.2.2.2.2.1,x37.2.2.2.2.2.2.2.2.2.2.2.2.2.2.2.2.2.2.2.2.1,x37.2.2.2.2.2.2.2.2.2.2.2.2.2.2.2.2.2.2.2.2.2.1,x37.2.2.2.2.2.2.2.2.2.2.2.2.2.2.2.2.2.2.2.2.2.2,a26,a27,a28,a29)))) else (bif a0.1==22 then some true else some false:Option (Bool)).bind fun x38=>bif x38 then req (a32.length=a32.length) <| req (a31.length=a31.length) <| req (a30.length=a30.length) <| (bX a1 a2 a11 a12 a13 a14 a15 a16 a17 a18 a19 a20 a21 a22 a23 a24 a25 a30 a31 a32).bind fun x39=>req (a32.length=a32.length) (req (a31.length=a31.length) (req (a30.length=a30.length) (some (a30,a31,a32,a1,a2,x39.1,x39.2.1,x39.2.2.1,x39.2.2.2.1,x39.2.2.2.2.1,x39.2.2.2.2.2.1,a9,a10,x39.2.2.2.2.2.2,a12,a13,a14,a15,a16,a17,a18,a19,a20,a21,a22,a23,a24,a25,a26,a27,a28,a29)))) else (bif a0.1==24 then some true else some false:Option (Bool)).bind fun x40=>bif x40 then (jM a1 a2).bind fun x41=>req (x41.2.2.2.2.2.2.2.2.2.length=x41.2.2.2.2.2.2.2.2.2.length) (some (x41.2.2.2.2.2.2.2.2.2,[],[],x41.1,x41.2.1,0,0,false,0,0,0,0,x41.2.2.1,x41.2.2.2.1,0,0,0,0,0,false,false,0,0,0,0,0,false,false,x41.2.2.2.2.1,x41.2.2.2.2.2.1,x41.2.2.2.2.2.2.1,x41.2.2.2.2.2.2.2.1)) else (bif decide (a0.1>=1) then bif decide (a0.1<=27) then some true else some false else some false:Option (Bool)).bind fun x42=>bif x42 then req (a32.length=a32.length) <| req (a31.length=a31.length) <| req (a30.length=a30.length) <| (fy a0 a1 a2 a3 a4 false a6 a7 a8 a9 a10 a11 a26 a27 a28 a29 a30 a31 a32).bind fun x43=>req (a32.length=a32.length) <| req (a31.length=a31.length) <| req (x43.1.length=x43.1.length) <| (dJ a0 a1 a2 x43.2.1 x43.2.2.1 x43.2.2.2 a6 a7 a8 a9 a10 a11 a12 a26 a27 a28 a29 x43.1 a31 a32).bind fun x44=>req (a32.length=a32.length) (req (x44.2.1.length=x44.2.1.length) (req (x44.1.length=x44.1.length) (some (x44.1,x44.2.1,a32,x44.2.2.1,x44.2.2.2.1,x44.2.2.2.2.1,x44.2.2.2.2.2.1,x44.2.2.2.2.2.2.1,a6,a7,a8,x44.2.2.2.2.2.2.2.1,x44.2.2.2.2.2.2.2.2.1,a11,a12,a13,a14,a15,a16,a17,a18,a19,a20,a21,a22,a23,a24,a25,x44.2.2.2.2.2.2.2.2.2.1,x44.2.2.2.2.2.2.2.2.2.2.1,x44.2.2.2.2.2.2.2.2.2.2.2.1,x44.2.2.2.2.2.2.2.2.2.2.2.2)))) else req (a32.length=a32.length) (req (a31.length=a31.length) (req (a30.length=a30.length) (some (a30,a31,a32,a1,a2,a3,a4,a5,a6,a7,a8,a9,a10,a11,a12,a13,a14,a15,a16,a17,a18,a19,a20,a21,a22,a23,a24,a25,a26,a27,a28,a29))))
def fd (a1:List dP.T) (x28:Int×(List (List (Int×aa.T)))×(List (List (Int×aa.T)))×List Int×Int×Int×Int×Int×Bool×Int×Int×Int×Int×Int×Int×Int×Int×Int×Int×Int×Bool×Bool×Int×Int×Int×Int×Int×Bool×Bool×Int×Int×Int×Int):Option ((((List (List (Int×aa.T)))×(List (List (Int×aa.T)))×List Int×Int×Int×Int×Int×Bool×Int×Int×Int×Int×Int×Int×Int×Int×Int×Int×Int×Bool×Bool×Int×Int×Int×Int×Int×Bool×Bool×Int×Int×Int×Int))⊕(Int×(List (List (Int×aa.T)))×(List (List (Int×aa.T)))×List Int×Int×Int×Int×Int×Bool×Int×Int×Int×Int×Int×Int×Int×Int×Int×Int×Int×Bool×Bool×Int×Int×Int×Int×Int×Bool×Bool×Int×Int×Int×Int)):=(bif decide (x28.1<(a1.length:Int)) then some true else some false:Option (Bool)).bind fun x29=>bif x29 then (getI a1 x28.1).bind fun x30=>((bif x30.1 !=20 then bif x30.1 !=27 then some true else some false else some false:Option (Bool)).bind fun x34=>bif x34 then (bv x30.2.1 (-1000) 1000).bind fun x35=>(bv x30.2.2.1 (-1000) 1000).bind fun x36=>some (x35,x36) else some (x30.2.1,x30.2.2.1):Option (Int×Int)).bind fun x37=>req (x28.2.2.2.1.length=x28.2.2.2.1.length) <| req (x28.2.2.1.length=x28.2.2.1.length) <| req (x28.2.1.length=x28.2.1.length) <| (cW (x30.1,x37.1,x37.2,x30.2.2.2) x28.2.2.2.2.1 x28.2.2.2.2.2.1 x28.2.2.2.2.2.2.1 x28.2.2.2.2.2.2.2.1 x28.2.2.2.2.2.2.2.2.1 x28.2.2.2.2.2.2.2.2.2.1 x28.2.2.2.2.2.2.2.2.2.2.1 x28.2.2.2.2.2.2.2.2.2.2.2.1 x28.2.2.2.2.2.2.2.2.2.2.2.2.1 x28.2.2.2.2.2.2.2.2.2.2.2.2.2.1 x28.2.2.2.2.2.2.2.2.2.2.2.2.2.2.1 x28.2.2.2.2.2.2.2.2.2.2.2.2.2.2.2.1 x28.2.2.2.2.2.2.2.2.2.2.2.2.2.2.2.2.1 x28.2.2.2.2.2.2.2.2.2.2.2.2.2.2.2.2.2.1 x28.2.2.2.2.2.2.2.2.2.2.2.2.2.2.2.2.2.2.1 x28.2.2.2.2.2.2.2.2.2.2.2.2.2.2.2.2.2.2.2.1 x28.2.2.2.2.2.2.2.2.2.2.2.2.2.2.2.2.2.2.2.2.1 x28.2.2.2.2.2.2.2.2.2.2.2.2.2.2.2.2.2.2.2.2.2.1 x28.2.2.2.2.2.2.2.2.2.2.2.2.2.2.2.2.2.2.2.2.2.2.1 x28.2.2.2.2.2.2.2.2.2.2.2.2.2.2.2.2.2.2.2.2.2.2.2.1 x28.2.2.2.2.2.2.2.2.2.2.2.2.2.2.2.2.2.2.2.2.2.2.2.2.1 x28.2.2.2.2.2.2.2.2.2.2.2.2.2.2.2.2.2.2.2.2.2.2.2.2.2.1 x28.2.2.2.2.2.2.2.2.2.2.2.2.2.2.2.2.2.2.2.2.2.2.2.2.2.2.1 x28.2.2.2.2.2.2.2.2.2.2.2.2.2.2.2.2.2.2.2.2.2.2.2.2.2.2.2.1 x28.2.2.2.2.2.2.2.2.2.2.2.2.2.2.2.2.2.2.2.2.2.2.2.2.2.2.2.2.1 x28.2.2.2.2.2.2.2.2.2.2.2.2.2.2.2.2.2.2.2.2.2.2.2.2.2.2.2.2.2.1 x28.2.2.2.2.2.2.2.2.2.2.2.2.2.2.2.2.2.2.2.2.2.2.2.2.2.2.2.2.2.2.1 x28.2.2.2.2.2.2.2.2.2.2.2.2.2.2.2.2.2.2.2.2.2.2.2.2.2.2.2.2.2.2.2.1 x28.2.2.2.2.2.2.2.2.2.2.2.2.2.2.2.2.2.2.2.2.2.2.2.2.2.2.2.2.2.2.2.2 x28.2.1 x28.2.2.1 x28.2.2.2.1).bind fun x38=>req (x38.2.2.1.length=x38.2.2.1.length) (req (x38.2.1.length=x38.2.1.length) (req (x38.1.length=x38.1.length) (some (.inr (i64.wrap (x28.1+1),x38.1,x38.2.1,x38.2.2.1,x38.2.2.2.1,x38.2.2.2.2.1,x38.2.2.2.2.2.1,x38.2.2.2.2.2.2.1,zeP x38.2.2.2.2.2.2.2))))) else req (x28.2.2.2.1.length=x28.2.2.2.1.length) (req (x28.2.2.1.length=x28.2.2.1.length) (req (x28.2.1.length=x28.2.1.length) (some (.inl (x28.2.1,x28.2.2.1,x28.2.2.2.1,x28.2.2.2.2.1,x28.2.2.2.2.2.1,x28.2.2.2.2.2.2.1,x28.2.2.2.2.2.2.2.1,zeP x28.2.2.2.2.2.2.2.2)))))
def gI (a0:Int×Int×bJ.T) (a1:List dP.T):Option ((Int×Int×bJ.T)):=((oy a0).bind fun x2=>bif !x2 then some true else some false:Option (Bool)).bind fun x3=>bif x3 then some (0,0,[],[],0,0,false,(0,0,0),0,0,0,((0,0,(0,0,0),false,false),0,0,(0,0,0),false,false),(0,0,0,0),[]) else (fC a0.2.2.1).bind fun x4=>(jL a0.2.2.2.1).bind fun x5=>(fT a0.2.2.2.2.2.2.2.2.2.2.2.2.2).bind fun x6=>req (x6.length=x6.length) (req (x5.length=x5.length) (req (x4.length=x4.length) ((ap (fd a1) (0,x4,x5,x6,a0.1,a0.2.1,a0.2.2.2.2.1,a0.2.2.2.2.2.1,a0.2.2.2.2.2.2.1,a0.2.2.2.2.2.2.2.1.1,a0.2.2.2.2.2.2.2.1.2.1,a0.2.2.2.2.2.2.2.1.2.2,a0.2.2.2.2.2.2.2.2.1,a0.2.2.2.2.2.2.2.2.2.1,a0.2.2.2.2.2.2.2.2.2.2.1,a0.2.2.2.2.2.2.2.2.2.2.2.1.1.1,a0.2.2.2.2.2.2.2.2.2.2.2.1.1.2.1,a0.2.2.2.2.2.2.2.2.2.2.2.1.1.2.2.1.1,a0.2.2.2.2.2.2.2.2.2.2.2.1.1.2.2.1.2.1,a0.2.2.2.2.2.2.2.2.2.2.2.1.1.2.2.1.2.2,a0.2.2.2.2.2.2.2.2.2.2.2.1.1.2.2.2.1,a0.2.2.2.2.2.2.2.2.2.2.2.1.1.2.2.2.2,a0.2.2.2.2.2.2.2.2.2.2.2.1.2.1,a0.2.2.2.2.2.2.2.2.2.2.2.1.2.2.1,a0.2.2.2.2.2.2.2.2.2.2.2.1.2.2.2.1.1,a0.2.2.2.2.2.2.2.2.2.2.2.1.2.2.2.1.2.1,a0.2.2.2.2.2.2.2.2.2.2.2.1.2.2.2.1.2.2,a0.2.2.2.2.2.2.2.2.2.2.2.1.2.2.2.2.1,a0.2.2.2.2.2.2.2.2.2.2.2.1.2.2.2.2.2,a0.2.2.2.2.2.2.2.2.2.2.2.2.1.1,a0.2.2.2.2.2.2.2.2.2.2.2.2.1.2.1,a0.2.2.2.2.2.2.2.2.2.2.2.2.1.2.2.1,a0.2.2.2.2.2.2.2.2.2.2.2.2.1.2.2.2)).bind fun x39=>req (x39.1.length=x39.1.length) (req (x39.2.1.length=x39.2.1.length) (req (x39.2.2.1.length=x39.2.2.1.length) (some (x39.2.2.2.1,x39.2.2.2.2.1,x39.1,x39.2.1,x39.2.2.2.2.2.1,x39.2.2.2.2.2.2.1,x39.2.2.2.2.2.2.2.1,(x39.2.2.2.2.2.2.2.2.1,x39.2.2.2.2.2.2.2.2.2.1,x39.2.2.2.2.2.2.2.2.2.2.1),x39.2.2.2.2.2.2.2.2.2.2.2.1,x39.2.2.2.2.2.2.2.2.2.2.2.2.1,x39.2.2.2.2.2.2.2.2.2.2.2.2.2.1,((x39.2.2.2.2.2.2.2.2.2.2.2.2.2.2.1,x39.2.2.2.2.2.2.2.2.2.2.2.2.2.2.2.1,(x39.2.2.2.2.2.2.2.2.2.2.2.2.2.2.2.2.1,x39.2.2.2.2.2.2.2.2.2.2.2.2.2.2.2.2.2.1,x39.2.2.2.2.2.2.2.2.2.2.2.2.2.2.2.2.2.2.1),x39.2.2.2.2.2.2.2.2.2.2.2.2.2.2.2.2.2.2.2.1,x39.2.2.2.2.2.2.2.2.2.2.2.2.2.2.2.2.2.2.2.2.1),x39.2.2.2.2.2.2.2.2.2.2.2.2.2.2.2.2.2.2.2.2.2.1,x39.2.2.2.2.2.2.2.2.2.2.2.2.2.2.2.2.2.2.2.2.2.2.1,(x39.2.2.2.2.2.2.2.2.2.2.2.2.2.2.2.2.2.2.2.2.2.2.2.1,x39.2.2.2.2.2.2.2.2.2.2.2.2.2.2.2.2.2.2.2.2.2.2.2.2.1,x39.2.2.2.2.2.2.2.2.2.2.2.2.2.2.2.2.2.2.2.2.2.2.2.2.2.1),x39.2.2.2.2.2.2.2.2.2.2.2.2.2.2.2.2.2.2.2.2.2.2.2.2.2.2.1,x39.2.2.2.2.2.2.2.2.2.2.2.2.2.2.2.2.2.2.2.2.2.2.2.2.2.2.2.1),x39.2.2.2.2.2.2.2.2.2.2.2.2.2.2.2.2.2.2.2.2.2.2.2.2.2.2.2.2,x39.2.2.1)))))))
def oG (a2:List Int) (x6:Int×Int×Int×(List (List (Int×aa.T)))×(List (List (Int×aa.T)))×Int×Int×Bool×Int×Int×Int×Int×Int×Int×Int×Int×Int×Int×Int×Bool×Bool×Int×Int×Int×Int×Int×Bool×Bool×Int×Int×Int×Int×List Int):Option (((Int×Int×(List (List (Int×aa.T)))×(List (List (Int×aa.T)))×Int×Int×Bool×Int×Int×Int×Int×Int×Int×Int×Int×Int×Int×Int×Bool×Bool×Int×Int×Int×Int×Int×Bool×Bool×Int×Int×Int×Int×List Int))⊕(Int×Int×Int×(List (List (Int×aa.T)))×(List (List (Int×aa.T)))×Int×Int×Bool×Int×Int×Int×Int×Int×Int×Int×Int×Int×Int×Int×Bool×Bool×Int×Int×Int×Int×Int×Bool×Bool×Int×Int×Int×Int×List Int)):=(bif decide (x6.1<(a2.length:Int)) then some true else some false:Option (Bool)).bind fun x7=>bif x7 then (getI a2 x6.1).bind fun x8=>(gI (x6.2.1,x6.2.2.1,x6.2.2.2.1,x6.2.2.2.2.1,x6.2.2.2.2.2.1,x6.2.2.2.2.2.2.1,x6.2.2.2.2.2.2.2.1,znP x6.2.2.2.2.2.2.2.2) [(1,0,0,x8,[],[])]).bind fun x9=>some (.inr (i64.wrap (x6.1+1),x9.1,x9.2.1,x9.2.2.1,x9.2.2.2.1,x9.2.2.2.2.1,x9.2.2.2.2.2.1,x9.2.2.2.2.2.2.1,zfP x9.2.2.2.2.2.2.2)) else some (.inl (x6.2.1,x6.2.2.1,x6.2.2.2.1,x6.2.2.2.2.1,x6.2.2.2.2.2.1,x6.2.2.2.2.2.2.1,x6.2.2.2.2.2.2.2.1,zeP x6.2.2.2.2.2.2.2.2))
def kr (a0:Int) (a1:Int) (a2:List Int):Option ((Int×Int×bJ.T)):=(gX a0 a1).bind fun x1=>(bif x1.2 !=0 then some true else some false:Option (Bool)).bind fun x2=>bif x2 then some (0,0,[],[],0,0,false,(0,0,0),0,0,0,((0,0,(0,0,0),false,false),0,0,(0,0,0),false,false),(0,0,0,0),[]) else (ap (oG a2) (0,x1.1.1,x1.1.2.1,x1.1.2.2.1,x1.1.2.2.2.1,x1.1.2.2.2.2.1,x1.1.2.2.2.2.2.1,x1.1.2.2.2.2.2.2.1,zfP x1.1.2.2.2.2.2.2.2)).bind fun x10=>some (x10.1,x10.2.1,x10.2.2.1,x10.2.2.2.1,x10.2.2.2.2.1,x10.2.2.2.2.2.1,x10.2.2.2.2.2.2.1,znP x10.2.2.2.2.2.2.2)
def pl (a0:List (Int×aa.T)) (x8:Int):Option (((Int))⊕(Int)):=(bif decide (x8>0) then (getI a0 (i64.wrap (x8-1))).bind fun x12=>bif x12.2.2.1==0 then (getI a0 (i64.wrap (x8-1))).bind fun x13=>bif x13.1==32 then (getI a0 (i64.wrap (x8-1))).bind fun x14=>bif x14.2.1.1==0 then some true else some false else some false else some false else some false:Option (Bool)).bind fun x15=>bif x15 then some (.inr (i64.wrap (x8-1))) else some (.inl x8)
def pi (a0:List (Int×aa.T)) (x69:Int×List Int) (x109:Int×List Int):Option (((List Int))⊕(Int×List Int)):=(bif decide (x109.1<2) then some true else some false:Option (Bool)).bind fun x110=>bif x110 then (((getI a0 x69.1).bind fun x116=>bif x109.1==0 then bif x116.2.1.1 !=0 then some true else some false else bif x109.1==1 then bif x116.2.1.2 !=0 then some true else some false else none:Option (Bool)).bind fun x117=>bif x117 then (getI a0 x69.1).bind fun x118=>bif x109.1==0 then req (x109.2.length=x109.2.length) <| req ((x109.2++[x118.2.1.1]).length*4<=aS) <| req ((x109.2++[x118.2.1.1]).length=(x109.2++[x118.2.1.1]).length) (some (x109.2++[x118.2.1.1])) else bif x109.1==1 then req (x109.2.length=x109.2.length) <| req ((x109.2++[x118.2.1.2]).length*4<=aS) <| req ((x109.2++[x118.2.1.2]).length=(x109.2++[x118.2.1.2]).length) (some (x109.2++[x118.2.1.2])) else none else req (x109.2.length=x109.2.length) (some x109.2):Option (List Int)).bind fun x119=>req (x119.length=x119.length) (some (.inr (i64.wrap (x109.1+1),x119))) else req (x109.2.length=x109.2.length) (some (.inl x109.2))
def pj (x16:Int) (a0:List (Int×aa.T)) (x69:Int×List Int):Option (((List Int))⊕(Int×List Int)):=(bif decide (x69.1<x16) then some true else some false:Option (Bool)).bind fun x70=>bif x70 then (((getI a0 x69.1).bind fun x97=>bif x97.2.2.1==2 then some true else some false:Option (Bool)).bind fun x98=>bif x98 then req (x69.2.length=x69.2.length) (some x69.2) else (getI a0 x69.1).bind fun x99=>req (x69.2.length=x69.2.length) <| req ((x69.2++[x99.1]).length*4<=aS) <| req ((x69.2++[x99.1]).length=(x69.2++[x99.1]).length) ((ap (pi a0 x69) (0,x69.2++[x99.1])).bind fun x120=>req (x120.length=x120.length) (some x120)):Option (List Int)).bind fun x121=>req (x121.length=x121.length) (some (.inr (i64.wrap (x69.1+1),x121))) else req (x69.2.length=x69.2.length) (some (.inl x69.2))
def o8 (a0:List (Int×aa.T)):Option (List Int):=(ap (pl a0) (a0.length:Int)).bind fun x16=>(ap (pj x16 a0) (0,[])).bind fun x122=>req (x122.length=x122.length) (some x122)
def oH (a4:List (List UInt8)) (a0:Int×Int×bJ.T) (x10:Int):Option (((Unit)⊕(Unit))⊕(Int)):=(bif decide (x10<(a4.length:Int)) then some true else some false:Option (Bool)).bind fun x11=>bif x11 then ((getI a0.2.2.1 x10).bind fun x15=>(o8 x15).bind fun x16=>(getI a4 x10).bind fun x17=>bif !(((lj x16):List UInt8)==x17) then some true else some false:Option (Bool)).bind fun x18=>bif x18 then some (.inl (.inl ())) else some (.inr (i64.wrap (x10+1))) else some (.inl (.inr ()))
def eD (a0:Int×Int×bJ.T) (a1:Int) (a2:Int) (a3:Bool) (a4:List (List UInt8)):Option (Bool):=(bif (a0.2.2.1.length:Int) !=(a4.length:Int) then some true else bif a0.2.2.2.2.1 !=a1 then some true else bif a0.2.2.2.2.2.1 !=a2 then some true else bif !(a0.2.2.2.2.2.2.1==a3) then some true else some false:Option (Bool)).bind fun x1=>bif x1 then some false else (ap (oH a4 a0) 0).bind fun o=>match o with | .inl _=>some false | .inr _=>some true
def g8 :Option (Bool):=(kr 2 3 [97,98,99]).bind fun x1=>(gI x1 [(1,0,0,100,[],[])]).bind fun x2=>(gI x2 [(2,1,0,0,[],[])]).bind fun x3=>(kr 2 3 [97,20013,20013]).bind fun x4=>(gI x2 [(27,1,2,0,[],[])]).bind fun x5=>(eD x1 0 2 true [[97,98,99],[]]).bind fun x6=>bif x6 then (eD x2 1 1 false [[97,98,99],[100]]).bind fun x7=>bif x7 then (eD x3 1 1 false [[100],[]]).bind fun x8=>bif x8 then (eD x4 1 2 false [[97,228,184,173],[228,184,173]]).bind fun x9=>bif x9 then (eD x5 0 1 false [[100]]).bind fun x10=>some x10 else some false else some false else some false else some false
def kt :Option (Bool):=some true
theorem pK  {v:(Bool)} (h:kt  = some v):g8  = some v:=Eq.trans (by kernel_rfl:g8=some true) h
def bF (a2:List dP.T) (x25:Int×Int):Option (((Unit)⊕(Int))⊕(Int×Int)):=(bif decide (x25.2<(a2.length:Int)) then some true else some false:Option (Bool)).bind fun x26=>bif x26 then ((getI a2 x25.2).bind fun x32=>bif decide ((x32.2.2.2.2.1.length:Int)>200) then some true else (getI a2 x25.2).bind fun x33=>bif decide ((x33.2.2.2.2.2.length:Int)>200) then some true else (getI a2 x25.2).bind fun x34=>bif x34.1==27 then (getI a2 x25.2).bind fun x35=>bif decide (x35.2.1>30) then some true else (getI a2 x25.2).bind fun x36=>bif decide (x36.2.2.1>30) then some true else some false else some false:Option (Bool)).bind fun x37=>bif x37 then some (.inl (.inl ())) else (((getI a2 x25.2).bind fun x45=>bif x45.1==2 then some true else (getI a2 x25.2).bind fun x46=>bif x46.1==9 then some true else some false:Option (Bool)).bind fun x47=>bif x47 then some (i64.wrap (x25.1+500)) else some x25.1:Option (Int)).bind fun x48=>some (.inr (i64.wrap (x48+1),i64.wrap (x25.2+1))) else some (.inl (.inr x25.1))
def il (a0:Int) (a1:Int) (a2:List dP.T):Option (Bool):=(bif decide (a0>30) then bif decide (a0<=200) then some true else bif decide (a1>30) then bif decide (a1<=200) then some true else bif decide ((a2.length:Int)>120) then some true else some false else bif decide ((a2.length:Int)>120) then some true else some false else bif decide (a1>30) then bif decide (a1<=200) then some true else bif decide ((a2.length:Int)>120) then some true else some false else bif decide ((a2.length:Int)>120) then some true else some false:Option (Bool)).bind fun x1=>bif x1 then some true else (ap (bF a2) (0,0)).bind fun o=>match o with | .inl _=>some true | .inr x49=>some (decide (x49>4000))
def cH (a0:Int):Option (Bool):=bif decide (a0>=1) then some (decide (a0<=200)) else some false
def pm (a0:List (Int×aa.T)) (a1:List (Int×aa.T)) (x8:Int):Option (((Unit)⊕(Unit))⊕(Int)):=(bif decide (x8<(a0.length:Int)) then some true else some false:Option (Bool)).bind fun x9=>bif x9 then ((getI a0 x8).bind fun x12=>(getI a1 x8).bind fun x13=>bif !((x12.1==x13.1)&&(((x12.2.1.1==x13.2.1.1)&&((x12.2.1.2==x13.2.1.2)&&true))&&((x12.2.2.1==x13.2.2.1)&&(((x12.2.2.2.1==x13.2.2.2.1)&&((x12.2.2.2.2.1==x13.2.2.2.2.1)&&((x12.2.2.2.2.2==x13.2.2.2.2.2)&&true)))&&true)))) then some true else some false:Option (Bool)).bind fun x14=>bif x14 then some (.inl (.inl ())) else some (.inr (i64.wrap (x8+1))) else some (.inl (.inr ()))
def lm (a0:List (Int×aa.T)) (a1:List (Int×aa.T)):Option (Bool):=(bif (a0.length:Int) !=(a1.length:Int) then some true else some false:Option (Bool)).bind fun x1=>bif x1 then some false else (ap (pm a0 a1) 0).bind fun o=>match o with | .inl _=>some false | .inr _=>some true
def eX (a0:List (List (Int×aa.T))) (a1:List (List (Int×aa.T))) (x10:Int):Option (((Unit)⊕(Unit))⊕(Int)):=(bif decide (x10<(a0.length:Int)) then some true else some false:Option (Bool)).bind fun x11=>bif x11 then ((getI a0 x10).bind fun x15=>(getI a1 x10).bind fun x16=>(lm x15 x16).bind fun x17=>bif !x17 then some true else some false:Option (Bool)).bind fun x18=>bif x18 then some (.inl (.inl ())) else some (.inr (i64.wrap (x10+1))) else some (.inl (.inr ()))
def gC (a0:List (List (Int×aa.T))) (a1:List (List (Int×aa.T))):Option (Bool):=(bif (a0.length:Int) !=(a1.length:Int) then some true else some false:Option (Bool)).bind fun x1=>bif x1 then some false else (ap (eX a0 a1) 0).bind fun o=>match o with | .inl _=>some false | .inr _=>some true
def pn (a0:List Int) (a1:List Int) (x8:Int):Option (((Unit)⊕(Unit))⊕(Int)):=(bif decide (x8<(a0.length:Int)) then some true else some false:Option (Bool)).bind fun x9=>bif x9 then ((getI a0 x8).bind fun x12=>(getI a1 x8).bind fun x13=>bif x12 !=x13 then some true else some false:Option (Bool)).bind fun x14=>bif x14 then some (.inl (.inl ())) else some (.inr (i64.wrap (x8+1))) else some (.inl (.inr ()))
def ln (a0:List Int) (a1:List Int):Option (Bool):=(bif (a0.length:Int) !=(a1.length:Int) then some true else some false:Option (Bool)).bind fun x1=>bif x1 then some false else (ap (pn a0 a1) 0).bind fun o=>match o with | .inl _=>some false | .inr _=>some true
def dc (a0:Int×Int×bJ.T) (a1:Int×Int×bJ.T):Option (Bool):=(bif a0.1 !=a1.1 then some true else bif a0.2.1 !=a1.2.1 then some true else bif a0.2.2.2.2.1 !=a1.2.2.2.2.1 then some true else bif a0.2.2.2.2.2.1 !=a1.2.2.2.2.2.1 then some true else bif !(a0.2.2.2.2.2.2.1==a1.2.2.2.2.2.2.1) then some true else bif !((a0.2.2.2.2.2.2.2.1.1==a1.2.2.2.2.2.2.2.1.1)&&((a0.2.2.2.2.2.2.2.1.2.1==a1.2.2.2.2.2.2.2.1.2.1)&&((a0.2.2.2.2.2.2.2.1.2.2==a1.2.2.2.2.2.2.2.1.2.2)&&true))) then some true else bif a0.2.2.2.2.2.2.2.2.1 !=a1.2.2.2.2.2.2.2.2.1 then some true else bif a0.2.2.2.2.2.2.2.2.2.1 !=a1.2.2.2.2.2.2.2.2.2.1 then some true else bif a0.2.2.2.2.2.2.2.2.2.2.1 !=a1.2.2.2.2.2.2.2.2.2.2.1 then some true else bif !((a0.2.2.2.2.2.2.2.2.2.2.2.2.1.1==a1.2.2.2.2.2.2.2.2.2.2.2.2.1.1)&&((a0.2.2.2.2.2.2.2.2.2.2.2.2.1.2.1==a1.2.2.2.2.2.2.2.2.2.2.2.2.1.2.1)&&((a0.2.2.2.2.2.2.2.2.2.2.2.2.1.2.2.1==a1.2.2.2.2.2.2.2.2.2.2.2.2.1.2.2.1)&&((a0.2.2.2.2.2.2.2.2.2.2.2.2.1.2.2.2==a1.2.2.2.2.2.2.2.2.2.2.2.2.1.2.2.2)&&true)))) then some true else some false:Option (Bool)).bind fun x1=>bif x1 then some false else bif ((a0.2.2.2.2.2.2.2.2.2.2.2.1.1.1==a1.2.2.2.2.2.2.2.2.2.2.2.1.1.1)&&((a0.2.2.2.2.2.2.2.2.2.2.2.1.1.2.1==a1.2.2.2.2.2.2.2.2.2.2.2.1.1.2.1)&&(((a0.2.2.2.2.2.2.2.2.2.2.2.1.1.2.2.1.1==a1.2.2.2.2.2.2.2.2.2.2.2.1.1.2.2.1.1)&&((a0.2.2.2.2.2.2.2.2.2.2.2.1.1.2.2.1.2.1==a1.2.2.2.2.2.2.2.2.2.2.2.1.1.2.2.1.2.1)&&((a0.2.2.2.2.2.2.2.2.2.2.2.1.1.2.2.1.2.2==a1.2.2.2.2.2.2.2.2.2.2.2.1.1.2.2.1.2.2)&&true)))&&((a0.2.2.2.2.2.2.2.2.2.2.2.1.1.2.2.2.1==a1.2.2.2.2.2.2.2.2.2.2.2.1.1.2.2.2.1)&&((a0.2.2.2.2.2.2.2.2.2.2.2.1.1.2.2.2.2==a1.2.2.2.2.2.2.2.2.2.2.2.1.1.2.2.2.2)&&true))))) then bif ((a0.2.2.2.2.2.2.2.2.2.2.2.1.2.1==a1.2.2.2.2.2.2.2.2.2.2.2.1.2.1)&&((a0.2.2.2.2.2.2.2.2.2.2.2.1.2.2.1==a1.2.2.2.2.2.2.2.2.2.2.2.1.2.2.1)&&(((a0.2.2.2.2.2.2.2.2.2.2.2.1.2.2.2.1.1==a1.2.2.2.2.2.2.2.2.2.2.2.1.2.2.2.1.1)&&((a0.2.2.2.2.2.2.2.2.2.2.2.1.2.2.2.1.2.1==a1.2.2.2.2.2.2.2.2.2.2.2.1.2.2.2.1.2.1)&&((a0.2.2.2.2.2.2.2.2.2.2.2.1.2.2.2.1.2.2==a1.2.2.2.2.2.2.2.2.2.2.2.1.2.2.2.1.2.2)&&true)))&&((a0.2.2.2.2.2.2.2.2.2.2.2.1.2.2.2.2.1==a1.2.2.2.2.2.2.2.2.2.2.2.1.2.2.2.2.1)&&((a0.2.2.2.2.2.2.2.2.2.2.2.1.2.2.2.2.2==a1.2.2.2.2.2.2.2.2.2.2.2.1.2.2.2.2.2)&&true))))) then (gC a0.2.2.1 a1.2.2.1).bind fun x2=>bif x2 then (gC a0.2.2.2.1 a1.2.2.2.1).bind fun x3=>bif x3 then (ln a0.2.2.2.2.2.2.2.2.2.2.2.2.2 a1.2.2.2.2.2.2.2.2.2.2.2.2.2).bind fun x4=>some x4 else some false else some false else some false else some false
def cR (a0:bg.T):Option ((Int×aa.T)):=some (32,(0,0),0,0,0,a0.2.2)
def dS (a0:Int) (a1:bg.T) (x3:Int×(List (Int×aa.T))):Option ((((List (Int×aa.T))))⊕(Int×(List (Int×aa.T)))):=(bif decide (x3.1<a0) then some true else some false:Option (Bool)).bind fun x4=>bif x4 then (cR a1).bind fun x5=>req (x3.2.length=x3.2.length) <| req ((x3.2++[x5]).length*48<=aS) <| req ((x3.2++[x5]).length=(x3.2++[x5]).length) (some (.inr (i64.wrap (x3.1+1),x3.2++[x5]))) else req (x3.2.length=x3.2.length) (some (.inl x3.2))
def bU (a0:Int) (a1:bg.T):Option ((List (Int×aa.T))):=(ap (dS a0 a1) (0,[])).bind fun x6=>req (x6.length=x6.length) (some x6)
def eg (a0:Int) (a1:Int) (a2:bg.T) (x3:Int×(List (List (Int×aa.T)))):Option ((((List (List (Int×aa.T)))))⊕(Int×(List (List (Int×aa.T))))):=(bif decide (x3.1<a0) then some true else some false:Option (Bool)).bind fun x4=>bif x4 then (bU a1 a2).bind fun x5=>req (x3.2.length=x3.2.length) <| req ((x3.2++[x5]).length*24<=aS) <| req ((x3.2++[x5]).length=(x3.2++[x5]).length) (some (.inr (i64.wrap (x3.1+1),x3.2++[x5]))) else req (x3.2.length=x3.2.length) (some (.inl x3.2))
def ex (a0:Int) (a1:Int) (a2:bg.T):Option ((List (List (Int×aa.T)))):=(ap (eg a0 a1 a2) (0,[])).bind fun x6=>req (x6.length=x6.length) (some x6)
def bN (a1:Int) (x4:Int×Int):Option (((Int))⊕(Int×Int)):=(bif decide (x4.2<(Int.tmod a1 64)) then some true else some false:Option (Bool)).bind fun x5=>bif x5 then some (.inr (u64.wrap (Int.tdiv x4.1 2),i64.wrap (x4.2+1))) else some (.inl x4.1)
def gJ (a0:Int×fa.T) (a1:Int):Option (Bool):=(bif decide (a1<0) then some true else bif decide (a1>199) then some true else some false:Option (Bool)).bind fun x1=>bif x1 then some false else (bif (i64.wrap (Int.tdiv a1 64))==0 then some a0.1 else bif (i64.wrap (Int.tdiv a1 64))==1 then some a0.2.1 else bif (i64.wrap (Int.tdiv a1 64))==2 then some a0.2.2.1 else bif (i64.wrap (Int.tdiv a1 64))==3 then some a0.2.2.2 else none:Option (Int)).bind fun x2=>(ap (bN a1) (x2,0)).bind fun x6=>some ((Int.tmod x6 2)==1)
def bR (a1:Int) (x5:Int×Int):Option (((Int))⊕(Int×Int)):=(bif decide (x5.2<(Int.tmod a1 64)) then some true else some false:Option (Bool)).bind fun x6=>bif x6 then some (.inr (u64.wrap (x5.1*2),i64.wrap (x5.2+1))) else some (.inl x5.1)
def dY (a0:Int×fa.T) (a1:Int) (a2:Bool):Option ((Int×fa.T)):=(bif decide (a1<0) then some true else bif decide (a1>199) then some true else (gJ a0 a1).bind fun x2=>bif (x2==a2) then some true else some false:Option (Bool)).bind fun x3=>bif x3 then some a0 else (ap (bR a1) (1,0)).bind fun x7=>((bif a2 then some true else some false:Option (Bool)).bind fun x9=>bif x9 then bif (i64.wrap (Int.tdiv a1 64))==0 then bif (i64.wrap (Int.tdiv a1 64))==0 then some (u64.wrap (a0.1+x7),a0.2.1,a0.2.2.1,a0.2.2.2) else bif (i64.wrap (Int.tdiv a1 64))==1 then some (a0.1,u64.wrap (a0.1+x7),a0.2.2.1,a0.2.2.2) else bif (i64.wrap (Int.tdiv a1 64))==2 then some (a0.1,a0.2.1,u64.wrap (a0.1+x7),a0.2.2.2) else bif (i64.wrap (Int.tdiv a1 64))==3 then some (a0.1,a0.2.1,a0.2.2.1,u64.wrap (a0.1+x7)) else none else bif (i64.wrap (Int.tdiv a1 64))==1 then bif (i64.wrap (Int.tdiv a1 64))==0 then some (u64.wrap (a0.2.1+x7),a0.2.1,a0.2.2.1,a0.2.2.2) else bif (i64.wrap (Int.tdiv a1 64))==1 then some (a0.1,u64.wrap (a0.2.1+x7),a0.2.2.1,a0.2.2.2) else bif (i64.wrap (Int.tdiv a1 64))==2 then some (a0.1,a0.2.1,u64.wrap (a0.2.1+x7),a0.2.2.2) else bif (i64.wrap (Int.tdiv a1 64))==3 then some (a0.1,a0.2.1,a0.2.2.1,u64.wrap (a0.2.1+x7)) else none else bif (i64.wrap (Int.tdiv a1 64))==2 then bif (i64.wrap (Int.tdiv a1 64))==0 then some (u64.wrap (a0.2.2.1+x7),a0.2.1,a0.2.2.1,a0.2.2.2) else bif (i64.wrap (Int.tdiv a1 64))==1 then some (a0.1,u64.wrap (a0.2.2.1+x7),a0.2.2.1,a0.2.2.2) else bif (i64.wrap (Int.tdiv a1 64))==2 then some (a0.1,a0.2.1,u64.wrap (a0.2.2.1+x7),a0.2.2.2) else bif (i64.wrap (Int.tdiv a1 64))==3 then some (a0.1,a0.2.1,a0.2.2.1,u64.wrap (a0.2.2.1+x7)) else none else bif (i64.wrap (Int.tdiv a1 64))==3 then bif (i64.wrap (Int.tdiv a1 64))==0 then some (u64.wrap (a0.2.2.2+x7),a0.2.1,a0.2.2.1,a0.2.2.2) else bif (i64.wrap (Int.tdiv a1 64))==1 then some (a0.1,u64.wrap (a0.2.2.2+x7),a0.2.2.1,a0.2.2.2) else bif (i64.wrap (Int.tdiv a1 64))==2 then some (a0.1,a0.2.1,u64.wrap (a0.2.2.2+x7),a0.2.2.2) else bif (i64.wrap (Int.tdiv a1 64))==3 then some (a0.1,a0.2.1,a0.2.2.1,u64.wrap (a0.2.2.2+x7)) else none else none else bif (i64.wrap (Int.tdiv a1 64))==0 then bif (i64.wrap (Int.tdiv a1 64))==0 then some (u64.wrap (a0.1-x7),a0.2.1,a0.2.2.1,a0.2.2.2) else bif (i64.wrap (Int.tdiv a1 64))==1 then some (a0.1,u64.wrap (a0.1-x7),a0.2.2.1,a0.2.2.2) else bif (i64.wrap (Int.tdiv a1 64))==2 then some (a0.1,a0.2.1,u64.wrap (a0.1-x7),a0.2.2.2) else bif (i64.wrap (Int.tdiv a1 64))==3 then some (a0.1,a0.2.1,a0.2.2.1,u64.wrap (a0.1-x7)) else none else bif (i64.wrap (Int.tdiv a1 64))==1 then bif (i64.wrap (Int.tdiv a1 64))==0 then some (u64.wrap (a0.2.1-x7),a0.2.1,a0.2.2.1,a0.2.2.2) else bif (i64.wrap (Int.tdiv a1 64))==1 then some (a0.1,u64.wrap (a0.2.1-x7),a0.2.2.1,a0.2.2.2) else bif (i64.wrap (Int.tdiv a1 64))==2 then some (a0.1,a0.2.1,u64.wrap (a0.2.1-x7),a0.2.2.2) else bif (i64.wrap (Int.tdiv a1 64))==3 then some (a0.1,a0.2.1,a0.2.2.1,u64.wrap (a0.2.1-x7)) else none else bif (i64.wrap (Int.tdiv a1 64))==2 then bif (i64.wrap (Int.tdiv a1 64))==0 then some (u64.wrap (a0.2.2.1-x7),a0.2.1,a0.2.2.1,a0.2.2.2) else bif (i64.wrap (Int.tdiv a1 64))==1 then some (a0.1,u64.wrap (a0.2.2.1-x7),a0.2.2.1,a0.2.2.2) else bif (i64.wrap (Int.tdiv a1 64))==2 then some (a0.1,a0.2.1,u64.wrap (a0.2.2.1-x7),a0.2.2.2) else bif (i64.wrap (Int.tdiv a1 64))==3 then some (a0.1,a0.2.1,a0.2.2.1,u64.wrap (a0.2.2.1-x7)) else none else bif (i64.wrap (Int.tdiv a1 64))==3 then bif (i64.wrap (Int.tdiv a1 64))==0 then some (u64.wrap (a0.2.2.2-x7),a0.2.1,a0.2.2.1,a0.2.2.2) else bif (i64.wrap (Int.tdiv a1 64))==1 then some (a0.1,u64.wrap (a0.2.2.2-x7),a0.2.2.1,a0.2.2.2) else bif (i64.wrap (Int.tdiv a1 64))==2 then some (a0.1,a0.2.1,u64.wrap (a0.2.2.2-x7),a0.2.2.2) else bif (i64.wrap (Int.tdiv a1 64))==3 then some (a0.1,a0.2.1,a0.2.2.1,u64.wrap (a0.2.2.2-x7)) else none else none:Option (Int×Int×Int×Int)).bind fun x10=>some x10
def bE (a1:Int) (a2:Int) (x8:Int×Int×Int×Int×Int):Option (((Int×Int×Int×Int))⊕(Int×Int×Int×Int×Int)):=(bif decide (x8.1<200) then some true else some false:Option (Bool)).bind fun x9=>bif x9 then ((bif decide (x8.1>=a1) then bif decide (x8.1<a2) then bif (Int.tmod x8.1 8)==0 then some true else some false else some false else some false:Option (Bool)).bind fun x12=>bif x12 then (dY x8.2 x8.1 true).bind fun x13=>some (x13.1,x13.2.1,x13.2.2.1,x13.2.2.2) else some (x8.2.1,x8.2.2.1,x8.2.2.2.1,x8.2.2.2.2):Option (Int×Int×Int×Int)).bind fun x14=>some (.inr (i64.wrap (x8.1+1),x14.1,x14.2.1,x14.2.2.1,x14.2.2.2)) else some (.inl (x8.2.1,x8.2.2.1,x8.2.2.2.1,x8.2.2.2.2))
def fX (a0:Int×fa.T) (a1:Int) (a2:Int):Option ((Int×fa.T)):=(ap (bE a1 a2) (1,a0.1,a0.2.1,a0.2.2.1,a0.2.2.2)).bind fun x15=>some x15
def g5 (a0:Int) (a1:Int):Option ((Int×Int×bJ.T)):=(ex a0 a1 (0,0,0)).bind fun x1=>(fX (0,0,0,0) 0 a1).bind fun x2=>some (a0,a1,x1,[],0,0,false,(0,0,0),0,i64.wrap (a0-1),9,((0,0,(0,0,0),false,false),0,0,(0,0,0),false,false),x2,[])
def aW (a0:Int×Int×bJ.T) (a1:Int):Option (Bool):=req (a1≠0) <| some ((Int.tmod (i64.wrap (Int.tdiv a0.2.2.2.2.2.2.2.2.2.2.1 a1)) 2)==1)
def db (a0:Int×Int×bJ.T) (a1:Int) (a2:Bool):Option ((Int×Int×bJ.T)):=(((aW a0 a1).bind fun x5=>bif x5 then bif !a2 then some true else some false else some false:Option (Bool)).bind fun x6=>bif x6 then some (i64.wrap (a0.2.2.2.2.2.2.2.2.2.2.1-a1)) else some a0.2.2.2.2.2.2.2.2.2.2.1:Option (Int)).bind fun x7=>(((aW (a0.1,a0.2.1,a0.2.2.1,a0.2.2.2.1,a0.2.2.2.2.1,a0.2.2.2.2.2.1,a0.2.2.2.2.2.2.1,a0.2.2.2.2.2.2.2.1,a0.2.2.2.2.2.2.2.2.1,a0.2.2.2.2.2.2.2.2.2.1,x7,a0.2.2.2.2.2.2.2.2.2.2.2) a1).bind fun x12=>bif !x12 then bif a2 then some true else some false else some false:Option (Bool)).bind fun x13=>bif x13 then some (i64.wrap (x7+a1)) else some x7:Option (Int)).bind fun x14=>some (a0.1,a0.2.1,a0.2.2.1,a0.2.2.2.1,a0.2.2.2.2.1,a0.2.2.2.2.2.1,a0.2.2.2.2.2.2.1,a0.2.2.2.2.2.2.2.1,a0.2.2.2.2.2.2.2.2.1,a0.2.2.2.2.2.2.2.2.2.1,x14,a0.2.2.2.2.2.2.2.2.2.2.2)
def ah (a0:Int) (a1:Int) (a2:Int):Option (Int):=(bif decide (a0<a1) then some true else some false:Option (Bool)).bind fun x1=>bif x1 then some a1 else (bif decide (a0>a2) then some true else some false:Option (Bool)).bind fun x2=>bif x2 then some a2 else some a0
def dX (a0:Int×Int×bJ.T) (a1:Int) (a2:Int):Option ((Int×Int×bJ.T)):=(((aW a0 2).bind fun x7=>bif x7 then some true else some false:Option (Bool)).bind fun x8=>bif x8 then (ah (i64.wrap (a0.2.2.2.2.2.2.2.2.1+a1)) a0.2.2.2.2.2.2.2.2.1 a0.2.2.2.2.2.2.2.2.2.1).bind fun x9=>some x9 else (ah a1 0 (i64.wrap (a0.1-1))).bind fun x10=>some x10:Option (Int)).bind fun x11=>(ah a2 0 (i64.wrap (a0.2.1-1))).bind fun x12=>some (a0.1,a0.2.1,a0.2.2.1,a0.2.2.2.1,x11,x12,false,a0.2.2.2.2.2.2.2)
def gA (a0:Int×Int×bJ.T):Option (Int):=((aW a0 128).bind fun x2=>bif x2 then some true else some false:Option (Bool)).bind fun x3=>bif x3 then some 1 else some 0
def gz (a0:Int×Int×bJ.T):Option ((Int×Int×bJ.T)):=((gA a0).bind fun x3=>(aW a0 2).bind fun x4=>bif x3==0 then some (a0.2.2.2.2.1,a0.2.2.2.2.2.1,a0.2.2.2.2.2.2.2.1.1,a0.2.2.2.2.2.2.2.1.2.1,a0.2.2.2.2.2.2.2.1.2.2,x4,a0.2.2.2.2.2.2.1,a0.2.2.2.2.2.2.2.2.2.2.2.1.2.1,a0.2.2.2.2.2.2.2.2.2.2.2.1.2.2.1,a0.2.2.2.2.2.2.2.2.2.2.2.1.2.2.2.1.1,a0.2.2.2.2.2.2.2.2.2.2.2.1.2.2.2.1.2.1,a0.2.2.2.2.2.2.2.2.2.2.2.1.2.2.2.1.2.2,a0.2.2.2.2.2.2.2.2.2.2.2.1.2.2.2.2.1,a0.2.2.2.2.2.2.2.2.2.2.2.1.2.2.2.2.2) else bif x3==1 then some (a0.2.2.2.2.2.2.2.2.2.2.2.1.1.1,a0.2.2.2.2.2.2.2.2.2.2.2.1.1.2.1,a0.2.2.2.2.2.2.2.2.2.2.2.1.1.2.2.1.1,a0.2.2.2.2.2.2.2.2.2.2.2.1.1.2.2.1.2.1,a0.2.2.2.2.2.2.2.2.2.2.2.1.1.2.2.1.2.2,a0.2.2.2.2.2.2.2.2.2.2.2.1.1.2.2.2.1,a0.2.2.2.2.2.2.2.2.2.2.2.1.1.2.2.2.2,a0.2.2.2.2.1,a0.2.2.2.2.2.1,a0.2.2.2.2.2.2.2.1.1,a0.2.2.2.2.2.2.2.1.2.1,a0.2.2.2.2.2.2.2.1.2.2,x4,a0.2.2.2.2.2.2.1) else none:Option (Int×Int×Int×Int×Int×Bool×Bool×Int×Int×Int×Int×Int×Bool×Bool)).bind fun x5=>some (a0.1,a0.2.1,a0.2.2.1,a0.2.2.2.1,a0.2.2.2.2.1,a0.2.2.2.2.2.1,a0.2.2.2.2.2.2.1,a0.2.2.2.2.2.2.2.1,a0.2.2.2.2.2.2.2.2.1,a0.2.2.2.2.2.2.2.2.2.1,a0.2.2.2.2.2.2.2.2.2.2.1,((x5.1,x5.2.1,(x5.2.2.1,x5.2.2.2.1,x5.2.2.2.2.1),x5.2.2.2.2.2.1,x5.2.2.2.2.2.2.1),x5.2.2.2.2.2.2.2.1,x5.2.2.2.2.2.2.2.2.1,(x5.2.2.2.2.2.2.2.2.2.1,x5.2.2.2.2.2.2.2.2.2.2.1,x5.2.2.2.2.2.2.2.2.2.2.2.1),x5.2.2.2.2.2.2.2.2.2.2.2.2),a0.2.2.2.2.2.2.2.2.2.2.2.2)
def eH (a0:Int×Int×bJ.T):Option ((Int×Int×bJ.T)):=((gA a0).bind fun x2=>bif x2==0 then some (a0.2.2.2.2.2.2.2.2.2.2.2.1.1.1,a0.2.2.2.2.2.2.2.2.2.2.2.1.1.2.1,a0.2.2.2.2.2.2.2.2.2.2.2.1.1.2.2.1.1,a0.2.2.2.2.2.2.2.2.2.2.2.1.1.2.2.1.2.1,a0.2.2.2.2.2.2.2.2.2.2.2.1.1.2.2.1.2.2,a0.2.2.2.2.2.2.2.2.2.2.2.1.1.2.2.2.1,a0.2.2.2.2.2.2.2.2.2.2.2.1.1.2.2.2.2) else bif x2==1 then some (a0.2.2.2.2.2.2.2.2.2.2.2.1.2.1,a0.2.2.2.2.2.2.2.2.2.2.2.1.2.2.1,a0.2.2.2.2.2.2.2.2.2.2.2.1.2.2.2.1.1,a0.2.2.2.2.2.2.2.2.2.2.2.1.2.2.2.1.2.1,a0.2.2.2.2.2.2.2.2.2.2.2.1.2.2.2.1.2.2,a0.2.2.2.2.2.2.2.2.2.2.2.1.2.2.2.2.1,a0.2.2.2.2.2.2.2.2.2.2.2.1.2.2.2.2.2) else none:Option (Int×Int×Int×Int×Int×Bool×Bool)).bind fun x3=>(ah x3.1 0 (i64.wrap (a0.1-1))).bind fun x4=>(ah x3.2.1 0 (i64.wrap (a0.2.1-1))).bind fun x5=>(db (a0.1,a0.2.1,a0.2.2.1,a0.2.2.2.1,x4,x5,a0.2.2.2.2.2.2.1,(x3.2.2.1,x3.2.2.2.1,x3.2.2.2.2.1),a0.2.2.2.2.2.2.2.2) 2 x3.2.2.2.2.2.1).bind fun x6=>(bif x3.2.2.2.2.2.2 then some (x6.2.2.2.2.2.1==(i64.wrap (x6.2.1-1))) else some false:Option (Bool)).bind fun x7=>some (x6.1,x6.2.1,x6.2.2.1,x6.2.2.2.1,x6.2.2.2.2.1,x6.2.2.2.2.2.1,x7,x6.2.2.2.2.2.2.2)
def bK (a1:Int) (x4:Bool×Int):Option (((Bool))⊕(Bool×Int)):=(bif decide (x4.2<8) then some true else some false:Option (Bool)).bind fun x5=>bif x5 then ((req (0<=(u64.wrap x4.2)) <| bif a1==(i64.wrap ((1:Int)*2^(min (u64.wrap x4.2).toNat 64))) then some true else some false:Option (Bool)).bind fun x7=>bif x7 then some true else some x4.1:Option (Bool)).bind fun x8=>some (.inr (x8,i64.wrap (x4.2+1))) else some (.inl x4.1)
def gl (a0:Int×Int×bJ.T) (a1:Int) (a2:Bool):Option ((Int×Int×bJ.T)):=(ap (bK a1) (false,0)).bind fun x9=>(bif !x9 then some true else some false:Option (Bool)).bind fun x10=>bif x10 then some a0 else (bif a1==2 then some true else some false:Option (Bool)).bind fun x11=>bif x11 then (db a0 a1 a2).bind fun x12=>(dX x12 0 0).bind fun x13=>some x13 else (bif a1 !=128 then some true else some false:Option (Bool)).bind fun x14=>bif x14 then (db a0 a1 a2).bind fun x15=>some x15 else ((aW a0 a1).bind fun x17=>bif (x17==a2) then some true else some false:Option (Bool)).bind fun x18=>bif x18 then some (a0.1,a0.2.1,a0.2.2.1,a0.2.2.2.1,a0.2.2.2.2.1,a0.2.2.2.2.2.1,false,a0.2.2.2.2.2.2.2) else (bif a2 then some true else some false:Option (Bool)).bind fun x19=>bif x19 then (gz a0).bind fun x20=>(db x20 a1 true).bind fun x21=>(ex x21.1 x21.2.1 (0,0,0)).bind fun x22=>some (x21.1,x21.2.1,x22,x21.2.2.1,x21.2.2.2.2.1,x21.2.2.2.2.2.1,false,x21.2.2.2.2.2.2.2) else (db a0 a1 false).bind fun x23=>(eH (x23.1,x23.2.1,x23.2.2.2.1,[],x23.2.2.2.2)).bind fun x24=>some x24
def aG (a0:Int) (a1:Int) (a2:Int):Option (Bool):=bif decide (a0>=a1) then some (decide (a0<=a2)) else some false
def bx (a0:Int):Option (Int):=(bif decide (a0<32) then some true else (aG a0 127 159).bind fun x3=>bif x3 then some true else (aG a0 55296 57343).bind fun x4=>bif x4 then some true else bif decide (a0>1114111) then some true else some false:Option (Bool)).bind fun x5=>bif x5 then some (-1) else ((aG a0 768 879).bind fun x12=>bif x12 then some true else (aG a0 1155 1161).bind fun x13=>bif x13 then some true else (aG a0 1425 1469).bind fun x14=>bif x14 then some true else (aG a0 1552 1562).bind fun x15=>bif x15 then some true else (aG a0 1611 1631).bind fun x16=>bif x16 then some true else (aG a0 6832 6911).bind fun x17=>bif x17 then some true else some false:Option (Bool)).bind fun x18=>bif x18 then some 0 else ((aG a0 7616 7679).bind fun x24=>bif x24 then some true else (aG a0 8203 8207).bind fun x25=>bif x25 then some true else (aG a0 8400 8447).bind fun x26=>bif x26 then some true else (aG a0 65024 65039).bind fun x27=>bif x27 then some true else (aG a0 65056 65071).bind fun x28=>bif x28 then some true else some false:Option (Bool)).bind fun x29=>bif x29 then some 0 else ((aG a0 4352 4447).bind fun x35=>bif x35 then some true else (aG a0 11904 12350).bind fun x36=>bif x36 then some true else (aG a0 12353 42191).bind fun x37=>bif x37 then some true else (aG a0 44032 55203).bind fun x38=>bif x38 then some true else (aG a0 63744 64255).bind fun x39=>bif x39 then some true else some false:Option (Bool)).bind fun x40=>bif x40 then some 2 else ((aG a0 65072 65135).bind fun x47=>bif x47 then some true else (aG a0 65280 65376).bind fun x48=>bif x48 then some true else (aG a0 65504 65510).bind fun x49=>bif x49 then some true else (aG a0 127744 128591).bind fun x50=>bif x50 then some true else (aG a0 129280 129535).bind fun x51=>bif x51 then some true else (aG a0 131072 262141).bind fun x52=>bif x52 then some true else some false:Option (Bool)).bind fun x53=>bif x53 then some 2 else some 1
def ft (a0:List (Int×aa.T)) (a1:Int) (a2:Int):Option ((List (Int×aa.T))):=(bif decide (a1<0) then some true else bif decide (a1>=(a0.length:Int)) then some true else (bx a2).bind fun x2=>bif x2 !=0 then some true else some false:Option (Bool)).bind fun x3=>bif x3 then some a0 else req ((([]:List (Int×aa.T))++a0).length*48<=aS) <| ((bif decide (a1>0) then (getI a0 a1).bind fun x8=>bif x8.2.2.1==2 then some true else some false else some false:Option (Bool)).bind fun x9=>bif x9 then some (i64.wrap (a1-1)) else some a1:Option (Int)).bind fun x10=>((req (0<=x10/\x10<(((([]:List (Int×aa.T))++a0).length:Nat):Int)) <| ((([]:List (Int×aa.T))++a0)[x10.toNat]?).bind fun x20=>bif x20.2.1.1==0 then some true else some false:Option (Bool)).bind fun x21=>bif x21 then req (0<=x10/\x10<(((([]:List (Int×aa.T))++a0).length:Nat):Int)) <| ((([]:List (Int×aa.T))++a0)[x10.toNat]?).bind fun x22=>some ((([]:List (Int×aa.T))++a0).set x10.toNat (x22.1,(a2,x22.2.1.2),x22.2.2)) else (req (0<=x10/\x10<(((([]:List (Int×aa.T))++a0).length:Nat):Int)) <| ((([]:List (Int×aa.T))++a0)[x10.toNat]?).bind fun x24=>bif x24.2.1.2==0 then some true else some false:Option (Bool)).bind fun x25=>bif x25 then req (0<=x10/\x10<(((([]:List (Int×aa.T))++a0).length:Nat):Int)) <| ((([]:List (Int×aa.T))++a0)[x10.toNat]?).bind fun x26=>some ((([]:List (Int×aa.T))++a0).set x10.toNat (x26.1,(x26.2.1.1,a2),x26.2.2)) else some (([]:List (Int×aa.T))++a0):Option ((List (Int×aa.T)))).bind fun x27=>req ((([]:List (Int×aa.T))++a0).length=x27.length) (some x27)
def bH (a0:bg.T):Option (Bool):=bif decide (a0.1>=0) then bif decide (a0.1<=255) then bif decide (a0.2.1>=0) then bif decide (a0.2.1<=256) then bif decide (a0.2.2>=0) then some (decide (a0.2.2<=256)) else some false else some false else some false else some false else some false
def bS (a0:Int×aa.T) (x13:Int):Option (((Unit)⊕(Unit))⊕(Int)):=(bif decide (x13<2) then some true else some false:Option (Bool)).bind fun x14=>bif x14 then (bif x13==0 then bif a0.2.1.1 !=0 then bif x13==0 then (bx a0.2.1.1).bind fun x22=>bif x22 !=0 then some true else bif x13==1 then bif a0.2.1.1==0 then some true else some false else some false else bif x13==1 then (bx a0.2.1.2).bind fun x21=>bif x21 !=0 then some true else bif x13==1 then bif a0.2.1.1==0 then some true else some false else some false else none else some false else bif x13==1 then bif a0.2.1.2 !=0 then bif x13==0 then (bx a0.2.1.1).bind fun x20=>bif x20 !=0 then some true else bif x13==1 then bif a0.2.1.1==0 then some true else some false else some false else bif x13==1 then (bx a0.2.1.2).bind fun x19=>bif x19 !=0 then some true else bif x13==1 then bif a0.2.1.1==0 then some true else some false else some false else none else some false else none:Option (Bool)).bind fun x23=>bif x23 then some (.inl (.inl ())) else some (.inr (i64.wrap (x13+1))) else some (.inl (.inr ()))
def jf (a0:Int×aa.T):Option (Bool):=((bH a0.2.2.2).bind fun x2=>bif !x2 then some true else some false:Option (Bool)).bind fun x3=>bif x3 then some false else (bif a0.2.2.1==2 then some true else some false:Option (Bool)).bind fun x4=>bif x4 then bif a0.1==0 then bif a0.2.1.1==0 then some (a0.2.1.2==0) else some false else some false else (bif a0.2.2.1 !=0 then bif a0.2.2.1 !=1 then some true else (bx a0.1).bind fun x7=>bif x7 !=(i64.wrap ((1:Int)+a0.2.2.1)) then some true else some false else (bx a0.1).bind fun x8=>bif x8 !=(i64.wrap ((1:Int)+a0.2.2.1)) then some true else some false:Option (Bool)).bind fun x9=>bif x9 then some false else (ap (bS a0) 0).bind fun o=>match o with | .inl _=>some false | .inr _=>some true
def dM (a0:List (Int×aa.T)) (x20:Int):Option (((Unit)⊕(Unit))⊕(Int)):=(bif decide (x20<(a0.length:Int)) then some true else some false:Option (Bool)).bind fun x21=>bif x21 then ((getI a0 x20).bind fun x24=>(jf x24).bind fun x25=>bif !x25 then some true else some false:Option (Bool)).bind fun x26=>bif x26 then some (.inl (.inl ())) else ((getI a0 x20).bind fun x31=>bif x31.2.2.1==1 then bif (i64.wrap (x20+1))==(a0.length:Int) then some true else (getI a0 (i64.wrap (x20+1))).bind fun x32=>bif x32.2.2.1 !=2 then some true else (getI a0 (i64.wrap (x20+1))).bind fun x33=>(getI a0 x20).bind fun x34=>bif !((x33.2.2.2.1==x34.2.2.2.1)&&((x33.2.2.2.2.1==x34.2.2.2.2.1)&&((x33.2.2.2.2.2==x34.2.2.2.2.2)&&true))) then some true else some false else some false:Option (Bool)).bind fun x35=>bif x35 then some (.inl (.inl ())) else ((getI a0 x20).bind fun x38=>bif x38.2.2.1==2 then bif x20==0 then some true else (getI a0 (i64.wrap (x20-1))).bind fun x39=>bif x39.2.2.1 !=1 then some true else some false else some false:Option (Bool)).bind fun x40=>bif x40 then some (.inl (.inl ())) else some (.inr (i64.wrap (x20+1))) else some (.inl (.inr ()))
def g7 (a0:List (Int×aa.T)):Option (Bool):=(bif decide ((a0.length:Int)>1000) then some true else some false:Option (Bool)).bind fun x1=>bif x1 then some false else (ap (dM a0) 0).bind fun o=>match o with | .inl _=>some false | .inr _=>some true
def eV (a0:List (List (Int×aa.T))) (a1:Int) (a2:List (Int×aa.T)) (x15:Int×(List (List (Int×aa.T)))):Option ((((List (List (Int×aa.T)))))⊕(Int×(List (List (Int×aa.T))))):=(bif decide (x15.1<(a0.length:Int)) then some true else some false:Option (Bool)).bind fun x16=>bif x16 then ((bif x15.1==a1 then (getI a0 x15.1).bind fun x25=>bif (a2.length:Int)==(x25.length:Int) then (g7 a2).bind fun x26=>bif x26 then some true else some false else some false else some false:Option (Bool)).bind fun x27=>bif x27 then req (x15.2.length=x15.2.length) <| req ((x15.2++[a2]).length*24<=aS) <| req ((x15.2++[a2]).length=(x15.2++[a2]).length) (some (x15.2++[a2])) else (getI a0 x15.1).bind fun x28=>req (x15.2.length=x15.2.length) <| req ((x15.2++[x28]).length*24<=aS) <| req ((x15.2++[x28]).length=(x15.2++[x28]).length) (some (x15.2++[x28])):Option ((List (List (Int×aa.T))))).bind fun x29=>req (x29.length=x29.length) (some (.inr (i64.wrap (x15.1+1),x29))) else req (x15.2.length=x15.2.length) (some (.inl x15.2))
def je (a0:List (List (Int×aa.T))) (a1:Int) (a2:List (Int×aa.T)):Option ((List (List (Int×aa.T)))):=(ap (eV a0 a1 a2) (0,[])).bind fun x30=>req (x30.length=x30.length) (some x30)
def cj (a0:Int×Int×bJ.T) (a1:List (Int×aa.T)):Option ((Int×Int×bJ.T)):=(je a0.2.2.1 a0.2.2.2.2.1 a1).bind fun x1=>some (a0.1,a0.2.1,x1,a0.2.2.2)
def dR (a0:List (List (Int×aa.T))) (a1:Int) (a2:Int) (x7:Int) (a4:bg.T) (x22:Int×(List (List (Int×aa.T)))):Option ((((List (List (Int×aa.T)))))⊕(Int×(List (List (Int×aa.T))))):=(bif decide (x22.1<(a0.length:Int)) then some true else some false:Option (Bool)).bind fun x23=>bif x23 then ((bif decide (x22.1<a1) then some true else bif decide (x22.1>a2) then some true else some false:Option (Bool)).bind fun x30=>bif x30 then (getI a0 x22.1).bind fun x31=>req (x22.2.length=x22.2.length) <| req ((x22.2++[x31]).length*24<=aS) <| req ((x22.2++[x31]).length=(x22.2++[x31]).length) (some (x22.2++[x31])) else (bif decide ((i64.wrap (x22.1+x7))<a1) then some true else bif decide ((i64.wrap (x22.1+x7))>a2) then some true else some false:Option (Bool)).bind fun x32=>bif x32 then (getI a0 0).bind fun x33=>(bU (x33.length:Int) a4).bind fun x34=>req (x22.2.length=x22.2.length) <| req ((x22.2++[x34]).length*24<=aS) <| req ((x22.2++[x34]).length=(x22.2++[x34]).length) (some (x22.2++[x34])) else (getI a0 (i64.wrap (x22.1+x7))).bind fun x35=>req (x22.2.length=x22.2.length) <| req ((x22.2++[x35]).length*24<=aS) <| req ((x22.2++[x35]).length=(x22.2++[x35]).length) (some (x22.2++[x35])):Option ((List (List (Int×aa.T))))).bind fun x36=>req (x36.length=x36.length) (some (.inr (i64.wrap (x22.1+1),x36))) else req (x22.2.length=x22.2.length) (some (.inl x22.2))
def cy (a0:List (List (Int×aa.T))) (a1:Int) (a2:Int) (a3:Int) (a4:bg.T):Option ((List (List (Int×aa.T)))):=(bif decide (a1<0) then some true else bif decide (a1>a2) then some true else bif decide (a2>=(a0.length:Int)) then some true else some false:Option (Bool)).bind fun x1=>bif x1 then some a0 else ((bif decide (a3>300) then some true else some false:Option (Bool)).bind fun x3=>bif x3 then some 300 else some a3:Option (Int)).bind fun x4=>((bif decide (x4<(-300)) then some true else some false:Option (Bool)).bind fun x6=>bif x6 then some (-300) else some x4:Option (Int)).bind fun x7=>(ap (dR a0 a1 a2 x7 a4) (0,[])).bind fun x37=>req (x37.length=x37.length) (some x37)
def fg (a0:Int×Int×bJ.T):Option ((Int×Int×bJ.T)):=((bif a0.2.2.2.2.1==a0.2.2.2.2.2.2.2.2.2.1 then some true else some false:Option (Bool)).bind fun x4=>bif x4 then (cy a0.2.2.1 a0.2.2.2.2.2.2.2.2.1 a0.2.2.2.2.2.2.2.2.2.1 1 a0.2.2.2.2.2.2.2.1).bind fun x5=>some (x5,a0.2.2.2.2.1) else (bif decide (a0.2.2.2.2.1<(i64.wrap (a0.1-1))) then some true else some false:Option (Bool)).bind fun x6=>bif x6 then some (a0.2.2.1,i64.wrap (a0.2.2.2.2.1+1)) else some (a0.2.2.1,a0.2.2.2.2.1):Option ((List (List (Int×aa.T)))×Int)).bind fun x7=>some (a0.1,a0.2.1,x7.1,a0.2.2.2.1,x7.2,a0.2.2.2.2.2)
def di (a0:List (Int×aa.T)) (a1:Int) (x8:Int×(List (Int×aa.T))):Option ((((List (Int×aa.T))))⊕(Int×(List (Int×aa.T)))):=(bif decide (x8.1<(a0.length:Int)) then some true else some false:Option (Bool)).bind fun x9=>bif x9 then (getI a0 x8.1).bind fun x10=>((bif x8.1==a1 then bif x10.2.2.1==2 then some true else bif x8.1==(i64.wrap (a1-1)) then bif x10.2.2.1==1 then some true else some false else some false else bif x8.1==(i64.wrap (a1-1)) then bif x10.2.2.1==1 then some true else some false else some false:Option (Bool)).bind fun x13=>bif x13 then (cR x10.2.2.2).bind fun x14=>some (x14.1,x14.2.1.1,x14.2.1.2,x14.2.2.1,x14.2.2.2.1,x14.2.2.2.2.1,x14.2.2.2.2.2) else some (x10.1,x10.2.1.1,x10.2.1.2,x10.2.2.1,x10.2.2.2.1,x10.2.2.2.2.1,x10.2.2.2.2.2):Option (Int×Int×Int×Int×Int×Int×Int)).bind fun x15=>req (x8.2.length=x8.2.length) <| req ((x8.2++[(x15.1,(x15.2.1,x15.2.2.1),x15.2.2.2)]).length*48<=aS) <| req ((x8.2++[(x15.1,(x15.2.1,x15.2.2.1),x15.2.2.2)]).length=(x8.2++[(x15.1,(x15.2.1,x15.2.2.1),x15.2.2.2)]).length) (some (.inr (i64.wrap (x8.1+1),x8.2++[(x15.1,(x15.2.1,x15.2.2.1),x15.2.2.2)]))) else req (x8.2.length=x8.2.length) (some (.inl x8.2))
def bo (a0:List (Int×aa.T)) (a1:Int):Option ((List (Int×aa.T))):=(ap (di a0 a1) (0,[])).bind fun x16=>req (x16.length=x16.length) (some x16)
def dh (a1:List (Int×aa.T)) (a0:Int) (x8:Int×(List (Int×aa.T))):Option ((((List (Int×aa.T))))⊕(Int×(List (Int×aa.T)))):=(bif decide (x8.1<((a1.length:Nat):Int)) then some true else some false:Option (Bool)).bind fun x9=>bif x9 then req (0<=x8.1/\x8.1<((a1.length:Nat):Int)) <| (a1[x8.1.toNat]?).bind fun x10=>((bif x8.1==a0 then bif x10.2.2.1==2 then some true else bif x8.1==(i64.wrap (a0-1)) then bif x10.2.2.1==1 then some true else some false else some false else bif x8.1==(i64.wrap (a0-1)) then bif x10.2.2.1==1 then some true else some false else some false:Option (Bool)).bind fun x13=>bif x13 then (cR x10.2.2.2).bind fun x14=>some (x14.1,x14.2.1.1,x14.2.1.2,x14.2.2.1,x14.2.2.2.1,x14.2.2.2.2.1,x14.2.2.2.2.2) else some (x10.1,x10.2.1.1,x10.2.1.2,x10.2.2.1,x10.2.2.2.1,x10.2.2.2.2.1,x10.2.2.2.2.2):Option (Int×Int×Int×Int×Int×Int×Int)).bind fun x15=>req (x8.2.length=x8.2.length) <| req ((x8.2++[(x15.1,(x15.2.1,x15.2.2.1),x15.2.2.2)]).length*48<=aS) <| req ((x8.2++[(x15.1,(x15.2.1,x15.2.2.1),x15.2.2.2)]).length=(x8.2++[(x15.1,(x15.2.1,x15.2.2.1),x15.2.2.2)]).length) (some (.inr (i64.wrap (x8.1+1),x8.2++[(x15.1,(x15.2.1,x15.2.2.1),x15.2.2.2)]))) else req (x8.2.length=x8.2.length) (some (.inl x8.2))
def bO (a0:Int) (a1:List (Int×aa.T)):Option ((List (Int×aa.T))):=(ap (dh a1 a0) (0,[])).bind fun x16=>req (x16.length=x16.length) (some x16)
def fF (a0:List (Int×aa.T)) (a1:Int) (a2:Int) (a3:bg.T):Option ((List (Int×aa.T))):=(bif decide (a2<1) then some true else bif decide (a1<0) then some true else bif decide (a1>=(a0.length:Int)) then some true else some false:Option (Bool)).bind fun x1=>bif x1 then some a0 else ((bif decide (a2>(i64.wrap ((a0.length:Int)-a1))) then some true else some false:Option (Bool)).bind fun x3=>bif x3 then some (i64.wrap ((a0.length:Int)-a1)) else some a2:Option (Int)).bind fun x4=>(bo a0 a1).bind fun x5=>req (x5.length=x5.length) <| (bO (i64.wrap ((a0.length:Int)-x4)) x5).bind fun x6=>req (0<=(0:Int)/\(0:Int)<=a1/\a1<=((x6.length:Nat):Int)) <| req (0+a1.toNat<=x6.length) <| req ((([]:List (Int×aa.T))++((x6.drop 0).take a1.toNat)).length*48<=aS) <| (bU x4 a3).bind fun x7=>req ((([]:List (Int×aa.T))++((x6.drop 0).take a1.toNat)).length=(([]:List (Int×aa.T))++((x6.drop 0).take a1.toNat)).length) <| req (((([]:List (Int×aa.T))++((x6.drop 0).take a1.toNat))++x7).length*48<=aS) <| req (0<=a1/\a1<=(i64.wrap ((a0.length:Int)-x4))/\(i64.wrap ((a0.length:Int)-x4))<=((x6.length:Nat):Int)) <| req (((([]:List (Int×aa.T))++((x6.drop 0).take a1.toNat))++x7).length=((([]:List (Int×aa.T))++((x6.drop 0).take a1.toNat))++x7).length) <| req (a1.toNat+((i64.wrap ((a0.length:Int)-x4)).toNat-a1.toNat)<=x6.length) <| req ((((([]:List (Int×aa.T))++((x6.drop 0).take a1.toNat))++x7)++((x6.drop a1.toNat).take ((i64.wrap ((a0.length:Int)-x4)).toNat-a1.toNat))).length*48<=aS) <| req ((((([]:List (Int×aa.T))++((x6.drop 0).take a1.toNat))++x7)++((x6.drop a1.toNat).take ((i64.wrap ((a0.length:Int)-x4)).toNat-a1.toNat))).length=(((([]:List (Int×aa.T))++((x6.drop 0).take a1.toNat))++x7)++((x6.drop a1.toNat).take ((i64.wrap ((a0.length:Int)-x4)).toNat-a1.toNat))).length) (some (((([]:List (Int×aa.T))++((x6.drop 0).take a1.toNat))++x7)++((x6.drop a1.toNat).take ((i64.wrap ((a0.length:Int)-x4)).toNat-a1.toNat))))
def jQ (a0:List (Int×aa.T)) (a1:Int) (a2:Int) (a3:bg.T):Option ((List (Int×aa.T))):=(bx a2).bind fun x1=>(bif decide (x1<1) then some true else bif decide (a1<0) then some true else bif decide (a1>=(a0.length:Int)) then some true else bif x1==2 then bif a1==(i64.wrap ((a0.length:Int)-1)) then some true else some false else some false:Option (Bool)).bind fun x2=>bif x2 then some a0 else (bo a0 a1).bind fun x3=>req (x3.length=x3.length) <| (bO (i64.wrap (a1+x1)) x3).bind fun x4=>req (0<=a1/\a1<((x4.length:Nat):Int)) <| (x4[a1.toNat]?).bind fun x5=>((bif x1==2 then some true else some false:Option (Bool)).bind fun x8=>bif x8 then req (0<=(i64.wrap (a1+1))/\(i64.wrap (a1+1))<((x4.length:Nat):Int)) <| ((x4.set a1.toNat (a2,(0,0),i64.wrap (x1-1),a3))[(i64.wrap (a1+1)).toNat]?).bind fun x9=>some ((x4.set a1.toNat (a2,(0,0),i64.wrap (x1-1),a3)).set ((i64.wrap (a1+1)).toNat) (0,(0,0),2,a3)) else some (x4.set a1.toNat (a2,(0,0),i64.wrap (x1-1),a3)):Option ((List (Int×aa.T)))).bind fun x10=>req (x4.length=x10.length) (some x10)
def ij (a0:Int×Int×bJ.T) (a1:Int):Option ((Int×Int×bJ.T)):=(bx a1).bind fun x1=>(bif decide (x1<0) then some true else bif decide (x1>a0.2.1) then some true else some false:Option (Bool)).bind fun x2=>bif x2 then some a0 else (bif x1==0 then some true else some false:Option (Bool)).bind fun x3=>bif x3 then (bif a0.2.2.2.2.2.2.1 then some true else some false:Option (Bool)).bind fun x4=>bif x4 then (getI a0.2.2.1 a0.2.2.2.2.1).bind fun x5=>(ft x5 a0.2.2.2.2.2.1 a1).bind fun x6=>(cj a0 x6).bind fun x7=>some x7 else (getI a0.2.2.1 a0.2.2.2.2.1).bind fun x8=>(ft x8 (i64.wrap (a0.2.2.2.2.2.1-1)) a1).bind fun x9=>(cj a0 x9).bind fun x10=>some x10 else (aW a0 1).bind fun x11=>((bif a0.2.2.2.2.2.2.1 then some true else some false:Option (Bool)).bind fun x15=>bif x15 then (bif x11 then some true else some false:Option (Bool)).bind fun x16=>bif x16 then (fg (a0.1,a0.2.1,a0.2.2.1,a0.2.2.2.1,a0.2.2.2.2.1,0,false,a0.2.2.2.2.2.2.2)).bind fun x17=>some (x17.1,x17.2.1,x17.2.2.1,x17.2.2.2.1,x17.2.2.2.2.1,x17.2.2.2.2.2.1,x17.2.2.2.2.2.2.1,zfP x17.2.2.2.2.2.2.2) else some (a0.1,a0.2.1,a0.2.2.1,a0.2.2.2.1,a0.2.2.2.2.1,a0.2.2.2.2.2.1,false,zfP a0.2.2.2.2.2.2.2) else some (a0.1,a0.2.1,a0.2.2.1,a0.2.2.2.1,a0.2.2.2.2.1,a0.2.2.2.2.2.1,a0.2.2.2.2.2.2.1,zfP a0.2.2.2.2.2.2.2):Option (Int×Int×(List (List (Int×aa.T)))×(List (List (Int×aa.T)))×Int×Int×Bool×Int×Int×Int×Int×Int×Int×Int×Int×Int×Int×Int×Bool×Bool×Int×Int×Int×Int×Int×Bool×Bool×Int×Int×Int×Int×List Int)).bind fun x18=>((bif decide ((i64.wrap (x18.2.2.2.2.2.1+x1))>x18.2.1) then some true else some false:Option (Bool)).bind fun x22=>bif x22 then (bif x11 then some true else some false:Option (Bool)).bind fun x23=>bif x23 then (fg (x18.1,x18.2.1,x18.2.2.1,x18.2.2.2.1,x18.2.2.2.2.1,0,x18.2.2.2.2.2.2.1,znP x18.2.2.2.2.2.2.2)).bind fun x24=>some (x24.1,x24.2.1,x24.2.2.1,x24.2.2.2.1,x24.2.2.2.2.1,x24.2.2.2.2.2.1,x24.2.2.2.2.2.2.1,zfP x24.2.2.2.2.2.2.2) else some (x18.1,x18.2.1,x18.2.2.1,x18.2.2.2.1,x18.2.2.2.2.1,i64.wrap (x18.2.1-x1),x18.2.2.2.2.2.2.1,zeP x18.2.2.2.2.2.2.2) else some (x18.1,x18.2.1,x18.2.2.1,x18.2.2.2.1,x18.2.2.2.2.1,x18.2.2.2.2.2.1,x18.2.2.2.2.2.2.1,zeP x18.2.2.2.2.2.2.2):Option (Int×Int×(List (List (Int×aa.T)))×(List (List (Int×aa.T)))×Int×Int×Bool×Int×Int×Int×Int×Int×Int×Int×Int×Int×Int×Int×Bool×Bool×Int×Int×Int×Int×Int×Bool×Bool×Int×Int×Int×Int×List Int)).bind fun x25=>(((aW (x25.1,x25.2.1,x25.2.2.1,x25.2.2.2.1,x25.2.2.2.2.1,x25.2.2.2.2.2.1,x25.2.2.2.2.2.2.1,znP x25.2.2.2.2.2.2.2) 4).bind fun x33=>bif x33 then some true else some false:Option (Bool)).bind fun x34=>bif x34 then (getI x25.2.2.1 x25.2.2.2.2.1).bind fun x35=>(fF x35 x25.2.2.2.2.2.1 x1 (x25.2.2.2.2.2.2.2.1,x25.2.2.2.2.2.2.2.2.1,x25.2.2.2.2.2.2.2.2.2.1)).bind fun x36=>(cj (x25.1,x25.2.1,x25.2.2.1,x25.2.2.2.1,x25.2.2.2.2.1,x25.2.2.2.2.2.1,x25.2.2.2.2.2.2.1,znP x25.2.2.2.2.2.2.2) x36).bind fun x37=>some (x37.1,x37.2.1,x37.2.2.1,x37.2.2.2.1,x37.2.2.2.2.1,x37.2.2.2.2.2.1,x37.2.2.2.2.2.2.1,zfP x37.2.2.2.2.2.2.2) else some (x25.1,x25.2.1,x25.2.2.1,x25.2.2.2.1,x25.2.2.2.2.1,x25.2.2.2.2.2.1,x25.2.2.2.2.2.2.1,zeP x25.2.2.2.2.2.2.2):Option (Int×Int×(List (List (Int×aa.T)))×(List (List (Int×aa.T)))×Int×Int×Bool×Int×Int×Int×Int×Int×Int×Int×Int×Int×Int×Int×Bool×Bool×Int×Int×Int×Int×Int×Bool×Bool×Int×Int×Int×Int×List Int)).bind fun x38=>(getI x38.2.2.1 x38.2.2.2.2.1).bind fun x39=>(jQ x39 x38.2.2.2.2.2.1 a1 (x38.2.2.2.2.2.2.2.1,x38.2.2.2.2.2.2.2.2.1,x38.2.2.2.2.2.2.2.2.2.1)).bind fun x40=>(cj (x38.1,x38.2.1,x38.2.2.1,x38.2.2.2.1,x38.2.2.2.2.1,x38.2.2.2.2.2.1,x38.2.2.2.2.2.2.1,znP x38.2.2.2.2.2.2.2) x40).bind fun x41=>(bif decide ((i64.wrap (x41.2.2.2.2.2.1+x1))<x41.2.1) then some true else some false:Option (Bool)).bind fun x42=>bif x42 then some (x41.1,x41.2.1,x41.2.2.1,x41.2.2.2.1,x41.2.2.2.2.1,i64.wrap (x41.2.2.2.2.2.1+x1),x41.2.2.2.2.2.2) else some (x41.1,x41.2.1,x41.2.2.1,x41.2.2.2.1,x41.2.2.2.2.1,i64.wrap (x41.2.1-1),x11,x41.2.2.2.2.2.2.2)
def lq (a0:Int):Option (Int×Int):=bif a0==0 then bif a0==0 then some (1,22) else bif a0==1 then some (1,22) else bif a0==2 then some (1,23) else bif a0==3 then some (1,24) else bif a0==4 then some (1,25) else bif a0==5 then some (1,27) else bif a0==6 then some (1,28) else bif a0==7 then some (1,29) else none else bif a0==1 then bif a0==0 then some (2,22) else bif a0==1 then some (2,22) else bif a0==2 then some (2,23) else bif a0==3 then some (2,24) else bif a0==4 then some (2,25) else bif a0==5 then some (2,27) else bif a0==6 then some (2,28) else bif a0==7 then some (2,29) else none else bif a0==2 then bif a0==0 then some (3,22) else bif a0==1 then some (3,22) else bif a0==2 then some (3,23) else bif a0==3 then some (3,24) else bif a0==4 then some (3,25) else bif a0==5 then some (3,27) else bif a0==6 then some (3,28) else bif a0==7 then some (3,29) else none else bif a0==3 then bif a0==0 then some (4,22) else bif a0==1 then some (4,22) else bif a0==2 then some (4,23) else bif a0==3 then some (4,24) else bif a0==4 then some (4,25) else bif a0==5 then some (4,27) else bif a0==6 then some (4,28) else bif a0==7 then some (4,29) else none else bif a0==4 then bif a0==0 then some (5,22) else bif a0==1 then some (5,22) else bif a0==2 then some (5,23) else bif a0==3 then some (5,24) else bif a0==4 then some (5,25) else bif a0==5 then some (5,27) else bif a0==6 then some (5,28) else bif a0==7 then some (5,29) else none else bif a0==5 then bif a0==0 then some (7,22) else bif a0==1 then some (7,22) else bif a0==2 then some (7,23) else bif a0==3 then some (7,24) else bif a0==4 then some (7,25) else bif a0==5 then some (7,27) else bif a0==6 then some (7,28) else bif a0==7 then some (7,29) else none else bif a0==6 then bif a0==0 then some (8,22) else bif a0==1 then some (8,22) else bif a0==2 then some (8,23) else bif a0==3 then some (8,24) else bif a0==4 then some (8,25) else bif a0==5 then some (8,27) else bif a0==6 then some (8,28) else bif a0==7 then some (8,29) else none else bif a0==7 then bif a0==0 then some (9,22) else bif a0==1 then some (9,22) else bif a0==2 then some (9,23) else bif a0==3 then some (9,24) else bif a0==4 then some (9,25) else bif a0==5 then some (9,27) else bif a0==6 then some (9,28) else bif a0==7 then some (9,29) else none else none
def ba (a0:Int):Option (Bool):=bif decide (a0>=0) then some (decide (a0<=255)) else some false
def cw (x109:Int) (x122:Int×Int):Option (((Int))⊕(Int×Int)):=(bif decide (x122.1<8) then some true else some false:Option (Bool)).bind fun x123=>bif x123 then ((lq x122.1).bind fun x129=>req (0<=(u64.wrap x122.1)) <| ((bif x109==x129.1 then req ((i64.wrap ((1:Int)*2^(min (u64.wrap x122.1).toNat 64)))≠0) <| bif (Int.tmod (i64.wrap (Int.tdiv x122.2 (i64.wrap ((1:Int)*2^(min (u64.wrap x122.1).toNat 64))))) 2)==0 then some true else some false else some false:Option (Bool)).bind fun x131=>bif x131 then some (i64.wrap (x122.2+(i64.wrap ((1:Int)*2^(min (u64.wrap x122.1).toNat 64))))) else some x122.2:Option (Int)).bind fun x132=>(bif x109==x129.2 then req ((i64.wrap ((1:Int)*2^(min (u64.wrap x122.1).toNat 64)))≠0) <| bif (Int.tmod (i64.wrap (Int.tdiv x132 (i64.wrap ((1:Int)*2^(min (u64.wrap x122.1).toNat 64))))) 2)==1 then some true else some false else some false:Option (Bool)).bind fun x133=>bif x133 then some (i64.wrap (x132-(i64.wrap ((1:Int)*2^(min (u64.wrap x122.1).toNat 64))))) else some x132:Option (Int)).bind fun x134=>some (.inr (i64.wrap (x122.1+1),x134)) else some (.inl x122.2)
def bb (a1:List Int) (x107:Int×Int×Int×Int):Option (((Int×Int×Int×Int×Int×Int)⊕(Int×Int×Int))⊕(Int×Int×Int×Int)):=(bif decide (x107.1<(a1.length:Int)) then some true else some false:Option (Bool)).bind fun x108=>bif x108 then (getI a1 x107.1).bind fun x109=>(bif x109==0 then some true else some false:Option (Bool)).bind fun x110=>bif x110 then some (.inr (i64.wrap (x107.1+1),0,0,0)) else (ap (cw x109) (0,x107.2.1)).bind fun x135=>((bif decide (x109>=30) then bif decide (x109<=37) then some true else some false else some false:Option (Bool)).bind fun x169=>bif x169 then some (.inl (i64.wrap (x107.1+1),i64.wrap ((i64.wrap (x109-30))+1),false)) else (bif decide (x109>=90) then bif decide (x109<=97) then some true else some false else some false:Option (Bool)).bind fun x170=>bif x170 then some (.inl (i64.wrap (x107.1+1),i64.wrap ((i64.wrap (x109-90))+9),false)) else (bif x109==39 then some true else some false:Option (Bool)).bind fun x171=>bif x171 then some (.inl (i64.wrap (x107.1+1),0,false)) else (bif decide (x109>=40) then bif decide (x109<=47) then some true else some false else some false:Option (Bool)).bind fun x172=>bif x172 then some (.inl (i64.wrap (x107.1+1),i64.wrap ((i64.wrap (x109-40))+1),true)) else (bif decide (x109>=100) then bif decide (x109<=107) then some true else some false else some false:Option (Bool)).bind fun x173=>bif x173 then some (.inl (i64.wrap (x107.1+1),i64.wrap ((i64.wrap (x109-100))+9),true)) else (bif x109==49 then some true else some false:Option (Bool)).bind fun x174=>bif x174 then some (.inl (i64.wrap (x107.1+1),0,true)) else (bif x109==38 then some true else bif x109==48 then some true else some false:Option (Bool)).bind fun x175=>bif x175 then req (0<=(i64.wrap (x107.1+1))/\(i64.wrap (x107.1+1))<=((a1.length:Nat):Int)/\((a1.length:Nat):Int)<=((a1.length:Nat):Int)) <| (bif decide (((sub a1 ((i64.wrap (x107.1+1)).toNat) a1.length).length:Int)>1) then (getI (sub a1 ((i64.wrap (x107.1+1)).toNat) a1.length) 0).bind fun x179=>bif x179==5 then (getI (sub a1 ((i64.wrap (x107.1+1)).toNat) a1.length) 1).bind fun x180=>(ba x180).bind fun x181=>bif x181 then some true else some false else some false else some false:Option (Bool)).bind fun x182=>bif x182 then (getI (sub a1 ((i64.wrap (x107.1+1)).toNat) a1.length) 1).bind fun x183=>some (.inl (i64.wrap ((i64.wrap (x107.1+1))+2),i64.wrap (x183+1),(x109==48))) else (bif decide (((sub a1 ((i64.wrap (x107.1+1)).toNat) a1.length).length:Int)>3) then (getI (sub a1 ((i64.wrap (x107.1+1)).toNat) a1.length) 0).bind fun x191=>bif x191==2 then (getI (sub a1 ((i64.wrap (x107.1+1)).toNat) a1.length) 1).bind fun x192=>(ba x192).bind fun x193=>bif x193 then (getI (sub a1 ((i64.wrap (x107.1+1)).toNat) a1.length) 2).bind fun x194=>(ba x194).bind fun x195=>bif x195 then (getI (sub a1 ((i64.wrap (x107.1+1)).toNat) a1.length) 3).bind fun x196=>(ba x196).bind fun x197=>bif x197 then some true else some false else some false else some false else some false else some false:Option (Bool)).bind fun x198=>bif x198 then (getI (sub a1 ((i64.wrap (x107.1+1)).toNat) a1.length) 1).bind fun x199=>(getI (sub a1 ((i64.wrap (x107.1+1)).toNat) a1.length) 2).bind fun x200=>(getI (sub a1 ((i64.wrap (x107.1+1)).toNat) a1.length) 3).bind fun x201=>some (.inl (i64.wrap ((i64.wrap (x107.1+1))+4),i64.wrap ((i64.wrap ((i64.wrap ((i64.wrap ((16:Int)+(i64.wrap ((36:Int)*(i64.wrap (Int.tdiv (i64.wrap ((6:Int)*x199)) 256))))))+(i64.wrap ((6:Int)*(i64.wrap (Int.tdiv (i64.wrap ((6:Int)*x200)) 256))))))+(i64.wrap (Int.tdiv (i64.wrap ((6:Int)*x201)) 256))))+1),(x109==48))) else some (.inr (.inl (.inl (x135,x107.2.2.1,x107.2.2.2,x135,x107.2.2.1,x107.2.2.2)))) else some (.inl (i64.wrap (x107.1+1),(-1),false)):Option ((Int×Int×Bool)⊕(((Int×Int×Int×Int×Int×Int)⊕(Int×Int×Int))⊕(Int×Int×Int×Int)))).bind fun o=>match o with | .inr r=>some r | .inl x202=>((bif decide (x202.2.1>=0) then bif x202.2.2 then some true else some false else some false:Option (Bool)).bind fun x204=>bif x204 then some x202.2.1 else some x107.2.2.2:Option (Int)).bind fun x205=>(bif decide (x202.2.1>=0) then bif !x202.2.2 then some true else some false else some false:Option (Bool)).bind fun x206=>bif x206 then some (.inr (x202.1,x135,x202.2.1,x205)) else some (.inr (x202.1,x135,x107.2.2.1,x205)) else some (.inl (.inr (x107.2.1,x107.2.2.1,x107.2.2.2)))
def ik (a0:bg.T) (a1:List Int):Option (bg.T):=(((bH a0).bind fun x5=>bif !x5 then some true else bif (a1.length:Int)==0 then some true else some false:Option (Bool)).bind fun x6=>bif x6 then some (0,0,0) else some (a0.1,a0.2.1,a0.2.2):Option (Int×Int×Int)).bind fun x7=>(ap (bb a1) (0,x7.1,x7.2.1,x7.2.2)).bind fun o=>match o with | .inl x207=>some x207.2.2.2 | .inr x208=>some x208
def cC (a1:Int) (a0:Int×Int×bJ.T) (x5:Int×Int):Option (((Int))⊕(Int×Int)):=(bif decide (x5.1<a1) then some true else some false:Option (Bool)).bind fun x6=>bif x6 then ((bif x5.2 !=a0.2.2.2.2.2.2.2.2.2.1 then bif decide (x5.2<(i64.wrap (a0.1-1))) then some true else some false else some false:Option (Bool)).bind fun x8=>bif x8 then some (i64.wrap (x5.2+1)) else some x5.2:Option (Int)).bind fun x9=>some (.inr (i64.wrap (x5.1+1),x9)) else some (.inl x5.2)
def cB (a1:Int) (a0:Int×Int×bJ.T) (x15:Int×Int):Option (((Int))⊕(Int×Int)):=(bif decide (x15.1>a1) then some true else some false:Option (Bool)).bind fun x16=>bif x16 then ((bif x15.2 !=a0.2.2.2.2.2.2.2.2.1 then bif decide (x15.2>0) then some true else some false else some false:Option (Bool)).bind fun x18=>bif x18 then some (i64.wrap (x15.2-1)) else some x15.2:Option (Int)).bind fun x19=>some (.inr (i64.wrap (x15.1-1),x19)) else some (.inl x15.2)
def jd (a0:Int×Int×bJ.T) (a1:Int) (a2:Int):Option ((Int×Int×bJ.T)):=(ap (cC a1 a0) (0,a0.2.2.2.2.1)).bind fun x10=>(ap (cB a1 a0) (0,x10)).bind fun x20=>(ah (i64.wrap (a0.2.2.2.2.2.1+a2)) 0 (i64.wrap (a0.2.1-1))).bind fun x21=>some (a0.1,a0.2.1,a0.2.2.1,a0.2.2.2.1,x20,x21,a0.2.2.2.2.2.2)
def dp (x6:Int) (a1:Int) (a0:Int×fa.T) (x11:Int):Option (((Int)⊕(Unit))⊕(Int)):=(bif decide (x11<x6) then some true else some false:Option (Bool)).bind fun x12=>bif x12 then (bif decide (x11>a1) then (gJ a0 x11).bind fun x14=>bif x14 then some true else some false else some false:Option (Bool)).bind fun x15=>bif x15 then some (.inl (.inl x11)) else some (.inr (i64.wrap (x11+1))) else some (.inl (.inr ()))
def fh (a0:Int×fa.T) (a1:Int) (a2:Int):Option (Int):=((bif decide (a2<1) then some true else some false:Option (Bool)).bind fun x2=>bif x2 then some 1 else some a2:Option (Int)).bind fun x3=>((bif decide (x3>200) then some true else some false:Option (Bool)).bind fun x5=>bif x5 then some 200 else some x3:Option (Int)).bind fun x6=>(ap (dp x6 a1 a0) 0).bind fun o=>match o with | .inl x16=>some x16 | .inr _=>some (i64.wrap (x6-1))
def cD (a1:Int) (a0:Int×fa.T) (x4:Int):Option (((Int)⊕(Unit))⊕(Int)):=(bif decide (x4>0) then some true else some false:Option (Bool)).bind fun x5=>bif x5 then (bif decide (x4<a1) then (gJ a0 x4).bind fun x7=>bif x7 then some true else some false else some false:Option (Bool)).bind fun x8=>bif x8 then some (.inl (.inl x4)) else some (.inr (i64.wrap (x4-1))) else some (.inl (.inr ()))
def fp (a0:Int×fa.T) (a1:Int):Option (Int):=(ap (cD a1 a0) 199).bind fun o=>match o with | .inl x9=>some x9 | .inr _=>some 0
end Go.SH
set_option maxRecDepth 100000
namespace Go.SH
open IntKind (i64 u64 i32 u8)
def cd (a1:dP.T) (x42:Int×Int×Int×(List (List (Int×aa.T)))×(List (List (Int×aa.T)))×Int×Int×Bool×Int×Int×Int×Int×Int×Int×Int×Int×Int×Int×Int×Bool×Bool×Int×Int×Int×Int×Int×Bool×Bool×Int×Int×Int×Int×List Int):Option (((Int×Int×(List (List (Int×aa.T)))×(List (List (Int×aa.T)))×Int×Int×Bool×Int×Int×Int×Int×Int×Int×Int×Int×Int×Int×Int×Bool×Bool×Int×Int×Int×Int×Int×Bool×Bool×Int×Int×Int×Int×List Int))⊕(Int×Int×Int×(List (List (Int×aa.T)))×(List (List (Int×aa.T)))×Int×Int×Bool×Int×Int×Int×Int×Int×Int×Int×Int×Int×Int×Int×Bool×Bool×Int×Int×Int×Int×Int×Bool×Bool×Int×Int×Int×Int×List Int)):=(bif decide (x42.1<a1.2.1) then some true else some false:Option (Bool)).bind fun x43=>bif x43 then (fg (x42.2.1,x42.2.2.1,x42.2.2.2.1,x42.2.2.2.2.1,x42.2.2.2.2.2.1,x42.2.2.2.2.2.2.1,x42.2.2.2.2.2.2.2.1,znP x42.2.2.2.2.2.2.2.2)).bind fun x44=>some (.inr (i64.wrap (x42.1+1),x44.1,x44.2.1,x44.2.2.1,x44.2.2.2.1,x44.2.2.2.2.1,x44.2.2.2.2.2.1,x44.2.2.2.2.2.2.1,zfP x44.2.2.2.2.2.2.2)) else some (.inl (x42.2.1,x42.2.2.1,x42.2.2.2.1,x42.2.2.2.2.1,x42.2.2.2.2.2.1,x42.2.2.2.2.2.2.1,x42.2.2.2.2.2.2.2.1,zeP x42.2.2.2.2.2.2.2.2))
def ca (a1:dP.T) (a0:Int×Int×bJ.T) (x62:Int×Int):Option (((Int))⊕(Int×Int)):=(bif decide (x62.1<a1.2.1) then some true else some false:Option (Bool)).bind fun x63=>bif x63 then (fh a0.2.2.2.2.2.2.2.2.2.2.2.2.1 x62.2 a0.2.1).bind fun x64=>some (.inr (i64.wrap (x62.1+1),x64)) else some (.inl x62.2)
def bZ (a1:dP.T) (a0:Int×Int×bJ.T) (x68:Int×Int):Option (((Int))⊕(Int×Int)):=(bif decide (x68.1>a1.2.1) then some true else some false:Option (Bool)).bind fun x69=>bif x69 then (fp a0.2.2.2.2.2.2.2.2.2.2.2.2.1 x68.2).bind fun x70=>some (.inr (i64.wrap (x68.1-1),x70)) else some (.inl x68.2)
def bd (a0:Int×Int×bJ.T) (a1:dP.T):Option ((Int×Int×bJ.T)):=((bif a1.1==2 then some true else some false:Option (Bool)).bind fun x39=>bif x39 then (ap (cd a1) (0,a0.1,a0.2.1,a0.2.2.1,a0.2.2.2.1,a0.2.2.2.2.1,a0.2.2.2.2.2.1,a0.2.2.2.2.2.2.1,zfP a0.2.2.2.2.2.2.2)).bind fun x45=>some (x45.1,x45.2.1,x45.2.2.1,x45.2.2.2.1,x45.2.2.2.2.1,x45.2.2.2.2.2.1,x45.2.2.2.2.2.2.1,zeP x45.2.2.2.2.2.2.2) else (bif a1.1==3 then some true else some false:Option (Bool)).bind fun x46=>bif x46 then (bif a0.2.2.2.2.1==a0.2.2.2.2.2.2.2.2.1 then some true else some false:Option (Bool)).bind fun x47=>bif x47 then (cy a0.2.2.1 a0.2.2.2.2.2.2.2.2.1 a0.2.2.2.2.2.2.2.2.2.1 (-1) a0.2.2.2.2.2.2.2.1).bind fun x48=>some (a0.1,a0.2.1,x48,a0.2.2.2.1,a0.2.2.2.2.1,a0.2.2.2.2.2.1,a0.2.2.2.2.2.2.1,zfP a0.2.2.2.2.2.2.2) else (bif decide (a0.2.2.2.2.1>0) then some true else some false:Option (Bool)).bind fun x49=>bif x49 then some (a0.1,a0.2.1,a0.2.2.1,a0.2.2.2.1,i64.wrap (a0.2.2.2.2.1-1),a0.2.2.2.2.2.1,a0.2.2.2.2.2.2.1,zfP a0.2.2.2.2.2.2.2) else some (a0.1,a0.2.1,a0.2.2.1,a0.2.2.2.1,a0.2.2.2.2.1,a0.2.2.2.2.2.1,a0.2.2.2.2.2.2.1,zfP a0.2.2.2.2.2.2.2) else (bif a1.1==4 then some true else some false:Option (Bool)).bind fun x50=>bif x50 then some (a0.1,a0.2.1,a0.2.2.1,a0.2.2.2.1,a0.2.2.2.2.1,0,a0.2.2.2.2.2.2.1,zfP a0.2.2.2.2.2.2.2) else (bif a1.1==5 then some true else some false:Option (Bool)).bind fun x51=>bif x51 then (dX a0 a1.2.1 a1.2.2.1).bind fun x52=>some (x52.1,x52.2.1,x52.2.2.1,x52.2.2.2.1,x52.2.2.2.2.1,x52.2.2.2.2.2.1,x52.2.2.2.2.2.2.1,zfP x52.2.2.2.2.2.2.2) else (bif a1.1==6 then some true else some false:Option (Bool)).bind fun x53=>bif x53 then (jd a0 a1.2.1 a1.2.2.1).bind fun x54=>some (x54.1,x54.2.1,x54.2.2.1,x54.2.2.2.1,x54.2.2.2.2.1,x54.2.2.2.2.2.1,x54.2.2.2.2.2.2.1,zfP x54.2.2.2.2.2.2.2) else (bif a1.1==7 then some true else some false:Option (Bool)).bind fun x55=>bif x55 then (ah a1.2.1 0 (i64.wrap (a0.2.1-1))).bind fun x56=>some (a0.1,a0.2.1,a0.2.2.1,a0.2.2.2.1,a0.2.2.2.2.1,x56,a0.2.2.2.2.2.2.1,zfP a0.2.2.2.2.2.2.2) else (bif a1.1==8 then some true else some false:Option (Bool)).bind fun x57=>bif x57 then (dX a0 a1.2.1 a0.2.2.2.2.2.1).bind fun x58=>some (x58.1,x58.2.1,x58.2.2.1,x58.2.2.2.1,x58.2.2.2.2.1,x58.2.2.2.2.2.1,x58.2.2.2.2.2.2.1,zfP x58.2.2.2.2.2.2.2) else (bif a1.1==9 then some true else some false:Option (Bool)).bind fun x59=>bif x59 then (ap (ca a1 a0) (0,a0.2.2.2.2.2.1)).bind fun x65=>(ap (bZ a1 a0) (0,x65)).bind fun x71=>some (a0.1,a0.2.1,a0.2.2.1,a0.2.2.2.1,a0.2.2.2.2.1,x71,a0.2.2.2.2.2.2.1,zfP a0.2.2.2.2.2.2.2) else (bif a1.1==19 then some true else some false:Option (Bool)).bind fun x72=>bif x72 then (bif decide (a1.2.1>=0) then bif decide (a1.2.1<a1.2.2.1) then bif decide (a1.2.2.1<a0.1) then some true else some false else some false else some false:Option (Bool)).bind fun x73=>bif x73 then (dX (a0.1,a0.2.1,a0.2.2.1,a0.2.2.2.1,a0.2.2.2.2.1,a0.2.2.2.2.2.1,a0.2.2.2.2.2.2.1,a0.2.2.2.2.2.2.2.1,a1.2.1,a1.2.2.1,a0.2.2.2.2.2.2.2.2.2.2) 0 0).bind fun x74=>some (x74.1,x74.2.1,x74.2.2.1,x74.2.2.2.1,x74.2.2.2.2.1,x74.2.2.2.2.2.1,x74.2.2.2.2.2.2.1,zfP x74.2.2.2.2.2.2.2) else some (a0.1,a0.2.1,a0.2.2.1,a0.2.2.2.1,a0.2.2.2.2.1,a0.2.2.2.2.2.1,a0.2.2.2.2.2.2.1,zfP a0.2.2.2.2.2.2.2) else (bif a1.1==22 then some true else some false:Option (Bool)).bind fun x75=>bif x75 then (eH a0).bind fun x76=>some (x76.1,x76.2.1,x76.2.2.1,x76.2.2.2.1,x76.2.2.2.2.1,x76.2.2.2.2.2.1,x76.2.2.2.2.2.2.1,zfP x76.2.2.2.2.2.2.2) else some (a0.1,a0.2.1,a0.2.2.1,a0.2.2.2.1,a0.2.2.2.2.1,a0.2.2.2.2.2.1,a0.2.2.2.2.2.2.1,zfP a0.2.2.2.2.2.2.2):Option (Int×Int×(List (List (Int×aa.T)))×(List (List (Int×aa.T)))×Int×Int×Bool×Int×Int×Int×Int×Int×Int×Int×Int×Int×Int×Int×Bool×Bool×Int×Int×Int×Int×Int×Bool×Bool×Int×Int×Int×Int×List Int)).bind fun x77=>some (x77.1,x77.2.1,x77.2.2.1,x77.2.2.2.1,x77.2.2.2.2.1,x77.2.2.2.2.2.1,x77.2.2.2.2.2.2.1,znP x77.2.2.2.2.2.2.2)
def fY (a0:List (List (Int×aa.T))) (a1:Int×Int):Option (Bool):=bif decide (a1.1>=0) then bif decide (a1.1<(a0.length:Int)) then bif decide (a1.2>=0) then (getI a0 0).bind fun x1=>some (decide (a1.2<(x1.length:Int))) else some false else some false else some false
def ej (x6:Int) (a3:bg.T) (x9:(List (Int×aa.T))) (x13:Int×(List (Int×aa.T))):Option ((((List (Int×aa.T))))⊕(Int×(List (Int×aa.T)))):=(bif decide (x13.1<x6) then some true else some false:Option (Bool)).bind fun x14=>bif x14 then (cR a3).bind fun x15=>req (0<=x13.1/\x13.1<((x9.length:Nat):Int)) <| (x13.2[x13.1.toNat]?).bind fun x16=>some (.inr (i64.wrap (x13.1+1),x13.2.set x13.1.toNat x15)) else some (.inl x13.2)
def ey (a0:List (Int×aa.T)) (a1:Int) (a2:Int) (a3:bg.T):Option ((List (Int×aa.T))):=((bif decide (a1<0) then some true else some false:Option (Bool)).bind fun x2=>bif x2 then some 0 else some a1:Option (Int)).bind fun x3=>((bif decide (a2>(a0.length:Int)) then some true else some false:Option (Bool)).bind fun x5=>bif x5 then some (a0.length:Int) else some a2:Option (Int)).bind fun x6=>(bif decide (x6<=x3) then some true else some false:Option (Bool)).bind fun x7=>bif x7 then some a0 else (bo a0 x3).bind fun x8=>req (x8.length=x8.length) <| (bO x6 x8).bind fun x9=>(ap (ej x6 a3 x9) (x3,x9)).bind fun x17=>req (x9.length=x17.length) (some x17)
def ef (a0:List (List (Int×aa.T))) (a1:Int×Int) (a2:Int×Int) (a3:bg.T) (x23:Int×(List (List (Int×aa.T)))):Option ((((List (List (Int×aa.T)))))⊕(Int×(List (List (Int×aa.T))))):=(bif decide (x23.1<(a0.length:Int)) then some true else some false:Option (Bool)).bind fun x24=>bif x24 then (getI a0 0).bind fun x25=>((bif decide (x23.1>=a1.1) then bif decide (x23.1<=a2.1) then some true else some false else some false:Option (Bool)).bind fun x32=>bif x32 then (getI a0 0).bind fun x33=>((bif x23.1==a1.1 then some true else some false:Option (Bool)).bind fun x35=>bif x35 then some a1.2 else some 0:Option (Int)).bind fun x36=>(bif x23.1==a2.1 then some true else some false:Option (Bool)).bind fun x37=>bif x37 then some (x36,i64.wrap (a2.2+1)) else some (x36,(x33.length:Int)) else some ((x25.length:Int),0):Option (Int×Int)).bind fun x38=>(getI a0 x23.1).bind fun x39=>(ey x39 x38.1 x38.2 a3).bind fun x40=>req (x23.2.length=x23.2.length) <| req ((x23.2++[x40]).length*24<=aS) <| req ((x23.2++[x40]).length=(x23.2++[x40]).length) (some (.inr (i64.wrap (x23.1+1),x23.2++[x40]))) else req (x23.2.length=x23.2.length) (some (.inl x23.2))
def dB (a0:List (List (Int×aa.T))) (a1:Int×Int) (a2:Int×Int) (a3:bg.T):Option ((List (List (Int×aa.T)))):=((fY a0 a1).bind fun x3=>bif !x3 then some true else (fY a0 a2).bind fun x4=>bif !x4 then some true else some false:Option (Bool)).bind fun x5=>bif x5 then some a0 else (ap (ef a0 a1 a2 a3) (0,[])).bind fun x41=>req (x41.length=x41.length) (some x41)
def dx (a0:Int×Int×bJ.T) (a1:Int) (a2:Int×Int) (a3:Int×Int):Option ((Int×Int×bJ.T)):=((bif a1==0 then some true else some false:Option (Bool)).bind fun x7=>bif x7 then (dB a0.2.2.1 (a0.2.2.2.2.1,a0.2.2.2.2.2.1) a3 a0.2.2.2.2.2.2.2.1).bind fun x8=>some x8 else (bif a1==1 then some true else some false:Option (Bool)).bind fun x9=>bif x9 then (dB a0.2.2.1 a2 (a0.2.2.2.2.1,a0.2.2.2.2.2.1) a0.2.2.2.2.2.2.2.1).bind fun x10=>some x10 else (bif a1==2 then some true else some false:Option (Bool)).bind fun x11=>bif x11 then (dB a0.2.2.1 a2 a3 a0.2.2.2.2.2.2.2.1).bind fun x12=>some x12 else some a0.2.2.1:Option ((List (List (Int×aa.T))))).bind fun x13=>some (a0.1,a0.2.1,x13,a0.2.2.2)
def gS (a0:List (Int×aa.T)) (a1:Int) (a2:Int) (a3:bg.T):Option ((List (Int×aa.T))):=(bif decide (a2<1) then some true else bif decide (a1<0) then some true else bif decide (a1>=(a0.length:Int)) then some true else some false:Option (Bool)).bind fun x1=>bif x1 then some a0 else ((bif decide (a2>(i64.wrap ((a0.length:Int)-a1))) then some true else some false:Option (Bool)).bind fun x3=>bif x3 then some (i64.wrap ((a0.length:Int)-a1)) else some a2:Option (Int)).bind fun x4=>(bo a0 a1).bind fun x5=>req (x5.length=x5.length) <| (bO (i64.wrap (a1+x4)) x5).bind fun x6=>req (0<=(0:Int)/\(0:Int)<=a1/\a1<=((x6.length:Nat):Int)) <| req (0+a1.toNat<=x6.length) <| req ((([]:List (Int×aa.T))++((x6.drop 0).take a1.toNat)).length*48<=aS) <| req (0<=(i64.wrap (a1+x4))/\(i64.wrap (a1+x4))<=((x6.length:Nat):Int)/\((x6.length:Nat):Int)<=((x6.length:Nat):Int)) <| req ((([]:List (Int×aa.T))++((x6.drop 0).take a1.toNat)).length=(([]:List (Int×aa.T))++((x6.drop 0).take a1.toNat)).length) <| req (((i64.wrap (a1+x4)).toNat)+(x6.length-(i64.wrap (a1+x4)).toNat)<=x6.length) <| req (((([]:List (Int×aa.T))++((x6.drop 0).take a1.toNat))++((x6.drop ((i64.wrap (a1+x4)).toNat)).take (x6.length-(i64.wrap (a1+x4)).toNat))).length*48<=aS) <| (bU x4 a3).bind fun x7=>req (((([]:List (Int×aa.T))++((x6.drop 0).take a1.toNat))++((x6.drop ((i64.wrap (a1+x4)).toNat)).take (x6.length-(i64.wrap (a1+x4)).toNat))).length=((([]:List (Int×aa.T))++((x6.drop 0).take a1.toNat))++((x6.drop ((i64.wrap (a1+x4)).toNat)).take (x6.length-(i64.wrap (a1+x4)).toNat))).length) <| req ((((([]:List (Int×aa.T))++((x6.drop 0).take a1.toNat))++((x6.drop ((i64.wrap (a1+x4)).toNat)).take (x6.length-(i64.wrap (a1+x4)).toNat)))++x7).length*48<=aS) <| req ((((([]:List (Int×aa.T))++((x6.drop 0).take a1.toNat))++((x6.drop ((i64.wrap (a1+x4)).toNat)).take (x6.length-(i64.wrap (a1+x4)).toNat)))++x7).length=(((([]:List (Int×aa.T))++((x6.drop 0).take a1.toNat))++((x6.drop ((i64.wrap (a1+x4)).toNat)).take (x6.length-(i64.wrap (a1+x4)).toNat)))++x7).length) (some (((([]:List (Int×aa.T))++((x6.drop 0).take a1.toNat))++((x6.drop ((i64.wrap (a1+x4)).toNat)).take (x6.length-(i64.wrap (a1+x4)).toNat)))++x7))
def jR (a0:List (Int×aa.T)) (a1:Int):Option ((List (Int×aa.T))):=(bif decide (a1<=(a0.length:Int)) then some true else some false:Option (Bool)).bind fun x1=>bif x1 then (bo a0 a1).bind fun x2=>req (0<=(0:Int)/\(0:Int)<=a1/\a1<=((x2.length:Nat):Int)) <| req (0+a1.toNat<=x2.length) (some ((x2.drop 0).take a1.toNat)) else req ((([]:List (Int×aa.T))++a0).length*48<=aS) <| (bU (i64.wrap (a1-(a0.length:Int))) (0,0,0)).bind fun x3=>req ((([]:List (Int×aa.T))++a0).length=(([]:List (Int×aa.T))++a0).length) <| req (((([]:List (Int×aa.T))++a0)++x3).length*48<=aS) <| req (((([]:List (Int×aa.T))++a0)++x3).length=((([]:List (Int×aa.T))++a0)++x3).length) (some ((([]:List (Int×aa.T))++a0)++x3))
def cq (a0:List (List (Int×aa.T))) (a1:Int) (a2:Int) (x4:Int×(List (List (Int×aa.T)))):Option ((((List (List (Int×aa.T)))))⊕(Int×(List (List (Int×aa.T))))):=(bif decide (x4.1<(a0.length:Int)) then bif decide (((x4.2.length:Nat):Int)<a1) then some true else some false else some false:Option (Bool)).bind fun x5=>bif x5 then (getI a0 x4.1).bind fun x6=>(jR x6 a2).bind fun x7=>req (x4.2.length=x4.2.length) <| req ((x4.2++[x7]).length*24<=aS) <| req ((x4.2++[x7]).length=(x4.2++[x7]).length) (some (.inr (i64.wrap (x4.1+1),x4.2++[x7]))) else req (x4.2.length=x4.2.length) (some (.inl x4.2))
def cQ (a1:Int) (a2:Int) (x11:(List (List (Int×aa.T)))):Option ((((List (List (Int×aa.T)))))⊕((List (List (Int×aa.T))))):=(bif decide (((x11.length:Nat):Int)<a1) then some true else some false:Option (Bool)).bind fun x12=>bif x12 then (bU a2 (0,0,0)).bind fun x13=>req (x11.length=x11.length) <| req ((x11++[x13]).length*24<=aS) <| req ((x11++[x13]).length=(x11++[x13]).length) (some (.inr (x11++[x13]))) else req (x11.length=x11.length) (some (.inl x11))
def g6 (a0:List (List (Int×aa.T))) (a1:Int) (a2:Int) (a3:Int):Option ((List (List (Int×aa.T)))):=(ap (cq a0 a1 a2) (a3,[])).bind fun x8=>req (x8.length=x8.length) ((ap (cQ a1 a2) x8).bind fun x14=>req (x14.length=x14.length) (some x14))
def gR (a0:Int×Int×bJ.T) (a1:Int) (a2:Int):Option ((Int×Int×bJ.T)):=(ah a1 1 200).bind fun x1=>(ah a2 1 200).bind fun x2=>(ah (i64.wrap ((i64.wrap (a0.2.2.2.2.1+1))-x1)) 0 200).bind fun x3=>(((aW a0 128).bind fun x11=>bif x11 then some true else some false:Option (Bool)).bind fun x12=>bif x12 then (ah a0.2.2.2.2.2.2.2.2.2.2.2.1.1.1 0 (i64.wrap (a0.1-1))).bind fun x13=>(ah (i64.wrap ((i64.wrap (x13+1))-x1)) 0 200).bind fun x14=>(g6 a0.2.2.2.1 x1 x2 x14).bind fun x15=>some x15 else some a0.2.2.2.1:Option ((List (List (Int×aa.T))))).bind fun x16=>(g6 a0.2.2.1 x1 x2 x3).bind fun x17=>(fX a0.2.2.2.2.2.2.2.2.2.2.2.2.1 a0.2.1 x2).bind fun x18=>(ah a0.2.2.2.2.2.1 0 (i64.wrap (x2-1))).bind fun x19=>some (x1,x2,x17,x16,i64.wrap (a0.2.2.2.2.1-x3),x19,a0.2.2.2.2.2.2.1,a0.2.2.2.2.2.2.2.1,0,i64.wrap (x1-1),a0.2.2.2.2.2.2.2.2.2.2.1,a0.2.2.2.2.2.2.2.2.2.2.2.1,x18,a0.2.2.2.2.2.2.2.2.2.2.2.2.2)
def dm (a0:Int×Int×bJ.T) (x85:Int×(List (Int×aa.T))):Option ((((List (Int×aa.T))))⊕(Int×(List (Int×aa.T)))):=(bif decide (x85.1<a0.2.1) then some true else some false:Option (Bool)).bind fun x86=>bif x86 then req (x85.2.length=x85.2.length) <| req ((x85.2++[(69,(0,0),0,0,0,0)]).length*48<=aS) <| req ((x85.2++[(69,(0,0),0,0,0,0)]).length=(x85.2++[(69,(0,0),0,0,0,0)]).length) (some (.inr (i64.wrap (x85.1+1),x85.2++[(69,(0,0),0,0,0,0)]))) else req (x85.2.length=x85.2.length) (some (.inl x85.2))
def dn (a0:Int×Int×bJ.T) (x82:Int×(List (List (Int×aa.T)))):Option ((((List (List (Int×aa.T)))))⊕(Int×(List (List (Int×aa.T))))):=(bif decide (x82.1<a0.1) then some true else some false:Option (Bool)).bind fun x83=>bif x83 then (ap (dm a0) (0,[])).bind fun x87=>req (x87.length=x87.length) <| req (x82.2.length=x82.2.length) <| req ((x82.2++[x87]).length*24<=aS) <| req ((x82.2++[x87]).length=(x82.2++[x87]).length) (some (.inr (i64.wrap (x82.1+1),x82.2++[x87]))) else req (x82.2.length=x82.2.length) (some (.inl x82.2))
def bc (a0:Int×Int×bJ.T) (a1:dP.T):Option ((Int×Int×bJ.T)):=((bif a1.1==11 then some true else some false:Option (Bool)).bind fun x47=>bif x47 then (dx a0 a1.2.1 (a0.2.2.2.2.1,0) (a0.2.2.2.2.1,i64.wrap (a0.2.1-1))).bind fun x48=>some (x48.1,x48.2.1,x48.2.2.1,x48.2.2.2.1,x48.2.2.2.2.1,x48.2.2.2.2.2.1,x48.2.2.2.2.2.2.1,zfP x48.2.2.2.2.2.2.2) else (bif a1.1==12 then some true else some false:Option (Bool)).bind fun x49=>bif x49 then (dx a0 a1.2.1 (0,0) (i64.wrap (a0.1-1),i64.wrap (a0.2.1-1))).bind fun x50=>some (x50.1,x50.2.1,x50.2.2.1,x50.2.2.2.1,x50.2.2.2.2.1,x50.2.2.2.2.2.1,x50.2.2.2.2.2.2.1,zfP x50.2.2.2.2.2.2.2) else (bif a1.1==13 then some true else some false:Option (Bool)).bind fun x51=>bif x51 then (getI a0.2.2.1 a0.2.2.2.2.1).bind fun x52=>(fF x52 a0.2.2.2.2.2.1 a1.2.1 a0.2.2.2.2.2.2.2.1).bind fun x53=>(cj a0 x53).bind fun x54=>some (x54.1,x54.2.1,x54.2.2.1,x54.2.2.2.1,x54.2.2.2.2.1,x54.2.2.2.2.2.1,x54.2.2.2.2.2.2.1,zfP x54.2.2.2.2.2.2.2) else (bif a1.1==14 then some true else some false:Option (Bool)).bind fun x55=>bif x55 then (getI a0.2.2.1 a0.2.2.2.2.1).bind fun x56=>(gS x56 a0.2.2.2.2.2.1 a1.2.1 a0.2.2.2.2.2.2.2.1).bind fun x57=>(cj a0 x57).bind fun x58=>some (x58.1,x58.2.1,x58.2.2.1,x58.2.2.2.1,x58.2.2.2.2.1,x58.2.2.2.2.2.1,x58.2.2.2.2.2.2.1,zfP x58.2.2.2.2.2.2.2) else (bif a1.1==15 then some true else some false:Option (Bool)).bind fun x59=>bif x59 then (getI a0.2.2.1 a0.2.2.2.2.1).bind fun x60=>(ey x60 a0.2.2.2.2.2.1 (i64.wrap (a0.2.2.2.2.2.1+a1.2.1)) a0.2.2.2.2.2.2.2.1).bind fun x61=>(cj a0 x61).bind fun x62=>some (x62.1,x62.2.1,x62.2.2.1,x62.2.2.2.1,x62.2.2.2.2.1,x62.2.2.2.2.2.1,x62.2.2.2.2.2.2.1,zfP x62.2.2.2.2.2.2.2) else ((bif a1.1==16 then some true else some false:Option (Bool)).bind fun x64=>bif x64 then some x64 else bif a1.1==17 then some true else some false:Option (Bool)).bind fun x65=>bif x65 then (bif decide (a0.2.2.2.2.1>=a0.2.2.2.2.2.2.2.2.1) then bif decide (a0.2.2.2.2.1<=a0.2.2.2.2.2.2.2.2.2.1) then some true else some false else some false:Option (Bool)).bind fun x66=>bif x66 then ((bif decide (a1.2.1<0) then some true else some false:Option (Bool)).bind fun x68=>bif x68 then some 0 else some a1.2.1:Option (Int)).bind fun x69=>((bif a1.1==16 then some true else some false:Option (Bool)).bind fun x71=>bif x71 then some (i64.wrap ((0:Int)-x69)) else some x69:Option (Int)).bind fun x72=>(cy a0.2.2.1 a0.2.2.2.2.1 a0.2.2.2.2.2.2.2.2.2.1 x72 a0.2.2.2.2.2.2.2.1).bind fun x73=>some (a0.1,a0.2.1,x73,a0.2.2.2.1,a0.2.2.2.2.1,0,a0.2.2.2.2.2.2.1,zfP a0.2.2.2.2.2.2.2) else some (a0.1,a0.2.1,a0.2.2.1,a0.2.2.2.1,a0.2.2.2.2.1,a0.2.2.2.2.2.1,a0.2.2.2.2.2.2.1,zfP a0.2.2.2.2.2.2.2) else (bif a1.1==18 then some true else some false:Option (Bool)).bind fun x74=>bif x74 then (cy a0.2.2.1 a0.2.2.2.2.2.2.2.2.1 a0.2.2.2.2.2.2.2.2.2.1 a1.2.1 a0.2.2.2.2.2.2.2.1).bind fun x75=>some (a0.1,a0.2.1,x75,a0.2.2.2.1,a0.2.2.2.2.1,a0.2.2.2.2.2.1,a0.2.2.2.2.2.2.1,zfP a0.2.2.2.2.2.2.2) else (bif a1.1==23 then some true else some false:Option (Bool)).bind fun x76=>bif x76 then (ap (dn a0) (0,[])).bind fun x88=>req (x88.length=x88.length) <| some (a0.1,a0.2.1,x88,a0.2.2.2.1,0,0,a0.2.2.2.2.2.2.1,a0.2.2.2.2.2.2.2.1.1,a0.2.2.2.2.2.2.2.1.2.1,a0.2.2.2.2.2.2.2.1.2.2,0,i64.wrap (a0.1-1),a0.2.2.2.2.2.2.2.2.2.2.1,a0.2.2.2.2.2.2.2.2.2.2.2.1.1.1,a0.2.2.2.2.2.2.2.2.2.2.2.1.1.2.1,a0.2.2.2.2.2.2.2.2.2.2.2.1.1.2.2.1.1,a0.2.2.2.2.2.2.2.2.2.2.2.1.1.2.2.1.2.1,a0.2.2.2.2.2.2.2.2.2.2.2.1.1.2.2.1.2.2,a0.2.2.2.2.2.2.2.2.2.2.2.1.1.2.2.2.1,a0.2.2.2.2.2.2.2.2.2.2.2.1.1.2.2.2.2,a0.2.2.2.2.2.2.2.2.2.2.2.1.2.1,a0.2.2.2.2.2.2.2.2.2.2.2.1.2.2.1,a0.2.2.2.2.2.2.2.2.2.2.2.1.2.2.2.1.1,a0.2.2.2.2.2.2.2.2.2.2.2.1.2.2.2.1.2.1,a0.2.2.2.2.2.2.2.2.2.2.2.1.2.2.2.1.2.2,a0.2.2.2.2.2.2.2.2.2.2.2.1.2.2.2.2.1,a0.2.2.2.2.2.2.2.2.2.2.2.1.2.2.2.2.2,a0.2.2.2.2.2.2.2.2.2.2.2.2.1.1,a0.2.2.2.2.2.2.2.2.2.2.2.2.1.2.1,a0.2.2.2.2.2.2.2.2.2.2.2.2.1.2.2.1,a0.2.2.2.2.2.2.2.2.2.2.2.2.1.2.2.2,a0.2.2.2.2.2.2.2.2.2.2.2.2.2) else (bif a1.1==24 then some true else some false:Option (Bool)).bind fun x89=>bif x89 then (g5 a0.1 a0.2.1).bind fun x90=>some (x90.1,x90.2.1,x90.2.2.1,x90.2.2.2.1,x90.2.2.2.2.1,x90.2.2.2.2.2.1,x90.2.2.2.2.2.2.1,zfP x90.2.2.2.2.2.2.2) else (bif a1.1==27 then some true else some false:Option (Bool)).bind fun x91=>bif x91 then (gR a0 a1.2.1 a1.2.2.1).bind fun x92=>some (x92.1,x92.2.1,x92.2.2.1,x92.2.2.2.1,x92.2.2.2.2.1,x92.2.2.2.2.2.1,x92.2.2.2.2.2.2.1,zfP x92.2.2.2.2.2.2.2) else some (a0.1,a0.2.1,a0.2.2.1,a0.2.2.2.1,a0.2.2.2.2.1,a0.2.2.2.2.2.1,a0.2.2.2.2.2.2.1,zfP a0.2.2.2.2.2.2.2):Option (Int×Int×(List (List (Int×aa.T)))×(List (List (Int×aa.T)))×Int×Int×Bool×Int×Int×Int×Int×Int×Int×Int×Int×Int×Int×Int×Bool×Bool×Int×Int×Int×Int×Int×Bool×Bool×Int×Int×Int×Int×List Int)).bind fun x93=>some (x93.1,x93.2.1,x93.2.2.1,x93.2.2.2.1,x93.2.2.2.2.1,x93.2.2.2.2.2.1,x93.2.2.2.2.2.2.1,znP x93.2.2.2.2.2.2.2)
def ck (a1:dP.T) (x30:Int×List Int):Option (((List Int))⊕(Int×List Int)):=(bif decide (x30.1<(a1.2.2.2.2.2.length:Int)) then some true else some false:Option (Bool)).bind fun x31=>bif x31 then (((getI a1.2.2.2.2.2 x30.1).bind fun x40=>(bx x40).bind fun x41=>bif decide (x41>0) then bif decide (((x30.2.length:Nat):Int)<60) then some true else some false else some false:Option (Bool)).bind fun x42=>bif x42 then (getI a1.2.2.2.2.2 x30.1).bind fun x43=>req (x30.2.length=x30.2.length) <| req ((x30.2++[x43]).length*4<=aS) <| req ((x30.2++[x43]).length=(x30.2++[x43]).length) (some (x30.2++[x43])) else req (x30.2.length=x30.2.length) (some x30.2):Option (List Int)).bind fun x44=>req (x44.length=x44.length) (some (.inr (i64.wrap (x30.1+1),x44))) else req (x30.2.length=x30.2.length) (some (.inl x30.2))
def an (a0:Int×Int×bJ.T) (a1:dP.T):Option ((Int×Int×bJ.T)):=(bif decide (a1.1<1) then some true else bif decide (a1.1>27) then some true else some false:Option (Bool)).bind fun x1=>bif x1 then some a0 else (bif a1.1==20 then some true else some false:Option (Bool)).bind fun x2=>bif x2 then (gl a0 a1.2.1 (a1.2.2.1 !=0)).bind fun x3=>some x3 else ((bif a1.1 !=27 then some true else some false:Option (Bool)).bind fun x7=>bif x7 then (ah a1.2.1 (-1000) 1000).bind fun x8=>(ah a1.2.2.1 (-1000) 1000).bind fun x9=>some (x8,x9) else some (a1.2.1,a1.2.2.1):Option (Int×Int)).bind fun x10=>(bif a1.1==1 then some true else some false:Option (Bool)).bind fun x11=>bif x11 then (ij a0 a1.2.2.2.1).bind fun x12=>some x12 else (bif a1.1==25 then some true else some false:Option (Bool)).bind fun x13=>bif x13 then (ik a0.2.2.2.2.2.2.2.1 a1.2.2.2.2.1).bind fun x14=>some (a0.1,a0.2.1,a0.2.2.1,a0.2.2.2.1,a0.2.2.2.2.1,a0.2.2.2.2.2.1,a0.2.2.2.2.2.2.1,x14,a0.2.2.2.2.2.2.2.2) else (bif a1.1==26 then some true else some false:Option (Bool)).bind fun x15=>bif x15 then (ap (ck a1) (0,[])).bind fun x45=>req (x45.length=x45.length) <| some (a0.1,a0.2.1,a0.2.2.1,a0.2.2.2.1,a0.2.2.2.2.1,a0.2.2.2.2.2.1,a0.2.2.2.2.2.2.1,a0.2.2.2.2.2.2.2.1,a0.2.2.2.2.2.2.2.2.1,a0.2.2.2.2.2.2.2.2.2.1,a0.2.2.2.2.2.2.2.2.2.2.1,a0.2.2.2.2.2.2.2.2.2.2.2.1,a0.2.2.2.2.2.2.2.2.2.2.2.2.1,x45) else (bif a1.1==10 then some true else some false:Option (Bool)).bind fun x46=>bif x46 then (((bif x10.1==0 then some true else some false:Option (Bool)).bind fun x53=>bif x53 then some x53 else bif x10.1==1 then some true else some false:Option (Bool)).bind fun x54=>bif x54 then (dY a0.2.2.2.2.2.2.2.2.2.2.2.2.1 a0.2.2.2.2.2.1 (x10.1==0)).bind fun x55=>some (x55.1,x55.2.1,x55.2.2.1,x55.2.2.2) else (bif x10.1==2 then some true else some false:Option (Bool)).bind fun x56=>bif x56 then some (0,0,0,0) else some (a0.2.2.2.2.2.2.2.2.2.2.2.2.1.1,a0.2.2.2.2.2.2.2.2.2.2.2.2.1.2.1,a0.2.2.2.2.2.2.2.2.2.2.2.2.1.2.2.1,a0.2.2.2.2.2.2.2.2.2.2.2.2.1.2.2.2):Option (Int×Int×Int×Int)).bind fun x57=>some (a0.1,a0.2.1,a0.2.2.1,a0.2.2.2.1,a0.2.2.2.2.1,a0.2.2.2.2.2.1,a0.2.2.2.2.2.2.1,a0.2.2.2.2.2.2.2.1,a0.2.2.2.2.2.2.2.2.1,a0.2.2.2.2.2.2.2.2.2.1,a0.2.2.2.2.2.2.2.2.2.2.1,a0.2.2.2.2.2.2.2.2.2.2.2.1,x57,a0.2.2.2.2.2.2.2.2.2.2.2.2.2) else (bif a1.1==21 then some true else some false:Option (Bool)).bind fun x58=>bif x58 then (gz a0).bind fun x59=>some x59 else (bd (a0.1,a0.2.1,a0.2.2.1,a0.2.2.2.1,a0.2.2.2.2.1,a0.2.2.2.2.2.1,false,a0.2.2.2.2.2.2.2) (a1.1,x10.1,x10.2,a1.2.2.2)).bind fun x60=>(bc x60 (a1.1,x10.1,x10.2,a1.2.2.2)).bind fun x61=>some x61
def fE (a0:List (List (Int×aa.T))) (x18:Int):Option (((Unit)⊕(Unit))⊕(Int)):=(bif decide (x18<(a0.length:Int)) then some true else some false:Option (Bool)).bind fun x19=>bif x19 then ((getI a0 x18).bind fun x24=>(getI a0 0).bind fun x25=>bif (x24.length:Int) !=(x25.length:Int) then some true else (getI a0 x18).bind fun x26=>(g7 x26).bind fun x27=>bif !x27 then some true else some false:Option (Bool)).bind fun x28=>bif x28 then some (.inl (.inl ())) else some (.inr (i64.wrap (x18+1))) else some (.inl (.inr ()))
def jP (a0:List (List (Int×aa.T))):Option (Bool):=((cH (a0.length:Int)).bind fun x4=>bif !x4 then some true else (getI a0 0).bind fun x5=>(cH (x5.length:Int)).bind fun x6=>bif !x6 then some true else some false:Option (Bool)).bind fun x7=>bif x7 then some false else (ap (fE a0) 0).bind fun o=>match o with | .inl _=>some false | .inr _=>some true
def ff (a0:List (List (Int×aa.T))) (a1:Int) (a2:Int):Option (Bool):=(jP a0).bind fun x1=>bif x1 then bif (a0.length:Int)==a1 then (getI a0 0).bind fun x2=>some ((x2.length:Int)==a2) else some false else some false
def bm (a0:Int×Int×bJ.T) (x27:Int):Option (((Unit)⊕(Unit))⊕(Int)):=(bif decide (x27<2) then some true else some false:Option (Bool)).bind fun x28=>bif x28 then (bif x27==0 then some (a0.2.2.2.2.2.2.2.2.2.2.2.1.1.1,a0.2.2.2.2.2.2.2.2.2.2.2.1.1.2.1,a0.2.2.2.2.2.2.2.2.2.2.2.1.1.2.2.1.1,a0.2.2.2.2.2.2.2.2.2.2.2.1.1.2.2.1.2.1,a0.2.2.2.2.2.2.2.2.2.2.2.1.1.2.2.1.2.2,a0.2.2.2.2.2.2.2.2.2.2.2.1.1.2.2.2.1,a0.2.2.2.2.2.2.2.2.2.2.2.1.1.2.2.2.2) else bif x27==1 then some (a0.2.2.2.2.2.2.2.2.2.2.2.1.2.1,a0.2.2.2.2.2.2.2.2.2.2.2.1.2.2.1,a0.2.2.2.2.2.2.2.2.2.2.2.1.2.2.2.1.1,a0.2.2.2.2.2.2.2.2.2.2.2.1.2.2.2.1.2.1,a0.2.2.2.2.2.2.2.2.2.2.2.1.2.2.2.1.2.2,a0.2.2.2.2.2.2.2.2.2.2.2.1.2.2.2.2.1,a0.2.2.2.2.2.2.2.2.2.2.2.1.2.2.2.2.2) else none:Option (Int×Int×Int×Int×Int×Bool×Bool)).bind fun x29=>(bif decide (x29.1<0) then some true else bif decide (x29.1>199) then some true else bif decide (x29.2.1<0) then some true else bif decide (x29.2.1>199) then some true else (bH (x29.2.2.1,x29.2.2.2.1,x29.2.2.2.2.1)).bind fun x31=>bif !x31 then some true else some false:Option (Bool)).bind fun x32=>bif x32 then some (.inl (.inl ())) else some (.inr (i64.wrap (x27+1))) else some (.inl (.inr ()))
def dL (a0:Int×Int×bJ.T) (x39:Int):Option (((Unit)⊕(Unit))⊕(Int)):=(bif decide (x39<(a0.2.2.2.2.2.2.2.2.2.2.2.2.2.length:Int)) then some true else some false:Option (Bool)).bind fun x40=>bif x40 then ((getI a0.2.2.2.2.2.2.2.2.2.2.2.2.2 x39).bind fun x43=>(bx x43).bind fun x44=>bif decide (x44<1) then some true else some false:Option (Bool)).bind fun x45=>bif x45 then some (.inl (.inl ())) else some (.inr (i64.wrap (x39+1))) else some (.inl (.inr ()))
def jO (a0:Int×Int×bJ.T):Option (Bool):=(bif decide (a0.2.2.2.2.2.2.2.2.2.2.1<0) then some true else bif decide (a0.2.2.2.2.2.2.2.2.2.2.1>255) then some true else (ff a0.2.2.1 a0.1 a0.2.1).bind fun x2=>bif !x2 then some true else some false:Option (Bool)).bind fun x3=>bif x3 then some false else (((aW a0 128).bind fun x12=>bif x12 then some true else some false:Option (Bool)).bind fun x13=>bif x13 then ((ff a0.2.2.2.1 a0.1 a0.2.1).bind fun x15=>bif !x15 then some true else some false:Option (Bool)).bind fun x16=>bif x16 then some (.inr false) else some (.inl ()) else (bif decide ((a0.2.2.2.1.length:Int)>0) then some true else some false:Option (Bool)).bind fun x17=>bif x17 then some (.inr false) else some (.inl ()):Option ((Unit)⊕(Bool))).bind fun o=>match o with | .inr r=>some r | .inl _=>(bif decide (a0.2.2.2.2.1<0) then some true else bif decide (a0.2.2.2.2.1>=a0.1) then some true else bif decide (a0.2.2.2.2.2.1<0) then some true else bif decide (a0.2.2.2.2.2.1>=a0.2.1) then some true else bif decide (a0.2.2.2.2.2.2.2.2.1<0) then some true else bif decide (a0.2.2.2.2.2.2.2.2.2.1>=a0.1) then some true else bif a0.2.2.2.2.2.2.1 then bif a0.2.2.2.2.2.1 !=(i64.wrap (a0.2.1-1)) then some true else some false else some false:Option (Bool)).bind fun x18=>bif x18 then some false else (bif decide (a0.2.2.2.2.2.2.2.2.1>=a0.2.2.2.2.2.2.2.2.2.1) then bif decide (a0.1>1) then some true else bif a0.2.2.2.2.2.2.2.2.1 !=0 then some true else bif a0.2.2.2.2.2.2.2.2.2.1 !=0 then some true else (bH a0.2.2.2.2.2.2.2.1).bind fun x21=>bif !x21 then some true else bif decide ((a0.2.2.2.2.2.2.2.2.2.2.2.2.2.length:Int)>60) then some true else some false else (bH a0.2.2.2.2.2.2.2.1).bind fun x22=>bif !x22 then some true else bif decide ((a0.2.2.2.2.2.2.2.2.2.2.2.2.2.length:Int)>60) then some true else some false:Option (Bool)).bind fun x23=>bif x23 then some false else (ap (bm a0) 0).bind fun o=>match o with | .inl _=>some false | .inr _=>(ap (dL a0) 0).bind fun o=>match o with | .inl _=>some false | .inr _=>some true
def FG  (u:Unit):Option (((Unit))⊕(Unit)):=some (.inl ())
def ww (a0:Int) (a1:Int):Option (Bool):=(bif decide (a0>30) then bif decide (a0<=200) then some true else bif decide (a1>30) then bif decide (a1<=200) then some true else some false else some false else bif decide (a1>30) then bif decide (a1<=200) then some true else some false else some false:Option (Bool)).bind fun x1=>bif x1 then some true else (ap (FG) ()).bind fun _=>some false
def xp (a0:List (List (Int×aa.T))) (x5:Int):Option (((Unit)⊕(Unit))⊕(Int)):=(bif decide (x5<(a0.length:Int)) then some true else some false:Option (Bool)).bind fun x6=>bif x6 then ((getI a0 x5).bind fun x8=>bif decide ((x8.length:Int)>30) then some true else some false:Option (Bool)).bind fun x9=>bif x9 then some (.inl (.inl ())) else some (.inr (i64.wrap (x5+1))) else some (.inl (.inr ()))
def yD (a0:List (List (Int×aa.T))):Option (Bool):=(ap (xp a0) 0).bind fun o=>match o with | .inl _=>some true | .inr _=>some false
def m8 (a0:List (List (Int×aa.T))) (x3:Int×(List (List (Int×aa.T)))):Option ((((List (List (Int×aa.T)))))⊕(Int×(List (List (Int×aa.T))))):=(bif decide (x3.1<(a0.length:Int)) then some true else some false:Option (Bool)).bind fun x4=>bif x4 then (getI a0 x3.1).bind fun x5=>req ((([]:List (Int×aa.T))++x5).length*48<=aS) <| req ((([]:List (Int×aa.T))++x5).length=(([]:List (Int×aa.T))++x5).length) <| req (x3.2.length=x3.2.length) <| req ((x3.2++[([]:List (Int×aa.T))++x5]).length*24<=aS) <| req ((x3.2++[([]:List (Int×aa.T))++x5]).length=(x3.2++[([]:List (Int×aa.T))++x5]).length) (some (.inr (i64.wrap (x3.1+1),x3.2++[([]:List (Int×aa.T))++x5]))) else req (x3.2.length=x3.2.length) (some (.inl x3.2))
def Dx (a0:List (List (Int×aa.T))):Option ((List (List (Int×aa.T)))):=(ap (m8 a0) (0,[])).bind fun x6=>req (x6.length=x6.length) (some x6)
def ME (a0:Int×Int×bJ.T):Option ((Int×Int×bJ.T)):=(Dx a0.2.2.1).bind fun x1=>(Dx a0.2.2.2.1).bind fun x2=>req ((([]:List (Int))++a0.2.2.2.2.2.2.2.2.2.2.2.2.2).length*4<=aS) <| req ((([]:List (Int))++a0.2.2.2.2.2.2.2.2.2.2.2.2.2).length=(([]:List (Int))++a0.2.2.2.2.2.2.2.2.2.2.2.2.2).length) <| some (a0.1,a0.2.1,x1,x2,a0.2.2.2.2.1,a0.2.2.2.2.2.1,a0.2.2.2.2.2.2.1,a0.2.2.2.2.2.2.2.1,a0.2.2.2.2.2.2.2.2.1,a0.2.2.2.2.2.2.2.2.2.1,a0.2.2.2.2.2.2.2.2.2.2.1,a0.2.2.2.2.2.2.2.2.2.2.2.1,a0.2.2.2.2.2.2.2.2.2.2.2.2.1,([]:List (Int))++a0.2.2.2.2.2.2.2.2.2.2.2.2.2)
def d8 (a0:List (Int×aa.T)) (a1:List (Int×aa.T)) (x8:Int):Option (((Unit)⊕(Unit))⊕(Int)):=(bif decide (x8<(a0.length:Int)) then some true else some false:Option (Bool)).bind fun x9=>bif x9 then ((getI a0 x8).bind fun x12=>(getI a1 x8).bind fun x13=>bif !((x12.1==x13.1)&&(((x12.2.1.1==x13.2.1.1)&&((x12.2.1.2==x13.2.1.2)&&true))&&((x12.2.2.1==x13.2.2.1)&&(((x12.2.2.2.1==x13.2.2.2.1)&&((x12.2.2.2.2.1==x13.2.2.2.2.1)&&((x12.2.2.2.2.2==x13.2.2.2.2.2)&&true)))&&true)))) then some true else some false:Option (Bool)).bind fun x14=>bif x14 then some (.inl (.inl ())) else some (.inr (i64.wrap (x8+1))) else some (.inl (.inr ()))
def kj (a0:List (Int×aa.T)) (a1:List (Int×aa.T)):Option (Bool):=(bif (a0.length:Int) !=(a1.length:Int) then some true else some false:Option (Bool)).bind fun x1=>bif x1 then some false else (ap (d8 a0 a1) 0).bind fun o=>match o with | .inl _=>some false | .inr _=>some true
def MM (a0:List (Int×aa.T)) (a1:List (Int×aa.T)):Option (Bool):=(kj a0 a1).bind fun x1=>some x1
def tR (a0:List (List (Int×aa.T))) (a1:List (List (Int×aa.T))) (x8:Int):Option (((Unit)⊕(Unit))⊕(Int)):=(bif decide (x8<(a0.length:Int)) then some true else some false:Option (Bool)).bind fun x9=>bif x9 then (getI a0 x8).bind fun x10=>(getI a1 x8).bind fun x11=>((MM x10 x11).bind fun x13=>bif !x13 then some true else some false:Option (Bool)).bind fun x14=>bif x14 then some (.inl (.inl ())) else some (.inr (i64.wrap (x8+1))) else some (.inl (.inr ()))
def yE (a0:List (List (Int×aa.T))) (a1:List (List (Int×aa.T))):Option (Bool):=(bif (a0.length:Int) !=(a1.length:Int) then some true else some false:Option (Bool)).bind fun x1=>bif x1 then some false else (ap (tR a0 a1) 0).bind fun o=>match o with | .inl _=>some false | .inr _=>some true
def Dy (a0:List (List (List (Int×aa.T)))) (x9:Int):Option (((Unit)⊕(Unit))⊕(Int)):=(bif decide (x9<(a0.length:Int)) then some true else some false:Option (Bool)).bind fun x10=>bif x10 then ((getI a0 0).bind fun x14=>(getI a0 x9).bind fun x15=>(yE x14 x15).bind fun x16=>bif !x16 then some true else some false:Option (Bool)).bind fun x17=>bif x17 then some (.inl (.inl ())) else some (.inr (i64.wrap (x9+1))) else some (.inl (.inr ()))
def MG (a0:List (List (List (Int×aa.T)))):Option (Bool):=(ap (Dy a0) 1).bind fun o=>match o with | .inl _=>some false | .inr _=>some true
def d7 (a0:List Int) (a1:List Int) (x8:Int):Option (((Unit)⊕(Unit))⊕(Int)):=(bif decide (x8<(a0.length:Int)) then some true else some false:Option (Bool)).bind fun x9=>bif x9 then ((getI a0 x8).bind fun x12=>(getI a1 x8).bind fun x13=>bif x12 !=x13 then some true else some false:Option (Bool)).bind fun x14=>bif x14 then some (.inl (.inl ())) else some (.inr (i64.wrap (x8+1))) else some (.inl (.inr ()))
def kg (a0:List Int) (a1:List Int):Option (Bool):=(bif (a0.length:Int) !=(a1.length:Int) then some true else some false:Option (Bool)).bind fun x1=>bif x1 then some false else (ap (d7 a0 a1) 0).bind fun o=>match o with | .inl _=>some false | .inr _=>some true
def AA (a0:Int×Int×bJ.T) (a1:Int×Int×bJ.T):Option (Bool):=((MG [a0.2.2.1,a1.2.2.1]).bind fun x4=>bif !x4 then some true else (MG [a0.2.2.2.1,a1.2.2.2.1]).bind fun x5=>bif !x5 then some true else (kg a0.2.2.2.2.2.2.2.2.2.2.2.2.2 a1.2.2.2.2.2.2.2.2.2.2.2.2.2).bind fun x6=>bif !x6 then some true else some false:Option (Bool)).bind fun x7=>bif x7 then some false else bif a0.1==a1.1 then bif a0.2.1==a1.2.1 then bif a0.2.2.2.2.1==a1.2.2.2.2.1 then bif a0.2.2.2.2.2.1==a1.2.2.2.2.2.1 then bif (a0.2.2.2.2.2.2.1==a1.2.2.2.2.2.2.1) then bif ((a0.2.2.2.2.2.2.2.1.1==a1.2.2.2.2.2.2.2.1.1)&&((a0.2.2.2.2.2.2.2.1.2.1==a1.2.2.2.2.2.2.2.1.2.1)&&((a0.2.2.2.2.2.2.2.1.2.2==a1.2.2.2.2.2.2.2.1.2.2)&&true))) then bif a0.2.2.2.2.2.2.2.2.1==a1.2.2.2.2.2.2.2.2.1 then bif a0.2.2.2.2.2.2.2.2.2.1==a1.2.2.2.2.2.2.2.2.2.1 then bif a0.2.2.2.2.2.2.2.2.2.2.1==a1.2.2.2.2.2.2.2.2.2.2.1 then bif (((a0.2.2.2.2.2.2.2.2.2.2.2.1.1.1==a1.2.2.2.2.2.2.2.2.2.2.2.1.1.1)&&((a0.2.2.2.2.2.2.2.2.2.2.2.1.1.2.1==a1.2.2.2.2.2.2.2.2.2.2.2.1.1.2.1)&&(((a0.2.2.2.2.2.2.2.2.2.2.2.1.1.2.2.1.1==a1.2.2.2.2.2.2.2.2.2.2.2.1.1.2.2.1.1)&&((a0.2.2.2.2.2.2.2.2.2.2.2.1.1.2.2.1.2.1==a1.2.2.2.2.2.2.2.2.2.2.2.1.1.2.2.1.2.1)&&((a0.2.2.2.2.2.2.2.2.2.2.2.1.1.2.2.1.2.2==a1.2.2.2.2.2.2.2.2.2.2.2.1.1.2.2.1.2.2)&&true)))&&((a0.2.2.2.2.2.2.2.2.2.2.2.1.1.2.2.2.1==a1.2.2.2.2.2.2.2.2.2.2.2.1.1.2.2.2.1)&&((a0.2.2.2.2.2.2.2.2.2.2.2.1.1.2.2.2.2==a1.2.2.2.2.2.2.2.2.2.2.2.1.1.2.2.2.2)&&true)))))&&(((a0.2.2.2.2.2.2.2.2.2.2.2.1.2.1==a1.2.2.2.2.2.2.2.2.2.2.2.1.2.1)&&((a0.2.2.2.2.2.2.2.2.2.2.2.1.2.2.1==a1.2.2.2.2.2.2.2.2.2.2.2.1.2.2.1)&&(((a0.2.2.2.2.2.2.2.2.2.2.2.1.2.2.2.1.1==a1.2.2.2.2.2.2.2.2.2.2.2.1.2.2.2.1.1)&&((a0.2.2.2.2.2.2.2.2.2.2.2.1.2.2.2.1.2.1==a1.2.2.2.2.2.2.2.2.2.2.2.1.2.2.2.1.2.1)&&((a0.2.2.2.2.2.2.2.2.2.2.2.1.2.2.2.1.2.2==a1.2.2.2.2.2.2.2.2.2.2.2.1.2.2.2.1.2.2)&&true)))&&((a0.2.2.2.2.2.2.2.2.2.2.2.1.2.2.2.2.1==a1.2.2.2.2.2.2.2.2.2.2.2.1.2.2.2.2.1)&&((a0.2.2.2.2.2.2.2.2.2.2.2.1.2.2.2.2.2==a1.2.2.2.2.2.2.2.2.2.2.2.1.2.2.2.2.2)&&true)))))&&true)) then some ((a0.2.2.2.2.2.2.2.2.2.2.2.2.1.1==a1.2.2.2.2.2.2.2.2.2.2.2.2.1.1)&&((a0.2.2.2.2.2.2.2.2.2.2.2.2.1.2.1==a1.2.2.2.2.2.2.2.2.2.2.2.2.1.2.1)&&((a0.2.2.2.2.2.2.2.2.2.2.2.2.1.2.2.1==a1.2.2.2.2.2.2.2.2.2.2.2.2.1.2.2.1)&&((a0.2.2.2.2.2.2.2.2.2.2.2.2.1.2.2.2==a1.2.2.2.2.2.2.2.2.2.2.2.2.1.2.2.2)&&true)))) else some false else some false else some false else some false else some false else some false else some false else some false else some false else some false
def Jv (a0:Int×Int×bJ.T) (a1:Int×Int×bJ.T) (a2:dP.T):Option (Bool):=((kt).bind fun x2=>bif !x2 then some true else some false:Option (Bool)).bind fun x3=>bif x3 then some false else ((il (a0.2.2.1.length:Int) 1 [a2]).bind fun x10=>bif x10 then some true else (ww (a0.2.2.2.1.length:Int) 1).bind fun x11=>bif x11 then some true else (ww (a1.2.2.1.length:Int) 1).bind fun x12=>bif x12 then some true else bif decide ((a0.2.2.2.2.2.2.2.2.2.2.2.2.2.length:Int)>100) then some true else (yD a0.2.2.1).bind fun x13=>bif x13 then some true else (yD a0.2.2.2.1).bind fun x14=>bif x14 then some true else (yD a1.2.2.1).bind fun x15=>bif x15 then some true else bif decide (a0.1>30) then some true else bif decide (a0.2.1>30) then some true else some false:Option (Bool)).bind fun x16=>bif x16 then some true else (ME a0).bind fun x17=>(gI x17 [a2]).bind fun x18=>((oy a0).bind fun x25=>(jO a0).bind fun x26=>bif !(x25==x26) then some true else (AA a0 a1).bind fun x27=>(dc a0 a1).bind fun x28=>bif !(x27==x28) then some true else (AA a0 x17).bind fun x29=>bif !x29 then some true else (dc x17 a0).bind fun x30=>bif !x30 then some true else some false:Option (Bool)).bind fun x31=>bif x31 then some false else ((jO a0).bind fun x33=>bif !x33 then some true else some false:Option (Bool)).bind fun x34=>bif x34 then (dc x18 (0,0,[],[],0,0,false,(0,0,0),0,0,0,((0,0,(0,0,0),false,false),0,0,(0,0,0),false,false),(0,0,0,0),[])).bind fun x35=>some x35 else (an a0 a2).bind fun x36=>(dc x18 x36).bind fun x37=>some x37
end Go.SH
namespace Go.SH
open IntKind (i64 u64 i32 u8)
theorem w64 (x:Int):i64.wrap x=(x+9223372036854775808) % 18446744073709551616-9223372036854775808:=by
 simp [IntKind.wrap,IntKind.signed,IntKind.bits]
 omega
theorem ag {x:Int} (h:-9223372036854775808<=x/\x<=9223372036854775807):i64.wrap x=x:=by rw [w64];omega
theorem ao {p:Prop} [Decidable p] (h:p):decide p=true:=by simp [h]
theorem au {p:Prop} [Decidable p] (h:¬p):decide p=false:=by simp [h]
theorem aP {α:Type} (l:List α) (i:Nat):getI l (i:Int)=l[i]?:=by simp [getI]
abbrev PenT:=Int×Int×Int
abbrev ak:=Int×(Int×Int)×Int×Int×Int×Int
def aO (p:PenT):Bool:=decide (0<=p.1/\p.1<=255)&&(decide (0<=p.2.1/\p.2.1<=256)&&decide (0<=p.2.2/\p.2.2<=256))
theorem Az (a m:Int):lO a m=some (decide (0<=a/\a<=m)):=by
 unfold lO
 by_cases h:0<=a
 ·rw [ao (by omega:a>=0)];simp [h]
 ·rw [au (by omega:¬a>=0)];simp [h]
theorem dv (p:PenT):fD p=some (aO p):=by
 unfold fD aO
 simp only [Az,Option.bind_some]
 cases decide (0<=p.1/\p.1<=255) <;> cases decide (0<=p.2.1/\p.2.1<=256) <;> rfl
def lL (c:Int):Bool:=decide (c<32)||(decide (127<=c)&&decide (c<160))||(decide (55296<=c)&&decide (c<=57343))||decide (1114111<c)
def ae (c:Int):Int:=bif lL c then -1 else match bf.find? (fun e=>decide (c<=e.2.1)) with
 | some e=>bif decide (e.1<=c) then e.2.2 else 1
 | none=>1
theorem ya {α:Type} {q:α->Bool}:∀{l:List α} {k:Nat},(∀i x,i<k->l[i]?=some x->q x=false)->(∀x,l[k]?=some x->q x=true)->l.find? q=l[k]?
 | [],k,_,_=>by simp
 | x::l,0,_,h2=>by simp [List.find?,h2 x rfl]
 | x::l,k+1,h1,h2=>by
  rw [List.find?,h1 0 x (by omega) rfl]
  exact ya (l:=l) (k:=k) (fun i y hi hy=>h1 (i+1) y (by omega) (by simpa using hy)) fun y hy=>h2 y (by simpa using hy)
def tabP (c:Int) (i:Nat):Bool:=match bf[i]? with
 | some e=>decide (c<=e.2.1)
 | none=>true
theorem GC:∀i j:_root_.Fin 22,i.val<=j.val->(match bf[i.val]?,bf[j.val]? with | some a,some b=>decide (a.2.1<=b.2.1) | _,_=>false)=true:=by decide +kernel
theorem ze {c:Int} {i j:Nat} (hj:j<22) (hij:i<=j) (h:tabP c i=true):tabP c j=true:=by
 have hm:=GC ⟨i,by omega⟩ ⟨j,hj⟩ hij
 unfold tabP at h ⊢
 simp only at hm
 split at hm
 ·rename_i a b ha hb
  rw [ha] at h;rw [hb]
  simp at hm h ⊢
  omega
 ·simp at hm
theorem wm:bf.length=22:=by decide +kernel
theorem half (lo hi:Nat) (h:lo+hi<100):i64.wrap (Int.fdiv (u64.wrap (i64.wrap ((lo:Int)+(hi:Int)))) (2^1))=(((lo+hi) / 2:Nat):Int):=by
 have h1:i64.wrap ((lo:Int)+(hi:Int))=((lo+hi:Nat):Int):=by rw [w64];omega
 rw [h1]
 have h2:u64.wrap ((lo+hi:Nat):Int)=((lo+hi:Nat):Int):=by simp [IntKind.wrap,IntKind.signed,IntKind.bits];omega
 rw [h2,Int.fdiv_eq_ediv_of_nonneg _ (by decide),w64]
 omega
theorem w6 {c:Int} {lo hi:Nat} (h:lo<hi) (hh:hi<=22):bQ c ((lo:Int),(hi:Int))=some (.inr (bif tabP c ((lo+hi) / 2) then ((lo:Int),(((lo+hi) / 2:Nat):Int)) else ((((lo+hi) / 2+1:Nat):Int),(hi:Int)))):=by
 unfold bQ nc
 rw [ao (by simpa using h:(((lo:Int),(hi:Int)):Int×Int).1<(((lo:Int),(hi:Int)):Int×Int).2)]
 simp only [half lo hi (by omega),aP,tabP,cond_true,Option.bind_some]
 have hl:(lo+hi) / 2<bf.length:=by rw [wm];omega
 rw [List.getElem?_eq_getElem hl]
 simp only [Option.bind_some,ge_iff_le]
 by_cases hp:c<=(bf[(lo+hi) / 2]).2.1
 ·simp [hp]
 ·simp only [au hp,Bool.not_false,cond_true,Option.bind_some,cond_false]
  rw [ag (by omega)];rfl
theorem vZ {c:Int} {lo:Nat}:bQ c ((lo:Int),(lo:Int))=some (.inl (lo:Int)):=by
 unfold bQ
 simp
theorem pC {c:Int}:∀(m lo hi:Nat),hi-lo<=m->lo<=hi->hi<=22->(∀i,i<lo->tabP c i=false)->(∀i,hi<=i->i<22->tabP c i=true) ->
  ∃k:Nat,k<=22/\ap (bQ c) ((lo:Int),(hi:Int))=some (k:Int)/\(∀i,i<k->tabP c i=false)/\∀i,k<=i->i<22->tabP c i=true
 | m,lo,hi,hm,h1,h2,h3,h4=>by
  by_cases he:lo=hi
  ·subst he
   exact ⟨lo,h2,by rw [aj,vZ],h3,h4⟩
  ·cases m with
   | zero=>omega
   | succ m=>
    rw [aj,w6 (by omega) h2]
    cases hp:tabP c ((lo+hi) / 2) with
    | true=>exact pC m lo ((lo+hi) / 2) (by omega) (by omega) (by omega) h3 fun i hi1 hi2=>ze hi2 hi1 hp
    | false=>
     refine pC m ((lo+hi) / 2+1) hi (by omega) (by omega) h2 (fun i hi1=>?_) h4
     cases hq:tabP c i with
     | false=>rfl
     | true=>rw [ze (by omega) (by omega:i<=(lo+hi) / 2) hq] at hp;simp at hp
theorem jk (c:Int):j5 c=some (ae c):=by
 unfold j5 ae
 have hb:∀(x:Option Int),(bif decide (c<32) then some true else bif decide (c>=127) then bif decide (c<160) then some true else bif decide (c>=55296) then bif decide (c<=57343) then some true else bif decide (c>1114111) then some true else some false else bif decide (c>1114111) then some true else some false
   else bif decide (c>=55296) then bif decide (c<=57343) then some true else bif decide (c>1114111) then some true else some false else bif decide (c>1114111) then some true else some false:Option Bool)=some (lL c):=by
  intro _
  unfold lL
  simp only [ge_iff_le,gt_iff_lt]
  cases decide (c<32) <;> cases decide (127<=c) <;> cases decide (c<160) <;> cases decide (55296<=c) <;> cases decide (c<=57343) <;> cases decide (1114111<c) <;> rfl
 rw [hb none]
 simp only [Option.bind_some]
 cases lL c with
 | true=>rfl
 | false=>
  simp only [cond_false]
  unfold lh
  obtain ⟨k,k1,k2,k3,k4⟩:=pC (c:=c) 22 0 22 (by omega) (by omega) (by omega) (by omega) (by omega)
  have k2':ap (bQ c) (0,22)=some (k:Int):=k2
  rw [k2']
  simp only [Option.bind_some]
  have hf:bf.find? (fun e=>decide (c<=e.2.1))=bf[k]?:=ya (fun i x hi hx=>by
    have:=k3 i hi;unfold tabP at this;rw [hx] at this;exact this) fun x hx=>by
    have:=k4 k (Nat.le_refl _) (by have:=(List.getElem?_eq_some_iff.1 hx).1;rw [wm] at this;exact this)
    unfold tabP at this;rw [hx] at this;exact this
  rw [hf]
  by_cases hk:k<22
  ·rw [ao (by omega:(k:Int)<22)]
   have hl:k<bf.length:=by rw [wm];exact hk
   simp only [cond_true,aP,List.getElem?_eq_getElem hl,Option.bind_some]
   have hw:∀i:_root_.Fin 22,(match bf[i.val]? with | some e=>decide (0<=e.2.2/\e.2.2<=2) | none=>false)=true:=by decide +kernel
   have hw':=hw ⟨k,hk⟩
   simp only [List.getElem?_eq_getElem hl,decide_eq_true_eq] at hw'
   cases decide ((bf[k]).1<=c) with
   | true=>simp only [cond_true,Option.bind_some];rw [ag (by omega)]
   | false=>rfl
  ·rw [au (by omega:¬(k:Int)<22),List.getElem?_eq_none (by rw [wm];omega)]
   rfl
end Go.SH
namespace Go.SH
open IntKind (i64 u64 i32 u8)
def jZ {R:Type} (P:Nat->Option R):Nat->Nat->Option R
 | _,0=>none
 | i,m+1=>match P i with
  | some r=>some r
  | none=>jZ P (i+1) m
def BQ {R:Type} (o:Option R) (i:Nat):R⊕Int:=match o with
 | some r=>.inl r
 | none=>.inr ((i+1:Nat):Int)
def rc {α:Type} (f:α->Bool) (l:List α) (i:Nat):Bool:=match l[i]? with
 | some x=>f x
 | none=>false
def vJ (bad:Nat->Bool) (i:Nat):Option (Int⊕Unit):=bif bad i then some (.inl (i:Int)) else none
theorem pO {R:Type} {step:Int->Option (R⊕Int)} {n:Nat} {P:Nat->Option R} {e:R} (hin:∀i:Nat,i<n->step (i:Int)=some (BQ (P i) i)) (hend:step (n:Int)=some (.inl e)) :
  ∀(m i:Nat),i+m=n->ap step (i:Int)=some ((jZ P i m).getD e)
 | 0,i,h=>by
  have:i=n:=by omega
  subst this
  rw [aj,hend];rfl
 | m+1,i,h=>by
  rw [aj,hin i (by omega)]
  unfold jZ
  cases hp:P i with
  | some r=>rfl
  | none=>exact pO hin hend m (i+1) (by omega)
theorem l8 {R:Type} {step:Int->Option (R⊕Int)} {n:Nat} {ok:Nat->Bool} {e b:R} (hin:∀i:Nat,i<n->step (i:Int)=some (bif ok i then .inr ((i+1:Nat):Int) else .inl b)) (hend:step (n:Int)=some (.inl e)) :
  ap step 0=some (bif (List.range n).all ok then e else b):=by
 have h:=pO (step:=step) (n:=n) (P:=fun i=>bif ok i then none else some b) (e:=e) (fun i hi=>by rw [hin i hi];cases ok i <;> rfl) hend n 0 (by omega)
 rw [show ((0:Nat):Int)=0 from rfl] at h
 rw [h]
 congr 1
 have key:∀(m i:Nat),(jZ (fun i=>bif ok i then none else some b) i m).getD e=bif (List.range' i m).all ok then e else b:=by
  intro m
  induction m with
  | zero=>intro i;rfl
  | succ m ih=>
   intro i
   unfold jZ
   rw [List.range'_succ,List.all_cons]
   cases ok i with
   | true=>simp only [cond_true,Bool.true_and];exact ih (i+1)
   | false=>rfl
 rw [key n 0,List.range_eq_range']
def lG (m:Int×Int):Bool:=bif m.1==0 then m.2==0 else (ae m.1==0)&&((m.2==0)||(ae m.2==0))
theorem xI (m:Int×Int):mB m=some (lG m):=by
 unfold mB lG
 simp only [jk,Option.bind_some]
 cases (m.1==0) <;> cases (ae m.1==0) <;> cases (m.2==0) <;> simp
def bV (c:ak):Bool:=bif (c.2.2.1==0)||(c.2.2.1==1) then aO c.2.2.2&&((ae c.1==c.2.2.1+1)&&lG c.2.1)
 else (c.2.2.1==2)&&(aO c.2.2.2&&((c.1==0)&&((c.2.1.1==0)&&(c.2.1.2==0))))
theorem Cr (c:ak):tJ c=some (bV c):=by
 unfold tJ bV
 simp only [dv,jk,xI,Option.bind_some,beq_self_eq_true,Bool.and_true,Bool.true_and]
 by_cases h0:c.2.2.1=0
 ·rw [h0]
  simp only [beq_self_eq_true,cond_true,Option.bind_some,Bool.true_or]
  rw [ag (by omega)]
  cases aO c.2.2.2 <;> cases (ae c.1==0+1) <;> rfl
 ·have e0:(c.2.2.1==0)=false:=by simpa using h0
  rw [e0]
  by_cases h1:c.2.2.1=1
  ·rw [h1]
   simp only [cond_false,Option.bind_some,beq_self_eq_true,cond_true,Bool.or_true]
   rw [ag (by omega)]
   cases aO c.2.2.2 <;> cases (ae c.1==1+1) <;> rfl
  ·have e1:(c.2.2.1==1)=false:=by simpa using h1
   rw [e1]
   simp only [cond_false,Option.bind_some,Bool.or_self]
   cases (c.2.2.1==2) <;> cases aO c.2.2.2 <;> simp
def okAt (l:List ak) (i:Nat):Bool:=match l[i]? with
 | some c=>
  let left:=decide (0<i)&&match l[i-1]? with | some d=>d.2.2.1==1 | none=>false
  bV c&&((left==(c.2.2.1==2))&&((!left||match l[i-1]? with | some d=>d.2.2.2==c.2.2.2 | none=>false) && !((c.2.2.1==1)&&(i+1==l.length))))
 | none=>true
def aE (l:List ak):Bool:=decide (l.length<=1000)&&(List.range l.length).all (okAt l)
theorem EI (p q:PenT):((p.1==q.1)&&((p.2.1==q.2.1)&&((p.2.2==q.2.2)&&true)))=(p==q):=by
 obtain ⟨a,b,c⟩:=p;obtain ⟨a',b',c'⟩:=q
 simp only [Bool.and_true]
 rfl
theorem yL {l:List ak} {i:Nat} (h:i<l.length) (hb:l.length<=1000):hM l (i:Int)=some (bif okAt l i then .inr ((i+1:Nat):Int) else .inl (.inl ())):=by
 unfold hM okAt
 rw [ao (by omega:(i:Int)<(l.length:Int))]
 simp only [Option.bind_some,cond_true,aP,List.getElem?_eq_getElem h,Cr]
 have hw:i64.wrap ((i:Int)+1)=((i+1:Nat):Int):=by rw [ag (by omega)];rfl
 have hl:(decide ((i:Int)=i64.wrap ((l.length:Int)-1)))=(i+1==l.length):=by
  rw [ag (by omega),Bool.eq_iff_iff]
  simp only [decide_eq_true_eq,beq_iff_eq]
  omega
 have hl':((i:Int)==i64.wrap ((l.length:Int)-1))=(i+1==l.length):=by rw [<-hl];rfl
 rw [hw,hl']
 by_cases h0:0<i
 ·rw [ao (by omega:(i:Int)>0),ao h0]
  have hp:i64.wrap ((i:Int)-1)=((i-1:Nat):Int):=by rw [ag (by omega)];omega
  have hi:i-1<l.length:=by omega
  simp only [cond_true,hp,aP,List.getElem?_eq_getElem hi,Option.bind_some,Bool.true_and,EI]
  cases bV l[i] <;> cases (l[i-1].2.2.1==1) <;> cases (l[i].2.2.1==2) <;> cases (l[i-1].2.2.2==l[i].2.2.2) <;> cases (l[i].2.2.1==1) <;> cases (i+1==l.length) <;> rfl
 ·rw [au (by omega:¬(i:Int)>0),au h0]
  simp only [cond_false,Option.bind_some,Bool.false_and,Bool.not_false,Bool.true_or,Bool.true_and]
  cases bV l[i] <;> cases (l[i].2.2.1==2) <;> cases (l[i].2.2.1==1) <;> cases (i+1==l.length) <;> rfl
theorem AD {l:List ak}:hM l (l.length:Int)=some (.inl (.inr ())):=by simp [hM]
theorem hO (l:List ak):kX l=some (aE l):=by
 unfold kX aE
 by_cases hb:l.length<=1000
 ·rw [au (by omega:¬(l.length:Int)>1000),ao hb]
  simp only [cond_false,Option.bind_some,Bool.true_and]
  rw [l8 (n:=l.length) (ok:=okAt l) (fun i hi=>yL hi hb) AD]
  cases (List.range l.length).all (okAt l) <;> rfl
 ·rw [ao (by omega:(l.length:Int)>1000),au hb]
  rfl
end Go.SH
namespace Go.SH
open IntKind (i64 u64 i32 u8)
theorem oU {bad:Nat->Bool}:∀(m i:Nat),((match (jZ (vJ bad) i m).getD (.inr ()) with | .inl x=>some x | .inr _=>some (-1):Option Int).bind fun x=>some (decide (x>=0)))=some ((List.range' i m).any bad)
 | 0,i=>by simp [jZ]
 | m+1,i=>by
  unfold jZ vJ
  rw [List.range'_succ,List.any_cons]
  cases hb:bad i with
  | true=>simp
  | false=>simp only [cond_false,Bool.false_or];exact oU m (i+1)
theorem Fd {α:Type} {f:α->Bool}:∀(l:List α),(List.range l.length).any (rc f l)=l.any f:=by
 intro l
 rw [Bool.eq_iff_iff]
 simp only [List.any_eq_true,List.mem_range,rc]
 constructor
 ·rintro ⟨i,hi,h⟩
  rw [List.getElem?_eq_getElem hi] at h
  exact ⟨_,List.getElem_mem hi,h⟩
 ·rintro ⟨x,hx,h⟩
  obtain ⟨i,hi,rfl⟩:=List.mem_iff_getElem.1 hx
  exact ⟨i,hi,by rw [List.getElem?_eq_getElem hi];exact h⟩
theorem lJ (n:Int):dC n=some (decide (1<=n/\n<=200)):=by
 unfold dC
 by_cases h:1<=n
 ·rw [ao (by omega:n>=1)];simp [h]
 ·rw [au (by omega:¬n>=1)];simp [h]
abbrev aA:=List (List ak)
def cU (g:aA):Nat:=match g with
 | []=>0
 | l::_=>l.length
def gT (g:aA):Bool:=decide (1<=g.length/\g.length<=200)&&(decide (1<=cU g/\cU g<=200)&&g.all fun l=>(l.length==cU g)&&aE l)
theorem lS {g:aA} {l:List ak} (h:g[0]?=some l):cU g=l.length:=by
 cases g with
 | nil=>simp at h
 | cons x g=>simp at h;subst h;rfl
theorem yM {l:List ak} {g:aA} (h:g≠[]):jY l g=some (!((l.length==cU g)&&aE l)):=by
 unfold jY
 cases g with
 | nil=>exact absurd rfl h
 | cons x g=>
  rw [show (0:Int)=((0:Nat):Int) from rfl,aP]
  simp only [List.getElem?_cons_zero,Option.bind_some,hO,cU]
  have e:((l.length:Int) !=(x.length:Int)) = !(l.length==x.length):=by
   rw [Bool.eq_iff_iff];simp;omega
  rw [e]
  cases (l.length==x.length) <;> rfl
theorem xO {a g:aA} (hg:g≠[]) (ha:a.length<=1000) {i:Nat} (hi:i<a.length):cf a g (i:Int)=some (BQ (vJ (rc (fun l=>!((l.length==cU g)&&aE l)) a) i) i):=by
 unfold cf BQ vJ rc
 rw [ao (by omega:(i:Int)<(a.length:Int))]
 simp only [Option.bind_some,cond_true,aP,List.getElem?_eq_getElem hi,yM hg]
 have hw:i64.wrap ((i:Int)+1)=((i+1:Nat):Int):=by rw [ag (by omega)];rfl
 rw [hw]
 cases (!((a[i].length==cU g)&&aE a[i])) <;> rfl
theorem we {a g:aA} (hg:g≠[]) (ha:a.length<=1000):dQ a g=some (a.any fun l=>!((l.length==cU g)&&aE l)):=by
 unfold dQ gV
 have h:=pO (step:=cf a g) (n:=a.length) (P:=vJ (rc (fun l=>!((l.length==cU g)&&aE l)) a)) (e:=(.inr ())) (fun i hi=>xO hg ha hi) (by simp [cf]) a.length 0 (by omega)
 rw [show ((0:Nat):Int)=0 from rfl] at h
 rw [h]
 simp only [Option.bind_some]
 have:=oU (bad:=rc (fun l=>!((l.length==cU g)&&aE l)) a) a.length 0
 rw [<-List.range_eq_range',Fd] at this
 exact this
theorem mG {g:aA} (hb:g.length<=140737488355328):k8 g=some (gT g):=by
 unfold k8 gT
 simp only [lJ,Option.bind_some]
 by_cases h:1<=g.length/\g.length<=200
 ·rw [ao h,ao (by omega:1<=(g.length:Int)/\(g.length:Int)<=200)]
  have hne:g≠[]:=by intro e;subst e;simp at h
  obtain ⟨l,hl⟩:∃l,g[0]?=some l:=⟨_,List.getElem?_eq_getElem (by omega:0<g.length)⟩
  have hwd:=lS hl
  rw [show (0:Int)=((0:Nat):Int) from rfl,aP,hl]
  simp only [Bool.not_true,cond_false,Option.bind_some,Bool.true_and]
  by_cases h2:1<=l.length/\l.length<=200
  ·rw [ao (by omega:1<=cU g/\cU g<=200),ao (by omega:1<=(l.length:Int)/\(l.length:Int)<=200)]
   simp only [Bool.not_true,cond_false,Option.bind_some,Bool.true_and]
   rw [we hne (by omega)]
   simp only [Option.bind_some,List.not_any_eq_all_not,Bool.not_not]
  ·rw [au (by omega:¬(1<=cU g/\cU g<=200)),au (by omega:¬(1<=(l.length:Int)/\(l.length:Int)<=200))]
   rfl
 ·rw [au h,au (by omega:¬(1<=(g.length:Int)/\(g.length:Int)<=200))]
  rfl
end Go.SH
namespace Go.SH
open IntKind (i64 u64 i32 u8)
abbrev pg:=Int×Int×PenT×Bool×Bool
abbrev ScrT:=Int×Int×aA×aA×Int×Int×Bool×PenT×Int×Int×Int×(pg×pg)×(Int×Int×Int×Int)×List Int
def dT (x:pg):Bool:=decide (0<=x.1/\x.1<200)&&(decide (0<=x.2.1/\x.2.1<200)&&aO x.2.2.1)
theorem uE (n:Int):iY n=some (decide (0<=n/\n<200)):=by
 unfold iY
 by_cases h:0<=n
 ·rw [ao (by omega:n>=0)];simp [h]
 ·rw [au (by omega:¬n>=0)];simp [h]
theorem w7 (x:pg):kT x=some (dT x):=by
 unfold kT dT
 simp only [uE,dv,Option.bind_some]
 cases decide (0<=x.1/\x.1<200) <;> cases decide (0<=x.2.1/\x.2.1<200) <;> rfl
theorem Mz (n m:Int):eu n m=some (decide (0<=n/\n<m)):=by
 unfold eu
 by_cases h:0<=n
 ·rw [ao (by omega:n>=0)];simp [h]
 ·rw [au (by omega:¬n>=0)];simp [h]
def cF (l:List Int):Bool:=decide (l.length<=60)&&l.all fun c=>decide (1<=ae c)
theorem xP {a:List Int} (ha:a.length<=60) {i:Nat} (hi:i<a.length):cg a (i:Int)=some (BQ (vJ (rc (fun c=>!decide (1<=ae c)) a) i) i):=by
 unfold cg BQ vJ rc
 rw [ao (by omega:(i:Int)<(a.length:Int))]
 simp only [Option.bind_some,cond_true,aP,List.getElem?_eq_getElem hi,li,jk]
 have hw:i64.wrap ((i:Int)+1)=((i+1:Nat):Int):=by rw [ag (by omega)];rfl
 rw [hw]
 have e:decide (ae a[i]<1) = !decide (1<=ae a[i]):=by rw [Bool.eq_iff_iff];simp
 rw [e]
 cases (!decide (1<=ae a[i])) <;> rfl
theorem uD (l:List Int):kG l=some (cF l):=by
 unfold kG cF
 by_cases h:l.length<=60
 ·rw [ao (by omega:(l.length:Int)<=60),ao h]
  simp only [cond_true,Bool.true_and]
  unfold fS gW
  have h1:=pO (step:=cg l) (n:=l.length) (P:=vJ (rc (fun c=>!decide (1<=ae c)) l)) (e:=(.inr ())) (fun i hi=>xP h hi) (by simp [cg]) l.length 0 (by omega)
  rw [show ((0:Nat):Int)=0 from rfl] at h1
  rw [h1]
  simp only [Option.bind_some]
  have h2:=oU (bad:=rc (fun c=>!decide (1<=ae c)) l) l.length 0
  rw [<-List.range_eq_range',Fd] at h2
  have h3:=congrArg (fun o=>Option.bind o fun x1=>some (!x1)) h2
  simp only [Option.bind_some,List.not_any_eq_all_not,Bool.not_not] at h3
  exact h3
 ·rw [au (by omega:¬(l.length:Int)<=60),au h]
  rfl
def jF (g:aA) (rows cols:Int):Bool:=gT g&&(((g.length:Int)==rows)&&((cU g:Int)==cols))
theorem o6 {g:aA} {s:ScrT} (hb:g.length<=140737488355328):jK g s=some (jF g s.1 s.2.1):=by
 unfold jK jF
 rw [mG hb]
 simp only [Option.bind_some]
 cases hm:gT g with
 | false=>rfl
 | true=>
  simp only [cond_true,Bool.true_and]
  cases ((g.length:Int)==s.1) with
  | false=>rfl
  | true=>
   have hl:1<=g.length:=by
    simp only [gT,Bool.and_eq_true,decide_eq_true_eq] at hm;exact hm.1.1
   obtain ⟨l,hl⟩:∃l,g[0]?=some l:=⟨_,List.getElem?_eq_getElem (by omega:0<g.length)⟩
   rw [show (0:Int)=((0:Nat):Int) from rfl,aP,hl,lS hl]
   rfl
def aU (modes:Int):Bool:=az .and .i64 modes 128 !=0
def rQ (s:ScrT):Bool:=
 (jF s.2.2.1 s.1 s.2.1&&((aU s.2.2.2.2.2.2.2.2.2.2.1==decide (0<s.2.2.2.1.length))&&(!aU s.2.2.2.2.2.2.2.2.2.2.1||jF s.2.2.2.1 s.1 s.2.1))) &&
 ((decide (0<=s.2.2.2.2.1/\s.2.2.2.2.1<s.1)&&(decide (0<=s.2.2.2.2.2.2.2.2.1/\s.2.2.2.2.2.2.2.2.1<s.1)&&(decide (0<=s.2.2.2.2.2.2.2.2.2.1/\s.2.2.2.2.2.2.2.2.2.1<s.1)&&(decide (0<=s.2.2.2.2.2.1)&&(decide (s.2.2.2.2.2.1<s.2.1)&&(!s.2.2.2.2.2.2.1||decide (s.2.1-1<=s.2.2.2.2.2.1))))))) &&
 ((!decide (s.2.2.2.2.2.2.2.2.2.1<=s.2.2.2.2.2.2.2.2.1)||decide (s.1<=1))&&(decide (0<=s.2.2.2.2.2.2.2.2.2.2.1)&&decide (s.2.2.2.2.2.2.2.2.2.2.1<=255))) &&
 (aO s.2.2.2.2.2.2.2.1&&(dT s.2.2.2.2.2.2.2.2.2.2.2.1.1&&(dT s.2.2.2.2.2.2.2.2.2.2.2.1.2&&cF s.2.2.2.2.2.2.2.2.2.2.2.2.2))))
theorem yF {s:ScrT} (h1:s.2.2.1.length<=140737488355328) (h2:s.2.2.2.1.length<=140737488355328):oy s=some (rQ s):=by
 obtain ⟨rows,cols,grid,main,row,col,late,pen,top,bottom,modes,saved,tabs,title⟩:=s
 simp only at h1 h2
 unfold oy rQ
 simp only [o6 (s:=(rows,cols,grid,main,row,col,late,pen,top,bottom,modes,saved,tabs,title)) h1,o6 (s:=(rows,cols,grid,main,row,col,late,pen,top,bottom,modes,saved,tabs,title)) h2,Mz,dv,w7,uD,Option.bind_some]
 have hm:decide ((main.length:Int)>0)=decide (0<main.length):=by rw [Bool.eq_iff_iff];simp
 rw [hm]
 have ho:(az .and .i64 modes 128 !=0)=aU modes:=rfl
 rw [ho]
 cases hs:jF grid rows cols with
 | false=>rfl
 | true=>
  have hr:1<=cols/\cols<=200:=by
   simp only [jF,gT,Bool.and_eq_true,decide_eq_true_eq,beq_iff_eq] at hs
   omega
  have hw:i64.wrap (cols-1)=cols-1:=ag (by omega)
  rw [hw]
  have e1:decide (col<0) = !decide (0<=col):=by rw [Bool.eq_iff_iff];simp
  have e2:decide (col>=cols) = !decide (col<cols):=by rw [Bool.eq_iff_iff];simp
  have e3:decide (col<cols-1) = !decide (cols-1<=col):=by rw [Bool.eq_iff_iff];simp
  have e4:decide (rows>1) = !decide (rows<=1):=by rw [Bool.eq_iff_iff];simp
  have e5:decide (modes<0) = !decide (0<=modes):=by rw [Bool.eq_iff_iff];simp
  have e6:decide (modes>255) = !decide (modes<=255):=by rw [Bool.eq_iff_iff];simp
  rw [e1,e2,e3,e4,e5,e6,show decide (top>=bottom)=decide (bottom<=top) from rfl]
  generalize decide (0<=row/\row<rows)=b1
  generalize decide (0<=top/\top<rows)=b2
  generalize decide (0<=bottom/\bottom<rows)=b3
  generalize decide (0<=col)=b4
  generalize decide (col<cols)=b5
  generalize decide (cols-1<=col)=b6
  generalize decide (rows<=1)=b7
  generalize decide (0<=modes)=b8
  generalize decide (modes<=255)=b9
  generalize decide (bottom<=top)=b10
  generalize decide (0<main.length)=b11
  generalize jF main rows cols=b12
  generalize aU modes=b13
  generalize aO pen=b14
  generalize dT saved.1=b15
  generalize dT saved.2=b16
  generalize cF title=b17
  cases b13 <;> cases b11 <;> cases b12 <;> first
   | rfl
   | (simp only [Bool.not_true,Bool.not_false,cond_true,cond_false,Option.bind_some,Bool.true_and,Bool.false_and,beq_self_eq_true,Bool.true_or,Bool.or_true,Bool.false_or]
      cases b1 <;> cases b2 <;> cases b3 <;> first
       | rfl
       | (cases b4 <;> cases b5 <;> cases late <;> cases b6 <;> first
          | rfl
          | (cases b10 <;> cases b7 <;> cases b8 <;> cases b9 <;> first
             | rfl
             | (cases b14 <;> cases b15 <;> cases b16 <;> first | rfl | (cases b17 <;> rfl)))))
end Go.SH
namespace Go.SH
open IntKind (i64 u64 i32 u8)
theorem Jw:∀n:_root_.Fin 1001,pX 1 (n.val:Int)=some (0,(n.val:Int)):=by decide +kernel
def JG:ak:=(0,(0,0),0,0,0,0)
def rst (x:ak) (N k:Nat):List ak:=List.replicate k x++List.replicate (N-k) JG
theorem IE (x:ak) {N k:Nat} (h:k<=N):cpy (rst x N k) k (((rst x N k).drop 0).take k) (min (((rst x N k).drop 0).take k).length (N-k))=rst x N (k+min k (N-k)):=by
 have e1:((rst x N k).drop 0).take k=List.replicate k x:=by
  unfold rst
  rw [List.drop_zero,List.take_append_of_le_length (by simp),List.take_of_length_le (by simp)]
 rw [e1]
 unfold cpy rst
 rw [List.length_replicate,List.take_append_of_le_length (by simp),List.take_of_length_le (by simp),List.take_replicate,List.drop_append,List.drop_eq_nil_of_le (by simp),List.nil_append,List.length_replicate,List.drop_replicate,<-List.append_assoc,List.replicate_append_replicate]
 congr 2 <;> omega
theorem CZ (x:ak) {N k:Nat} (hN:N<=1000) (h:k<=N):cM (0,(N:Int)) ((k:Int),rst x N k)=some (bif decide (k<N) then .inr (((k+min k (N-k):Nat):Int),rst x N (k+min k (N-k))) else .inl (rst x N k)):=by
 unfold cM
 have hw:(i64.wrap (N:Int)).toNat=N:=by rw [ag (by omega)];omega
 have hl:(rst x N k).length=N:=by unfold rst;simp;omega
 simp only [hw]
 by_cases hk:k<N
 ·rw [ao (by omega:(k:Int)<(N:Int)),ao hk]
  simp only [Option.bind_some,cond_true,Int.toNat_natCast,hl]
  rw [ac (by omega),ac (by omega),ac (by omega),ac (by omega),IE x h]
  have e1:(((rst x N k).drop 0).take k).length=k:=by simp [hl];omega
  rw [e1,ag (by omega)]
  rfl
 ·rw [au (by omega:¬(k:Int)<(N:Int)),au hk]
  rfl
theorem vU (x:ak) {N:Nat} (hN:N<=1000):∀(m k:Nat),N-k<=m->k<=N->(1<=k\/N=0)->ap (cM (0,(N:Int))) ((k:Int),rst x N k)=some (List.replicate N x)
 | m,k,hm,h,h1=>by
  rw [aj,CZ x hN h]
  by_cases hk:k<N
  ·rw [ao hk]
   cases m with
   | zero=>omega
   | succ m=>exact vU x hN m (k+min k (N-k)) (by omega) (by omega) (.inl (by omega))
  ·rw [au hk]
   have:k=N:=by omega
   subst this
   simp [rst]
theorem Ga (x:ak) {N:Nat} (hN:N<=1000):gQ [x] (N:Int)=some (List.replicate N x):=by
 unfold gQ
 rw [au (by omega:¬(N:Int)<0)]
 have e0:u64.wrap 1=1:=by decide +kernel
 have e1:u64.wrap (([x].length:Nat):Int)=1:=e0
 have e2:u64.wrap (N:Int)=(N:Int):=by simp [IntKind.wrap,IntKind.signed,IntKind.bits];omega
 rw [e1,e2,Jw ⟨N,by omega⟩]
 simp only [Option.bind_some,cond_false]
 rw [au (by omega:¬(0:Int)>0),au (by omega:¬(N:Int)>9223372036854775807)]
 simp only [Option.bind_some,cond_false]
 have hw:(i64.wrap (N:Int))=N:=ag (by omega)
 simp only [hw,Int.toNat_natCast]
 rw [ac (by unfold aS;omega),ac (by simp)]
 have e3:cpy (List.replicate N (0,(0,0),0,0,0,0):List ak) 0 [x] (min [x].length N)=rst x N (min 1 N):=by
  cases N with
  | zero=>rfl
  | succ N=>
   have:min 1 (N+1)=1:=by omega
   simp only [List.length_singleton,this]
   unfold cpy rst JG
   simp [List.replicate_succ]
 have h:=vU x hN N (min 1 N) (by omega) (by omega) (by omega)
 rw [<-e3] at h
 have h':ap (cM (0,(N:Int))) (((min ([x]:List ak).length N:Nat):Int),cpy (List.replicate N (0,(0,0),0,0,0,0):List ak) 0 [x] (min ([x]:List ak).length N))=some (List.replicate N x):=h
 erw [h']
 simp only [Option.bind_some]
 rw [ac (by simp)]
def dg (p:PenT):ak:=(32,(0,0),0,0,0,p.2.2)
def aT (n:Nat) (p:PenT):List ak:=List.replicate n (dg p)
theorem gK {n:Nat} (hn:n<=1000) {p:PenT} (hp:aO p=true):fP (n:Int) p=some (aT n p):=by
 unfold fP
 rw [au (by omega:¬(n:Int)<0),au (by omega:¬(n:Int)>1000)]
 simp only [cond_false,dv,hp,Option.bind_some,Bool.not_true,hH]
 have:=Ga (dg p) hn
 unfold dg at this
 erw [this]
 rfl
end Go.SH
namespace Go.SH
def gst (r:List ak) (N k:Nat):aA:=List.replicate k r++List.replicate (N-k) []
theorem I3 (r:List ak) {N k:Nat} (h:k<N):(gst r N k)[k]?=some []/\(gst r N k).set k r=gst r N (k+1):=by
 unfold gst
 obtain ⟨m,rfl⟩:∃m,N=k+1+m:=⟨N-(k+1),by omega⟩
 have e1:k+1+m-k=m+1:=by omega
 have e2:k+1+m-(k+1)=m:=by omega
 rw [e1,e2,List.replicate_succ]
 constructor
 ·rw [List.getElem?_append_right (by simp)];simp
 ·rw [List.set_append_right _ _ (by simp)]
  simp only [List.length_replicate,Nat.sub_self,List.set_cons_zero]
  rw [show List.replicate (k+1) r=List.replicate k r++[r] from List.replicate_succ',List.append_assoc]
  rfl
theorem Ej {N n:Nat} (hN:N<=200) (hn:n<=200) {p:PenT} (hp:aO p=true) {k:Nat} (h:k<N):cT (N:Int) (n:Int) p ((k:Int),gst (aT n p) N k)=some (.inr (((k+1:Nat):Int),gst (aT n p) N (k+1))):=by
 unfold cT
 obtain ⟨e1,e2⟩:=I3 (aT n p) h
 simp only [Int.toNat_natCast]
 rw [ao (by omega:(k:Int)<(N:Int))]
 simp only [Option.bind_some,cond_true]
 rw [gK (by omega) hp]
 simp only [Option.bind_some]
 rw [ac (by omega)]
 erw [e1]
 simp only [Option.bind_some]
 erw [e2]
 rw [ag (by omega)]
 rfl
theorem yx {N n:Nat} (hN:N<=200) (hn:n<=200) {p:PenT} (hp:aO p=true):∀(m k:Nat),k+m=N->ap (cT (N:Int) (n:Int) p) ((k:Int),gst (aT n p) N k)=some (List.replicate N (aT n p))
 | 0,k,h=>by
  have:k=N:=by omega
  subst this
  rw [aj]
  have:cT (k:Int) (n:Int) p ((k:Int),gst (aT n p) k k)=some (.inl (gst (aT n p) k k)):=by
   unfold cT
   simp
  rw [this]
  simp [gst]
 | m+1,k,h=>by
  rw [aj,Ej hN hn hp (by omega)]
  exact yx hN hn hp m (k+1) (by omega)
def dE (rows cols:Nat) (p:PenT):aA:=List.replicate rows (aT cols p)
theorem gU {rows cols:Nat} (hr:1<=rows/\rows<=200) (hc:1<=cols/\cols<=200) {p:PenT} (hp:aO p=true):eO (rows:Int) (cols:Int) p=some (dE rows cols p):=by
 unfold eO
 simp only [lJ,dv,Option.bind_some]
 rw [ao (by omega:1<=(rows:Int)/\(rows:Int)<=200),ao (by omega:1<=(cols:Int)/\(cols:Int)<=200)]
 simp only [hp,Bool.not_true,cond_false,Option.bind_some,Int.toNat_natCast]
 rw [ac (by unfold aS;omega)]
 have h:=yx hr.2 hc.2 hp rows 0 (by omega)
 have e:gst (aT cols p) rows 0=List.replicate rows []:=by unfold gst;simp
 rw [e] at h
 erw [h]
 simp only [Option.bind_some]
 rw [ac (by simp)]
 rfl
def ne (n:Nat):Int×Int×Int×Int:=(gh (n:Int)).getD (0,0,0,0)
theorem F8:∀n:_root_.Fin 201,(gh (n.val:Int)).isSome=true:=by decide +kernel
theorem kE {n:Nat} (h:n<=200):gh (n:Int)=some (ne n):=by
 have:=F8 ⟨n,by omega⟩
 unfold ne
 simp only at this
 cases hc:gh (n:Int) with
 | none=>rw [hc] at this;simp at this
 | some x=>rfl
def m9:pg:=(0,0,(0,0,0),false,false)
end Go.SH
namespace Go.SH
open IntKind (i64 u64 i32 u8)
theorem lc {l:List ak} (h:l.length<=1000):bi l=some l:=by
 unfold bi;rw [ac (by unfold aS;omega)]
theorem vV:fU=bi:=rfl
theorem Bd:jL=fC:=rfl
theorem CM {g:aA} {k:Nat} (hk:k<g.length) (hg:g.length<=200) (hl:∀l∈g,l.length<=1000):bY g ((k:Int),g.take k)=some (.inr (((k+1:Nat):Int),g.take (k+1))):=by
 unfold bY
 rw [ao (by omega:(k:Int)<(g.length:Int))]
 simp only [Option.bind_some,cond_true,aP,List.getElem?_eq_getElem hk]
 rw [vV,lc (hl _ (List.getElem_mem hk))]
 simp only [Option.bind_some]
 have e:g.take k++[g[k]]=g.take (k+1):=by simp
 rw [ac trivial,ac trivial,ac (by simp only [List.length_append,List.length_take,List.length_singleton];unfold aS;omega),ag (by omega)]
 erw [e]
 rfl
theorem vP {g:aA} (hg:g.length<=200) (hl:∀l∈g,l.length<=1000):∀(m k:Nat),k+m=g.length->ap (bY g) ((k:Int),g.take k)=some g
 | 0,k,h=>by
  have e:k=g.length:=by omega
  subst e
  rw [aj]
  have:bY g ((g.length:Int),g.take g.length)=some (.inl g):=by
   unfold bY
   simp
   rw [ac trivial]
  rw [this]
 | m+1,k,h=>by
  rw [aj,CM (by omega) hg hl]
  exact vP hg hl m (k+1) (by omega)
theorem zT {g:aA} (hg:g.length<=200) (hl:∀l∈g,l.length<=1000):fC g=some g:=by
 unfold fC
 have h:=vP hg hl g.length 0 (by omega)
 rw [List.take_zero] at h
 erw [h]
 simp only [Option.bind_some]
 rw [ac trivial]
theorem Gf {l:List Int} (h:l.length<=1000):fT l=some l:=by
 unfold fT;rw [ac (by unfold aS;omega)]
abbrev z8:=aA×aA×List Int×Int×Int×Int×Int×Bool×Int×Int×Int×Int×Int×Int×Int×Int×Int×Int×Int×Bool×Bool×Int×Int×Int×Int×Int×Bool×Bool×Int×Int×Int×Int
def flat:ScrT->z8
 | (r,c,g,m,row,col,late,(pb,pf,pk),top,bot,md,((s1r,s1c,(s1pb,s1pf,s1pk),s1o,s1l),s2r,s2c,(s2pb,s2pf,s2pk),s2o,s2l),(t1,t2,t3,t4),ti)=>(g,m,ti,r,c,row,col,late,pb,pf,pk,top,bot,md,s1r,s1c,s1pb,s1pf,s1pk,s1o,s1l,s2r,s2c,s2pb,s2pf,s2pk,s2o,s2l,t1,t2,t3,t4)
def Af:z8->ScrT
 | (g,m,ti,r,c,row,col,late,pb,pf,pk,top,bot,md,s1r,s1c,s1pb,s1pf,s1pk,s1o,s1l,s2r,s2c,s2pb,s2pf,s2pk,s2o,s2l,t1,t2,t3,t4)=>(r,c,g,m,row,col,late,(pb,pf,pk),top,bot,md,((s1r,s1c,(s1pb,s1pf,s1pk),s1o,s1l),s2r,s2c,(s2pb,s2pf,s2pk),s2o,s2l),(t1,t2,t3,t4),ti)
theorem Cz (s:z8):flat (Af s)=s:=rfl
abbrev ChT:=Int×Int×Int×Int×List Int×List Int
def chgP (ch:ChT):ScrT->Option z8
 | (r,c,g,m,row,col,late,(pb,pf,pk),top,bot,md,((s1r,s1c,(s1pb,s1pf,s1pk),s1o,s1l),s2r,s2c,(s2pb,s2pf,s2pk),s2o,s2l),(t1,t2,t3,t4),ti)=>cW ch r c row col late pb pf pk top bot md s1r s1c s1pb s1pf s1pk s1o s1l s2r s2c s2pb s2pf s2pk s2o s2l t1 t2 t3 t4 g m ti
def betw (n lo hi:Int):Int:=if (if hi<n then hi else n)>lo then (if hi<n then hi else n) else lo
def jt (ch:ChT):ChT:=bif (ch.1 !=20)&&(ch.1 !=27) then (ch.1,betw ch.2.1 (-1000) 1000,betw ch.2.2.1 (-1000) 1000,ch.2.2.2) else ch
theorem kA (n lo hi:Int):bv n lo hi=some (betw n lo hi):=rfl
theorem Jz {l:List ChT} {i:Nat} {ch:ChT} (h:l[i]?=some ch) (hb:l.length<=1000000) (s:ScrT):fd l ((i:Int),flat s)=(chgP (jt ch) s).bind fun x=>some (.inr (((i+1:Nat):Int),x)):=by
 obtain ⟨r,c,g,m,row,col,late,⟨pb,pf,pk⟩,top,bot,md,⟨⟨s1r,s1c,⟨s1pb,s1pf,s1pk⟩,s1o,s1l⟩,s2r,s2c,⟨s2pb,s2pf,s2pk⟩,s2o,s2l⟩,⟨t1,t2,t3,t4⟩,ti⟩:=s
 have hi:i<l.length:=(List.getElem?_eq_some_iff.1 h).1
 unfold fd
 rw [ao (by omega:(i:Int)<(l.length:Int))]
 have hw:i64.wrap ((i:Int)+1)=((i+1:Nat):Int):=by rw [ag (by omega)];rfl
 simp only [Option.bind_some,cond_true,aP,h,kA,flat,chgP,hw]
 have hn:((bif ch.1 !=20 then bif ch.1 !=27 then some true else some false else some false:Option Bool).bind fun x34=>bif x34 then some (betw ch.2.1 (-1000) 1000,betw ch.2.2.1 (-1000) 1000) else some (ch.2.1,ch.2.2.1))=some ((jt ch).2.1,(jt ch).2.2.1):=by
  unfold jt
  cases (ch.1 !=20) <;> cases (ch.1 !=27) <;> rfl
 erw [hn]
 simp only [Option.bind_some]
 have hn1:(jt ch).1=ch.1/\(jt ch).2.2.2=ch.2.2.2:=by
  unfold jt
  cases ((ch.1 !=20)&&(ch.1 !=27)) <;> exact ⟨rfl,rfl⟩
 have e:(ch.1,(jt ch).2.1,(jt ch).2.2.1,ch.2.2.2)=jt ch:=by rw [<-hn1.1,<-hn1.2]
 erw [e]
 rw [ac trivial,ac trivial,ac trivial]
 congr 1
theorem K2 {l:List ChT} (s:ScrT):fd l ((l.length:Int),flat s)=some (.inl (flat s)):=by
 obtain ⟨r,c,g,m,row,col,late,⟨pb,pf,pk⟩,top,bot,md,⟨⟨s1r,s1c,⟨s1pb,s1pf,s1pk⟩,s1o,s1l⟩,s2r,s2c,⟨s2pb,s2pf,s2pk⟩,s2o,s2l⟩,⟨t1,t2,t3,t4⟩,ti⟩:=s
 unfold fd
 rw [au (by omega:¬(l.length:Int)<(l.length:Int))]
 simp only [Option.bind_some,cond_false,flat]
 rw [ac trivial,ac trivial,ac trivial]
def vL:List ChT->ScrT->Option ScrT
 | [],s=>some s
 | ch::r,s=>(chgP (jt ch) s).bind fun x=>vL r (Af x)
theorem Fm {l:List ChT} (hb:l.length<=1000000):∀(m i:Nat) (s:ScrT),i+m=l.length->ap (fd l) ((i:Int),flat s)=(vL (l.drop i) s).map flat
 | 0,i,s,h=>by
  have e:i=l.length:=by omega
  subst e
  rw [aj,K2]
  simp [vL]
 | m+1,i,s,h=>by
  have hi:i<l.length:=by omega
  rw [aj,Jz (List.getElem?_eq_getElem hi) hb,List.drop_eq_getElem_cons hi]
  unfold vL
  cases hc:chgP (jt l[i]) s with
  | none=>rfl
  | some x=>
   have:=Fm hb m (i+1) (Af x) (by omega)
   rw [Cz] at this
   exact this
theorem IX {s:ScrT} (h:rQ s=true):s.2.2.1.length<=200/\(∀l∈s.2.2.1,l.length<=1000)/\s.2.2.2.1.length<=200/\(∀l∈s.2.2.2.1,l.length<=1000)/\s.2.2.2.2.2.2.2.2.2.2.2.2.2.length<=60:=by
 obtain ⟨rows,cols,grid,main,row,col,late,pen,top,bottom,modes,saved,tabs,title⟩:=s
 have key:∀{g:aA},gT g=true->g.length<=200/\∀l∈g,l.length<=1000:=by
  intro g hg
  simp only [gT,Bool.and_eq_true,decide_eq_true_eq,List.all_eq_true,beq_iff_eq] at hg
  refine ⟨hg.1.2,fun l hl=>?_⟩
  have:=(hg.2.2 l hl).1
  omega
 unfold rQ at h
 simp only [Bool.and_eq_true] at h
 obtain ⟨⟨hg,hm1,hm2⟩,⟨h2,h3⟩,h4,h5,h6,ht⟩:=h
 simp only [jF,Bool.and_eq_true] at hg
 simp only [cF,Bool.and_eq_true,decide_eq_true_eq] at ht
 simp only [beq_iff_eq] at hm1
 simp only [jF,Bool.and_eq_true,Bool.or_eq_true,Bool.not_eq_true'] at hm2
 refine ⟨(key hg.1).1,(key hg.1).2,?_,?_,ht.1⟩
 ·rcases hm2 with hm2 | hm2
  ·rw [hm2] at hm1
   have:¬0<main.length:=by intro h;simp [h] at hm1
   simp only;omega
  ·exact (key hm2.1).1
 ·rcases hm2 with hm2 | hm2
  ·rw [hm2] at hm1
   have:¬0<main.length:=by intro h;simp [h] at hm1
   have:main=[]:=List.eq_nil_of_length_eq_zero (by omega)
   subst this;simp
  ·exact (key hm2.1).2
theorem Mu {s:ScrT} {l:List ChT} (h:rQ s=true) (hb:l.length<=1000000):gI s l=vL l s:=by
 obtain ⟨h1,h2,h3,h4,h5⟩:=IX h
 obtain ⟨r,c,g,m,row,col,late,⟨pb,pf,pk⟩,top,bot,md,⟨⟨s1r,s1c,⟨s1pb,s1pf,s1pk⟩,s1o,s1l⟩,s2r,s2c,⟨s2pb,s2pf,s2pk⟩,s2o,s2l⟩,⟨t1,t2,t3,t4⟩,ti⟩:=s
 unfold gI
 rw [yF (by omega) (by omega),h]
 simp only [Option.bind_some,Bool.not_true,cond_false]
 rw [Bd,zT h1 h2,zT h3 h4,Gf (show ti.length<=1000 from Nat.le_trans h5 (by omega))]
 simp only [Option.bind_some]
 rw [ac trivial,ac trivial,ac trivial]
 have:=Fm hb l.length 0 (r,c,g,m,row,col,late,(pb,pf,pk),top,bot,md,((s1r,s1c,(s1pb,s1pf,s1pk),s1o,s1l),s2r,s2c,(s2pb,s2pf,s2pk),s2o,s2l),(t1,t2,t3,t4),ti) (by omega)
 rw [List.drop_zero] at this
 erw [this]
 cases vL l (r,c,g,m,row,col,late,(pb,pf,pk),top,bot,md,((s1r,s1c,(s1pb,s1pf,s1pk),s1o,s1l),s2r,s2c,(s2pb,s2pf,s2pk),s2o,s2l),(t1,t2,t3,t4),ti) with
 | none=>rfl
 | some x=>
  simp only [Option.map_some,Option.bind_some]
  rfl
end Go.SH
namespace Go.SH
open IntKind (i64 u64 i32 u8)
def aH (l:List ak) (a:Int):List ak:=bif decide (0<a)&&decide (a<l.length) then match l[a.toNat]?,l[a.toNat-1]? with
  | some c,some d=>bif c.2.2.1==2 then (l.set (a.toNat-1) (dg d.2.2.2)).set a.toNat (dg c.2.2.2) else l
  | _,_=>l
 else l
theorem aF (l:List ak) (a:Int):(aH l a).length=l.length:=by
 unfold aH
 cases (decide (0<a)&&decide (a<l.length)) with
 | false=>rfl
 | true=>
  simp only [cond_true]
  split
  ·rename_i c d _ _
   cases (c.2.2.1==2) <;> simp
  ·rfl
theorem lC {l:List ak} (hl:l.length<=1000) (a:Int):bL a l=some (aH l a):=by
 unfold bL aH
 by_cases h0:0<a
 ·rw [ao h0]
  by_cases h1:a<l.length
  ·rw [ao h1]
   have e1:a.toNat<l.length:=by omega
   have e2:a.toNat-1<l.length:=by omega
   have hw:(i64.wrap (a-1))=a-1:=ag (by omega)
   have hw2:(a-1).toNat=a.toNat-1:=by omega
   simp only [cond_true,Bool.and_self,hw,hw2,List.getElem?_eq_getElem e1,List.getElem?_eq_getElem e2,Option.bind_some,hH]
   rw [ac (by omega)]
   cases hc:(l[a.toNat].2.2.1==2) with
   | false=>rfl
   | true=>
    simp only [cond_true,Option.bind_some]
    rw [ac (by omega),ac (by omega),ac (by omega),ac (by omega)]
    have e3:a.toNat<(l.set (a.toNat-1) (32,(0,0),0,0,0,l[a.toNat-1].2.2.2.2.2)).length:=by simp;omega
    erw [List.getElem?_eq_getElem e3]
    rfl
  ·rw [au h1]
   rfl
 ·rw [au h0]
  rfl
theorem n7 (c:Int):-1<=ae c/\ae c<=2:=by
 unfold ae
 cases lL c with
 | true=>exact ⟨by simp,by simp⟩
 | false=>
  simp only [cond_false]
  split
  ·rename_i e he
   have hm:=List.mem_of_find?_eq_some he
   have hw:bf.all (fun e=>decide (0<=e.2.2/\e.2.2<=2))=true:=by decide +kernel
   have:=List.all_eq_true.1 hw e hm
   simp only [decide_eq_true_eq] at this
   cases decide (e.1<=c) <;> simp <;> omega
  ·omega
def putM (l:List ak) (a:Int) (c:Int) (p:PenT):List ak:=
 bif decide (ae c<1)||(decide (a<0)||decide (a>l.length-ae c)) then l else
  let m:=(aH (aH l a) (a+ae c)).set a.toNat (c,(0,0),ae c-1,p)
  bif ae c==2 then m.set (a.toNat+1) (0,(0,0),2,p) else m
theorem KY {l:List ak} {a c:Int} {p:PenT} (hl:aE l=true) (hp:aO p=true):ip l a c p=some (putM l a c p):=by
 have hlen:l.length<=1000:=by
  simp only [aE,Bool.and_eq_true,decide_eq_true_eq] at hl;exact hl.1
 have hr:=n7 c
 unfold ip putM im
 simp only [hO,hl,dv,hp,cond_true,Option.bind_some,Bool.not_true,cond_false,jk]
 rw [lc hlen]
 simp only [Option.bind_some]
 have hw:i64.wrap ((l.length:Int)-ae c)=(l.length:Int)-ae c:=ag (by omega)
 rw [hw]
 cases h1:decide (ae c<1) with
 | true=>simp only [cond_true,Option.bind_some,Bool.true_or];rw [ac trivial]
 | false=>
  cases h2:decide (a<0) with
  | true=>simp only [cond_true,cond_false,Option.bind_some,Bool.true_or,Bool.false_or];rw [ac trivial]
  | false=>
   cases h3:decide (a>(l.length:Int)-ae c) with
   | true=>simp only [cond_true,cond_false,Option.bind_some,Bool.true_or,Bool.false_or];rw [ac trivial]
   | false=>
    simp only [decide_eq_false_iff_not] at h1 h2 h3
    have hw2:i64.wrap (a+ae c)=a+ae c:=ag (by omega)
    have hw3:i64.wrap (ae c-1)=ae c-1:=ag (by omega)
    have hw4:i64.wrap (a+1)=a+1:=ag (by omega)
    have e1:(a+1).toNat=a.toNat+1:=by omega
    simp only [cond_false,Option.bind_some,Bool.or_self,hw2,hw3,hw4,e1]
    rw [ac trivial,lC hlen]
    simp only [Option.bind_some]
    rw [ac (aF l a).symm,lC (by rw [aF];exact hlen)]
    simp only [Option.bind_some]
    rw [ac (by omega)]
    have hm:(aH (aH l a) (a+ae c)).length=l.length:=by rw [aF,aF]
    have e2:a.toNat<(aH (aH l a) (a+ae c)).length:=by omega
    erw [List.getElem?_eq_getElem e2]
    simp only [Option.bind_some]
    cases h4:(ae c==2) with
    | false=>
     simp only [cond_false,Option.bind_some]
     rw [ac (by simp [hm])]
    | true=>
     simp only [beq_iff_eq] at h4
     simp only [cond_true,Option.bind_some]
     rw [ac (by omega)]
     have e3:a.toNat+1<((aH (aH l a) (a+ae c)).set a.toNat (c,(0,0),ae c-1,p)).length:=by simp;omega
     erw [List.getElem?_eq_getElem e3]
     simp only [Option.bind_some]
     rw [ac (by simp [hm])]
end Go.SH
namespace Go.SH
def nd (p:Option PenT) (c:ak):Option (Option PenT):=
 if bV c=true/\p.isSome=(c.2.2.1==2)/\(∀q,p=some q->q=c.2.2.2) then some (if c.2.2.1=1 then some c.2.2.2 else none) else none
def cz:Option PenT->List ak->Option (Option PenT)
 | p,[]=>some p
 | p,c::r=>(nd p c).bind fun q=>cz q r
def seg (l:List ak):Prop:=cz none l=some none
theorem en:∀(a b:List ak) (p:Option PenT),cz p (a++b)=(cz p a).bind fun q=>cz q b
 | [],b,p=>rfl
 | c::a,b,p=>by
  simp only [List.cons_append,cz]
  cases nd p c with
  | none=>rfl
  | some q=>simp only [Option.bind_some];exact en a b q
theorem ig {a b:List ak} (ha:seg a) (hb:seg b):seg (a++b):=by
 unfold seg at *;rw [en,ha];exact hb
theorem uC {a b:List ak} (ha:seg a) (h:seg (a++b)):seg b:=by
 unfold seg at *;rw [en,ha] at h;exact h
def nC (l:List ak):Option PenT:=match l.getLast? with
 | some d=>if d.2.2.1=1 then some d.2.2.2 else none
 | none=>none
theorem cr {p q:Option PenT} {c:ak}:nd p c=some q<->(bV c=true/\p.isSome=(c.2.2.1==2)/\(∀q,p=some q->q=c.2.2.2))/\q=(if c.2.2.1=1 then some c.2.2.2 else none):=by
 unfold nd
 by_cases h:bV c=true/\p.isSome=(c.2.2.1==2)/\(∀q,p=some q->q=c.2.2.2)
 ·rw [if_pos h];simp only [Option.some.injEq]
  exact ⟨fun e=>⟨h,e.symm⟩,fun e=>e.2.symm⟩
 ·rw [if_neg h]
  simp only [reduceCtorEq,false_iff]
  exact fun e=>h e.1
theorem xt (l:List ak) (c:ak):nC (l++[c])=if c.2.2.1=1 then some c.2.2.2 else none:=by simp [nC]
theorem tC {pre r:List ak} {c:ak}:okAt (pre++c::r) pre.length=true<->(∃q,nd (nC pre) c=some q)/\(r=[]->¬c.2.2.1=1):=by
 have e1:(pre++c::r)[pre.length]?=some c:=by simp
 have hlast:(pre.length+1==(pre++c::r).length)=decide (r=[]):=by
  rw [Bool.eq_iff_iff]
  simp only [beq_iff_eq,List.length_append,List.length_cons,decide_eq_true_eq]
  constructor
  ·intro h;exact List.eq_nil_of_length_eq_zero (by omega)
  ·intro h;subst h;simp
 have key:okAt (pre++c::r) pre.length=(bV c&&(((nC pre).isSome==(c.2.2.1==2))&&((match nC pre with | some q=>q==c.2.2.2 | none=>true) && !((c.2.2.1==1)&&decide (r=[]))))):=by
  unfold okAt
  simp only [e1,hlast]
  rcases List.eq_nil_or_concat pre with rfl | ⟨pre',d,rfl⟩
  ·simp [nC]
  ·rw [List.concat_eq_append]
   have e2:(pre'++[d]++c::r)[(pre'++[d]).length-1]?=some d:=by simp
   have h0:decide (0<(pre'++[d]).length)=true:=by simp
   simp only [e2,h0,Bool.true_and,xt]
   by_cases hd:d.2.2.1=1
   ·simp [hd]
   ·have:(d.2.2.1==1)=false:=by simpa using hd
    simp [this,hd]
 rw [key]
 simp only [Bool.and_eq_true,beq_iff_eq,Bool.not_eq_true',Bool.and_eq_false_iff,beq_eq_false_iff_ne,decide_eq_false_iff_not]
 have hq:(match nC pre with | some q=>q==c.2.2.2 | none=>true)=true<->∀q,nC pre=some q->q=c.2.2.2:=by
  cases nC pre with
  | none=>simp
  | some q=>simp
 rw [hq]
 constructor
 ·rintro ⟨h1,h2,h3,h4⟩
  refine ⟨⟨_,cr.2 ⟨⟨h1,h2,h3⟩,rfl⟩⟩,fun hr h=>?_⟩
  rcases h4 with h4 | h4
  ·exact h4 h
  ·exact h4 hr
 ·rintro ⟨⟨q,hq⟩,h4⟩
  obtain ⟨⟨h1,h2,h3⟩,_⟩:=cr.1 hq
  refine ⟨h1,h2,h3,?_⟩
  by_cases hr:r=[]
  ·exact .inl (h4 hr)
  ·exact .inr hr
theorem G9:∀(r:List ak) (pre:List ak),r≠[]->((∀i,pre.length<=i->i<(pre++r).length->okAt (pre++r) i=true)<->cz (nC pre) r=some none)
 | [],pre,h=>absurd rfl h
 | [c],pre,_=>by
  simp only [cz]
  constructor
  ·intro h
   have h1:=h pre.length (Nat.le_refl _) (by simp)
   obtain ⟨⟨q,hq⟩,h3⟩:=tC.1 h1
   rw [hq]
   have:=(cr.1 hq).2
   rw [if_neg (h3 rfl)] at this
   subst this;rfl
  ·intro h i hi hl
   have:i=pre.length:=by simp at hl;omega
   subst this
   cases hq:nd (nC pre) c with
   | none=>rw [hq] at h;simp at h
   | some q=>
    rw [hq] at h;simp at h;subst h
    refine tC.2 ⟨⟨_,hq⟩,fun _ h1=>?_⟩
    have:=(cr.1 hq).2
    rw [if_pos h1] at this;simp at this
 | c::d::r,pre,_=>by
  have ih:=G9 (d::r) (pre++[c]) (by simp)
  rw [xt] at ih
  rw [show (pre++[c]++d::r)=pre++c::d::r from by simp] at ih
  rw [cz]
  constructor
  ·intro h
   obtain ⟨⟨q,hq⟩,_⟩:=tC.1 (h pre.length (Nat.le_refl _) (by simp))
   rw [hq]
   have hq2:=(cr.1 hq).2
   subst hq2
   exact ih.1 fun i hi hl=>h i (by simp at hi;omega) hl
  ·intro h
   cases hq:nd (nC pre) c with
   | none=>rw [hq] at h;simp at h
   | some q=>
    rw [hq] at h;simp only [Option.bind_some] at h
    have hq2:=(cr.1 hq).2
    subst hq2
    intro i hi hl
    by_cases e:i=pre.length
    ·subst e;exact tC.2 ⟨⟨_,hq⟩,by simp⟩
    ·exact ih.2 h i (by simp;omega) hl
theorem bh {l:List ak}:aE l=true<->l.length<=1000/\seg l:=by
 unfold aE
 rw [Bool.and_eq_true,decide_eq_true_eq,List.all_eq_true]
 refine and_congr_right fun _=>?_
 cases l with
 | nil=>simp [seg,cz]
 | cons c r=>
  have:=G9 (c::r) [] (by simp)
  simp only [List.nil_append,List.length_nil,Nat.zero_le,true_implies] at this
  rw [show nC []=none from rfl] at this
  unfold seg
  rw [<-this]
  constructor
  ·intro h i hi;exact h i (List.mem_range.2 hi)
  ·intro h i hi;exact h i (List.mem_range.1 hi)
theorem F4 {p:PenT} (hp:aO p=true):bV (dg p)=true:=by
 have:ae 32=1:=by decide +kernel
 simp only [aO,Bool.and_eq_true,decide_eq_true_eq] at hp
 have h2:aO (0,0,p.2.2)=true:=by simp [aO];omega
 unfold bV dg
 simp only [this,h2]
 rfl
theorem yo {p:PenT} (hp:aO p=true):nd none (dg p)=some none:=cr.2 ⟨⟨F4 hp,rfl,by simp⟩,rfl⟩
theorem vn {p:PenT} (hp:aO p=true):∀n,seg (List.replicate n (dg p))
 | 0=>rfl
 | n+1=>by
  unfold seg
  rw [List.replicate_succ,cz,yo hp]
  exact vn hp n
theorem CP {c:ak} (h:bV c=true):aO c.2.2.2=true:=by
 unfold bV at h
 cases hb:((c.2.2.1==0)||(c.2.2.1==1)) <;> rw [hb] at h <;> simp only [cond_true,cond_false,Bool.and_eq_true] at h
 ·exact h.2.1
 ·exact h.1
theorem wP {l:List ak} (hl:seg l) {a:Nat} (h0:0<a) (h1:a<l.length):seg ((aH l a).take a)/\seg ((aH l a).drop a):=by
 have e1:l[((a:Nat):Int).toNat]?=some l[a]:=by simp [h1]
 have e2:l[((a:Nat):Int).toNat-1]?=some l[a-1]:=by simp
 have hsplit:l=l.take a++l.drop a:=(List.take_append_drop a l).symm
 obtain ⟨q,hq1,hq2⟩:∃q,cz none (l.take a)=some q/\cz q (l.drop a)=some none:=by
  unfold seg at hl
  rw [hsplit,en] at hl
  exact Option.bind_eq_some_iff.1 hl
 have hd:l.drop a=l[a]::l.drop (a+1):=List.drop_eq_getElem_cons h1
 rw [hd,cz] at hq2
 obtain ⟨q',hs,hr⟩:=Option.bind_eq_some_iff.1 hq2
 obtain ⟨⟨m1,m2,m3⟩,m4⟩:=cr.1 hs
 unfold aH
 rw [ao (by omega:(0:Int)<(a:Int)),ao (by omega:(a:Int)<(l.length:Int))]
 simp only [Bool.and_self,cond_true,e1,e2]
 cases hh:(l[a].2.2.1==2) with
 | false=>
  rw [hh] at m2
  have:q=none:=by simpa using m2
  subst this
  simp only [cond_false]
  refine ⟨hq1,?_⟩
  unfold seg;rw [hd,cz,hs];exact hr
 | true=>
  rw [hh] at m2
  obtain ⟨p,rfl⟩:=Option.isSome_iff_exists.1 m2
  simp only [cond_true,Int.toNat_natCast]
  have ht:l.take a=l.take (a-1)++[l[a-1]]:=by
   have:a=a-1+1:=by omega
   conv=>lhs;rw [this]
   exact List.take_succ_eq_append_getElem (by omega)
  rw [ht,en] at hq1
  obtain ⟨q0,hq0,hq1⟩:=Option.bind_eq_some_iff.1 hq1
  simp only [cz] at hq1
  obtain ⟨q1,hs1,hq1⟩:=Option.bind_eq_some_iff.1 hq1
  simp at hq1;subst hq1
  obtain ⟨⟨k1,k2,k3⟩,k4⟩:=cr.1 hs1
  have hh1:l[a-1].2.2.1=1:=by
   by_cases h:l[a-1].2.2.1=1
   ·exact h
   ·rw [if_neg h] at k4;simp at k4
  have hq0':q0=none:=by
   rw [hh1] at k2
   simpa using k2
  subst hq0'
  have hq':q'=none:=by
   rw [m4]
   have:l[a].2.2.1=2:=by simpa using hh
   rw [if_neg (by omega)]
  subst hq'
  have t1:((l.set (a-1) (dg l[a-1].2.2.2)).set a (dg l[a].2.2.2)).take a=l.take (a-1)++[dg l[a-1].2.2.2]:=by
   rw [List.take_set_of_le (by omega)]
   rw [show (l.set (a-1) (dg l[a-1].2.2.2)).take a=(l.set (a-1) (dg l[a-1].2.2.2)).take (a-1+1) from by rw [Nat.sub_add_cancel h0]]
   rw [List.take_succ_eq_append_getElem (by simp;omega),List.take_set_of_le (Nat.le_refl _)]
   simp
  have t2:((l.set (a-1) (dg l[a-1].2.2.2)).set a (dg l[a].2.2.2)).drop a=dg l[a].2.2.2::l.drop (a+1):=by
   rw [List.drop_eq_getElem_cons (by simp;exact h1)]
   simp only [List.getElem_set_self]
   rw [List.drop_set_of_lt (by omega),List.drop_set_of_lt (by omega)]
  rw [t1,t2]
  refine ⟨ig hq0 (vn (CP k1) 1),?_⟩
  unfold seg
  rw [cz,yo (CP m1)]
  exact hr
theorem ng {l:List ak} {a:Int} (h:¬(0<a/\a<l.length)):aH l a=l:=by
 unfold aH
 by_cases h0:0<a
 ·rw [ao h0,au (fun h1=>h ⟨h0,h1⟩)];rfl
 ·rw [au h0];rfl
theorem lU {l:List ak} (hl:seg l) (a:Int):seg (aH l a):=by
 by_cases h:0<a/\a<l.length
 ·obtain ⟨k,rfl⟩:∃k:Nat,a=k:=⟨a.toNat,by omega⟩
  obtain ⟨h1,h2⟩:=wP hl (a:=k) (by omega) (by omega)
  have:=ig h1 h2
  rwa [List.take_append_drop] at this
 ·rw [ng h];exact hl
theorem nf {l:List ak} (hl:seg l) {a:Nat} (h:a<=l.length):seg ((aH l a).take a):=by
 by_cases h0:0<a/\a<l.length
 ·exact (wP hl h0.1 h0.2).1
 ·rw [ng (by omega)]
  by_cases e:a=0
  ·subst e;exact rfl
  ·rw [List.take_of_length_le (by omega)];exact hl
theorem Fu {l:List ak} (hl:seg l) {a:Nat} (h:a<=l.length):seg ((aH l a).drop a):=
 uC (nf hl h) (by rw [List.take_append_drop];exact lU hl a)
theorem Dh {l:List ak} {a:Int} {b:Nat} (h:(b:Int)<a):(aH l a).take b=l.take b:=by
 unfold aH
 cases (decide (0<a)&&decide (a<l.length)) with
 | false=>rfl
 | true=>
  simp only [cond_true]
  split
  ·rename_i c d _ _
   cases (c.2.2.1==2) with
   | false=>rfl
   | true=>
    simp only [cond_true]
    rw [List.take_set_of_le (by omega),List.take_set_of_le (by omega)]
  ·rfl
theorem pq {l:List ak} (hl:seg l) {a b:Nat} (hab:a<=b) (hb:b<=l.length):seg ((aH (aH l a) b).take a)/\seg ((aH (aH l a) b).drop b)/\seg (((aH (aH l a) b).drop a).take (b-a))/\seg ((aH (aH l a) b).drop a):=by
 have h1:seg ((aH (aH l a) b).take a):=by
  by_cases e:a=b
  ·subst e;exact nf (lU hl _) (by rw [aF];exact hb)
  ·rw [Dh (by omega)];exact nf hl (by omega)
 have h2:seg ((aH (aH l a) b).drop b):=Fu (lU hl _) (by rw [aF];exact hb)
 have h3:seg ((aH (aH l a) b).take b):=nf (lU hl _) (by rw [aF];exact hb)
 refine ⟨h1,h2,?_,?_⟩
 ·have e:(aH (aH l a) b).take b=(aH (aH l a) b).take a++((aH (aH l a) b).drop a).take (b-a):=by
   rw [<-List.take_add];congr 1;omega
  rw [e] at h3
  exact uC h1 h3
 ·exact uC h1 (by rw [List.take_append_drop];exact lU (lU hl _) _)
end Go.SH
namespace Go.SH
theorem bw (n:Nat) (p:PenT):(aT n p).length=n:=by simp [aT]
theorem jl {p:PenT} (hp:aO p=true) (n:Nat):seg (aT n p):=vn hp n
def low0 (f:Int):Int:=if f>0 then f else 0
def hiL (l:List ak) (t:Int):Int:=if (l.length:Int)<t then (l.length:Int) else t
theorem DJ (f:Int):0<=low0 f:=by unfold low0;split <;> omega
theorem Hp (l:List ak) (t:Int):hiL l t<=l.length:=by unfold hiL;split <;> omega
def rW (l:List ak) (F T:Nat) (p:PenT):List ak:=(aH (aH l F) T).take F++(aT (T-F) p++(aH (aH l F) T).drop T)
def gc (l:List ak) (f t:Int) (p:PenT):List ak:=if low0 f>=hiL l t then l else rW l (low0 f).toNat (hiL l t).toNat p
def nY (l:List ak) (a n:Int):Int:=if (l.length:Int)-a<n then (l.length:Int)-a else n
def oP (l:List ak) (A k:Nat) (p:PenT):List ak:=
 (aH (aH l A) ((l.length-k:Nat):Int)).take A++(aT k p++((aH (aH l A) ((l.length-k:Nat):Int)).drop A).take (l.length-k-A))
def kc (l:List ak) (a n:Int):Bool:=decide (n<1)||(decide (a<0)||decide (a>=l.length))
def gq (l:List ak) (a n:Int) (p:PenT):List ak:=bif kc l a n then l else oP l a.toNat (nY l a n).toNat p
def oS (l:List ak) (A k:Nat) (p:PenT):List ak:=
 (aH (aH l A) ((A+k:Nat):Int)).take A++((aH (aH l A) ((A+k:Nat):Int)).drop (A+k)++aT k p)
def lK (l:List ak) (a n:Int) (p:PenT):List ak:=bif kc l a n then l else oS l a.toNat (nY l a n).toNat p
def fitM (l:List ak) (n:Nat):List ak:=(aH l n).take (min n l.length)++aT (n-min n l.length) (0,0,0)
def tH (x:ak) (c:Int):ak:=if x.2.1.1=0 then (x.1,(c,x.2.1.2),x.2.2) else if x.2.1.2=0 then (x.1,(x.2.1.1,c),x.2.2) else x
def l7 (l:List ak) (a:Nat):Nat:=match l[a]? with
 | some x=>if x.2.2.1=2 then a-1 else a
 | none=>a
def nb (l:List ak) (a c:Int):Bool:=decide (a<0)||(decide (a>=l.length)||(ae c !=0))
def zq (l:List ak) (b:Nat) (c:Int):List ak:=match l[b]? with
 | some x=>l.set b (tH x c)
 | none=>l
def rb (l:List ak) (a c:Int):List ak:=bif nb l a c then l else zq l (l7 l a.toNat) c
theorem gE {l:List ak} (h:aE l=true):l.length<=1000:=(bh.1 h).1
theorem DW {l:List ak} {F T:Nat} {p:PenT} (hl:aE l=true) (hp:aO p=true) (h1:F<=T) (h2:T<=l.length):aE (rW l F T p)=true/\(rW l F T p).length=l.length:=by
 obtain ⟨hn,hs⟩:=bh.1 hl
 obtain ⟨a1,a2,_,_⟩:=pq hs h1 h2
 have hlen:(rW l F T p).length=l.length:=by
  unfold rW
  simp only [List.length_append,List.length_take,List.length_drop,bw,aF];omega
 exact ⟨bh.2 ⟨by omega,ig a1 (ig (jl hp _) a2)⟩,hlen⟩
theorem rX {l:List ak} {f t:Int} {p:PenT} (hl:aE l=true) (hp:aO p=true):aE (gc l f t p)=true/\(gc l f t p).length=l.length:=by
 unfold gc
 have h1:=DJ f
 have h2:=Hp l t
 split
 ·exact ⟨hl,rfl⟩
 ·exact DW hl hp (by omega) (by omega)
theorem Cv {l:List ak} {A k:Nat} {p:PenT} (hl:aE l=true) (hp:aO p=true) (h:A+k<=l.length):aE (oP l A k p)=true/\(oP l A k p).length=l.length:=by
 obtain ⟨hn,hs⟩:=bh.1 hl
 obtain ⟨a1,_,a3,_⟩:=pq hs (a:=A) (b:=l.length-k) (by omega) (by omega)
 have hlen:(oP l A k p).length=l.length:=by
  unfold oP
  simp only [List.length_append,List.length_take,List.length_drop,bw,aF];omega
 exact ⟨bh.2 ⟨by omega,ig a1 (ig (jl hp _) a3)⟩,hlen⟩
theorem qw {l:List ak} {a n:Int} (h:kc l a n=false):1<=n/\0<=a/\a<l.length/\1<=nY l a n/\nY l a n<=l.length-a:=by
 simp only [kc,Bool.or_eq_false_iff,decide_eq_false_iff_not] at h
 unfold nY
 refine ⟨by omega,by omega,by omega,?_⟩
 split <;> omega
theorem jv {l:List ak} {a n:Int} {p:PenT} (hl:aE l=true) (hp:aO p=true):aE (gq l a n p)=true/\(gq l a n p).length=l.length:=by
 unfold gq
 cases h:kc l a n with
 | true=>exact ⟨hl,rfl⟩
 | false=>
  have:=qw h
  exact Cv hl hp (by omega)
theorem CJ {l:List ak} {A k:Nat} {p:PenT} (hl:aE l=true) (hp:aO p=true) (h:A+k<=l.length):aE (oS l A k p)=true/\(oS l A k p).length=l.length:=by
 obtain ⟨hn,hs⟩:=bh.1 hl
 obtain ⟨a1,a2,_,_⟩:=pq hs (a:=A) (b:=A+k) (by omega) (by omega)
 have hlen:(oS l A k p).length=l.length:=by
  unfold oS
  simp only [List.length_append,List.length_take,List.length_drop,bw,aF];omega
 exact ⟨bh.2 ⟨by omega,ig a1 (ig a2 (jl hp _))⟩,hlen⟩
theorem vO {l:List ak} {a n:Int} {p:PenT} (hl:aE l=true) (hp:aO p=true):aE (lK l a n p)=true/\(lK l a n p).length=l.length:=by
 unfold lK
 cases h:kc l a n with
 | true=>exact ⟨hl,rfl⟩
 | false=>
  have:=qw h
  exact CJ hl hp (by omega)
theorem Hw {l:List ak} {n:Nat} (hl:aE l=true) (hn:n<=1000):aE (fitM l n)=true/\(fitM l n).length=n:=by
 obtain ⟨h1,hs⟩:=bh.1 hl
 have hlen:(fitM l n).length=n:=by
  unfold fitM
  simp only [List.length_append,List.length_take,bw,aF];omega
 have hp:aO (0,0,0)=true:=by decide
 refine ⟨bh.2 ⟨by omega,ig ?_ (jl hp _)⟩,hlen⟩
 by_cases h:n<=l.length
 ·rw [Nat.min_eq_left h];exact nf hs h
 ·rw [Nat.min_eq_right (by omega),ng (by omega),List.take_of_length_le (Nat.le_refl _)];exact hs
theorem ID {l:List ak} {b:Nat} {x y:ak} (hl:seg l) (hx:l[b]?=some x) (h1:bV y=true) (h2:y.2.2=x.2.2):seg (l.set b y):=by
 have hb:b<l.length:=(List.getElem?_eq_some_iff.1 hx).1
 have hxe:l[b]=x:=(List.getElem?_eq_some_iff.1 hx).2
 have e1:l=l.take b++x::l.drop (b+1):=by rw [<-hxe,<-List.drop_eq_getElem_cons hb,List.take_append_drop]
 have e2:l.set b y=l.take b++y::l.drop (b+1):=List.set_eq_take_append_cons_drop.trans (if_pos hb)
 unfold seg at *
 rw [e1,en] at hl
 rw [e2,en]
 obtain ⟨q,hq,hl⟩:=Option.bind_eq_some_iff.1 hl
 rw [hq,Option.bind_some]
 simp only [cz] at hl ⊢
 obtain ⟨q2,hq2,hl⟩:=Option.bind_eq_some_iff.1 hl
 obtain ⟨⟨c1,c2,c3⟩,c4⟩:=cr.1 hq2
 have:nd q y=some q2:=cr.2 ⟨⟨h1,by rw [h2];exact c2,fun r hr=>by rw [h2];exact c3 r hr⟩,by rw [h2];exact c4⟩
 rw [this];exact hl
theorem GM {l:List ak} {b:Nat} {x:ak} (hl:seg l) (hx:l[b]?=some x):bV x=true:=by
 have hb:b<l.length:=(List.getElem?_eq_some_iff.1 hx).1
 have hxe:l[b]=x:=(List.getElem?_eq_some_iff.1 hx).2
 have e1:l=l.take b++x::l.drop (b+1):=by rw [<-hxe,<-List.drop_eq_getElem_cons hb,List.take_append_drop]
 unfold seg at *
 rw [e1,en] at hl
 obtain ⟨q,hq,hl⟩:=Option.bind_eq_some_iff.1 hl
 simp only [cz] at hl
 obtain ⟨q2,hq2,hl⟩:=Option.bind_eq_some_iff.1 hl
 exact (cr.1 hq2).1.1
theorem xR {l:List ak} {b:Nat} {x:ak} (hl:seg l) (hx:l[b]?=some x) (h2:x.2.2.1=2):0<b/\∃y,l[b-1]?=some y/\y.2.2.1=1:=by
 have hb:b<l.length:=(List.getElem?_eq_some_iff.1 hx).1
 have hxe:l[b]=x:=(List.getElem?_eq_some_iff.1 hx).2
 have e1:l=l.take b++x::l.drop (b+1):=by rw [<-hxe,<-List.drop_eq_getElem_cons hb,List.take_append_drop]
 have hrun:=hl
 unfold seg at hrun
 rw [e1,en] at hrun
 obtain ⟨q,hq,hrun⟩:=Option.bind_eq_some_iff.1 hrun
 simp only [cz] at hrun
 obtain ⟨q2,hq2,hrun⟩:=Option.bind_eq_some_iff.1 hrun
 have c2:=(cr.1 hq2).1.2.1
 rw [h2] at c2
 obtain ⟨p,rfl⟩:=Option.isSome_iff_exists.1 c2
 have h0:0<b:=by
  rcases Nat.eq_zero_or_pos b with e | e
  ·subst e;simp [cz] at hq
  ·exact e
 refine ⟨h0,l[b-1],by simp,?_⟩
 have ht:l.take b=l.take (b-1)++[l[b-1]]:=by
  rw [show l.take b=l.take (b-1+1) from by rw [Nat.sub_add_cancel h0]]
  exact List.take_succ_eq_append_getElem (by omega)
 rw [ht,en] at hq
 obtain ⟨q0,hq0,hq⟩:=Option.bind_eq_some_iff.1 hq
 simp only [cz] at hq
 obtain ⟨q1,hs1,hq⟩:=Option.bind_eq_some_iff.1 hq
 simp at hq;subst hq
 have k4:=(cr.1 hs1).2
 by_cases h:l[b-1].2.2.1=1
 ·exact h
 ·rw [if_neg h] at k4;simp at k4
theorem FJ {x:ak} {c:Int} (hx:bV x=true) (h2:x.2.2.1≠2) (hc:ae c=0):bV (tH x c)=true/\(tH x c).2.2=x.2.2:=by
 have hc0:c≠0:=by intro e;subst e;have:ae 0 = -1:=by decide +kernel
                  omega
 have hs:(tH x c).2.2=x.2.2/\(tH x c).1=x.1:=by
  unfold tH;split
  ·exact ⟨rfl,rfl⟩
  ·split <;> exact ⟨rfl,rfl⟩
 refine ⟨?_,hs.1⟩
 unfold bV at hx ⊢
 rw [hs.1,hs.2]
 have hb:((x.2.2.1==0)||(x.2.2.1==1))=true:=by
  cases hb:((x.2.2.1==0)||(x.2.2.1==1)) with
  | true=>rfl
  | false=>
   rw [hb] at hx
   simp only [cond_false,Bool.and_eq_true,beq_iff_eq] at hx
   exact absurd hx.1 h2
 rw [hb] at hx ⊢
 simp only [cond_true,Bool.and_eq_true] at hx ⊢
 refine ⟨hx.1,hx.2.1,?_⟩
 have hm:=hx.2.2
 unfold lG at hm ⊢
 unfold tH
 by_cases m0:x.2.1.1=0
 ·rw [m0] at hm
  simp only [beq_self_eq_true,cond_true] at hm
  rw [if_pos m0]
  have:(c==0)=false:=by simpa using hc0
  simp only [this,cond_false,hc,beq_self_eq_true,hm,Bool.true_or,Bool.and_self]
 ·rw [if_neg m0]
  have e0:(x.2.1.1==0)=false:=by simpa using m0
  rw [e0] at hm
  simp only [cond_false,Bool.and_eq_true] at hm
  split
  ·rename_i m1
   simp only [e0,cond_false,hm.1,hc,beq_self_eq_true,Bool.or_true,Bool.and_self]
  ·simp only [e0,cond_false,Bool.and_eq_true]
   exact hm
theorem vH {l:List ak} {a:Nat} (hl:seg l) (ha:a<l.length):∃x,l[l7 l a]?=some x/\x.2.2.1≠2:=by
 have hx:l[a]?=some l[a]:=List.getElem?_eq_getElem ha
 unfold l7
 rw [hx]
 simp only
 split
 ·rename_i h2
  obtain ⟨_,y,h3,h4⟩:=xR hl hx h2
  exact ⟨y,h3,by omega⟩
 ·rename_i h2;exact ⟨_,hx,h2⟩
theorem uV {l:List ak} {a c:Int} (hl:aE l=true):aE (rb l a c)=true/\(rb l a c).length=l.length:=by
 obtain ⟨hn,hs⟩:=bh.1 hl
 unfold rb
 cases h:nb l a c with
 | true=>exact ⟨hl,rfl⟩
 | false=>
  simp only [nb,Bool.or_eq_false_iff,decide_eq_false_iff_not,bne_eq_false_iff_eq] at h
  obtain ⟨x,h1,h2⟩:=vH hs (a:=a.toNat) (by omega)
  obtain ⟨k1,k2⟩:=FJ (GM hs h1) h2 h.2.2
  simp only [cond_false,zq,h1]
  exact ⟨bh.2 ⟨by simpa using hn,ID hs h1 k1 k2⟩,by simp⟩
theorem Ce {l:List ak} {a c:Int} {p:PenT} (hl:aE l=true) (hp:aO p=true):aE (putM l a c p)=true/\(putM l a c p).length=l.length:=by
 obtain ⟨hn,hs⟩:=bh.1 hl
 have hr:=n7 c
 have hlen:(putM l a c p).length=l.length:=by
  unfold putM
  cases (decide (ae c<1)||(decide (a<0)||decide (a>l.length-ae c))) with
  | true=>rfl
  | false=>
   cases (ae c==2) <;> simp [aF]
 refine ⟨bh.2 ⟨by omega,?_⟩,hlen⟩
 unfold putM
 cases hb:(decide (ae c<1)||(decide (a<0)||decide (a>l.length-ae c))) with
 | true=>exact hs
 | false=>
  simp only [Bool.or_eq_false_iff,decide_eq_false_iff_not] at hb
  obtain ⟨h1,h2,h3⟩:=hb
  simp only [cond_false]
  obtain ⟨A,rfl⟩:∃k:Nat,a=k:=⟨a.toNat,by omega⟩
  have hm0:lG (0,0)=true:=by rfl
  rcases (by omega:ae c=1\/ae c=2) with hc | hc
  ·rw [hc] at h3 ⊢
   simp only [show ((1:Int)==2)=false from rfl,cond_false,Int.toNat_natCast]
   obtain ⟨a1,a2,_,_⟩:=pq hs (a:=A) (b:=A+1) (by omega) (by omega)
   have e:((A+1:Nat):Int)=(A:Int)+1:=by omega
   rw [e] at a1 a2
   have hlt:A<(aH (aH l A) ((A:Int)+1)).length:=by rw [aF,aF];omega
   rw [List.set_eq_take_append_cons_drop,if_pos hlt]
   have hcell:bV (c,(0,0),1-1,p)=true:=by
    unfold bV
    simp [hp,hc,hm0]
   refine ig a1 (ig (a:=[(c,(0,0),1-1,p)]) ?_ a2)
   unfold seg
   rw [cz,cr.2 ⟨⟨hcell,rfl,by simp⟩,rfl⟩]
   rfl
  ·rw [hc] at h3 ⊢
   simp only [show ((2:Int)==2)=true from rfl,cond_true,Int.toNat_natCast]
   obtain ⟨a1,a2,_,_⟩:=pq hs (a:=A) (b:=A+2) (by omega) (by omega)
   have e:((A+2:Nat):Int)=(A:Int)+2:=by omega
   rw [e] at a1 a2
   have hlt:A<(aH (aH l A) ((A:Int)+2)).length:=by rw [aF,aF];omega
   have hlt2:A+1<((aH (aH l A) ((A:Int)+2)).set A (c,(0,0),2-1,p)).length:=by simp [aF];omega
   rw [List.set_eq_take_append_cons_drop (i:=A+1),if_pos hlt2,List.take_set,List.drop_set_of_lt (by omega)]
   have hcell:bV (c,(0,0),2-1,p)=true:=by
    unfold bV
    simp [hp,hc,hm0]
   have hcell2:bV (0,(0,0),2,p)=true:=by
    unfold bV
    simp [hp]
   have et:((aH (aH l A) ((A:Int)+2)).take (A+1)).set A (c,(0,0),2-1,p)=(aH (aH l A) ((A:Int)+2)).take A++[(c,(0,0),2-1,p)]:=by
    rw [List.take_succ_eq_append_getElem hlt,List.set_append_right _ _ (by rw [List.length_take];exact Nat.min_le_left _ _)]
    have:A-(List.take A (aH (aH l A) ((A:Int)+2))).length=0:=by rw [List.length_take];omega
    rw [this];rfl
   rw [et,List.append_assoc]
   refine ig a1 (ig (a:=[(c,(0,0),2-1,p),(0,(0,0),2,p)]) ?_ a2)
   unfold seg
   rw [cz,cr.2 ⟨⟨hcell,rfl,by simp⟩,rfl⟩]
   simp only [Option.bind_some]
   rw [cz,cr.2 ⟨⟨hcell2,rfl,fun q hq=>by simpa using hq.symm⟩,rfl⟩]
   rfl
end Go.SH
namespace Go.SH
open IntKind (i64 u64 i32 u8)
theorem F3 {m:List ak} {a k n:Nat} {p:PenT} (h:k=n):cpy m a (aT k p) (min (aT k p).length n)=m.take a++(aT k p++m.drop (a+k)):=by
 subst h
 unfold cpy
 rw [bw,Nat.min_self,List.take_of_length_le (l:=aT k p) (by rw [bw];exact Nat.le_refl _)]
theorem Jg {α:Type} {X D B:List α} {n K:Nat} (hX:X.length=n) (hD:D.length=K) (hB:B.length=K):cpy (X++D) n B K=X++B:=by
 unfold cpy
 rw [List.take_left' hX,List.take_of_length_le (l:=B) (by omega),List.drop_eq_nil_of_le (as:=X++D) (by simp;omega),List.append_nil]
theorem C4 {l:List ak} {f t:Int} {p:PenT} (hl:aE l=true) (hp:aO p=true):eJ l f t p=some (gc l f t p):=by
 have hlen:=gE hl
 unfold eJ gc im
 simp only [hO,hl,dv,hp,cond_true,Option.bind_some,Bool.not_true,cond_false]
 rw [lc hlen]
 simp only [Option.bind_some]
 have eF:(if f>(0:Int) then f else (0:Int))=low0 f:=rfl
 have eT:(if (l.length:Int)<t then (l.length:Int) else t)=hiL l t:=rfl
 simp only [eF,eT]
 have h1:=DJ f
 have h2:=Hp l t
 generalize low0 f=F at *
 generalize hiL l t=T at *
 by_cases h:F>=T
 ·rw [ao h,if_pos h]
  simp only [cond_true,Option.bind_some]
  rw [ac trivial]
 ·rw [au h,if_neg h]
  obtain ⟨F,rfl⟩:∃k:Nat,F=k:=⟨F.toNat,by omega⟩
  obtain ⟨T,rfl⟩:∃k:Nat,T=k:=⟨T.toNat,by omega⟩
  simp only [cond_false,Option.bind_some,Int.toNat_natCast]
  rw [ac trivial,lC hlen]
  simp only [Option.bind_some]
  rw [ac (aF _ _).symm,lC (by rw [aF];exact hlen)]
  simp only [Option.bind_some]
  rw [ac (by omega),ag (by omega),show (T:Int)-(F:Int)=((T-F:Nat):Int) from by omega,gK (by omega) hp]
  simp only [Option.bind_some]
  have ec:cpy (aH (aH l (F:Int)) (T:Int)) F (aT (T-F) p) (min (aT (T-F) p).length (T-F))=_:=F3 rfl
  simp only [ec]
  rw [ac (by rw [aF,aF];omega),ac (by simp only [List.length_append,List.length_take,List.length_drop,bw,aF];omega)]
  unfold rW
  rw [show F+(T-F)=T from by omega]
theorem z7 {l:List ak} {a n:Int} {p:PenT} (hl:aE l=true) (hp:aO p=true):de l a n p=some (gq l a n p):=by
 have hlen:=gE hl
 unfold de gq im
 simp only [hO,hl,dv,hp,cond_true,Option.bind_some,Bool.not_true,cond_false]
 rw [lc hlen]
 simp only [Option.bind_some]
 have eC:((bif decide (n<1) then some true else bif decide (a<0) then some true else bif decide (a>=(l.length:Int)) then some true else some false:Option Bool))=some (kc l a n):=by
  unfold kc
  cases decide (n<1) <;> cases decide (a<0) <;> cases decide (a>=(l.length:Int)) <;> rfl
 rw [eC]
 simp only [Option.bind_some]
 cases h:kc l a n with
 | true=>
  simp only [cond_true]
  rw [ac trivial]
 | false=>
  obtain ⟨h1,h2,h3,h4,h5⟩:=qw h
  simp only [cond_false]
  have e1:i64.wrap ((l.length:Int)-a)=(l.length:Int)-a:=ag (by omega)
  have e2:(if (l.length:Int)-a<n then (l.length:Int)-a else n)=nY l a n:=rfl
  simp only [e1,e2]
  generalize nY l a n=K at *
  obtain ⟨A,rfl⟩:∃k:Nat,a=k:=⟨a.toNat,by omega⟩
  obtain ⟨K,rfl⟩:∃k:Nat,K=k:=⟨K.toNat,by omega⟩
  have e3:i64.wrap ((l.length:Int)-(K:Int))=((l.length-K:Nat):Int):=by rw [ag (by omega)];omega
  have e4:i64.wrap ((A:Int)+(K:Int))=((A+K:Nat):Int):=by rw [ag (by omega)];omega
  simp only [e3,e4,Int.toNat_natCast]
  rw [ac trivial,lC hlen]
  simp only [Option.bind_some]
  rw [ac (aF _ _).symm,lC (by rw [aF];exact hlen)]
  simp only [Option.bind_some]
  have hm:(aH (aH l (A:Int)) ((l.length-K:Nat):Int)).length=l.length:=by rw [aF,aF]
  unfold oP
  generalize aH (aH l (A:Int)) ((l.length-K:Nat):Int)=m at *
  rw [ac (by omega),ac (by omega),ac (by omega),ac (by omega),ac (by omega),gK (by omega) hp]
  simp only [Option.bind_some]
  have hx:(List.take (l.length-A) (List.drop A m)).length=l.length-A:=by simp [hm]
  simp only [hx]
  have hmin:min (l.length-A) (l.length-(A+K))=l.length-(A+K):=by omega
  simp only [hmin]
  have hmin2:min (aT K p).length (l.length-A)=K:=by rw [bw];omega
  simp only [hmin2]
  have ec:cpy m (A+K) (List.take (l.length-A) (List.drop A m)) (l.length-(A+K))=m.take (A+K)++(m.drop A).take (l.length-K-A):=by
   unfold cpy
   rw [List.take_take,List.drop_eq_nil_of_le (as:=m) (i:=A+K+(l.length-(A+K))) (by omega),List.append_nil]
   congr 2;omega
  simp only [ec]
  have ec2:cpy (m.take (A+K)++(m.drop A).take (l.length-K-A)) A (aT K p) K=m.take A++(aT K p++(m.drop A).take (l.length-K-A)):=by
   unfold cpy
   rw [List.take_append_of_le_length (by simp [hm];omega),List.take_take,List.take_of_length_le (l:=aT K p) (by rw [bw];exact Nat.le_refl _)]
   rw [List.drop_append,List.drop_eq_nil_of_le (by simp;omega),List.nil_append]
   have e5:A+K-(m.take (A+K)).length=0:=by rw [List.length_take];omega
   rw [e5,List.drop_zero]
   congr 2;omega
  simp only [ec2]
  rw [ac (by simp [hm];omega),ac (by simp [hm,bw];omega)]
theorem Ge {l:List ak} {a n:Int} {p:PenT} (hl:aE l=true) (hp:aO p=true):fw l a n p=some (lK l a n p):=by
 have hlen:=gE hl
 unfold fw lK im
 simp only [hO,hl,dv,hp,cond_true,Option.bind_some,Bool.not_true,cond_false]
 rw [lc hlen]
 simp only [Option.bind_some]
 have eC:((bif decide (n<1) then some true else bif decide (a<0) then some true else bif decide (a>=(l.length:Int)) then some true else some false:Option Bool))=some (kc l a n):=by
  unfold kc
  cases decide (n<1) <;> cases decide (a<0) <;> cases decide (a>=(l.length:Int)) <;> rfl
 rw [eC]
 simp only [Option.bind_some]
 cases h:kc l a n with
 | true=>
  simp only [cond_true]
  rw [ac trivial]
 | false=>
  obtain ⟨h1,h2,h3,h4,h5⟩:=qw h
  simp only [cond_false]
  have e1:i64.wrap ((l.length:Int)-a)=(l.length:Int)-a:=ag (by omega)
  have e2:(if (l.length:Int)-a<n then (l.length:Int)-a else n)=nY l a n:=rfl
  simp only [e1,e2]
  generalize nY l a n=K at *
  obtain ⟨A,rfl⟩:∃k:Nat,a=k:=⟨a.toNat,by omega⟩
  obtain ⟨K,rfl⟩:∃k:Nat,K=k:=⟨K.toNat,by omega⟩
  have e3:i64.wrap ((l.length:Int)-(K:Int))=((l.length-K:Nat):Int):=by rw [ag (by omega)];omega
  have e4:i64.wrap ((A:Int)+(K:Int))=((A+K:Nat):Int):=by rw [ag (by omega)];omega
  simp only [e3,e4,Int.toNat_natCast]
  rw [ac trivial,lC hlen]
  simp only [Option.bind_some]
  rw [ac (aF _ _).symm,lC (by rw [aF];exact hlen)]
  simp only [Option.bind_some]
  have hm:(aH (aH l (A:Int)) ((A+K:Nat):Int)).length=l.length:=by rw [aF,aF]
  unfold oS
  generalize aH (aH l (A:Int)) ((A+K:Nat):Int)=m at *
  rw [ac (by omega),ac (by omega),ac (by omega),ac (by omega),ac (by omega),gK (by omega) hp]
  simp only [Option.bind_some]
  have hx:(List.take (l.length-(A+K)) (List.drop (A+K) m)).length=l.length-(A+K):=by simp [hm]
  simp only [hx]
  have hmin:min (l.length-(A+K)) (l.length-A)=l.length-(A+K):=by omega
  simp only [hmin]
  have ec:cpy m A (List.take (l.length-(A+K)) (List.drop (A+K) m)) (l.length-(A+K))=(m.take A++m.drop (A+K))++m.drop (l.length-K):=by
   unfold cpy
   rw [List.take_take,Nat.min_self,List.take_of_length_le (l:=List.drop (A+K) m) (by simp [hm]),<-List.append_assoc]
   congr 2;omega
  simp only [ec]
  have hmin2:min (aT K p).length (l.length-(l.length-K))=K:=by rw [bw];omega
  simp only [hmin2]
  have ec2:cpy ((m.take A++m.drop (A+K))++m.drop (l.length-K)) (l.length-K) (aT K p) K=(m.take A++m.drop (A+K))++aT K p:=Jg (by simp [hm];omega) (by simp [hm];omega) (bw _ _)
  simp only [ec2]
  rw [ac (by simp [hm];omega),ac (by simp [hm,bw];omega),List.append_assoc]
theorem K1 {l:List ak} {n:Nat} (hl:aE l=true) (hn:n<=1000):jU l (n:Int)=some (fitM l n):=by
 have hlen:=gE hl
 have hp:aO (0,0,0)=true:=by decide
 unfold jU fitM
 simp only [hO,hl,Option.bind_some,Bool.not_true,cond_false]
 rw [au (by omega:¬(n:Int)<0),au (by omega:¬(n:Int)>1000)]
 simp only [cond_false,Option.bind_some]
 rw [lc hlen]
 simp only [Option.bind_some]
 rw [ac trivial,lC hlen]
 simp only [Option.bind_some]
 have e:(if (l.length:Int)<(n:Int) then (l.length:Int) else (n:Int))=((min n l.length:Nat):Int):=by split <;> omega
 simp only [e,Int.toNat_natCast]
 rw [ac (by omega),ag (by omega),show (n:Int)-((min n l.length:Nat):Int)=((n-min n l.length:Nat):Int) from by omega,gK (by omega) hp]
 simp only [Option.bind_some,List.drop_zero]
 rw [ac (by rw [aF];omega),ac (by simp only [List.length_append,List.length_take,bw,aF];unfold aS;omega),ac trivial]
theorem Gb {l:List ak} {b:Nat} {c:Int} {x:ak} (hb:b<l.length) (hlen:l.length<=1000) (hx:l[b]?=some x):ap (bP x (b:Int) l c) 0=some (zq l b c):=by
 have hreq:0<=(b:Int)/\(b:Int)<((l.length:Nat):Int):=by omega
 have s0:bP x (b:Int) l c 0=some (if x.2.1.1=0 then .inl (l.set b (x.1,(c,x.2.1.2),x.2.2)) else .inr 1):=by
  unfold bP
  by_cases h:x.2.1.1=0
  ·simp [h,hx];exact ac hb
  ·have:(x.2.1.1==0)=false:=by simpa using h
   simp [h,this];rfl
 have s1:bP x (b:Int) l c 1=some (if x.2.1.2=0 then .inl (l.set b (x.1,(x.2.1.1,c),x.2.2)) else .inr 2):=by
  unfold bP
  by_cases h:x.2.1.2=0
  ·simp [h,hx];exact ac hb
  ·have:(x.2.1.2==0)=false:=by simpa using h
   simp [h,this];rfl
 have s2:bP x (b:Int) l c 2=some (.inl l):=by
  unfold bP
  simp
 have hset:l.set b x=l:=by
  obtain ⟨_,e⟩:=List.getElem?_eq_some_iff.1 hx
  rw [<-e,List.set_getElem_self]
 unfold zq
 rw [hx]
 simp only [tH]
 rw [aj,s0]
 by_cases h0:x.2.1.1=0
 ·simp only [if_pos h0]
 ·simp only [if_neg h0]
  rw [aj,s1]
  by_cases h1:x.2.1.2=0
  ·simp only [if_pos h1]
  ·simp only [if_neg h1]
   rw [aj,s2,hset]
theorem Jy {l:List ak} {a c:Int} (hl:aE l=true):iZ l a c=some (rb l a c):=by
 obtain ⟨hlen,hs⟩:=bh.1 hl
 unfold iZ rb
 simp only [hO,hl,Option.bind_some,Bool.not_true,cond_false]
 rw [lc hlen]
 simp only [Option.bind_some,jk]
 have eC:((bif decide (a<0) then some true else bif decide (a>=(l.length:Int)) then some true else bif ae c !=0 then some true else some false:Option Bool))=some (nb l a c):=by
  unfold nb
  cases decide (a<0) <;> cases decide (a>=(l.length:Int)) <;> cases (ae c !=0) <;> rfl
 rw [eC]
 simp only [Option.bind_some]
 cases h:nb l a c with
 | true=>
  simp only [cond_true]
  rw [ac trivial]
 | false=>
  simp only [nb,Bool.or_eq_false_iff,decide_eq_false_iff_not,bne_eq_false_iff_eq] at h
  obtain ⟨A,rfl⟩:∃k:Nat,a=k:=⟨a.toNat,by omega⟩
  have hA:A<l.length:=by omega
  simp only [cond_false,aP,List.getElem?_eq_getElem hA,Option.bind_some,Int.toNat_natCast]
  obtain ⟨x,k1,k2⟩:=vH hs hA
  have hlt:l7 l A<l.length:=(List.getElem?_eq_some_iff.1 k1).1
  have eA:((bif l[A].2.2.1==2 then some true else some false:Option Bool).bind fun x13=>bif x13 then some (i64.wrap ((A:Int)-1)) else some (A:Int))=some ((l7 l A:Nat):Int):=by
   unfold l7
   rw [List.getElem?_eq_getElem hA]
   by_cases h2:l[A].2.2.1=2
   ·have h0:=(xR hs (List.getElem?_eq_getElem hA) h2).1
    simp only [h2,beq_self_eq_true,cond_true,Option.bind_some,if_true]
    rw [ag (by omega)]
    congr 1;omega
   ·have:(l[A].2.2.1==2)=false:=by simpa using h2
    simp only [this,cond_false,Option.bind_some,if_neg h2]
  rw [eA]
  simp only [Option.bind_some,Int.toNat_natCast]
  rw [ac (by omega),k1]
  simp only [Option.bind_some]
  rw [Gb hlt hlen k1]
  simp only [Option.bind_some]
  rw [ac (by unfold zq;rw [k1];simp)]
end Go.SH
namespace Go.SH
open IntKind (i64 u64 i32 u8)
theorem nP {α:Type} {step:Int×List α->Option (List α⊕(Int×List α))} {n off N:Nat} {u:Nat->Option α} {g0:List α}
  (hin:∀(k:Nat) (g:List α),k<n->g.length=N->(∀i,off+k<=i->g[i]?=g0[i]?)->step ((k:Int),g)=some (.inr (((k+1:Nat):Int),match u k with | some v=>g.set (k+off) v | none=>g)))
  (hend:∀g:List α,step ((n:Int),g)=some (.inl g)):∀(m k:Nat) (g:List α),k+m=n->g.length=N->(∀i,off+k<=i->g[i]?=g0[i]?) ->
  ∃g',ap step ((k:Int),g)=some g'/\g'.length=N/\∀i,i<N->g'[i]?=if off+k<=i/\i<off+n then (match u (i-off) with | some v=>some v | none=>g[i]?) else g[i]?
 | 0,k,g,hk,hg,_=>by
  have:k=n:=by omega
  subst this
  refine ⟨g,by rw [aj,hend],hg,fun i _=>?_⟩
  rw [if_neg (by omega)]
 | m+1,k,g,hk,hg,hold=>by
  rw [aj,hin k g (by omega) hg hold]
  have hlen:(match u k with | some v=>g.set (k+off) v | none=>g).length=N:=by
   cases u k <;> simp [hg]
  have hget:∀i,i≠k+off->(match u k with | some v=>g.set (k+off) v | none=>g)[i]?=g[i]?:=fun i hi=>by
   cases u k with
   | none=>rfl
   | some v=>simp only;rw [List.getElem?_set_ne (by omega)]
  obtain ⟨g',h1,h2,h3⟩:=nP hin hend m (k+1) (match u k with | some v=>g.set (k+off) v | none=>g) (by omega) hlen fun i hi=>by rw [hget i (by omega)];exact hold i (by omega)
  refine ⟨g',h1,h2,fun i hi=>?_⟩
  rw [h3 i hi]
  by_cases e:i=k+off
  ·subst e
   rw [if_neg (by omega),if_pos (by omega),show k+off-off=k from by omega]
   cases u k with
   | none=>rfl
   | some v=>simp only;rw [List.getElem?_set_self (by omega)]
  ·by_cases e2:off+k<=i/\i<off+n
   ·rw [if_pos (by omega),if_pos e2,hget i e]
   ·rw [if_neg (by omega),if_neg e2,hget i e]
theorem nz {R α:Type} {a:α} {i:Decidable (a=a)} {k:Option R}:@req R (a=a) i k=k:=ac rfl
theorem aJ {R:Type} {i:Decidable True} {k:Option R}:@req R True i k=k:=ac trivial
def gok (g:aA) (R C:Nat):Prop:=g.length=R/\∀l∈g,l.length=C/\aE l=true
def szR (R C:Nat):Prop:=1<=R/\R<=200/\1<=C/\C<=200
theorem jy {g:aA} {R C:Nat} (h:gok g R C) (hs:szR R C):cU g=C:=by
 cases g with
 | nil=>have:=h.1;simp at this;unfold szR at hs;omega
 | cons l r=>exact (h.2 l (by simp)).1
theorem tS {g:aA} {R C:Nat} (h:gok g R C) (hs:szR R C):gT g=true:=by
 have hw:=jy h hs
 unfold szR at hs
 unfold gT
 rw [hw,h.1,ao (by omega:1<=R/\R<=200),ao (by omega:1<=C/\C<=200)]
 simp only [Bool.true_and,List.all_eq_true,Bool.and_eq_true,beq_iff_eq]
 exact h.2
theorem IY {g:aA} (h:gT g=true):∃R C,szR R C/\gok g R C:=by
 simp only [gT,Bool.and_eq_true,decide_eq_true_eq,List.all_eq_true,beq_iff_eq] at h
 exact ⟨g.length,cU g,⟨h.1.1,h.1.2,h.2.1.1,h.2.1.2⟩,rfl,h.2.2⟩
theorem w5 {g:aA} {rows cols:Int}:jF g rows cols=true<->∃R C:Nat,rows=R/\cols=C/\szR R C/\gok g R C:=by
 unfold jF
 simp only [Bool.and_eq_true,beq_iff_eq]
 constructor
 ·rintro ⟨h1,h2,h3⟩
  obtain ⟨R,C,hs,hg⟩:=IY h1
  exact ⟨R,C,by rw [<-h2,hg.1],by rw [<-h3,jy hg hs],hs,hg⟩
 ·rintro ⟨R,C,rfl,rfl,hs,hg⟩
  exact ⟨tS hg hs,by rw [hg.1],by rw [jy hg hs]⟩
theorem yp {R C:Nat} {p:PenT} (hp:aO p=true) (hs:szR R C):gok (dE R C p) R C:=by
 unfold dE szR at *
 refine ⟨by simp,fun l hl=>?_⟩
 rw [(List.mem_replicate.1 hl).2]
 exact ⟨bw _ _,bh.2 ⟨by rw [bw];omega,jl hp _⟩⟩
theorem fR {g:aA} {R C:Nat} (h:gok g R C) {i:Nat} (hi:i<R):∃l,g[i]?=some l/\l.length=C/\aE l=true:=by
 have hi':i<g.length:=by rw [h.1];exact hi
 exact ⟨g[i],List.getElem?_eq_getElem hi',(h.2 _ (List.getElem_mem hi')).1,(h.2 _ (List.getElem_mem hi')).2⟩
theorem I4 {g:aA} {R C:Nat} (h:gok g R C) {i:Nat} {l:List ak} (hl:l.length=C/\aE l=true):gok (g.set i l) R C:=
 ⟨by simp [h.1],fun x hx=>by
  rcases List.mem_or_eq_of_mem_set hx with h1 | rfl
  ·exact h.2 x h1
  ·exact hl⟩
theorem Hr {g:aA} {R C:Nat} (h1:g.length=R) (h2:∀(i:Nat) l,g[i]?=some l->l.length=C/\aE l=true):gok g R C:=
 ⟨h1,fun l hl=>let ⟨i,hi⟩:=List.getElem?_of_mem hl;h2 i l hi⟩
theorem vQ {g:aA} (hg:g.length<=200) (hl:∀l∈g,l.length<=1000):gF g=some g:=by
 unfold gF
 simp only [Int.toNat_natCast]
 rw [ac (by unfold aS;omega)]
 obtain ⟨g',h1,h2,h3⟩:=nP (step:=dt g) (n:=g.length) (off:=0) (N:=g.length) (u:=fun k=>g[k]?) (g0:=List.replicate g.length [])
  (fun k x hk hx hold=>by
   unfold dt
   rw [ao (by omega:(k:Int)<((g.length:Nat):Int))]
   simp only [Option.bind_some,cond_true,Int.toNat_natCast,List.getElem?_eq_getElem hk]
   rw [ac (by omega),vV,lc (hl _ (List.getElem_mem hk))]
   simp only [Option.bind_some]
   rw [ac (by omega),List.getElem?_eq_getElem (by omega:k<x.length)]
   simp only [Option.bind_some]
   rw [ag (by omega)];rfl)
  (fun x=>by unfold dt;simp) g.length 0 (List.replicate g.length []) (by omega) (by simp) (fun _ _=>rfl)
 have e:ap (dt g) (0,List.replicate g.length [])=some g':=h1
 rw [e]
 simp only [Option.bind_some]
 have:g'=g:=by
  refine List.ext_getElem? fun i=>?_
  by_cases hi:i<g.length
  ·rw [h3 i hi,if_pos (by omega)]
   simp [List.getElem?_eq_getElem hi]
  ·rw [List.getElem?_eq_none (by omega),List.getElem?_eq_none (by omega)]
 rw [this,ac rfl]
theorem HE {α:Type} {X D:List α} {n:Nat} (h:X.length<=n):(X++D).drop n=D.drop (n-X.length):=by
 rw [List.drop_append,List.drop_eq_nil_of_le h,List.nil_append]
def kz (h:Nat) (n:Int):Int:=if (if (h:Int)<n then (h:Int) else n) > -(h:Int) then (if (h:Int)<n then (h:Int) else n) else -(h:Int)
theorem ym (h:Nat) (n:Int):-(h:Int)<=kz h n/\kz h n<=h:=by
 unfold kz
 split
 ·split <;> omega
 ·omega
def jG (g:aA) (T B:Nat) (k:Int) (b:List ak):aA:=
 let h:=B+1-T
 if 0<=k then g.take T++(((g.drop T).take h).drop k.toNat++(List.replicate k.toNat b++g.drop (B+1)))
 else g.take T++(List.replicate (-k).toNat b++(((g.drop T).take (h-(-k).toNat))++g.drop (B+1)))
def qf (g:aA) (T B:Nat) (n:Int) (p:PenT):aA:=jG g T B (kz (B+1-T) n) (aT (cU g) p)
theorem uX:hU=fP:=rfl
theorem oq {g:aA} {T B:Nat} {k:Int} {b:List ak} (h1:T<=B) (h2:B<g.length) (h3:-((B+1-T:Nat):Int)<=k/\k<=((B+1-T:Nat):Int)):(jG g T B k b).length=g.length:=by
 unfold jG
 simp only
 split
 ·simp only [List.length_append,List.length_take,List.length_drop,List.length_replicate];omega
 ·simp only [List.length_append,List.length_take,List.length_drop,List.length_replicate];omega
theorem BV {g:aA} {T B:Nat} {k:Int} {b l:List ak} (h:l∈jG g T B k b):l∈g\/l=b:=by
 unfold jG at h
 simp only at h
 split at h
 ·simp only [List.mem_append] at h
  rcases h with h | h | h | h
  ·exact .inl (List.mem_of_mem_take h)
  ·exact .inl (List.mem_of_mem_drop (List.mem_of_mem_take (List.mem_of_mem_drop h)))
  ·exact .inr (List.mem_replicate.1 h).2
  ·exact .inl (List.mem_of_mem_drop h)
 ·simp only [List.mem_append] at h
  rcases h with h | h | h | h
  ·exact .inl (List.mem_of_mem_take h)
  ·exact .inr (List.mem_replicate.1 h).2
  ·exact .inl (List.mem_of_mem_drop (List.mem_of_mem_take h))
  ·exact .inl (List.mem_of_mem_drop h)
theorem BX {g:aA} {R C T B:Nat} {n:Int} {p:PenT} (hg:gok g R C) (hs:szR R C) (hp:aO p=true) (h1:T<=B) (h2:B<R):gok (qf g T B n p) R C:=by
 unfold qf
 rw [jy hg hs]
 refine ⟨by rw [oq h1 (by rw [hg.1];exact h2) (ym _ _),hg.1],fun l hl=>?_⟩
 rcases BV hl with h | rfl
 ·exact hg.2 l h
 ·unfold szR at hs
  exact ⟨bw _ _,bh.2 ⟨by rw [bw];omega,jl hp _⟩⟩
theorem vT {g x:aA} {off n C:Nat} {p:PenT} (hn:n<=200) (hp:aO p=true) (hx:off+n<=x.length) {b:List ak} (hg:g[0]?=some b) (hb:b.length=C) (hC:C<=200) (hgl:0<g.length) {y:Nat×Nat×aA} (hy1:y.1=off) (hy2:y.2.1=n) :
  ap (cE y g p) (0,x)=some (x.take off++(List.replicate n (aT C p)++x.drop (off+n))):=by
 obtain ⟨g',h1,h2,h3⟩:=nP (step:=cE y g p) (n:=n) (off:=off) (N:=x.length) (u:=fun _=>some (aT C p)) (g0:=x)
  (fun k z hk hz hold=>by
   unfold cE
   rw [hy2,hy1]
   rw [ao (by omega:(k:Int)<((n:Nat):Int))]
   simp only [Option.bind_some,cond_true,Int.toNat_natCast]
   rw [ac (by omega)]
   rw [show (0:Int).toNat=0 from rfl,hg]
   simp only [Option.bind_some,uX,hb]
   rw [gK (by omega) hp]
   simp only [Option.bind_some]
   rw [ac (by omega),List.getElem?_eq_getElem (by omega:k+off<z.length)]
   simp only [Option.bind_some]
   rw [ag (by omega)];rfl)
  (fun z=>by unfold cE;rw [hy2];simp) n 0 x (by omega) rfl (fun _ _=>rfl)
 have e:ap (cE y g p) (0,x)=some g':=h1
 rw [e]
 congr 1
 refine List.ext_getElem? fun i=>?_
 by_cases hi:i<x.length
 ·rw [h3 i hi]
  by_cases h5:i<off
  ·rw [if_neg (by omega),List.getElem?_append_left (by simp;omega),List.getElem?_take_of_lt h5]
  ·rw [List.getElem?_append_right (by simp;omega)]
   have e1:i-(x.take off).length=i-off:=by simp;omega
   rw [e1]
   by_cases h6:i<off+n
   ·rw [if_pos (by omega),List.getElem?_append_left (by simp;omega),List.getElem?_replicate,if_pos (by omega)]
   ·rw [if_neg (by omega),List.getElem?_append_right (by simp;omega),List.getElem?_drop]
    congr 1;simp;omega
 ·rw [List.getElem?_eq_none (by omega),List.getElem?_eq_none (by simp;omega)]
theorem F9 {g:aA} {R C T B:Nat} {n:Int} {p:PenT} (hg:gok g R C) (hs:szR R C) (hp:aO p=true) (h1:T<=B) (h2:B<R) (hn:-1000000<=n/\n<=1000000):jg (T:Int) (B:Int) n p g=some (qf g T B n p):=by
 have hm:=tS hg hs
 have hlen:g.length=R:=hg.1
 have hsz:=hs
 unfold szR at hsz
 obtain ⟨b,hb1,hb2,hb3⟩:=fR hg (i:=0) (by omega)
 unfold jg qf
 rw [jy hg hs]
 rw [nz,mG (by omega),hm]
 simp only [dv,hp,Option.bind_some,Bool.not_true,cond_false,nz,aJ]
 rw [vQ (by omega) (fun l hl=>by have:=(hg.2 l hl).1;omega)]
 simp only [Option.bind_some]
 rw [au (by omega:¬(T:Int)<0),au (by omega:¬(T:Int)>(B:Int)),au (by omega:¬(B:Int)>=((g.length:Nat):Int))]
 simp only [cond_false,Option.bind_some]
 have e1:i64.wrap ((B:Int)+1)=((B+1:Nat):Int):=by rw [ag (by omega)];omega
 simp only [e1,Int.toNat_natCast]
 rw [ac (by omega)]
 obtain ⟨h,hh⟩:∃h,B+1-T=h:=⟨_,rfl⟩
 have e2:i64.wrap ((0:Int)-((h:Nat):Int)) = -(h:Int):=by rw [ag (by omega)];omega
 simp only [hh,e2]
 have e3:(if (if ((h:Nat):Int)<n then ((h:Nat):Int) else n) > -(h:Int) then (if ((h:Nat):Int)<n then ((h:Nat):Int) else n) else -(h:Int))=kz h n:=rfl
 simp only [e3]
 have hK:=ym h n
 generalize kz h n=K at *
 by_cases hK0:0<=K
 ·obtain ⟨k,rfl⟩:∃k:Nat,K=k:=⟨K.toNat,by omega⟩
  rw [ao (by omega:((k:Nat):Int)>=0)]
  have e4:i64.wrap (((h:Nat):Int)-(k:Int))=((h-k:Nat):Int):=by rw [ag (by omega)];omega
  simp only [cond_true,Option.bind_some,Int.toNat_natCast,e4]
  rw [ac (by omega),ac (by omega),ac (by omega),ac (by omega)]
  simp only [Option.bind_some]
  have hx:(List.take (h-k) (List.drop (k+T) g)).length=h-k:=by simp;omega
  have ec:cpy g T (List.take (h-k) (List.drop (k+T) g)) (min (List.take (h-k) (List.drop (k+T) g)).length h)=g.take T++((g.drop (k+T)).take (h-k)++g.drop (T+(h-k))):=by
   unfold cpy
   rw [hx,Nat.min_eq_left (by omega),List.take_take,Nat.min_self]
  simp only [ec]
  rw [vT (C:=C) (off:=h-k+T) (n:=k) (by omega) hp (by simp;omega) hb1 hb2 (by omega) (by omega) rfl (by simp only;omega)]
  simp only [Option.bind_some]
  have fin:List.take (h-k+T) (g.take T++((g.drop (k+T)).take (h-k)++g.drop (T+(h-k))))++(List.replicate k (aT C p)++List.drop (h-k+T+k) (g.take T++((g.drop (k+T)).take (h-k)++g.drop (T+(h-k)))))=jG g T B (k:Int) (aT C p):=by
   unfold jG
   simp only [hh,Int.toNat_natCast]
   rw [if_pos (by omega)]
   have l1:(g.take T++(g.drop (k+T)).take (h-k)).length=h-k+T:=by simp;omega
   have eA:g.take T++((g.drop (k+T)).take (h-k)++g.drop (T+(h-k)))=(g.take T++(g.drop (k+T)).take (h-k))++g.drop (T+(h-k)):=(List.append_assoc _ _ _).symm
   rw [eA,List.take_left' l1,HE (by rw [l1];omega),l1,List.drop_drop,List.append_assoc]
   congr 2
   ·rw [List.drop_take,List.drop_drop];congr 2;omega
   ·congr 2;omega
  rw [fin,ac (oq h1 (by omega) (by rw [hh];omega)).symm]
 ·obtain ⟨k,rfl⟩:∃k:Nat,K = -(k:Int):=⟨(-K).toNat,by omega⟩
  rw [au (by omega:¬(-(k:Int))>=0)]
  have e4:i64.wrap ((0:Int) - -(k:Int))=((k:Nat):Int):=by rw [ag (by omega)];omega
  simp only [cond_false,Option.bind_some,e4,Int.toNat_natCast]
  rw [ac (by omega),ac (by omega),ac (by omega),ac (by omega)]
  simp only [Option.bind_some]
  have hx:(List.take h (List.drop T g)).length=h:=by simp;omega
  have ec:cpy g (k+T) (List.take h (List.drop T g)) (min (List.take h (List.drop T g)).length (h-k))=g.take (k+T)++((g.drop T).take (h-k)++g.drop (T+h)):=by
   unfold cpy
   rw [hx,Nat.min_eq_right (by omega),List.take_take]
   congr 2
   ·congr 1;omega
   ·congr 1;omega
  simp only [ec]
  rw [vT (C:=C) (off:=0+T) (n:=k) (by omega) hp (by simp;omega) hb1 hb2 (by omega) (by omega) rfl rfl]
  simp only [Option.bind_some]
  have fin:List.take (0+T) (g.take (k+T)++((g.drop T).take (h-k)++g.drop (T+h)))++(List.replicate k (aT C p)++List.drop (0+T+k) (g.take (k+T)++((g.drop T).take (h-k)++g.drop (T+h))))=jG g T B (-(k:Int)) (aT C p):=by
   unfold jG
   simp only [hh,Int.neg_neg,Int.toNat_natCast]
   rw [if_neg (by omega)]
   have l1:(g.take (k+T)).length=0+T+k:=by simp;omega
   rw [List.drop_left' l1,List.take_append_of_le_length (by rw [l1];omega),List.take_take,show min (0+T) (k+T)=T from by omega,show T+h=B+1 from by omega]
  rw [fin,ac (oq h1 (by omega) (by rw [hh];omega)).symm]
end Go.SH
