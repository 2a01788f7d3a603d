/-
  What the row needs, part 8.
-/
import Derived.Test.YtmeahimfdhdggaaGreatDoorXFrameBack7
import Derived.Test.YtmeahimfdhdggaaGreatDoorProg
set_option linter.unusedSimpArgs false
set_option linter.unusedVariables false
set_option linter.unusedSectionVars false
namespace Go.Sh
open Go Go.Proofs
def deBruijnT:List Int:=[0,1,56,2,57,49,28,3,61,58,42,50,38,29,17,4,62,47,59,36,45,43,51,22,53,39,33,30,24,18,12,5,63,55,48,27,60,41,37,16,46,35,44,21,52,32,23,11,54,26,40,15,34,20,31,10,25,14,19,9,13,8,7,6]
instance frameGl:Gl:=⟨fun g => bif Nat.beq g 1 then (.u8,deBruijnT) else (.u8,[])⟩
abbrev shapeT:Ty:=.pair (.int .i64) (.pair (.int .i64) (.pair (.int .i64) .unit))
abbrev frameT:Ty:=.pair (.int .i64) (.pair (.sl (.sl (.int .i64))) .unit)
abbrev ZfY:Ty:=.pair (.sl (.int .i64)) (.pair (.int .i64) .unit)
abbrev ZsF:Ty:=.pair (.int .i64) (.pair (.int .i64) (.pair (.int .i64) (.pair (.sl (.int .i64)) (.pair ZfY (.pair (.sl (.int .i64)) (.pair (.int .i64) .unit))))))
abbrev ZEW:Ty:=.pair (.int .i64) (.pair (.int .i64) (.pair (.int .i64) .unit))
abbrev ZLg:Ty:=.pair (.int .i64) (.pair (.int .i64) (.pair (.sl ZEW) (.pair (.int .i64) .unit)))
theorem Zf3:Tryz.prog.follows .mixedOrders = true:=by kernel_rfl
abbrev Zr (v:Int):AV:=AV.val (PV.v (Value.int IntKind.i64 v))
abbrev Yk (v:List Int):AV:=AV.val (PV.sl (Ty.int IntKind.i64) v)
abbrev avB (v:Bool):AV:=AV.val (PV.v (Value.bool v))
noncomputable abbrev Xq (f:Func):Code:=f.body.getD .skip
noncomputable def WX (k:Nat) (l:List (Nat × Callee)) (live:Nat → List Nat:=fun _ => []):Ctx:={ P:=Tryz.prog,Φ:=phi l,k:=k,live:=live }
def nA:Nat → Ann:=fun _ => ⟨[],[]⟩
noncomputable abbrev ZG (C:Ctx) (A:Nat → Ann) (fn:Func) (pk:List Kd) (rk:Kd) (x:Kd.dens pk):=Zxn C A fn.ntmps (Xq fn) fn.results.toList pk rk (Xe pk x) (ZBI pk rk)
noncomputable abbrev XQ (C:Ctx) (fn:Func) (pk:List Kd) (rk:Kd) (a:List AV) (b:List (List Nat)):=YP C fn.results.toList pk a b rk (ZBI pk rk)
noncomputable def ZMt (fn:Func):Bool:=fn.body.isSome && (!(fn.name == "runtime.NumGoroutine") && XL Tryz.prog fn.ntmps (Xq fn))
abbrev WE (l:List AV):RS:=RS.live (Res.box l)
abbrev rsA (v:List Int) (b:Bool):RS:=RS.live (Res.arr (Ty.int IntKind.i64) v b)
theorem ZH {l:List (Nat × Callee)} {live:Nat → List Nat} {A:Nat → Ann} {f k:Nat} {fn:Func} {pk:List Kd} {rk:Kd} {F:Nat → Kd.dens pk → Option (Ans pk rk)} (hC:∀ f cal,phi l f = some cal → Ctr Tryz.prog k f cal)
  (hf:Tryz.prog.funcs[f]? = some fn) (hq:ZMt fn = true)
  (h:∀ x,ZG (WX k l live) A fn pk rk x = F k x):Ctr Tryz.prog k f (mk pk rk F) :=
 have hq1:(fn.body.isSome && (!(fn.name == "runtime.NumGoroutine") && XL Tryz.prog fn.ntmps (Xq fn))) = true:=hq
 have hq2:=Bool.and_eq_true_iff.1 hq1
 have hq3:=Bool.and_eq_true_iff.1 hq2.2
 have hb:fn.body = some (Xq fn):=by
  cases e:fn.body with
  | none => rw [e] at hq2; exact absurd hq2.1 (by simp)
  | some c => show some c = some (fn.body.getD .skip); rw [e]; rfl
 ZHx (C:=WX k l live) hC Zf3 hf hb (by simpa using hq3.1) hq3.2 (fun x y e => (h x).trans e)
abbrev ZqW:List Kd:=[.view shapeT]
abbrev Zf:Kd:=.view (.int .i64)
noncomputable def ZV (k:Nat):=WX k []
def ZgM (k:Nat):(Int × Int × Int × Unit) × Unit → Option (Int × Unit)
 | ((a0,a1,a2,()),()) => bif decide (a0 < 1) then some (2,()) else bif decide ((2:Int) < a0) then some (2,()) else bif decide (a1 < 4) then some (2,()) else bif decide ((24:Int) < a1) then some (2,()) else bif decide (a2 < 1) then some (2,()) else bif decide ((655350:Int) < a2) then some (2,()) else some (0,())
def ZoT (k:Nat):=ZgM k
theorem ZI7 (k:Nat) (x:Kd.dens ZqW):ZG (ZV k) nA Tryz.f11 ZqW Zf x = ZoT k x:=by
 show _ = ZgM k x
 obtain ⟨⟨a0,⟨a1,⟨a2,⟨⟩⟩⟩⟩,⟨⟩⟩:=x
 kernel_rfl
theorem ZxN (k:Nat):Ctr Tryz.prog k 11 (mk ZqW Zf ZoT) :=
 ZH (fn:=Tryz.f11) (Zi Ze) (by kernel_rfl) (by kernel_rfl) (ZI7 k)
noncomputable abbrev ZH6:Nat × Callee:=(11,mk ZqW Zf ZoT)
abbrev YJ:List Kd:=[.view shapeT,.view frameT]
noncomputable def Zmv (k:Nat):=WX k [ZH6]
def ZxX:Nat → Ann:=fun id => bif Nat.beq id 17 then ⟨[68,69,67,2,63,62,61],[]⟩ else bif Nat.beq id 14 then ⟨[62,63,61,2],[]⟩ else bif Nat.beq id 8 then ⟨[42,43,41,6,3,2],[]⟩ else ⟨[],[]⟩
abbrev ZwF:=Int × Int × List Int × Int × Int × List (List Int) × Int × Int × Int
abbrev Zrs:=ZwF → Option (Int × Unit)
abbrev ZwE:=Int × Int × List (List Int) × Int × Int × Int
abbrev ZiP:=ZwE → Option (Int × Unit)
abbrev ZwD:=Int × Int × List (List Int) × Int × Int × List (List Int) × Int × Int × Int
abbrev Zrr:=ZwD → Option (Int × Unit)
def ZJ2:ZwF → St
 | (v0,v1,v2,v3,v4,v5,v6,v7,v8) => St.mk (ZE [(68,Zr v0),(69,Zr v1),(67,Yk v2),(2,AV.bx 8192 0),(63,Zr v3),(62,Zr v4),(61,AV.val (PV.sl (Ty.int IntKind.i64).sl v5))]) (ZD [(8192,WE [Zr v6,Zr v7,Zr v8])])
def Zbv (k:Nat) (L2:ZiP) (L3:Zrs):Zrs
 | (v0,v1,v2,v3,v4,v5,v6,v7,v8) => bif decide (v1 < v0) then bif decide (0 ≤ v1 ∧ v1 < Int.ofNat v2.length) then bif decide (0 ≤ IntKind.i64.wrap (v7 - 1)) then bif Int.fdiv (v2.getD v1.toNat 0) ((2:Int) ^ min (IntKind.i64.wrap (v7 - 1)).toNat 64) != (0:Int) then bif Int.fdiv (v2.getD v1.toNat 0) ((2:Int) ^ min (IntKind.i64.wrap (v7 - 1)).toNat 64) != (-1:Int) then some (12,()) else L3 (v0,IntKind.i64.wrap (v1 + 1),v2,v3,v4,v5,v6,v7,v8) else L3 (v0,IntKind.i64.wrap (v1 + 1),v2,v3,v4,v5,v6,v7,v8) else none else none else L2 (v4,IntKind.i64.wrap (v3 + 1),v5,v6,v7,v8)
def Zmx (k:Nat) (L2:ZiP):Zrs:=Zs (fun L3 => Zbv k L2 L3) k
noncomputable def ZkS (k:Nat) (n2:Nat) (n:Nat) (v:ZwF):Option (Int × Unit) :=
 ZC (Zmv k) ZxX [] [1,1,1,1,1,0,1,0,0,1,1,0,0,1,1,0] [n2] (Xq Tryz.f23) (XQ (Zmv k) Tryz.f23 YJ Zf [] []) n (ZJ2 v)
def ZJ1:ZwE → St
 | (v0,v1,v2,v3,v4,v5) => St.mk (ZE [(62,Zr v0),(63,Zr v1),(61,AV.val (PV.sl (Ty.int IntKind.i64).sl v2)),(2,AV.bx 8192 0)]) (ZD [(8192,WE [Zr v3,Zr v4,Zr v5])])
def Zbu (k:Nat) (L3:Zrs) (L2:ZiP):ZiP
 | (v0,v1,v2,v3,v4,v5) => bif decide (v1 < v0) then bif decide (0 ≤ v1 ∧ v1 < Int.ofNat v2.length) then L3 (Int.ofNat (List.length (v2.getD v1.toNat [])),(0:Int),v2.getD v1.toNat [],v1,v0,v2,v3,v4,v5) else none else some (0,())
def Zc6 (k:Nat):ZiP:=Zs (fun L2 => Zbu k (Zmx k L2) L2) k
noncomputable def ZgX (k:Nat) (n:Nat) (v:ZwE) :=
 ZC (Zmv k) ZxX [] [1,1,1,1,1,0,1,0] [] (Xq Tryz.f23) (XQ (Zmv k) Tryz.f23 YJ Zf [] []) n (ZJ1 v)
def ZJ0:ZwD → St
 | (v0,v1,v2,v3,v4,v5,v6,v7,v8) => St.mk (ZE [(42,Zr v0),(43,Zr v1),(41,AV.val (PV.sl (Ty.int IntKind.i64).sl v2)),(6,Zr v3),(3,AV.bx 8192 0),(2,AV.bx 8193 0)]) (ZD [(8192,WE [Zr v4,AV.val (PV.sl (Ty.int IntKind.i64).sl v5)]),(8193,WE [Zr v6,Zr v7,Zr v8])])
def Zbt (k:Nat) (L2:ZiP) (L1:Zrr):Zrr
 | (v0,v1,v2,v3,v4,v5,v6,v7,v8) => bif decide (v1 < v0) then bif decide (0 ≤ v1 ∧ v1 < Int.ofNat v2.length) then bif Int.ofNat (List.length (v2.getD v1.toNat [])) != v3 then some (1,()) else bif decide (v3 < 1) then some (1,()) else bif decide ((512:Int) < v3) then some (1,()) else L1 (v0,IntKind.i64.wrap (v1 + 1),v2,v3,v4,v5,v6,v7,v8) else none else L2 (Int.ofNat v5.length,(0:Int),v5,v6,v7,v8)
def Zmw (k:Nat):Zrr:=Zs (fun L1 => Zbt k (Zc6 k) L1) k
noncomputable def ZxY (k:Nat) (n:Nat) (v:ZwD) :=
 ZC (Zmv k) ZxX [] [1,1,1,1,0,1,0] [] (Xq Tryz.f23) (XQ (Zmv k) Tryz.f23 YJ Zf [] []) n (ZJ0 v)
def ZgY (k:Nat) (L1:Zrr):(Int × Int × Int × Unit) × (Int × List (List Int) × Unit) × Unit → Option (Int × Unit)
 | ((a0,a1,a2,()),(a3,a4,()),()) => (ZoT k ((a0,a1,a2,()),())).bind fun y => bif y.1 != 0 then some (y.1,()) else bif decide (a3 < 0) then some (1,()) else bif decide ((2147483647:Int) < a3) then some (1,()) else bif Int.ofNat a4.length != a0 then some (1,()) else bif decide ((0:Int) ≤ 0 ∧ (0:Int) < Int.ofNat a4.length) then L1 (Int.ofNat a4.length,(0:Int),a4,Int.ofNat (List.length (a4.getD 0 [])),a3,a4,a0,a1,a2) else none
def Zfc (k:Nat):=ZgY k (Zmw k)
theorem ZDr (k:Nat) (n2:Nat):∀ n,ZkS k n2 n = Zs (fun L3 => Zbv k (ZgX k n2) L3) n :=
 Zn (fun v => by kernel_rfl) (fun n v => by
  show ZkS k n2 (n + 1) v = Zbv k (ZgX k n2) (ZkS k n2 n) v
  obtain ⟨v0,v1,v2,v3,v4,v5,v6,v7,v8⟩:=v
  kernel_rfl)
theorem ZDq (k:Nat):∀ n,ZgX k n = Zs (fun L2 => Zbu k (Zmx k L2) L2) n :=
 Zn (fun v => by kernel_rfl) (fun n v => by
  rw [show (Zmx k (ZgX k n)) = ZkS k n k from (ZDr k n k).symm]
  obtain ⟨v0,v1,v2,v3,v4,v5⟩:=v
  kernel_rfl)
theorem ZDp (k:Nat):∀ n,ZxY k n = Zs (fun L1 => Zbt k (Zc6 k) L1) n :=
 Zn (fun v => by kernel_rfl) (fun n v => by
  rw [show (Zc6 k) = ZgX k k from (ZDq k k).symm]
  obtain ⟨v0,v1,v2,v3,v4,v5,v6,v7,v8⟩:=v
  kernel_rfl)
theorem ZJ3 (k:Nat) (x:Kd.dens YJ):ZG (Zmv k) ZxX Tryz.f23 YJ Zf x = Zfc k x:=by
 show _ = ZgY k (Zmw k) x
 rw [show Zmw k = ZxY k k from (ZDp k k).symm]
 obtain ⟨⟨a0,⟨a1,⟨a2,⟨⟩⟩⟩⟩,⟨⟨a3,⟨a4,⟨⟩⟩⟩,⟨⟩⟩⟩:=x
 kernel_rfl
theorem ZxZ (k:Nat):Ctr Tryz.prog k 23 (mk YJ Zf Zfc) :=
 ZH (fn:=Tryz.f23) (Zi (Za (ZxN k) Ze)) (by kernel_rfl) (by kernel_rfl) (ZJ3 k)
noncomputable abbrev ZIc:Nat × Callee:=(23,mk YJ Zf Zfc)
abbrev ZaZ:List Kd:=[.view (.sl (.int .i64)),.view (.sl (.int .i64))]
abbrev Zdg:Kd:=.tup [.view (.sl (.cx .f64)),.view (.int .i64)]
def ZIm:Nat → Ann:=fun id => bif Nat.beq id 7 then ⟨[21,22,20,1,6],[.slot 6 ((Ty.cx FloatKind.f64))]⟩ else ⟨[],[]⟩
abbrev ZwN:=Int × Int × List Int × List Int × List (Nat × Nat)
abbrev ZrJ:=ZwN → Option ((List (Nat × Nat) × Int × Unit) × Unit)
def ZKt:ZwN → St
 | (v0,v1,v2,v3,v4) => St.mk (ZE [(21,Zr v0),(22,Zr v1),(20,Yk v2),(1,Yk v3),(6,AV.own 8192)]) (ZD [(8192,RS.live (Res.arr (Ty.cx FloatKind.f64) v4 false))])
def Kf (k:Nat) (L1:ZrJ):ZrJ
 | (v0,v1,v2,v3,v4) => bif decide (v1 < v0) then bif decide (0 ≤ v1 ∧ v1 < Int.ofNat v2.length) then bif decide (0 ≤ v1 ∧ v1 < Int.ofNat v3.length) then bif decide (v2.getD v1.toNat 0 < (-16777216:Int)) then some (([],12,()),()) else bif decide ((16777216:Int) < v2.getD v1.toNat 0) then some (([],12,()),()) else bif decide (v3.getD v1.toNat 0 < (-16777216:Int)) then some (([],12,()),()) else bif decide ((16777216:Int) < v3.getD v1.toNat 0) then some (([],12,()),()) else bif decide (v4.length + [(FloatKind.f64.nearest (v2.getD v1.toNat 0),FloatKind.f64.nearest (v3.getD v1.toNat 0))].length < 2147483648) then L1 (v0,IntKind.i64.wrap (v1 + 1),v2,v3,v4 ++ [(FloatKind.f64.nearest (v2.getD v1.toNat 0),FloatKind.f64.nearest (v3.getD v1.toNat 0))]) else none else none else none else some ((v4,0,()),())
def ZmI (k:Nat):ZrJ:=Zs (fun L1 => Kf k L1) k
noncomputable def Zya (k:Nat) (n:Nat) (v:ZwN) :=
 ZC (ZV k) ZIm [] [1,1,1,0,1,0] [] (Xq Tryz.f59) (XQ (ZV k) Tryz.f59 ZaZ Zdg [] []) n (ZKt v)
def Zbx (k:Nat) (L1:ZrJ):List Int × List Int × Unit → Option ((List (Nat × Nat) × Int × Unit) × Unit)
 | (a0,a1,()) => bif Int.ofNat a0.length != Int.ofNat a1.length then some (([],1,()),()) else bif decide ((8192:Int) < Int.ofNat a0.length) then some (([],14,()),()) else L1 (Int.ofNat a0.length,(0:Int),a0,a1,[])
def ZmH (k:Nat):=Zbx k (ZmI k)
theorem ZDO (k:Nat):∀ n,Zya k n = Zs (fun L1 => Kf k L1) n :=
 Zn (fun v => by kernel_rfl) (fun n v => by
  obtain ⟨v0,v1,v2,v3,v4⟩:=v
  kernel_rfl)
theorem ZKu (k:Nat) (x:Kd.dens ZaZ):ZG (ZV k) ZIm Tryz.f59 ZaZ Zdg x = ZmH k x:=by
 show _ = Zbx k (ZmI k) x
 rw [show ZmI k = Zya k k from (ZDO k k).symm]
 obtain ⟨a0,⟨a1,⟨⟩⟩⟩:=x
 kernel_rfl
theorem Zyb (k:Nat):Ctr Tryz.prog k 59 (mk ZaZ Zdg ZmH) :=
 ZH (fn:=Tryz.f59) (Zi Ze) (by kernel_rfl) (by kernel_rfl) (ZKu k)
noncomputable abbrev ZIn:Nat × Callee:=(59,mk ZaZ Zdg ZmH)
abbrev Zw:List Kd:=[.view (.int .i64)]
abbrev Zx:Kd:=.view .bool
def ZuL (k:Nat):Int × Unit → Option (Bool × Unit)
 | (a0,()) => bif a0 == 0 then some (true,()) else bif decide (8 ≤ a0) then some (decide (a0 ≤ 10),()) else some (false,())
def Zpr (k:Nat):=ZuL k
theorem ZK3 (k:Nat) (x:Kd.dens Zw):ZG (ZV k) nA Tryz.f91 Zw Zx x = Zpr k x:=by
 show _ = ZuL k x
 obtain ⟨a0,⟨⟩⟩:=x
 kernel_rfl
theorem Zyx (k:Nat):Ctr Tryz.prog k 91 (mk Zw Zx Zpr) :=
 ZH (fn:=Tryz.f91) (Zi Ze) (by kernel_rfl) (by kernel_rfl) (ZK3 k)
noncomputable abbrev ZID:Nat × Callee:=(91,mk Zw Zx Zpr)
abbrev Qn:List Kd:=[.view (.fl .f64)]
abbrev QN:Kd:=.view (.fl .f64)
def Zev (k:Nat):Nat × Unit → Option (Nat × Unit)
 | (a0,()) => some ((IntKind.u64.wrap (Int.ofNat (BitVec.ofInt 64 (Int.ofNat a0) &&& ~~~BitVec.ofInt 64 (9223372036854775808:Int)).toNat)).toNat,())
def ZcW (k:Nat):=Zev k
theorem ZGh (k:Nat) (x:Kd.dens Qn):ZG (ZV k) nA Tryz.f143 Qn QN x = ZcW k x:=by
 show _ = Zev k x
 obtain ⟨a0,⟨⟩⟩:=x
 kernel_rfl
theorem ZlW (k:Nat):Ctr Tryz.prog k 143 (mk Qn QN ZcW) :=
 ZH (fn:=Tryz.f143) (Zi Ze) (by kernel_rfl) (by kernel_rfl) (ZGh k)
noncomputable abbrev Zwi:Nat × Callee:=(143,mk Qn QN ZcW)
abbrev ZkR:List Kd:=[.view (.fl .f64),.view (.fl .f64)]
def Zpe (k:Nat):Nat × Nat × Unit → Option (Nat × Unit)
 | (a0,a1,()) => some ((IntKind.u64.wrap (Int.ofNat (BitVec.ofInt 64 (IntKind.u64.wrap (Int.ofNat (BitVec.ofInt 64 (Int.ofNat a0) &&& ~~~BitVec.ofInt 64 (9223372036854775808:Int)).toNat)) ||| BitVec.ofInt 64 (IntKind.u64.wrap (Int.ofNat (BitVec.ofInt 64 (Int.ofNat a1) &&& BitVec.ofInt 64 (9223372036854775808:Int)).toNat))).toNat)).toNat,())
def Zms (k:Nat):=Zpe k
theorem ZGV (k:Nat) (x:Kd.dens ZkR):ZG (ZV k) nA Tryz.f193 ZkR QN x = Zms k x:=by
 show _ = Zpe k x
 obtain ⟨a0,⟨a1,⟨⟩⟩⟩:=x
 kernel_rfl
theorem Zua (k:Nat):Ctr Tryz.prog k 193 (mk ZkR QN Zms) :=
 ZH (fn:=Tryz.f193) (Zi Ze) (by kernel_rfl) (by kernel_rfl) (ZGV k)
noncomputable abbrev ZDj:Nat × Callee:=(193,mk ZkR QN Zms)
noncomputable def ZJD (k:Nat):=WX k [Zwi,ZDj]
def Zo9 (k:Nat):Nat × Unit → Option (Nat × Unit)
 | (a0,()) => (ZcW k (a0,())).bind fun y => bif FloatKind.f64.format.order y.1 (4607182418800017408:Nat) == some Ordering.lt then (Zms k (0,a0,())).bind fun y => some (y.1,()) else bif decide (IntKind.u64.wrap (IntKind.u64.wrap (Int.ofNat (BitVec.ofInt 64 ((Int.ofNat a0).fdiv (4503599627370496:Int)) &&& BitVec.ofInt 64 (2047:Int)).toNat) - 1023) < (52:Int)) then bif decide (0 ≤ IntKind.u64.wrap ((52:Int) - IntKind.u64.wrap (IntKind.u64.wrap (Int.ofNat (BitVec.ofInt 64 ((Int.ofNat a0).fdiv (4503599627370496:Int)) &&& BitVec.ofInt 64 (2047:Int)).toNat) - 1023))) then some ((IntKind.u64.wrap (Int.ofNat (BitVec.ofInt 64 (Int.ofNat a0) &&& ~~~BitVec.ofInt 64 (IntKind.u64.wrap (IntKind.u64.wrap ((1:Int) * (2:Int) ^ min (IntKind.u64.wrap ((52:Int) - IntKind.u64.wrap (IntKind.u64.wrap (Int.ofNat (BitVec.ofInt 64 ((Int.ofNat a0).fdiv (4503599627370496:Int)) &&& BitVec.ofInt 64 (2047:Int)).toNat) - 1023))).toNat 64) - (1:Int)))).toNat)).toNat,()) else none else some ((Int.ofNat a0).toNat,())
def Zwz (k:Nat):=Zo9 k
theorem ZGK (k:Nat) (x:Kd.dens Qn):ZG (ZJD k) nA Tryz.f177 Qn QN x = Zwz k x:=by
 show _ = Zo9 k x
 obtain ⟨a0,⟨⟩⟩:=x
 kernel_rfl
theorem ZC5 (k:Nat):Ctr Tryz.prog k 177 (mk Qn QN Zwz) :=
 ZH (fn:=Tryz.f177) (Zi (Za (ZlW k) (Za (Zua k) Ze))) (by kernel_rfl) (by kernel_rfl) (ZGK k)
noncomputable abbrev ZJE:Nat × Callee:=(177,mk Qn QN Zwz)
noncomputable def ZJe (k:Nat):=WX k [ZJE]
def Zet (k:Nat):Nat × Unit → Option (Nat × Unit)
 | (a0,()) => (Wp Ieee.Toward.zero a0).bind fun y => some (y,())
def ZcV (k:Nat):=Zet k
theorem ZGf (k:Nat) (x:Kd.dens Qn):ZG (ZJe k) nA Tryz.f141 Qn QN x = ZcV k x:=by
 show _ = Zet k x
 obtain ⟨a0,⟨⟩⟩:=x
 kernel_rfl
theorem ZtH (k:Nat):Ctr Tryz.prog k 141 (mk Qn QN ZcV) :=
 ZH (fn:=Tryz.f141) (Zi (Za (ZC5 k) Ze)) (by kernel_rfl) (by kernel_rfl) (ZGf k)
noncomputable abbrev ZCw:Nat × Callee:=(141,mk Qn QN ZcV)
abbrev ZkB:List Kd:=[.view (.fl .f64),.view (.int .i64)]
noncomputable def ZJf (k:Nat):=WX k [Zwi]
def Zeu (k:Nat):Nat × Int × Unit → Option (Bool × Unit)
 | (a0,a1,()) => bif a1 == 0 then (ZcW k (a0,())).bind fun y => some (FloatKind.f64.format.order y.1 (9218868437227405311:Nat) == some Ordering.gt,()) else bif decide (a1 < 0) then some (FloatKind.f64.format.order (a0 ^^^ (9223372036854775808:Nat)) (9218868437227405311:Nat) == some Ordering.gt,()) else some (FloatKind.f64.format.order a0 (9218868437227405311:Nat) == some Ordering.gt,())
def Ziy (k:Nat):=Zeu k
theorem ZGg (k:Nat) (x:Kd.dens ZkB):ZG (ZJf k) nA Tryz.f142 ZkB Zx x = Ziy k x:=by
 show _ = Zeu k x
 obtain ⟨a0,⟨a1,⟨⟩⟩⟩:=x
 kernel_rfl
theorem ZtJ (k:Nat):Ctr Tryz.prog k 142 (mk ZkB Zx Ziy) :=
 ZH (fn:=Tryz.f142) (Zi (Za (ZlW k) Ze)) (by kernel_rfl) (by kernel_rfl) (ZGg k)
noncomputable abbrev ZCx:Nat × Callee:=(142,mk ZkB Zx Ziy)
abbrev Wu:List Kd:=[.view (.sl (.cx .f64))]
noncomputable def ZfE (k:Nat):=WX k [ZCw,ZCx,Zwi]
def ZqD:Nat → Ann:=fun id => bif Nat.beq id 14 then ⟨[37,38,36],[]⟩ else bif Nat.beq id 7 then ⟨[23,22,14,13,12,0],[]⟩ else bif Nat.beq id 4 then ⟨[13,14,12,0],[]⟩ else ⟨[],[]⟩
abbrev ZqF:=Int × Nat × Nat × Int × Int × List (Nat × Nat) × List (Nat × Nat)
abbrev Zj3:=ZqF → Option (Int × Unit)
abbrev ZqG:=Int × Int × List (Nat × Nat)
abbrev Zj4:=ZqG → Option (Int × Unit)
abbrev ZqE:=Int × Int × List (Nat × Nat) × List (Nat × Nat)
abbrev ZdX:=ZqE → Option (Int × Unit)
def ZFq:ZqF → St
 | (v0,v1,v2,v3,v4,v5,v6) => St.mk (ZE [(23,Zr v0),(22,AV.agg [AV.val (PV.v (Value.float FloatKind.f64 v1)),AV.val (PV.v (Value.float FloatKind.f64 v2))]),(14,Zr v3),(13,Zr v4),(12,AV.val (PV.sl (Ty.cx FloatKind.f64) v5)),(0,AV.val (PV.sl (Ty.cx FloatKind.f64) v6))]) (ZD [])
def YG (k:Nat) (L1:ZdX) (L2:Zj3):Zj3
 | (v0,v1,v2,v3,v4,v5,v6) => bif decide (v0 < 2) then bif decide (0 ≤ v0 ∧ v0 < 2) then (ZcV k ([v1,v2].getD v0.toNat 0,())).bind fun y => bif FloatKind.f64.format.order y.1 ([v1,v2].getD v0.toNat 0) != some Ordering.eq then some (2,()) else (Ziy k ([v1,v2].getD v0.toNat 0,0,())).bind fun y => bif y.1 then some (2,()) else L2 (IntKind.i64.wrap (v0 + 1),v1,v2,v3,v4,v5,v6) else none else L1 (v4,IntKind.i64.wrap (v3 + 1),v5,v6)
def ZgA (k:Nat) (L1:ZdX):Zj3:=Zs (fun L2 => YG k L1 L2) k
noncomputable def ZgC (k:Nat) (n1:Nat) (n:Nat) (v:ZqF):Option (Int × Unit) :=
 ZC (ZfE k) ZqD [] [1,1,0,1,0,0,1,1,0,0,1,1,0] [n1] (Xq Tryz.f100) (XQ (ZfE k) Tryz.f100 Wu Zf [] []) n (ZFq v)
def ZFr:ZqG → St
 | (v0,v1,v2) => St.mk (ZE [(37,Zr v0),(38,Zr v1),(36,AV.val (PV.sl (Ty.cx FloatKind.f64) v2))]) (ZD [])
def Za8 (k:Nat) (L3:Zj4):Zj4
 | (v0,v1,v2) => bif decide (v1 < v0) then bif decide (0 ≤ v1 ∧ v1 < Int.ofNat v2.length) then (ZcW k ((v2.getD v1.toNat ((0:Nat),(0:Nat))).1,())).bind fun y => (ZcW k ((v2.getD v1.toNat ((0:Nat),(0:Nat))).2,())).bind fun y_1 => (Zu9 FloatKind.f64 y.1 y_1.1).bind fun y => bif FloatKind.f64.format.order y (4715268809856909312:Nat) == some Ordering.gt then some (12,()) else L3 (v0,IntKind.i64.wrap (v1 + 1),v2) else none else some (0,())
def ZgB (k:Nat):Zj4:=Zs (fun L3 => Za8 k L3) k
noncomputable def Zth (k:Nat) (n:Nat) (v:ZqG) :=
 ZC (ZfE k) ZqD [] [1,1,1,0,1,0] [] (Xq Tryz.f100) (XQ (ZfE k) Tryz.f100 Wu Zf [] []) n (ZFr v)
def ZFp:ZqE → St
 | (v0,v1,v2,v3) => St.mk (ZE [(13,Zr v0),(14,Zr v1),(12,AV.val (PV.sl (Ty.cx FloatKind.f64) v2)),(0,AV.val (PV.sl (Ty.cx FloatKind.f64) v3))]) (ZD [])
def Za7 (k:Nat) (L2:Zj3) (L3:Zj4) (L1:ZdX):ZdX
 | (v0,v1,v2,v3) => bif decide (v1 < v0) then bif decide (0 ≤ v1 ∧ v1 < Int.ofNat v2.length) then L2 (0,(v2.getD v1.toNat ((0:Nat),(0:Nat))).1,(v2.getD v1.toNat ((0:Nat),(0:Nat))).2,v1,v0,v2,v3) else none else L3 (Int.ofNat v3.length,(0:Int),v3)
def Zj5 (k:Nat):ZdX:=Zs (fun L1 => Za7 k (ZgA k L1) (ZgB k) L1) k
noncomputable def ZcO (k:Nat) (n:Nat) (v:ZqE) :=
 ZC (ZfE k) ZqD [] [1,1,0,1,0] [] (Xq Tryz.f100) (XQ (ZfE k) Tryz.f100 Wu Zf [] []) n (ZFp v)
def ZdY (k:Nat) (L1:ZdX):List (Nat × Nat) × Unit → Option (Int × Unit)
 | (a0,()) => bif decide ((8192:Int) < Int.ofNat a0.length) then some (14,()) else L1 (Int.ofNat a0.length,(0:Int),a0,a0)
def ZlI (k:Nat):=ZdY k (Zj5 k)
theorem Zzo (k:Nat) (n1:Nat):∀ n,ZgC k n1 n = Zs (fun L2 => YG k (ZcO k n1) L2) n :=
 Zn (fun v => by kernel_rfl) (fun n v => by
  show ZgC k n1 (n + 1) v = YG k (ZcO k n1) (ZgC k n1 n) v
  obtain ⟨v0,v1,v2,v3,v4,v5,v6⟩:=v
  kernel_rfl)
theorem Zzp (k:Nat):∀ n,Zth k n = Zs (fun L3 => Za8 k L3) n :=
 Zn (fun v => by kernel_rfl) (fun n v => by
  obtain ⟨v0,v1,v2⟩:=v
  kernel_rfl)
theorem Zzn (k:Nat):∀ n,ZcO k n = Zs (fun L1 => Za7 k (ZgA k L1) (ZgB k) L1) n :=
 Zn (fun v => by kernel_rfl) (fun n v => by
  rw [show (ZgA k (ZcO k n)) = ZgC k n k from (Zzo k n k).symm,show (ZgB k) = Zth k k from (Zzp k k).symm]
  obtain ⟨v0,v1,v2,v3⟩:=v
  kernel_rfl)
theorem ZFs (k:Nat) (x:Kd.dens Wu):ZG (ZfE k) ZqD Tryz.f100 Wu Zf x = ZlI k x:=by
 show _ = ZdY k (Zj5 k) x
 rw [show Zj5 k = ZcO k k from (Zzn k k).symm]
 obtain ⟨a0,⟨⟩⟩:=x
 kernel_rfl
theorem ZBN (k:Nat):Ctr Tryz.prog k 100 (mk Wu Zf ZlI) :=
 ZH (fn:=Tryz.f100) (Zi (Za (ZtH k) (Za (ZtJ k) (Za (ZlW k) Ze)))) (by kernel_rfl) (by kernel_rfl) (ZFs k)
noncomputable abbrev ZIQ:Nat × Callee:=(100,mk Wu Zf ZlI)
abbrev Zj6:List Kd:=[.view (.cx .f64)]
def ZdZ (k:Nat):(Nat × Nat) × Unit → Option (Nat × Unit)
 | (a0,()) => (cMulBits a0.1 a0.2 (4607182418800017408:Nat) (4607182418800017408:Nat)).bind fun y => some (y.1,())
def ZfF (k:Nat):=ZdZ k
theorem ZFt (k:Nat) (x:Kd.dens Zj6):ZG (ZV k) nA Tryz.f101 Zj6 QN x = ZfF k x:=by
 show _ = ZdZ k x
 obtain ⟨a0,⟨⟩⟩:=x
 kernel_rfl
theorem ZBO (k:Nat):Ctr Tryz.prog k 101 (mk Zj6 QN ZfF) :=
 ZH (fn:=Tryz.f101) (Zi Ze) (by kernel_rfl) (by kernel_rfl) (ZFt k)
noncomputable abbrev ZIR:Nat × Callee:=(101,mk Zj6 QN ZfF)
def Zpa (k:Nat):Nat × Unit → Option (Bool × Unit)
 | (a0,()) => some (FloatKind.f64.format.order a0 a0 != some Ordering.eq,())
def Zrg (k:Nat):=Zpa k
theorem ZGL (k:Nat) (x:Kd.dens Qn):ZG (ZV k) nA Tryz.f180 Qn Zx x = Zrg k x:=by
 show _ = Zpa k x
 obtain ⟨a0,⟨⟩⟩:=x
 kernel_rfl
theorem ZC6 (k:Nat):Ctr Tryz.prog k 180 (mk Qn Zx Zrg) :=
 ZH (fn:=Tryz.f180) (Zi Ze) (by kernel_rfl) (by kernel_rfl) (ZGL k)
noncomputable abbrev ZJF:Nat × Callee:=(180,mk Qn Zx Zrg)
abbrev Zrh:Kd:=.tup [.view (.fl .f64),.view (.fl .f64)]
noncomputable def ZJG (k:Nat):=WX k [ZCw,ZDj]
def Zpb (k:Nat):Nat × Unit → Option ((Nat × Nat × Unit) × Unit)
 | (a0,()) => (ZcV k (a0,())).bind fun y => (floatBits BinOp.sub FloatKind.f64 a0 y.1).bind fun y_1 => (Zms k (y_1,a0,())).bind fun y_2 => some ((y.1,y_2.1,()),())
def Zmj (k:Nat):=Zpb k
theorem ZGM (k:Nat) (x:Kd.dens Qn):ZG (ZJG k) nA Tryz.f181 Qn Zrh x = Zmj k x:=by
 show _ = Zpb k x
 obtain ⟨a0,⟨⟩⟩:=x
 kernel_rfl
theorem ZC7 (k:Nat):Ctr Tryz.prog k 181 (mk Qn Zrh Zmj) :=
 ZH (fn:=Tryz.f181) (Zi (Za (ZtH k) (Za (Zua k) Ze))) (by kernel_rfl) (by kernel_rfl) (ZGM k)
noncomputable abbrev ZJH:Nat × Callee:=(181,mk Qn Zrh Zmj)
noncomputable def ZJg (k:Nat):=WX k [ZCx,ZJF,ZJH]
def ZoV (k:Nat):Nat × Unit → Option (Nat × Unit)
 | (a0,()) => bif FloatKind.f64.format.order a0 (0:Nat) == some Ordering.eq then some (a0,()) else (Zrg k (a0,())).bind fun y => bif y.1 then some (a0,()) else (Ziy k (a0,0,())).bind fun y => bif y.1 then some (a0,()) else bif FloatKind.f64.format.order a0 (0:Nat) == some Ordering.lt then (Zmj k (a0 ^^^ (9223372036854775808:Nat),())).bind fun y => bif FloatKind.f64.format.order y.1.2.1 (0:Nat) != some Ordering.eq then (floatBits BinOp.add FloatKind.f64 y.1.1 (4607182418800017408:Nat)).bind fun y => some (y ^^^ (9223372036854775808:Nat),()) else some (y.1.1 ^^^ (9223372036854775808:Nat),()) else (Zmj k (a0,())).bind fun y => some (y.1.1,())
def Zwj (k:Nat):=ZoV k
theorem ZGi (k:Nat) (x:Kd.dens Qn):ZG (ZJg k) nA Tryz.f145 Qn QN x = Zwj k x:=by
 show _ = ZoV k x
 obtain ⟨a0,⟨⟩⟩:=x
 kernel_rfl
theorem ZCy (k:Nat):Ctr Tryz.prog k 145 (mk Qn QN Zwj) :=
 ZH (fn:=Tryz.f145) (Zi (Za (ZtJ k) (Za (ZC6 k) (Za (ZC7 k) Ze)))) (by kernel_rfl) (by kernel_rfl) (ZGi k)
noncomputable abbrev ZJh:Nat × Callee:=(145,mk Qn QN Zwj)
noncomputable def ZIS (k:Nat):=WX k [ZJh]
def Zd0 (k:Nat):Nat × Unit → Option (Nat × Unit)
 | (a0,()) => (Wp Ieee.Toward.down a0).bind fun y => some (y,())
def ZlK (k:Nat):=Zd0 k
theorem ZFu (k:Nat) (x:Kd.dens Qn):ZG (ZIS k) nA Tryz.f102 Qn QN x = ZlK k x:=by
 show _ = Zd0 k x
 obtain ⟨a0,⟨⟩⟩:=x
 kernel_rfl
theorem ZBP (k:Nat):Ctr Tryz.prog k 102 (mk Qn QN ZlK) :=
 ZH (fn:=Tryz.f102) (Zi (Za (ZCy k) Ze)) (by kernel_rfl) (by kernel_rfl) (ZFu k)
noncomputable abbrev ZIT:Nat × Callee:=(102,mk Qn QN ZlK)
abbrev ZmK:List Kd:=[.view (.sl (.cx .f64)),.view (.int .i64)]
abbrev ZfS:Kd:=.tup [.view (.sl (.int .i64)),.view (.sl (.int .i64)),.view (.int .i64)]
noncomputable def ZDV (k:Nat):=WX k [ZID,ZIQ,ZIR,ZIT]
def ZIp:Nat → Ann:=fun id => bif Nat.beq id 8 then ⟨[23,24,22,1,8,9],[.slot 8 ((Ty.int IntKind.i64)),.slot 9 ((Ty.int IntKind.i64))]⟩ else ⟨[],[]⟩
abbrev ZwQ:=Int × Int × List (Nat × Nat) × Int × List Int × List Int
abbrev ZrL:=ZwQ → Option ((List Int × List Int × Int × Unit) × Unit)
def ZKy:ZwQ → St
 | (v0,v1,v2,v3,v4,v5) => St.mk (ZE [(23,Zr v0),(24,Zr v1),(22,AV.val (PV.sl (Ty.cx FloatKind.f64) v2)),(1,Zr v3),(8,AV.own 8192),(9,AV.own 8193)]) (ZD [(8192,rsA v4 false),(8193,rsA v5 false)])
def Zdh (k:Nat) (L1:ZrL):ZrL
 | (v0,v1,v2,v3,v4,v5) => bif decide (v1 < v0) then bif decide (0 ≤ v1 ∧ v1 < Int.ofNat v2.length) then bif v3 == 8 then (ZfF k (((v2.getD v1.toNat ((0:Nat),(0:Nat))).1,(v2.getD v1.toNat ((0:Nat),(0:Nat))).2),())).bind fun y => (floatToIntVal FloatKind.f64 (v2.getD v1.toNat ((0:Nat),(0:Nat))).1 IntKind.i64).bind fun y_1 => bif decide (v4.length + [y_1].length < 2147483648) then (floatToIntVal FloatKind.f64 y.1 IntKind.i64).bind fun y => bif decide (v5.length + [y].length < 2147483648) then L1 (v0,IntKind.i64.wrap (v1 + 1),v2,v3,v4 ++ [y_1],v5 ++ [y]) else none else none else bif v3 == 9 then (ZfF k (((v2.getD v1.toNat ((0:Nat),(0:Nat))).1,(v2.getD v1.toNat ((0:Nat),(0:Nat))).2),())).bind fun y => (floatToIntVal FloatKind.f64 y.1 IntKind.i64).bind fun y => bif decide (v4.length + [y].length < 2147483648) then (floatToIntVal FloatKind.f64 (v2.getD v1.toNat ((0:Nat),(0:Nat))).2 IntKind.i64).bind fun y_1 => bif decide (v5.length + [y_1].length < 2147483648) then L1 (v0,IntKind.i64.wrap (v1 + 1),v2,v3,v4 ++ [y],v5 ++ [y_1]) else none else none else bif v3 == 10 then (floatBits BinOp.add FloatKind.f64 (v2.getD v1.toNat ((0:Nat),(0:Nat))).1 (v2.getD v1.toNat ((0:Nat),(0:Nat))).2).bind fun y => (floatBits BinOp.quo FloatKind.f64 y (4611686018427387904:Nat)).bind fun y => (ZlK k (y,())).bind fun y => (ZfF k (((v2.getD v1.toNat ((0:Nat),(0:Nat))).1,(v2.getD v1.toNat ((0:Nat),(0:Nat))).2),())).bind fun y_1 => (floatToIntVal FloatKind.f64 y.1 IntKind.i64).bind fun y => bif decide (v4.length + [y].length < 2147483648) then (floatToIntVal FloatKind.f64 y_1.1 IntKind.i64).bind fun y_2 => bif decide (v5.length + [y_2].length < 2147483648) then L1 (v0,IntKind.i64.wrap (v1 + 1),v2,v3,v4 ++ [y],v5 ++ [y_2]) else none else none else (floatToIntVal FloatKind.f64 (v2.getD v1.toNat ((0:Nat),(0:Nat))).1 IntKind.i64).bind fun y => bif decide (v4.length + [y].length < 2147483648) then (floatToIntVal FloatKind.f64 (v2.getD v1.toNat ((0:Nat),(0:Nat))).2 IntKind.i64).bind fun y_1 => bif decide (v5.length + [y_1].length < 2147483648) then L1 (v0,IntKind.i64.wrap (v1 + 1),v2,v3,v4 ++ [y],v5 ++ [y_1]) else none else none else none else some ((v4,v5,0,()),())
def ZrM (k:Nat):ZrL:=Zs (fun L1 => Zdh k L1) k
noncomputable def Zyf (k:Nat) (n:Nat) (v:ZwQ) :=
 ZC (ZDV k) ZIp [] [1,1,1,1,0,1,0] [] (Xq Tryz.f61) (XQ (ZDV k) Tryz.f61 ZmK ZfS [] []) n (ZKy v)
def Zhg (k:Nat) (L1:ZrL):List (Nat × Nat) × Int × Unit → Option ((List Int × List Int × Int × Unit) × Unit)
 | (a0,a1,()) => (Zpr k (a1,())).bind fun y => bif !y.1 then some (([],[],1,()),()) else (ZlI k (a0,())).bind fun y => bif y.1 != 0 then some (([],[],y.1,()),()) else L1 (Int.ofNat a0.length,(0:Int),a0,a1,[],[])
def ZmJ (k:Nat):=Zhg k (ZrM k)
theorem ZDW (k:Nat):∀ n,Zyf k n = Zs (fun L1 => Zdh k L1) n :=
 Zn (fun v => by kernel_rfl) (fun n v => by
  obtain ⟨v0,v1,v2,v3,v4,v5⟩:=v
  kernel_rfl)
theorem ZKz (k:Nat) (x:Kd.dens ZmK):ZG (ZDV k) ZIp Tryz.f61 ZmK ZfS x = ZmJ k x:=by
 show _ = Zhg k (ZrM k) x
 rw [show ZrM k = Zyf k k from (ZDW k k).symm]
 obtain ⟨a0,⟨a1,⟨⟩⟩⟩:=x
 kernel_rfl
theorem ZrN (k:Nat):Ctr Tryz.prog k 61 (mk ZmK ZfS ZmJ) :=
 ZH (fn:=Tryz.f61) (Zi (Za (Zyx k) (Za (ZBN k) (Za (ZBO k) (Za (ZBP k) Ze))))) (by kernel_rfl) (by kernel_rfl) (ZKz k)
noncomputable abbrev ZDX:Nat × Callee:=(61,mk ZmK ZfS ZmJ)
abbrev Kw:List Kd:=[.view (.sl (.int .i64))]
def ZIE:Nat → Ann:=fun id => bif Nat.beq id 3 then ⟨[8,9,7,3,4],[]⟩ else ⟨[],[]⟩
abbrev Zcb:=Int × Int × List Int × Int × Int
abbrev Zsa:=Zcb → Option (Int × Unit)
def ZK4:Zcb → St
 | (v0,v1,v2,v3,v4) => St.mk (ZE [(8,Zr v0),(9,Zr v1),(7,Yk v2),(3,Zr v3),(4,Zr v4)]) (ZD [])
def Zdr (k:Nat) (L1:Zsa):Zsa
 | (v0,v1,v2,v3,v4) => bif decide (v1 < v0) then bif decide (0 ≤ v1 ∧ v1 < Int.ofNat v2.length) then L1 (v0,IntKind.i64.wrap (v1 + 1),v2,IntKind.i64.wrap (v3 + if IntKind.i64.wrap (v2.getD v1.toNat 0 - v4) < IntKind.i64.wrap (v4 - v2.getD v1.toNat 0) then IntKind.i64.wrap (v4 - v2.getD v1.toNat 0) else IntKind.i64.wrap (v2.getD v1.toNat 0 - v4)),v2.getD v1.toNat 0) else none else some (v3,())
def Zsb (k:Nat):Zsa:=Zs (fun L1 => Zdr k L1) k
noncomputable def Zyy (k:Nat) (n:Nat) (v:Zcb) :=
 ZC (ZV k) ZIE [] [1,1,0,1,0] [] (Xq Tryz.f99) (XQ (ZV k) Tryz.f99 Kw Zf [] []) n (ZK4 v)
def ZhC (k:Nat) (L1:Zsa):List Int × Unit → Option (Int × Unit)
 | (a0,()) => L1 (Int.ofNat a0.length,(0:Int),a0,(0:Int),(0:Int))
def Zps (k:Nat):=ZhC k (Zsb k)
theorem ZEk (k:Nat):∀ n,Zyy k n = Zs (fun L1 => Zdr k L1) n :=
 Zn (fun v => by kernel_rfl) (fun n v => by
  obtain ⟨v0,v1,v2,v3,v4⟩:=v
  kernel_rfl)
theorem ZK5 (k:Nat) (x:Kd.dens Kw):ZG (ZV k) ZIE Tryz.f99 Kw Zf x = Zps k x:=by
 show _ = ZhC k (Zsb k) x
 rw [show Zsb k = Zyy k k from (ZEk k k).symm]
 obtain ⟨a0,⟨⟩⟩:=x
 kernel_rfl
theorem ZHs (k:Nat):Ctr Tryz.prog k 99 (mk Kw Zf Zps) :=
 ZH (fn:=Tryz.f99) (Zi Ze) (by kernel_rfl) (by kernel_rfl) (ZK5 k)
noncomputable abbrev ZMd:Nat × Callee:=(99,mk Kw Zf Zps)
abbrev Z7:Kd:=.tup [.view (.int .i64),.view (.int .i64)]
noncomputable def ZDS (k:Nat):=WX k [ZDX,ZMd]
def ZIo:Nat → Ann:=fun id => bif Nat.beq id 3 then ⟨[13,12,0,5,4],[]⟩ else ⟨[],[]⟩
abbrev ZwP:=Int × Int × Int × Int × Int × List (Nat × Nat) × Int × Int
abbrev ZrK:=ZwP → Option ((Int × Int × Unit) × Unit)
def ZKw:ZwP → St
 | (v0,v1,v2,v3,v4,v5,v6,v7) => St.mk (ZE [(13,Zr v0),(12,AV.agg [Zr v1,Zr v2,Zr v3,Zr v4]),(0,AV.val (PV.sl (Ty.cx FloatKind.f64) v5)),(5,Zr v6),(4,Zr v7)]) (ZD [])
def Zby (k:Nat) (L1:ZrK):ZrK
 | (v0,v1,v2,v3,v4,v5,v6,v7) => bif decide (v0 < 4) then bif decide (0 ≤ v0 ∧ v0 < 4) then (ZmJ k (v5,[v1,v2,v3,v4].getD v0.toNat (0:Int),())).bind fun y => bif y.1.2.2.1 != 0 then some ((0,y.1.2.2.1,()),()) else (Zps k (y.1.1,())).bind fun y_1 => (Zps k (y.1.2.1,())).bind fun y => bif decide (v6 < 0) then L1 (IntKind.i64.wrap (v0 + 1),v1,v2,v3,v4,v5,IntKind.i64.wrap (y_1.1 + y.1),[v1,v2,v3,v4].getD v0.toNat (0:Int)) else bif decide (IntKind.i64.wrap (y_1.1 + y.1) < v6) then L1 (IntKind.i64.wrap (v0 + 1),v1,v2,v3,v4,v5,IntKind.i64.wrap (y_1.1 + y.1),[v1,v2,v3,v4].getD v0.toNat (0:Int)) else L1 (IntKind.i64.wrap (v0 + 1),v1,v2,v3,v4,v5,v6,v7) else none else some ((v7,0,()),())
def ZwO (k:Nat):ZrK:=Zs (fun L1 => Zby k L1) k
noncomputable def Zye (k:Nat) (n:Nat) (v:ZwP) :=
 ZC (ZDS k) ZIo [] [1,1,0,1,0] [] (Xq Tryz.f60) (XQ (ZDS k) Tryz.f60 Wu Z7 [] []) n (ZKw v)
def Zuz (k:Nat) (L1:ZrK):List (Nat × Nat) × Unit → Option ((Int × Int × Unit) × Unit)
 | (a0,()) => L1 (0,(0:Int),(8:Int),(9:Int),(10:Int),a0,(-1:Int),(0:Int))
def Zuy (k:Nat):=Zuz k (ZwO k)
theorem ZDT (k:Nat):∀ n,Zye k n = Zs (fun L1 => Zby k L1) n :=
 Zn (fun v => by kernel_rfl) (fun n v => by
  obtain ⟨v0,v1,v2,v3,v4,v5,v6,v7⟩:=v
  kernel_rfl)
theorem ZKx (k:Nat) (x:Kd.dens Wu):ZG (ZDS k) ZIo Tryz.f60 Wu Z7 x = Zuy k x:=by
 show _ = Zuz k (ZwO k) x
 rw [show ZwO k = Zye k k from (ZDT k k).symm]
 obtain ⟨a0,⟨⟩⟩:=x
 kernel_rfl
theorem ZHh (k:Nat):Ctr Tryz.prog k 60 (mk Wu Z7 Zuy) :=
 ZH (fn:=Tryz.f60) (Zi (Za (ZrN k) (Za (ZHs k) Ze))) (by kernel_rfl) (by kernel_rfl) (ZKx k)
noncomputable abbrev ZLZ:Nat × Callee:=(60,mk Wu Z7 Zuy)
abbrev YK:List Kd:=[.view frameT]
abbrev ZwG:Kd:=.tup [.view (.sl (.sl (.int .i64))),.view (.int .i64),.view (.int .i64)]
noncomputable def ZLA (k:Nat):=WX k [ZIn,ZLZ,ZDX]
def ZgZ (k:Nat):(Int × List (List Int) × Unit) × Unit → Option ((List (List Int) × Int × Int × Unit) × Unit)
 | ((a0,a1,()),()) => bif Int.ofNat a1.length == (1:Int) then some ((a1,0,0,()),()) else bif decide ((0:Int) ≤ 0 ∧ (0:Int) < Int.ofNat a1.length) then bif decide ((0:Int) ≤ 1 ∧ (1:Int) < Int.ofNat a1.length) then (ZmH k (a1.getD 0 [],a1.getD 1 [],())).bind fun y => bif y.1.2.1 != 0 then some (([],0,y.1.2.1,()),()) else (Zuy k (y.1.1,())).bind fun y_1 => bif y_1.1.2.1 != 0 then some (([],0,y_1.1.2.1,()),()) else (ZmJ k (y.1.1,y_1.1.1,())).bind fun y => bif y_1.1.1 == 0 then some (([y.1.1,y.1.2.1],1,y.1.2.2.1,()),()) else some (([y.1.1,y.1.2.1],y_1.1.1,y.1.2.2.1,()),()) else none else none
def Zuf (k:Nat):=ZgZ k
theorem ZJ4 (k:Nat) (x:Kd.dens YK):ZG (ZLA k) nA Tryz.f24 YK ZwG x = Zuf k x:=by
 show _ = ZgZ k x
 obtain ⟨⟨a0,⟨a1,⟨⟩⟩⟩,⟨⟩⟩:=x
 kernel_rfl
theorem ZGZ (k:Nat):Ctr Tryz.prog k 24 (mk YK ZwG Zuf) :=
 ZH (fn:=Tryz.f24) (Zi (Za (Zyb k) (Za (ZHh k) (Za (ZrN k) Ze)))) (by kernel_rfl) (by kernel_rfl) (ZJ4 k)
noncomputable abbrev ZLB:Nat × Callee:=(24,mk YK ZwG Zuf)
abbrev Zc7:List Kd:=[]
abbrev ZwH:Kd:=.box [.own (.int .u8) false,.view (.int .i64)]
def Zug (k:Nat):Unit → Option ((List Int × Int × Unit) × Unit)
 | () => some (([],0,()),())
def Zmy (k:Nat):=Zug k
theorem ZJ5 (k:Nat) (x:Kd.dens Zc7):ZG (ZV k) nA Tryz.f25 Zc7 ZwH x = Zmy k x:=by
 show _ = Zug k x
 obtain ⟨⟩:=x
 kernel_rfl
theorem ZG0 (k:Nat):Ctr Tryz.prog k 25 (mk Zc7 ZwH Zmy) :=
 ZH (fn:=Tryz.f25) (Zi Ze) (by kernel_rfl) (by kernel_rfl) (ZJ5 k)
noncomputable abbrev ZLC:Nat × Callee:=(25,mk Zc7 ZwH Zmy)
def Zhh (k:Nat):Int × Unit → Option (Bool × Unit)
 | (a0,()) => bif decide (a0 < 0) then some (true,()) else some (decide ((32:Int) < a0),())
def ZmM (k:Nat):=Zhh k
theorem ZKA (k:Nat) (x:Kd.dens Zw):ZG (ZV k) nA Tryz.f62 Zw Zx x = ZmM k x:=by
 show _ = Zhh k x
 obtain ⟨a0,⟨⟩⟩:=x
 kernel_rfl
theorem ZrO (k:Nat):Ctr Tryz.prog k 62 (mk Zw Zx ZmM) :=
 ZH (fn:=Tryz.f62) (Zi Ze) (by kernel_rfl) (by kernel_rfl) (ZKA k)
noncomputable abbrev ZIq:Nat × Callee:=(62,mk Zw Zx ZmM)
abbrev KH:List Kd:=[.box [.own (.int .u8) false,.view (.int .i64)],.view (.int .i64)]
abbrev Qx:Kd:=.tup []
def Zd1 (k:Nat):(List Int × Int × Unit) × Int × Unit → Option (Unit × (List Int × Int × Unit) × Unit)
 | ((a0,a1,()),a2,()) => bif a1.tmod (8:Int) == 0 then bif decide (a0.length + (1:Nat) < (2147483648:Nat)) then bif decide (0 ≤ IntKind.i64.wrap (a1.tdiv (8:Int)) ∧ IntKind.i64.wrap (a1.tdiv (8:Int)) < Int.ofNat (a0 ++ [(0:Int)]).length) then bif decide ((IntKind.i64.wrap (a1.tdiv (8:Int))).toNat < (a0 ++ [(0:Int)]).length) then bif decide (0 ≤ IntKind.i64.wrap ((7:Int) - a1.tmod (8:Int))) then bif decide (0 ≤ IntKind.i64.wrap (a1.tdiv (8:Int)) ∧ IntKind.i64.wrap (a1.tdiv (8:Int)) < Int.ofNat (a0 ++ [(0:Int)]).length) then bif decide ((IntKind.i64.wrap (a1.tdiv (8:Int))).toNat < (a0 ++ [(0:Int)]).length) then some ((),((a0 ++ [(0:Int)]).set (IntKind.i64.wrap (a1.tdiv (8:Int))).toNat (IntKind.u8.wrap (Int.ofNat (BitVec.ofInt 8 ((a0 ++ [(0:Int)]).getD (IntKind.i64.wrap (a1.tdiv (8:Int))).toNat 0) ||| BitVec.ofInt 8 (IntKind.u8.wrap (IntKind.i64.wrap (a2 * (2:Int) ^ min (IntKind.i64.wrap ((7:Int) - a1.tmod (8:Int))).toNat 64)))).toNat)),IntKind.i64.wrap (a1 + 1),()),()) else none else none else none else none else none else none else bif decide (0 ≤ IntKind.i64.wrap (a1.tdiv (8:Int)) ∧ IntKind.i64.wrap (a1.tdiv (8:Int)) < Int.ofNat a0.length) then bif decide ((IntKind.i64.wrap (a1.tdiv (8:Int))).toNat < a0.length) then bif decide (0 ≤ IntKind.i64.wrap ((7:Int) - a1.tmod (8:Int))) then bif decide (0 ≤ IntKind.i64.wrap (a1.tdiv (8:Int)) ∧ IntKind.i64.wrap (a1.tdiv (8:Int)) < Int.ofNat a0.length) then bif decide ((IntKind.i64.wrap (a1.tdiv (8:Int))).toNat < a0.length) then some ((),(a0.set (IntKind.i64.wrap (a1.tdiv (8:Int))).toNat (IntKind.u8.wrap (Int.ofNat (BitVec.ofInt 8 (a0.getD (IntKind.i64.wrap (a1.tdiv (8:Int))).toNat 0) ||| BitVec.ofInt 8 (IntKind.u8.wrap (IntKind.i64.wrap (a2 * (2:Int) ^ min (IntKind.i64.wrap ((7:Int) - a1.tmod (8:Int))).toNat 64)))).toNat)),IntKind.i64.wrap (a1 + 1),()),()) else none else none else none else none else none
def ZfG (k:Nat):=Zd1 k
theorem ZFv (k:Nat) (x:Kd.dens KH):ZG (ZV k) nA Tryz.f103 KH Qx x = ZfG k x:=by
 show _ = Zd1 k x
 obtain ⟨⟨a0,⟨a1,⟨⟩⟩⟩,⟨a2,⟨⟩⟩⟩:=x
 kernel_rfl
theorem Zti (k:Nat):Ctr Tryz.prog k 103 (mk KH Qx ZfG) :=
 ZH (fn:=Tryz.f103) (Zi Ze) (by kernel_rfl) (by kernel_rfl) (ZFv k)
noncomputable abbrev ZIU:Nat × Callee:=(103,mk KH Qx ZfG)
abbrev ZmO:List Kd:=[.box [.own (.int .u8) false,.view (.int .i64)],.view (.int .u64),.view (.int .i64)]
noncomputable def Zpk (k:Nat):=WX k [ZIU]
def ZIr:Nat → Ann:=fun id => bif Nat.beq id 1 then ⟨[6,0,1],[]⟩ else ⟨[],[]⟩
abbrev Zca:=Int × Int × Int × List Int
abbrev ZrP:=Zca → Option (Unit × (List Int × Int × Unit) × Unit)
def ZKB:Zca → St
 | (v0,v1,v2,v3) => St.mk (ZE [(6,Zr v0),(0,AV.bx 0 0),(1,AV.val (PV.v (Value.int IntKind.u64 v1)))]) (ZD [(0,WE [AV.own 8192,Zr v2]),(8192,RS.live (Res.arr (Ty.int IntKind.u8) v3 false))])
def Zdi (k:Nat) (L1:ZrP):ZrP
 | (v0,v1,v2,v3) => bif decide (0 ≤ v0) then bif decide (0 ≤ v0) then (ZfG k ((v3,v2,()),IntKind.i64.wrap (IntKind.u64.wrap (Int.ofNat (BitVec.ofInt 64 (v1.fdiv ((2:Int) ^ min v0.toNat 64)) &&& BitVec.ofInt 64 (1:Int)).toNat)),())).bind fun y => L1 (IntKind.i64.wrap (v0 - 1),v1,y.2.1.2.1,y.2.1.1) else none else some ((),(v3,v2,()),())
def ZrQ (k:Nat):ZrP:=Zs (fun L1 => Zdi k L1) k
noncomputable def Zyg (k:Nat) (n:Nat) (v:Zca) :=
 ZC (Zpk k) ZIr [0] [1,0] [] (Xq Tryz.f63) (XQ (Zpk k) Tryz.f63 ZmO Qx [AV.bx (nat_lit 0) (nat_lit 0)] [[]]) n (ZKB v)
def Zhi (k:Nat) (L1:ZrP):(List Int × Int × Unit) × Int × Int × Unit → Option (Unit × (List Int × Int × Unit) × Unit)
 | ((a0,a1,()),a2,a3,()) => L1 (IntKind.i64.wrap (a3 - 1),a2,a1,a0)
def Zcv (k:Nat):=Zhi k (ZrQ k)
theorem ZDY (k:Nat):∀ n,Zyg k n = Zs (fun L1 => Zdi k L1) n :=
 Zn (fun v => by kernel_rfl) (fun n v => by
  obtain ⟨v0,v1,v2,v3⟩:=v
  kernel_rfl)
theorem ZKC (k:Nat) (x:Kd.dens ZmO):ZG (Zpk k) ZIr Tryz.f63 ZmO Qx x = Zcv k x:=by
 show _ = Zhi k (ZrQ k) x
 rw [show ZrQ k = Zyg k k from (ZDY k k).symm]
 obtain ⟨⟨a0,⟨a1,⟨⟩⟩⟩,⟨a2,⟨a3,⟨⟩⟩⟩⟩:=x
 kernel_rfl
theorem Zyh (k:Nat):Ctr Tryz.prog k 63 (mk ZmO Qx Zcv) :=
 ZH (fn:=Tryz.f63) (Zi (Za (Zti k) Ze)) (by kernel_rfl) (by kernel_rfl) (ZKC k)
noncomputable abbrev ZL0:Nat × Callee:=(63,mk ZmO Qx Zcv)
abbrev Zc8:List Kd:=[.box [.own (.int .u8) false,.view (.int .i64)],.view (.int .i64),.view (.int .i64)]
noncomputable def ZId (k:Nat):=WX k [ZIq,ZL0]
def Zg0 (k:Nat):(List Int × Int × Unit) × Int × Int × Unit → Option (Int × (List Int × Int × Unit) × Unit)
 | ((a0,a1,()),a2,a3,()) => (ZmM k (a3,())).bind fun y => bif y.1 then some (1,(a0,a1,()),()) else bif decide (a2 < 0) then some (12,(a0,a1,()),()) else bif decide (0 ≤ a3) then bif a2.fdiv ((2:Int) ^ min a3.toNat 64) != (0:Int) then some (12,(a0,a1,()),()) else (Zcv k ((a0,a1,()),IntKind.u64.wrap a2,a3,())).bind fun y => some (0,(y.2.1.1,y.2.1.2.1,()),()) else none
def QJ (k:Nat):=Zg0 k
theorem ZJ6 (k:Nat) (x:Kd.dens Zc8):ZG (ZId k) nA Tryz.f26 Zc8 Zf x = QJ k x:=by
 show _ = Zg0 k x
 obtain ⟨⟨a0,⟨a1,⟨⟩⟩⟩,⟨a2,⟨a3,⟨⟩⟩⟩⟩:=x
 kernel_rfl
theorem Zrt (k:Nat):Ctr Tryz.prog k 26 (mk Zc8 Zf QJ) :=
 ZH (fn:=Tryz.f26) (Zi (Za (ZrO k) (Za (Zyh k) Ze))) (by kernel_rfl) (by kernel_rfl) (ZJ6 k)
noncomputable abbrev ZDu:Nat × Callee:=(26,mk Zc8 Zf QJ)
def Zhj (k:Nat):Int × Unit → Option (Int × Unit)
 | (a0,()) => bif a0 == 1 then some (7,()) else some (IntKind.i64.wrap (IntKind.i64.wrap ((5:Int) * a0) + 1),())
def Zpl (k:Nat):=Zhj k
theorem ZKD (k:Nat) (x:Kd.dens Zw):ZG (ZV k) nA Tryz.f64 Zw Zf x = Zpl k x:=by
 show _ = Zhj k x
 obtain ⟨a0,⟨⟩⟩:=x
 kernel_rfl
theorem Zyi (k:Nat):Ctr Tryz.prog k 64 (mk Zw Zf Zpl) :=
 ZH (fn:=Tryz.f64) (Zi Ze) (by kernel_rfl) (by kernel_rfl) (ZKD k)
noncomputable abbrev ZIs:Nat × Callee:=(64,mk Zw Zf Zpl)
abbrev ZmB:Kd:=.tup [.view (.sl (.int .u8)),.view (.int .i64)]
noncomputable def Zuh (k:Nat):=WX k [ZIs]
def ZDv:Nat → Ann:=fun id => bif Nat.beq id 10 then ⟨[6,5,0,4],[]⟩ else bif Nat.beq id 6 then ⟨[0,4],[]⟩ else ⟨[],[]⟩
abbrev Zrv:=Zca → Option ((List Int × Int × Unit) × Unit)
abbrev ZwI:=Int × Int
abbrev Zru:=ZwI → Option ((List Int × Int × Unit) × Unit)
def ZJ8:Zca → St
 | (v0,v1,v2,v3) => St.mk (ZE [(6,Zr v0),(5,AV.own 8192),(0,Zr v1),(4,Zr v2)]) (ZD [(8192,RS.live (Res.arr (Ty.int IntKind.u8) v3 false))])
def Zda (k:Nat) (L2:Zrv):Zrv
 | (v0,v1,v2,v3) => bif decide ((0:Int) < v0) then bif decide (0 ≤ v0 ∧ v0 < Int.ofNat v3.length) then bif decide (v0.toNat < v3.length) then L2 (IntKind.i64.wrap (v0 - 1),v1.fdiv (64:Int),v2,v3.set v0.toNat (IntKind.u8.wrap (Int.ofNat (BitVec.ofInt 8 (128:Int) ||| BitVec.ofInt 8 (IntKind.u8.wrap (IntKind.i64.wrap (Int.ofNat (BitVec.ofInt 64 v1 &&& BitVec.ofInt 64 (63:Int)).toNat)))).toNat))) else none else none else bif decide (0 ≤ v2) then bif decide ((0:Int) ≤ 0 ∧ (0:Int) < Int.ofNat v3.length) then bif decide ((0:Nat) < v3.length) then some ((v3.set (0:Nat) (IntKind.u8.wrap (Int.ofNat (BitVec.ofInt 8 (IntKind.u8.wrap (Int.fdiv (65280:Int) ((2:Int) ^ min v2.toNat 64))) ||| BitVec.ofInt 8 (IntKind.u8.wrap v1)).toNat)),0,()),()) else none else none else none
def ZmA (k:Nat):Zrv:=Zs (fun L2 => Zda k L2) k
noncomputable def Zx1 (k:Nat) (n:Nat) (v:Zca) :=
 ZC (Zuh k) ZDv [] [1,1,1,1,1,1,0,1,0] [] (Xq Tryz.f27) (XQ (Zuh k) Tryz.f27 Zw ZmB [] []) n (ZJ8 v)
def ZJ7:ZwI → St
 | (v0,v1) => St.mk (ZE [(0,Zr v0),(4,Zr v1)]) (ZD [])
def Zc9 (k:Nat) (L2:Zrv) (L1:Zru):Zru
 | (v0,v1) => (Zpl k (v1,())).bind fun y => bif decide ((0:Int) ≤ y.1) then bif decide ((0:Int) < v0.fdiv ((2:Int) ^ min (Int.toNat y.1) (64:Nat))) then L1 (v0,IntKind.i64.wrap (v1 + 1)) else bif decide (0 ≤ v1 ∧ v1 ≤ v1 ∧ v1 < 4294967296) then L2 (IntKind.i64.wrap (v1 - 1),v0,v1,List.replicate v1.toNat (0:Int)) else none else none
def Zrw (k:Nat):Zru:=Zs (fun L1 => Zc9 k (ZmA k) L1) k
noncomputable def Zx0 (k:Nat) (n:Nat) (v:ZwI) :=
 ZC (Zuh k) ZDv [] [1,1,1,1,0,0] [] (Xq Tryz.f27) (XQ (Zuh k) Tryz.f27 Zw ZmB [] []) n (ZJ7 v)
def Zg1 (k:Nat) (L1:Zru):Int × Unit → Option ((List Int × Int × Unit) × Unit)
 | (a0,()) => bif decide (a0 < 0) then some (([],12,()),()) else bif decide ((68719476735:Int) < a0) then some (([],12,()),()) else bif decide (a0 < 128) then some (([IntKind.u8.wrap a0],0,()),()) else L1 (a0,(2:Int))
def Zmz (k:Nat):=Zg1 k (Zrw k)
theorem ZDx (k:Nat):∀ n,Zx1 k n = Zs (fun L2 => Zda k L2) n :=
 Zn (fun v => by kernel_rfl) (fun n v => by
  obtain ⟨v0,v1,v2,v3⟩:=v
  kernel_rfl)
theorem ZDw (k:Nat):∀ n,Zx0 k n = Zs (fun L1 => Zc9 k (ZmA k) L1) n :=
 Zn (fun v => by kernel_rfl) (fun n v => by
  rw [show (ZmA k) = Zx1 k k from (ZDx k k).symm]
  obtain ⟨v0,v1⟩:=v
  kernel_rfl)
theorem ZJ9 (k:Nat) (x:Kd.dens Zw):ZG (Zuh k) ZDv Tryz.f27 Zw ZmB x = Zmz k x:=by
 show _ = Zg1 k (Zrw k) x
 rw [show Zrw k = Zx0 k k from (ZDw k k).symm]
 obtain ⟨a0,⟨⟩⟩:=x
 kernel_rfl
theorem ZG1 (k:Nat):Ctr Tryz.prog k 27 (mk Zw ZmB Zmz) :=
 ZH (fn:=Tryz.f27) (Zi (Za (Zyi k) Ze)) (by kernel_rfl) (by kernel_rfl) (ZJ9 k)
noncomputable abbrev ZLD:Nat × Callee:=(27,mk Zw ZmB Zmz)
abbrev ZiR:List Kd:=[.view (.sl (.int .u8)),.view (.int .i64),.view (.int .u64)]
def ZDZ:Nat → Ann:=fun id => bif Nat.beq id 7 then ⟨[24,7,1,2,13,12,11],[]⟩ else bif Nat.beq id 3 then ⟨[12,13,11,7,1,2],[]⟩ else ⟨[],[]⟩
abbrev ZwS:=Int × Int × Int × Int × Int × Int × List Int
abbrev ZrR:=ZwS → Option (Int × Unit)
abbrev ZwR:=Int × Int × List Int × Int × Int × Int
abbrev ZiQ:=ZwR → Option (Int × Unit)
def ZKF:ZwS → St
 | (v0,v1,v2,v3,v4,v5,v6) => St.mk (ZE [(24,Zr v0),(7,AV.val (PV.v (Value.int IntKind.u64 v1))),(1,Zr v2),(2,AV.val (PV.v (Value.int IntKind.u64 v3))),(13,Zr v4),(12,Zr v5),(11,AV.val (PV.sl (Ty.int IntKind.u8) v6))]) (ZD [])
def Zbz (k:Nat) (L1:ZiQ) (L2:ZrR):ZrR
 | (v0,v1,v2,v3,v4,v5,v6) => bif decide (v0 < 8) then bif decide (0 ≤ IntKind.i64.wrap (v2 - 1)) then bif decide (0 ≤ v2) then L2 (IntKind.i64.wrap (v0 + 1),IntKind.u64.wrap (Int.ofNat (BitVec.ofInt 64 (IntKind.u64.wrap (Int.ofNat (BitVec.ofInt 64 (IntKind.u64.wrap (v1 * (2:Int))) &&& BitVec.ofInt 64 (IntKind.u64.wrap (IntKind.u64.wrap ((1:Int) * (2:Int) ^ min v2.toNat 64) - (1:Int)))).toNat)) ^^^ BitVec.ofInt 64 (IntKind.u64.wrap (IntKind.u64.wrap (Int.ofNat (BitVec.ofInt 64 (v1.fdiv ((2:Int) ^ min (IntKind.i64.wrap (v2 - 1)).toNat 64)) &&& BitVec.ofInt 64 (1:Int)).toNat) * v3))).toNat),v2,v3,v4,v5,v6) else none else none else L1 (v5,IntKind.i64.wrap (v4 + 1),v6,v1,v2,v3)
def ZrT (k:Nat) (L1:ZiQ):ZrR:=Zs (fun L2 => Zbz k L1 L2) k
noncomputable def ZkW (k:Nat) (n1:Nat) (n:Nat) (v:ZwS):Option (Int × Unit) :=
 ZC (ZV k) ZDZ [] [1,1,0,1,0,0,1,1,0,0,1,1,1,0] [n1] (Xq Tryz.f65) (XQ (ZV k) Tryz.f65 ZiR Zf [] []) n (ZKF v)
def ZKE:ZwR → St
 | (v0,v1,v2,v3,v4,v5) => St.mk (ZE [(12,Zr v0),(13,Zr v1),(11,AV.val (PV.sl (Ty.int IntKind.u8) v2)),(7,AV.val (PV.v (Value.int IntKind.u64 v3))),(1,Zr v4),(2,AV.val (PV.v (Value.int IntKind.u64 v5)))]) (ZD [])
def Zdj (k:Nat) (L2:ZrR) (L1:ZiQ):ZiQ
 | (v0,v1,v2,v3,v4,v5) => bif decide (v1 < v0) then bif decide (0 ≤ v1 ∧ v1 < Int.ofNat v2.length) then bif decide (0 ≤ IntKind.i64.wrap (v4 - 8)) then L2 (0,IntKind.u64.wrap (Int.ofNat (BitVec.ofInt 64 v3 ^^^ BitVec.ofInt 64 (IntKind.u64.wrap (IntKind.u64.wrap (v2.getD v1.toNat 0) * (2:Int) ^ min (IntKind.i64.wrap (v4 - 8)).toNat 64))).toNat),v4,v5,v1,v0,v2) else none else none else some (IntKind.i64.wrap v3,())
def ZrS (k:Nat):ZiQ:=Zs (fun L1 => Zdj k (ZrT k L1) L1) k
noncomputable def Zhk (k:Nat) (n:Nat) (v:ZwR) :=
 ZC (ZV k) ZDZ [] [1,1,0,1,0] [] (Xq Tryz.f65) (XQ (ZV k) Tryz.f65 ZiR Zf [] []) n (ZKE v)
def Zhl (k:Nat) (L1:ZiQ):List Int × Int × Int × Unit → Option (Int × Unit)
 | (a0,a1,a2,()) => L1 (Int.ofNat a0.length,(0:Int),a0,(0:Int),a1,a2)
def Zff (k:Nat):=Zhl k (ZrS k)
theorem ZD1 (k:Nat) (n1:Nat):∀ n,ZkW k n1 n = Zs (fun L2 => Zbz k (Zhk k n1) L2) n :=
 Zn (fun v => by kernel_rfl) (fun n v => by
  show ZkW k n1 (n + 1) v = Zbz k (Zhk k n1) (ZkW k n1 n) v
  obtain ⟨v0,v1,v2,v3,v4,v5,v6⟩:=v
  kernel_rfl)
theorem ZD0 (k:Nat):∀ n,Zhk k n = Zs (fun L1 => Zdj k (ZrT k L1) L1) n :=
 Zn (fun v => by kernel_rfl) (fun n v => by
  rw [show (ZrT k (Zhk k n)) = ZkW k n k from (ZD1 k n k).symm]
  obtain ⟨v0,v1,v2,v3,v4,v5⟩:=v
  kernel_rfl)
theorem ZKG (k:Nat) (x:Kd.dens ZiR):ZG (ZV k) ZDZ Tryz.f65 ZiR Zf x = Zff k x:=by
 show _ = Zhl k (ZrS k) x
 rw [show ZrS k = Zhk k k from (ZD0 k k).symm]
 obtain ⟨a0,⟨a1,⟨a2,⟨⟩⟩⟩⟩:=x
 kernel_rfl
theorem Zyj (k:Nat):Ctr Tryz.prog k 65 (mk ZiR Zf Zff) :=
 ZH (fn:=Tryz.f65) (Zi Ze) (by kernel_rfl) (by kernel_rfl) (ZKG k)
noncomputable abbrev ZL1:Nat × Callee:=(65,mk ZiR Zf Zff)
abbrev WO:List Kd:=[.view (.sl (.int .u8))]
noncomputable def ZIe (k:Nat):=WX k [ZL1]
def Zg2 (k:Nat):List Int × Unit → Option (Int × Unit)
 | (a0,()) => (Zff k (a0,8,7,())).bind fun y => some (y.1,())
def Zpf (k:Nat):=Zg2 k
theorem ZKa (k:Nat) (x:Kd.dens WO):ZG (ZIe k) nA Tryz.f28 WO Zf x = Zpf k x:=by
 show _ = Zg2 k x
 obtain ⟨a0,⟨⟩⟩:=x
 kernel_rfl
theorem Zx2 (k:Nat):Ctr Tryz.prog k 28 (mk WO Zf Zpf) :=
 ZH (fn:=Tryz.f28) (Zi (Za (Zyj k) Ze)) (by kernel_rfl) (by kernel_rfl) (ZKa k)
noncomputable abbrev ZIf:Nat × Callee:=(28,mk WO Zf Zpf)
abbrev ZmQ:Kd:=.own (.int .u8) false
def Zpm (k:Nat):List Int × Unit → Option (List Int × Unit):=fun x => Kt x
noncomputable def ZIt (k:Nat):Ctx:={ P:=Tryz.prog,Φ:=phi [],k:=k,live:=fun _ => [] }
noncomputable def ZuC:Code:=ZBA Tryz.f66
theorem Zyk (k:Nat):Ctr Tryz.prog k 66 (mk WO ZmQ Zpm) :=
 Zou (C:=ZIt k) (A:=fun _ => ⟨[],[]⟩) (Zi Ze) Zf3 (f:=66) (fn:=Tryz.f66) (o0:=Zi9 (ZaK [0] ZuC) 0) (o1:=Zi9 (ZaK [1,0,0] ZuC) 0) (o2:=Zi9 (ZaK [1,0,0] ZuC) 1)
  (r0:=0) (r1:=1) (X:=ZaK [1,0,1,0] ZuC) (Y:=ZaK [1,1] ZuC) (T:=32) (E:=5) (U:=32) (t:=(.int .u8))
  (by kernel_rfl) (by kernel_rfl) (by kernel_rfl) (by kernel_rfl) (by kernel_rfl) (of_decide_eq_true (by kernel_rfl)) (by kernel_rfl) ⟨by kernel_rfl,by kernel_rfl,by kernel_rfl⟩ ⟨by kernel_rfl,by kernel_rfl,by kernel_rfl⟩ ⟨by kernel_rfl,by kernel_rfl,by kernel_rfl⟩ (fun xs => by kernel_rfl) (by kernel_rfl)
noncomputable abbrev ZIu:Nat × Callee:=(66,mk WO ZmQ Zpm)
abbrev Zdb:List Kd:=[.box [.own (.int .u8) false,.view (.int .i64)]]
noncomputable def ZLE (k:Nat):=WX k [ZIu] (fun r => bif Nat.beq r 999998 then [66] else [])
def Zg3 (k:Nat):(List Int × Int × Unit) × Unit → Option (List Int × (List Int × Int × Unit) × Unit)
 | ((a0,a1,()),()) => (Zpm k (a0,())).bind fun y => some (y.1,(a0,a1,()),())
def ZmC (k:Nat):=Zg3 k
theorem ZKb (k:Nat) (x:Kd.dens Zdb):ZG (ZLE k) nA Tryz.f29 Zdb ZmQ x = ZmC k x:=by
 show _ = Zg3 k x
 obtain ⟨⟨a0,⟨a1,⟨⟩⟩⟩,⟨⟩⟩:=x
 kernel_rfl
theorem ZG2 (k:Nat):Ctr Tryz.prog k 29 (mk Zdb ZmQ ZmC) :=
 ZH (fn:=Tryz.f29) (Zi (Za (Zyk k) Ze)) (by kernel_rfl) (by kernel_rfl) (ZKb k)
noncomputable abbrev ZLF:Nat × Callee:=(29,mk Zdb ZmQ ZmC)
abbrev Zdc:List Kd:=[.view shapeT,.view (.int .i64)]
abbrev Yo:Kd:=.view (.sl (.int .i64))
noncomputable def ZLG (k:Nat):=WX k [] (fun r => bif Nat.beq r 999999 then [1] else [])
def Zg4 (k:Nat):(Int × Int × Int × Unit) × Int × Unit → Option (List Int × Unit)
 | ((a0,a1,a2,()),a3,()) => bif decide ((0:Int) ≤ 0 ∧ (0:Int) ≤ a0 ∧ a0 ≤ Int.ofNat [a1,a1].length) then bif a3 == 8 then bif decide ((0:Nat) ≤ a0.toNat ∧ a0.toNat ≤ [a1,a1].length ∧ (0:Int) ≤ 1 ∧ (1:Nat) < a0.toNat - (0:Nat)) then bif decide ((0:Nat) ≤ a0.toNat ∧ a0.toNat ≤ [a1,a1].length ∧ (0:Int) ≤ 1 ∧ (1:Nat) < a0.toNat - (0:Nat)) then bif decide ((0:Nat) ≤ a0.toNat ∧ a0.toNat ≤ ([a1,a1].set (1:Nat) (IntKind.i64.wrap ([a1,a1].getD 1 0 + (1:Int)))).length) then some (List.drop 0 (List.take a0.toNat ([a1,a1].set (1:Nat) (IntKind.i64.wrap ([a1,a1].getD 1 0 + (1:Int))))),()) else none else none else none else bif a3 == 10 then bif decide ((0:Nat) ≤ a0.toNat ∧ a0.toNat ≤ [a1,a1].length ∧ (0:Int) ≤ 1 ∧ (1:Nat) < a0.toNat - (0:Nat)) then bif decide ((0:Nat) ≤ a0.toNat ∧ a0.toNat ≤ [a1,a1].length ∧ (0:Int) ≤ 1 ∧ (1:Nat) < a0.toNat - (0:Nat)) then bif decide ((0:Nat) ≤ a0.toNat ∧ a0.toNat ≤ ([a1,a1].set (1:Nat) (IntKind.i64.wrap ([a1,a1].getD 1 0 + (1:Int)))).length) then some (List.drop 0 (List.take a0.toNat ([a1,a1].set (1:Nat) (IntKind.i64.wrap ([a1,a1].getD 1 0 + (1:Int))))),()) else none else none else none else bif a3 == 9 then bif decide ((0:Nat) ≤ a0.toNat ∧ a0.toNat ≤ [a1,a1].length ∧ (0:Int) ≤ 0 ∧ (0:Nat) < a0.toNat - (0:Nat)) then bif decide ((0:Nat) ≤ a0.toNat ∧ a0.toNat ≤ [a1,a1].length ∧ (0:Int) ≤ 0 ∧ (0:Nat) < a0.toNat - (0:Nat)) then bif decide ((0:Nat) ≤ a0.toNat ∧ a0.toNat ≤ ([a1,a1].set (0:Nat) (IntKind.i64.wrap ([a1,a1].getD 0 0 + (1:Int)))).length) then some (List.drop 0 (List.take a0.toNat ([a1,a1].set (0:Nat) (IntKind.i64.wrap ([a1,a1].getD 0 0 + (1:Int))))),()) else none else none else none else bif decide ((0:Nat) ≤ a0.toNat ∧ a0.toNat ≤ [a1,a1].length) then some (List.drop 0 (List.take a0.toNat [a1,a1]),()) else none else none
def Zpg (k:Nat):=Zg4 k
theorem ZKc (k:Nat) (x:Kd.dens Zdc):ZG (ZLG k) nA Tryz.f30 Zdc Yo x = Zpg k x:=by
 show _ = Zg4 k x
 obtain ⟨⟨a0,⟨a1,⟨a2,⟨⟩⟩⟩⟩,⟨a3,⟨⟩⟩⟩:=x
 kernel_rfl
theorem Zx3 (k:Nat):Ctr Tryz.prog k 30 (mk Zdc Yo Zpg) :=
 ZH (fn:=Tryz.f30) (Zi Ze) (by kernel_rfl) (by kernel_rfl) (ZKc k)
noncomputable abbrev ZIg:Nat × Callee:=(30,mk Zdc Yo Zpg)
abbrev Kv:List Kd:=[.view (.int .i64),.view (.int .i64)]
def Zhx (k:Nat):Int × Int × Unit → Option (Bool × Unit)
 | (a0,a1,()) => bif decide (1 ≤ a0) then bif decide (a0 ≤ 512) then bif decide (4 ≤ a1) then some (decide (a1 ≤ 25),()) else some (false,()) else some (false,()) else some (false,())
def Zpp (k:Nat):=Zhx k
theorem ZKY (k:Nat) (x:Kd.dens Kv):ZG (ZV k) nA Tryz.f86 Kv Zx x = Zpp k x:=by
 show _ = Zhx k x
 obtain ⟨a0,⟨a1,⟨⟩⟩⟩:=x
 kernel_rfl
theorem Zyv (k:Nat):Ctr Tryz.prog k 86 (mk Kv Zx Zpp) :=
 ZH (fn:=Tryz.f86) (Zi Ze) (by kernel_rfl) (by kernel_rfl) (ZKY k)
noncomputable abbrev ZIz:Nat × Callee:=(86,mk Kv Zx Zpp)
def ZhA (k:Nat):Int × Int × Unit → Option (Bool × Unit)
 | (a0,a1,()) => bif decide (0 ≤ IntKind.i64.wrap (a1 - 1)) then bif a0.fdiv ((2:Int) ^ min (IntKind.i64.wrap (a1 - 1)).toNat 64) == (0:Int) then some (true,()) else bif decide (0 ≤ IntKind.i64.wrap (a1 - 1)) then some (a0.fdiv ((2:Int) ^ min (IntKind.i64.wrap (a1 - 1)).toNat 64) == (-1:Int),()) else none else none
def Zpq (k:Nat):=ZhA k
theorem ZK1 (k:Nat) (x:Kd.dens Kv):ZG (ZV k) nA Tryz.f89 Kv Zx x = Zpq k x:=by
 show _ = ZhA k x
 obtain ⟨a0,⟨a1,⟨⟩⟩⟩:=x
 kernel_rfl
theorem Zyw (k:Nat):Ctr Tryz.prog k 89 (mk Kv Zx Zpq) :=
 ZH (fn:=Tryz.f89) (Zi Ze) (by kernel_rfl) (by kernel_rfl) (ZK1 k)
noncomputable abbrev ZIB:Nat × Callee:=(89,mk Kv Zx Zpq)
abbrev Zj7:List Kd:=[.view (.int .i64),.box [.view (.int .i64)]]
noncomputable def ZIV (k:Nat):=WX k [ZIB]
def Zd2 (k:Nat):Int × (Int × Unit) × Unit → Option (Bool × (Int × Unit) × Unit)
 | (a0,(a1,()),()) => (Zpq k (a0,a1,())).bind fun y => some (!y.1,(a1,()),())
def ZlM (k:Nat):=Zd2 k
theorem ZFy (k:Nat) (x:Kd.dens Zj7):ZG (ZIV k) nA Tryz.f105 Zj7 Zx x = ZlM k x:=by
 show _ = Zd2 k x
 obtain ⟨a0,⟨⟨a1,⟨⟩⟩,⟨⟩⟩⟩:=x
 kernel_rfl
theorem ZB1 (k:Nat):Ctr Tryz.prog k 105 (mk Zj7 Zx ZlM) :=
 ZH (fn:=Tryz.f105) (Zi (Za (Zyw k) Ze)) (by kernel_rfl) (by kernel_rfl) (ZFy k)
noncomputable abbrev ZIW:Nat × Callee:=(105,mk Zj7 Zx ZlM)
abbrev Xs:List Kd:=[.view (.sl (.int .i64)),.clo 105 [.box [.view (.int .i64)]]]
noncomputable def ZlY (k:Nat):=WX k [ZIW]
def XJ:Nat → Ann:=fun id => bif Nat.beq id 2 then ⟨[7,8,1,0],[]⟩ else ⟨[],[]⟩
abbrev Wa:=Int × Int × List Int × Int
abbrev Zew:=Wa → Option (Int × (Int × Unit) × Unit)
def Zz7:Wa → St
 | (v0,v1,v2,v3) => St.mk (ZE [(7,Zr v0),(8,Zr v1),(1,AV.clo 105 [AV.bx 0 0]),(0,Yk v2)]) (ZD [(0,WE [Zr v3])])
def Y8 (k:Nat) (L1:Zew):Zew
 | (v0,v1,v2,v3) => bif decide (v1 < v0) then bif decide (0 ≤ v1 ∧ v1 < Int.ofNat v2.length) then (ZlM k (v2.getD v1.toNat 0,(v3,()),())).bind fun y => bif y.1 then some (v1,(y.2.1.1,()),()) else L1 (v0,IntKind.i64.wrap (v1 + 1),v2,y.2.1.1) else none else some ((-1:Int),(v3,()),())
def Ziz (k:Nat):Zew:=Zs (fun L1 => Y8 k L1) k
noncomputable def ZlZ (k:Nat) (n:Nat) (v:Wa) :=
 ZC (ZlY k) XJ [0] [1,0,1,0] [] (Xq Tryz.f146) (XQ (ZlY k) Tryz.f146 Xs Zf [AV.bx (nat_lit 0) (nat_lit 0)] [[]]) n (Zz7 v)
def Zjv (k:Nat) (L1:Zew):List Int × ((Int × Unit) × Unit) × Unit → Option (Int × (Int × Unit) × Unit)
 | (a0,((a1,()),()),()) => L1 (Int.ofNat a0.length,(0:Int),a0,a1)
def ZcX (k:Nat):=Zjv k (Ziz k)
theorem ZtL (k:Nat):∀ n,ZlZ k n = Zs (fun L1 => Y8 k L1) n :=
 Zn (fun v => by kernel_rfl) (fun n v => by
  obtain ⟨v0,v1,v2,v3⟩:=v
  kernel_rfl)
theorem Zz8 (k:Nat) (x:Kd.dens Xs):ZG (ZlY k) XJ Tryz.f146 Xs Zf x = ZcX k x:=by
 show _ = Zjv k (Ziz k) x
 rw [show Ziz k = ZlZ k k from (ZtL k k).symm]
 obtain ⟨a0,⟨⟨⟨a1,⟨⟩⟩,⟨⟩⟩,⟨⟩⟩⟩:=x
 kernel_rfl
theorem Zwk (k:Nat):Ctr Tryz.prog k 146 (mk Xs Zf ZcX) :=
 ZH (fn:=Tryz.f146) (Zi (Za (ZB1 k) Ze)) (by kernel_rfl) (by kernel_rfl) (Zz8 k)
noncomputable abbrev ZCz:Nat × Callee:=(146,mk Xs Zf ZcX)
noncomputable def ZBR (k:Nat):=WX k [ZCz]
def Zar (k:Nat):List Int × ((Int × Unit) × Unit) × Unit → Option (Bool × (Int × Unit) × Unit)
 | (a0,((a1,()),()),()) => (ZcX k (a0,((a1,()),()),())).bind fun y => some (decide ((0:Int) ≤ y.1),(y.2.1.1,()),())
def ZcP (k:Nat):=Zar k
theorem Zzr (k:Nat) (x:Kd.dens Xs):ZG (ZBR k) nA Tryz.f104 Xs Zx x = ZcP k x:=by
 show _ = Zar k x
 obtain ⟨a0,⟨⟨⟨a1,⟨⟩⟩,⟨⟩⟩,⟨⟩⟩⟩:=x
 kernel_rfl
theorem Zv5 (k:Nat):Ctr Tryz.prog k 104 (mk Xs Zx ZcP) :=
 ZH (fn:=Tryz.f104) (Zi (Za (Zwk k) Ze)) (by kernel_rfl) (by kernel_rfl) (Zzr k)
noncomputable abbrev ZBS:Nat × Callee:=(104,mk Xs Zx ZcP)
abbrev Z1:List Kd:=[.view (.sl (.int .i64)),.view (.int .i64)]
noncomputable def ZL2 (k:Nat):=WX k [ZIz,ZBS]
def Zhm (k:Nat):List Int × Int × Unit → Option (Int × Unit)
 | (a0,a1,()) => (Zpp k (Int.ofNat a0.length,a1,())).bind fun y => bif !y.1 then some (1,()) else (ZcP k (a0,((a1,()),()),())).bind fun y => bif y.1 then some (12,()) else some (0,())
def Zpn (k:Nat):=Zhm k
theorem ZKH (k:Nat) (x:Kd.dens Z1):ZG (ZL2 k) nA Tryz.f67 Z1 Zf x = Zpn k x:=by
 show _ = Zhm k x
 obtain ⟨a0,⟨a1,⟨⟩⟩⟩:=x
 kernel_rfl
theorem ZHi (k:Nat):Ctr Tryz.prog k 67 (mk Z1 Zf Zpn) :=
 ZH (fn:=Tryz.f67) (Zi (Za (Zyv k) (Za (Zv5 k) Ze))) (by kernel_rfl) (by kernel_rfl) (ZKH k)
noncomputable abbrev ZL3:Nat × Callee:=(67,mk Z1 Zf Zpn)
abbrev Zkb:List Kd:=[.view (.int .i64),.box [.view (.int .i64),.view (.int .i64),.view (.int .i64),.view (.sl (.int .i64)),.view (.sl (.int .i64)),.view (.int .i64),.view (.sl (.int .i64)),.view (.int .i64)]]
def Zd4 (k:Nat):Int × (Int × Int × Int × List Int × List Int × Int × List Int × Int × Unit) × Unit → Option (Bool × (Int × Int × Int × List Int × List Int × Int × List Int × Int × Unit) × Unit)
 | (a0,(a1,a2,a3,a4,a5,a6,a7,a8,()),()) => bif decide ((0:Int) ≤ 0 ∧ (0:Int) < Int.ofNat a4.length) then some (a0 != a4.getD 0 0,(a1,a2,a3,a4,a5,a6,a7,a8,()),()) else none
def ZlP (k:Nat):=Zd4 k
theorem ZFC (k:Nat) (x:Kd.dens Zkb):ZG (ZV k) nA Tryz.f108 Zkb Zx x = ZlP k x:=by
 show _ = Zd4 k x
 obtain ⟨a0,⟨⟨a1,⟨a2,⟨a3,⟨a4,⟨a5,⟨a6,⟨a7,⟨a8,⟨⟩⟩⟩⟩⟩⟩⟩⟩⟩,⟨⟩⟩⟩:=x
 kernel_rfl
theorem ZB5 (k:Nat):Ctr Tryz.prog k 108 (mk Zkb Zx ZlP) :=
 ZH (fn:=Tryz.f108) (Zi Ze) (by kernel_rfl) (by kernel_rfl) (ZFC k)
noncomputable abbrev ZIZ:Nat × Callee:=(108,mk Zkb Zx ZlP)
abbrev Xt:List Kd:=[.view (.sl (.int .i64)),.clo 108 [.box [.view (.int .i64),.view (.int .i64),.view (.int .i64),.view (.sl (.int .i64)),.view (.sl (.int .i64)),.view (.int .i64),.view (.sl (.int .i64)),.view (.int .i64)]]]
noncomputable def Zl0 (k:Nat):=WX k [ZIZ]
abbrev ZiB:=Int × Int × List Int × Int × Int × Int × List Int × List Int × Int × List Int × Int
abbrev Zex:=ZiB → Option (Int × (Int × Int × Int × List Int × List Int × Int × List Int × Int × Unit) × Unit)
def Zz9:ZiB → St
 | (v0,v1,v2,v3,v4,v5,v6,v7,v8,v9,v10) => St.mk (ZE [(7,Zr v0),(8,Zr v1),(1,AV.clo 108 [AV.bx 0 0]),(0,Yk v2)]) (ZD [(0,WE [Zr v3,Zr v4,Zr v5,Yk v6,Yk v7,Zr v8,Yk v9,Zr v10])])
def Y9 (k:Nat) (L1:Zex):Zex
 | (v0,v1,v2,v3,v4,v5,v6,v7,v8,v9,v10) => bif decide (v1 < v0) then bif decide (0 ≤ v1 ∧ v1 < Int.ofNat v2.length) then (ZlP k (v2.getD v1.toNat 0,(v3,v4,v5,v6,v7,v8,v9,v10,()),())).bind fun y => bif y.1 then some (v1,(y.2.1.1,y.2.1.2.1,y.2.1.2.2.1,y.2.1.2.2.2.1,y.2.1.2.2.2.2.1,y.2.1.2.2.2.2.2.1,y.2.1.2.2.2.2.2.2.1,y.2.1.2.2.2.2.2.2.2.1,()),()) else L1 (v0,IntKind.i64.wrap (v1 + 1),v2,y.2.1.1,y.2.1.2.1,y.2.1.2.2.1,y.2.1.2.2.2.1,y.2.1.2.2.2.2.1,y.2.1.2.2.2.2.2.1,y.2.1.2.2.2.2.2.2.1,y.2.1.2.2.2.2.2.2.2.1) else none else some ((-1:Int),(v3,v4,v5,v6,v7,v8,v9,v10,()),())
def ZiA (k:Nat):Zex:=Zs (fun L1 => Y9 k L1) k
noncomputable def Zl1 (k:Nat) (n:Nat) (v:ZiB) :=
 ZC (Zl0 k) XJ [0] [1,0,1,0] [] (Xq Tryz.f146) (XQ (Zl0 k) Tryz.f146 Xt Zf [AV.bx (nat_lit 0) (nat_lit 0)] [[]]) n (Zz9 v)
def Zjw (k:Nat) (L1:Zex):List Int × ((Int × Int × Int × List Int × List Int × Int × List Int × Int × Unit) × Unit) × Unit → Option (Int × (Int × Int × Int × List Int × List Int × Int × List Int × Int × Unit) × Unit)
 | (a0,((a1,a2,a3,a4,a5,a6,a7,a8,()),()),()) => L1 (Int.ofNat a0.length,(0:Int),a0,a1,a2,a3,a4,a5,a6,a7,a8)
def ZcY (k:Nat):=Zjw k (ZiA k)
theorem ZtM (k:Nat):∀ n,Zl1 k n = Zs (fun L1 => Y9 k L1) n :=
 Zn (fun v => by kernel_rfl) (fun n v => by
  obtain ⟨v0,v1,v2,v3,v4,v5,v6,v7,v8,v9,v10⟩:=v
  kernel_rfl)
theorem ZAa (k:Nat) (x:Kd.dens Xt):ZG (Zl0 k) XJ Tryz.f146 Xt Zf x = ZcY k x:=by
 show _ = Zjw k (ZiA k) x
 rw [show ZiA k = Zl1 k k from (ZtM k k).symm]
 obtain ⟨a0,⟨⟨⟨a1,⟨a2,⟨a3,⟨a4,⟨a5,⟨a6,⟨a7,⟨a8,⟨⟩⟩⟩⟩⟩⟩⟩⟩⟩,⟨⟩⟩,⟨⟩⟩⟩:=x
 kernel_rfl
theorem Zwl (k:Nat):Ctr Tryz.prog k 146 (mk Xt Zf ZcY) :=
 ZH (fn:=Tryz.f146) (Zi (Za (ZB5 k) Ze)) (by kernel_rfl) (by kernel_rfl) (ZAa k)
noncomputable abbrev ZCA:Nat × Callee:=(146,mk Xt Zf ZcY)
noncomputable def ZBT (k:Nat):=WX k [ZCA]
def Zas (k:Nat):List Int × ((Int × Int × Int × List Int × List Int × Int × List Int × Int × Unit) × Unit) × Unit → Option (Bool × (Int × Int × Int × List Int × List Int × Int × List Int × Int × Unit) × Unit)
 | (a0,((a1,a2,a3,a4,a5,a6,a7,a8,()),()),()) => (ZcY k (a0,((a1,a2,a3,a4,a5,a6,a7,a8,()),()),())).bind fun y => some (decide ((0:Int) ≤ y.1),(y.2.1.1,y.2.1.2.1,y.2.1.2.2.1,y.2.1.2.2.2.1,y.2.1.2.2.2.2.1,y.2.1.2.2.2.2.2.1,y.2.1.2.2.2.2.2.2.1,y.2.1.2.2.2.2.2.2.2.1,()),())
def ZcQ (k:Nat):=Zas k
theorem Zzs (k:Nat) (x:Kd.dens Xt):ZG (ZBT k) nA Tryz.f104 Xt Zx x = ZcQ k x:=by
 show _ = Zas k x
 obtain ⟨a0,⟨⟨⟨a1,⟨a2,⟨a3,⟨a4,⟨a5,⟨a6,⟨a7,⟨a8,⟨⟩⟩⟩⟩⟩⟩⟩⟩⟩,⟨⟩⟩,⟨⟩⟩⟩:=x
 kernel_rfl
theorem Zv6 (k:Nat):Ctr Tryz.prog k 104 (mk Xt Zx ZcQ) :=
 ZH (fn:=Tryz.f104) (Zi (Za (Zwl k) Ze)) (by kernel_rfl) (by kernel_rfl) (Zzs k)
noncomputable abbrev ZBU:Nat × Callee:=(104,mk Xt Zx ZcQ)
abbrev ZkC:List Kd:=[.view (.int .u64)]
def Zwp (k:Nat):Int × Unit → Option (Int × Unit):=fun x => tzF x
def ZMl:Go.Shelf.Ren:=⟨fun n => match n with | 29 => 147 | _ => 0,fun n => match n with | 0 => 0 | 3 => 3 | 4 => 4 | 5 => 5 | 22 => 49 | 25 => 114 | 54 => 216 | _ => 0,fun n => n⟩
set_option maxRecDepth 100000 in
theorem ZLi:Go.Proofs.Lays7.n29 Tryz.prog ZMl:=by
 constructor <;> first | kernel_rfl | (intro w; rfl)
set_option maxRecDepth 100000 in
theorem ZCE (k:Nat):Ctr Tryz.prog k 147 (mk ZkC Zf Zwp):=ZLj ZLi (fn:=Tryz.f147) (by kernel_rfl) rfl (by kernel_rfl) (by kernel_rfl) (by kernel_rfl)
noncomputable abbrev ZJi:Nat × Callee:=(147,mk ZkC Zf Zwp)
noncomputable def Zwa (k:Nat):=WX k [ZJi]
def ZB2:Nat → Ann:=fun id => bif Nat.beq id 3 then ⟨[7,8,6,3],[]⟩ else ⟨[],[]⟩
abbrev Zj8:=Wa → Option (Int × Unit)
def ZFz:Wa → St
 | (v0,v1,v2,v3) => St.mk (ZE [(7,Zr v0),(8,Zr v1),(6,Yk v2),(3,Zr v3)]) (ZD [])
def Za9 (k:Nat) (L1:Zj8):Zj8
 | (v0,v1,v2,v3) => bif decide (v1 < v0) then bif decide (0 ≤ v1 ∧ v1 < Int.ofNat v2.length) then L1 (v0,IntKind.i64.wrap (v1 + 1),v2,IntKind.i64.wrap (Int.ofNat (BitVec.ofInt 64 v3 ||| BitVec.ofInt 64 (v2.getD v1.toNat 0)).toNat)) else none else bif v3 == 0 then some (0,()) else (Zwp k (IntKind.u64.wrap v3,())).bind fun y => some (y.1,())
def Zj9 (k:Nat):Zj8:=Zs (fun L1 => Za9 k L1) k
noncomputable def Ztn (k:Nat) (n:Nat) (v:Wa) :=
 ZC (Zwa k) ZB2 [] [1,1,0,1,0] [] (Xq Tryz.f106) (XQ (Zwa k) Tryz.f106 Kw Zf [] []) n (ZFz v)
def Zd3 (k:Nat) (L1:Zj8):List Int × Unit → Option (Int × Unit)
 | (a0,()) => L1 (Int.ofNat a0.length,(0:Int),a0,(0:Int))
def ZlN (k:Nat):=Zd3 k (Zj9 k)
theorem Zzy (k:Nat):∀ n,Ztn k n = Zs (fun L1 => Za9 k L1) n :=
 Zn (fun v => by kernel_rfl) (fun n v => by
  obtain ⟨v0,v1,v2,v3⟩:=v
  kernel_rfl)
theorem ZFA (k:Nat) (x:Kd.dens Kw):ZG (Zwa k) ZB2 Tryz.f106 Kw Zf x = ZlN k x:=by
 show _ = Zd3 k (Zj9 k) x
 rw [show Zj9 k = Ztn k k from (Zzy k k).symm]
 obtain ⟨a0,⟨⟩⟩:=x
 kernel_rfl
theorem ZB3 (k:Nat):Ctr Tryz.prog k 106 (mk Kw Zf ZlN) :=
 ZH (fn:=Tryz.f106) (Zi (Za (ZCE k) Ze)) (by kernel_rfl) (by kernel_rfl) (ZFA k)
noncomputable abbrev ZIX:Nat × Callee:=(106,mk Kw Zf ZlN)
abbrev XY:Kd:=.tup [.view ZfY,.view (.int .i64)]
def ZqH:Nat → Ann:=fun id => bif Nat.beq id 17 then ⟨[48,49,47,8,2],[.cell 8 0 ((Ty.int IntKind.i64))]⟩ else bif Nat.beq id 9 then ⟨[29,30,28,5,20,19,2],[]⟩ else bif Nat.beq id 5 then ⟨[19,20,4,2],[]⟩ else ⟨[],[]⟩
abbrev ZqL:=Int × Int × Int × Int × List Int × List Int × Int
abbrev Zkc:=ZqL → Option (((List Int × Int × Unit) × Int × Unit) × Unit)
abbrev Zd6:=Int × Int × List Int × Int × List Int × Int
abbrev Zkd:=Zd6 → Option (((List Int × Int × Unit) × Int × Unit) × Unit)
abbrev Zd5:=Wa → Option (((List Int × Int × Unit) × Int × Unit) × Unit)
def ZFE:ZqL → St
 | (v0,v1,v2,v3,v4,v5,v6) => St.mk (ZE [(29,Zr v0),(30,Zr v1),(28,AV.own 8192),(5,AV.own 8193),(20,Zr v2),(19,Zr v3),(2,AV.bx 8194 0)]) (ZD [(8192,rsA v4 false),(8193,rsA v5 false),(8194,WE [AV.val (PV.v (Value.slice none (0:Nat) (0:Nat))),Zr v6])])
def Zio (k:Nat) (L1:Zd5) (L2:Zkc):Zkc
 | (v0,v1,v2,v3,v4,v5,v6) => bif decide (v1 < v0) then bif decide (0 ≤ v1 ∧ v1 < Int.ofNat v4.length) then bif decide (v1.toNat < v4.length) then bif decide (0 ≤ IntKind.i64.wrap (v1 + 1) ∧ IntKind.i64.wrap (v1 + 1) < Int.ofNat v5.length) then bif decide ((IntKind.i64.wrap (v1 + 1)).toNat < v5.length) then bif decide (0 ≤ IntKind.i64.wrap (v1 + 1) ∧ IntKind.i64.wrap (v1 + 1) < Int.ofNat v5.length) then bif decide ((IntKind.i64.wrap (v1 + 1)).toNat < v5.length) then L2 (v0,IntKind.i64.wrap (v1 + 1),v2,v3,v4,v5.set (IntKind.i64.wrap (v1 + 1)).toNat (IntKind.i64.wrap (v5.getD (IntKind.i64.wrap (v1 + 1)).toNat 0 - v4.getD v1.toNat 0)),v6) else none else none else none else none else none else none else L1 (v3,IntKind.i64.wrap (v2 + 1),v5,v6)
def ZqJ (k:Nat) (L1:Zd5):Zkc:=Zs (fun L2 => Zio k L1 L2) k
noncomputable def ZgF (k:Nat) (n1:Nat) (n:Nat) (v:ZqL):Option (((List Int × Int × Unit) × Int × Unit) × Unit) :=
 ZC (ZV k) ZqH [] [1,1,1,0,1,0,0,1,1,0,0,1,1,0,1,0] [n1] (Xq Tryz.f109) (XQ (ZV k) Tryz.f109 Zw XY [] []) n (ZFE v)
def ZFF:Zd6 → St
 | (v0,v1,v2,v3,v4,v5) => St.mk (ZE [(48,Zr v0),(49,Zr v1),(47,Yk v2),(8,AV.bx 8192 0),(2,AV.bx 8194 0)]) (ZD [(8192,WE [AV.own 8193,Zr v3]),(8193,rsA v4 false),(8194,WE [AV.val (PV.v (Value.slice none (0:Nat) (0:Nat))),Zr v5])])
def ZoH (k:Nat) (L3:Zkd):Zkd
 | (v0,v1,v2,v3,v4,v5) => bif decide (v1 < v0) then bif decide (0 ≤ v1 ∧ v1 < Int.ofNat v2.length) then bif decide (v4.length + [IntKind.i64.wrap ((0:Int) - v2.getD v1.toNat 0)].length < 2147483648) then L3 (v0,IntKind.i64.wrap (v1 + 1),v2,v3,v4 ++ [IntKind.i64.wrap ((0:Int) - v2.getD v1.toNat 0)],v5) else none else none else some (((v4,v3,()),0,()),())
def ZqK (k:Nat):Zkd:=Zs (fun L3 => ZoH k L3) k
noncomputable def Zto (k:Nat) (n:Nat) (v:Zd6) :=
 ZC (ZV k) ZqH [] [1,1,1,1,1,0,1,0] [] (Xq Tryz.f109) (XQ (ZV k) Tryz.f109 Zw XY [] []) n (ZFF v)
def ZFD:Wa → St
 | (v0,v1,v2,v3) => St.mk (ZE [(19,Zr v0),(20,Zr v1),(4,AV.own 8192),(2,AV.bx 8193 0)]) (ZD [(8192,rsA v2 false),(8193,WE [AV.val (PV.v (Value.slice none (0:Nat) (0:Nat))),Zr v3])])
def ZoG (k:Nat) (L2:Zkc) (L3:Zkd) (L1:Zd5):Zd5
 | (v0,v1,v2,v3) => bif decide (v1 < v0) then bif decide ((0:Nat) + v2.length < 2147483648) then bif decide (([] ++ v2).length + (1:Nat) < (2147483648:Nat)) then L2 (Int.ofNat v2.length,(0:Int),v1,v0,v2,[] ++ v2 ++ [(0:Int)],v3) else none else none else bif decide ((0:Int) ≤ 1 ∧ (1:Int) ≤ Int.ofNat v2.length ∧ Int.ofNat v2.length ≤ Int.ofNat v2.length) then L3 (Int.ofNat (List.drop 1 (List.take (Int.ofNat v2.length).toNat v2)).length,(0:Int),List.drop 1 (List.take (Int.ofNat v2.length).toNat v2),(0:Int),[],v3) else none
def ZqI (k:Nat):Zd5:=Zs (fun L1 => ZoG k (ZqJ k L1) (ZqK k) L1) k
noncomputable def ZcU (k:Nat) (n:Nat) (v:Wa) :=
 ZC (ZV k) ZqH [] [1,1,1,0,1,0] [] (Xq Tryz.f109) (XQ (ZV k) Tryz.f109 Zw XY [] []) n (ZFD v)
def ZoF (k:Nat) (L1:Zd5):Int × Unit → Option (((List Int × Int × Unit) × Int × Unit) × Unit)
 | (a0,()) => bif decide (a0 < 0) then some ((([],(0:Int),()),1,()),()) else bif decide ((4:Int) < a0) then some ((([],(0:Int),()),1,()),()) else L1 (a0,(0:Int),[(1:Int)],(0:Int))
def ZcT (k:Nat):=ZoF k (ZqI k)
theorem ZzB (k:Nat) (n1:Nat):∀ n,ZgF k n1 n = Zs (fun L2 => Zio k (ZcU k n1) L2) n :=
 Zn (fun v => by kernel_rfl) (fun n v => by
  show ZgF k n1 (n + 1) v = Zio k (ZcU k n1) (ZgF k n1 n) v
  obtain ⟨v0,v1,v2,v3,v4,v5,v6⟩:=v
  kernel_rfl)
theorem ZzC (k:Nat):∀ n,Zto k n = Zs (fun L3 => ZoH k L3) n :=
 Zn (fun v => by kernel_rfl) (fun n v => by
  obtain ⟨v0,v1,v2,v3,v4,v5⟩:=v
  kernel_rfl)
theorem ZzA (k:Nat):∀ n,ZcU k n = Zs (fun L1 => ZoG k (ZqJ k L1) (ZqK k) L1) n :=
 Zn (fun v => by kernel_rfl) (fun n v => by
  rw [show (ZqJ k (ZcU k n)) = ZgF k n k from (ZzB k n k).symm,show (ZqK k) = Zto k k from (ZzC k k).symm]
  obtain ⟨v0,v1,v2,v3⟩:=v
  kernel_rfl)
theorem ZFG (k:Nat) (x:Kd.dens Zw):ZG (ZV k) ZqH Tryz.f109 Zw XY x = ZcT k x:=by
 show _ = ZoF k (ZqI k) x
 rw [show ZqI k = ZcU k k from (ZzA k k).symm]
 obtain ⟨a0,⟨⟩⟩:=x
 kernel_rfl
theorem ZlQ (k:Nat):Ctr Tryz.prog k 109 (mk Zw XY ZcT) :=
 ZH (fn:=Tryz.f109) (Zi Ze) (by kernel_rfl) (by kernel_rfl) (ZFG k)
noncomputable abbrev Zwb:Nat × Callee:=(109,mk Zw XY ZcT)
def ZeA (k:Nat):Int × Unit → Option (Bool × Unit)
 | (a0,()) => bif decide (a0 ≤ -2147483648) then some (true,()) else some (decide (2147483648 ≤ a0),())
def ZfO (k:Nat):=ZeA k
theorem ZGm (k:Nat) (x:Kd.dens Zw):ZG (ZV k) nA Tryz.f150 Zw Zx x = ZfO k x:=by
 show _ = ZeA k x
 obtain ⟨a0,⟨⟩⟩:=x
 kernel_rfl
theorem Zma (k:Nat):Ctr Tryz.prog k 150 (mk Zw Zx ZfO) :=
 ZH (fn:=Tryz.f150) (Zi Ze) (by kernel_rfl) (by kernel_rfl) (ZGm k)
noncomputable abbrev Zwt:Nat × Callee:=(150,mk Zw Zx ZfO)
abbrev Xu:List Kd:=[.view (.sl (.int .i64)),.fn 150]
noncomputable def Zl2 (k:Nat):=WX k [Zwt]
abbrev YI:=Int × Int × List Int
abbrev Wb:=YI → Option (Int × Unit)
def ZAb:YI → St
 | (v0,v1,v2) => St.mk (ZE [(7,Zr v0),(8,Zr v1),(1,AV.fn 150),(0,Yk v2)]) (ZD [])
def Ka (k:Nat) (L1:Wb):Wb
 | (v0,v1,v2) => bif decide (v1 < v0) then bif decide (0 ≤ v1 ∧ v1 < Int.ofNat v2.length) then (ZfO k (v2.getD v1.toNat 0,())).bind fun y => bif y.1 then some (v1,()) else L1 (v0,IntKind.i64.wrap (v1 + 1),v2) else none else some ((-1:Int),())
def ZiC (k:Nat):Wb:=Zs (fun L1 => Ka k L1) k
noncomputable def Zl3 (k:Nat) (n:Nat) (v:YI) :=
 ZC (Zl2 k) XJ [] [1,0,1,0] [] (Xq Tryz.f146) (XQ (Zl2 k) Tryz.f146 Xu Zf [] []) n (ZAb v)
def Zjx (k:Nat) (L1:Wb):List Int × Unit × Unit → Option (Int × Unit)
 | (a0,(),()) => L1 (Int.ofNat a0.length,(0:Int),a0)
def ZcZ (k:Nat):=Zjx k (ZiC k)
theorem ZtN (k:Nat):∀ n,Zl3 k n = Zs (fun L1 => Ka k L1) n :=
 Zn (fun v => by kernel_rfl) (fun n v => by
  obtain ⟨v0,v1,v2⟩:=v
  kernel_rfl)
theorem ZAc (k:Nat) (x:Kd.dens Xu):ZG (Zl2 k) XJ Tryz.f146 Xu Zf x = ZcZ k x:=by
 show _ = Zjx k (ZiC k) x
 rw [show ZiC k = Zl3 k k from (ZtN k k).symm]
 obtain ⟨a0,⟨⟨⟩,⟨⟩⟩⟩:=x
 kernel_rfl
theorem Zwm (k:Nat):Ctr Tryz.prog k 146 (mk Xu Zf ZcZ) :=
 ZH (fn:=Tryz.f146) (Zi (Za (Zma k) Ze)) (by kernel_rfl) (by kernel_rfl) (ZAc k)
noncomputable abbrev ZCB:Nat × Callee:=(146,mk Xu Zf ZcZ)
noncomputable def ZBV (k:Nat):=WX k [ZCB]
def Zat (k:Nat):List Int × Unit × Unit → Option (Bool × Unit)
 | (a0,(),()) => (ZcZ k (a0,(),())).bind fun y => some (decide ((0:Int) ≤ y.1),())
def Y5 (k:Nat):=Zat k
theorem Zzt (k:Nat) (x:Kd.dens Xu):ZG (ZBV k) nA Tryz.f104 Xu Zx x = Y5 k x:=by
 show _ = Zat k x
 obtain ⟨a0,⟨⟨⟩,⟨⟩⟩⟩:=x
 kernel_rfl
theorem ZfH (k:Nat):Ctr Tryz.prog k 104 (mk Xu Zx Y5) :=
 ZH (fn:=Tryz.f104) (Zi (Za (Zwm k) Ze)) (by kernel_rfl) (by kernel_rfl) (Zzt k)
noncomputable abbrev ZlL:Nat × Callee:=(104,mk Xu Zx Y5)
def ZeU (k:Nat):Int × Unit → Option (Bool × Unit)
 | (a0,()) => bif decide (a0 < -2048) then some (true,()) else some (decide ((2047:Int) < a0),())
def Zmr (k:Nat):=ZeU k
theorem ZGU (k:Nat) (x:Kd.dens Zw):ZG (ZV k) nA Tryz.f192 Zw Zx x = Zmr k x:=by
 show _ = ZeU k x
 obtain ⟨a0,⟨⟩⟩:=x
 kernel_rfl
theorem ZDi (k:Nat):Ctr Tryz.prog k 192 (mk Zw Zx Zmr) :=
 ZH (fn:=Tryz.f192) (Zi Ze) (by kernel_rfl) (by kernel_rfl) (ZGU k)
noncomputable abbrev ZJU:Nat × Callee:=(192,mk Zw Zx Zmr)
abbrev Xw:List Kd:=[.view (.sl (.int .i64)),.fn 192]
noncomputable def Zl6 (k:Nat):=WX k [ZJU]
def ZAf:YI → St
 | (v0,v1,v2) => St.mk (ZE [(7,Zr v0),(8,Zr v1),(1,AV.fn 192),(0,Yk v2)]) (ZD [])
def Kc (k:Nat) (L1:Wb):Wb
 | (v0,v1,v2) => bif decide (v1 < v0) then bif decide (0 ≤ v1 ∧ v1 < Int.ofNat v2.length) then (Zmr k (v2.getD v1.toNat 0,())).bind fun y => bif y.1 then some (v1,()) else L1 (v0,IntKind.i64.wrap (v1 + 1),v2) else none else some ((-1:Int),())
def ZiE (k:Nat):Wb:=Zs (fun L1 => Kc k L1) k
noncomputable def Zl7 (k:Nat) (n:Nat) (v:YI) :=
 ZC (Zl6 k) XJ [] [1,0,1,0] [] (Xq Tryz.f146) (XQ (Zl6 k) Tryz.f146 Xw Zf [] []) n (ZAf v)
def Zjz (k:Nat) (L1:Wb):List Int × Unit × Unit → Option (Int × Unit)
 | (a0,(),()) => L1 (Int.ofNat a0.length,(0:Int),a0)
def Zc1 (k:Nat):=Zjz k (ZiE k)
theorem ZtP (k:Nat):∀ n,Zl7 k n = Zs (fun L1 => Kc k L1) n :=
 Zn (fun v => by kernel_rfl) (fun n v => by
  obtain ⟨v0,v1,v2⟩:=v
  kernel_rfl)
theorem ZAg (k:Nat) (x:Kd.dens Xw):ZG (Zl6 k) XJ Tryz.f146 Xw Zf x = Zc1 k x:=by
 show _ = Zjz k (ZiE k) x
 rw [show ZiE k = Zl7 k k from (ZtP k k).symm]
 obtain ⟨a0,⟨⟨⟩,⟨⟩⟩⟩:=x
 kernel_rfl
theorem Zwo (k:Nat):Ctr Tryz.prog k 146 (mk Xw Zf Zc1) :=
 ZH (fn:=Tryz.f146) (Zi (Za (ZDi k) Ze)) (by kernel_rfl) (by kernel_rfl) (ZAg k)
noncomputable abbrev ZCD:Nat × Callee:=(146,mk Xw Zf Zc1)
noncomputable def ZBY (k:Nat):=WX k [ZCD]
def Zaw (k:Nat):List Int × Unit × Unit → Option (Bool × Unit)
 | (a0,(),()) => (Zc1 k (a0,(),())).bind fun y => some (decide ((0:Int) ≤ y.1),())
def ZcS (k:Nat):=Zaw k
theorem Zzv (k:Nat) (x:Kd.dens Xw):ZG (ZBY k) nA Tryz.f104 Xw Zx x = ZcS k x:=by
 show _ = Zaw k x
 obtain ⟨a0,⟨⟨⟩,⟨⟩⟩⟩:=x
 kernel_rfl
theorem Zv8 (k:Nat):Ctr Tryz.prog k 104 (mk Xw Zx ZcS) :=
 ZH (fn:=Tryz.f104) (Zi (Za (Zwo k) Ze)) (by kernel_rfl) (by kernel_rfl) (Zzv k)
noncomputable abbrev ZBZ:Nat × Callee:=(104,mk Xw Zx ZcS)
abbrev ZkN:List Kd:=[.view ZfY]
noncomputable def ZJC (k:Nat):=WX k [ZBZ]
def ZeM (k:Nat):(List Int × Int × Unit) × Unit → Option (Int × Unit)
 | ((a0,a1,()),()) => bif decide ((8:Int) < Int.ofNat a0.length) then some (2,()) else bif decide (a1 < 0) then some (2,()) else bif decide ((15:Int) < a1) then some (2,()) else (ZcS k (a0,(),())).bind fun y => bif y.1 then some (2,()) else some (0,())
def ZiN (k:Nat):=ZeM k
theorem ZGH (k:Nat) (x:Kd.dens ZkN):ZG (ZJC k) nA Tryz.f172 ZkN Zf x = ZiN k x:=by
 show _ = ZeM k x
 obtain ⟨⟨a0,⟨a1,⟨⟩⟩⟩,⟨⟩⟩:=x
 kernel_rfl
theorem Zt6 (k:Nat):Ctr Tryz.prog k 172 (mk ZkN Zf ZiN) :=
 ZH (fn:=Tryz.f172) (Zi (Za (Zv8 k) Ze)) (by kernel_rfl) (by kernel_rfl) (ZGH k)
noncomputable abbrev ZC2:Nat × Callee:=(172,mk ZkN Zf ZiN)
abbrev WN:List Kd:=[.view ZfY,.view (.sl (.int .i64))]
def ZC3:Nat → Ann:=fun id => bif Nat.beq id 3 then ⟨[10,11,9,5,1,2],[]⟩ else ⟨[],[]⟩
abbrev Zrf:=Int × Int × List Int × Int × List Int × List Int × Int
abbrev ZkO:=Zrf → Option (Int × Unit)
def ZGI:Zrf → St
 | (v0,v1,v2,v3,v4,v5,v6) => St.mk (ZE [(10,Zr v0),(11,Zr v1),(9,Yk v2),(5,Zr v3),(1,Yk v4),(2,AV.bx 8192 0)]) (ZD [(8192,WE [Yk v5,Zr v6])])
def Zbs (k:Nat) (L1:ZkO):ZkO
 | (v0,v1,v2,v3,v4,v5,v6) => bif decide (v1 < v0) then bif decide (0 ≤ v1 ∧ v1 < Int.ofNat v2.length) then bif decide (0 ≤ IntKind.i64.wrap (IntKind.i64.wrap (Int.ofNat v4.length - (1:Int)) - v1) ∧ IntKind.i64.wrap (IntKind.i64.wrap (Int.ofNat v4.length - (1:Int)) - v1) < Int.ofNat v4.length) then L1 (v0,IntKind.i64.wrap (v1 + 1),v2,IntKind.i64.wrap (v3 + IntKind.i64.wrap (v2.getD v1.toNat 0 * v4.getD (IntKind.i64.wrap (IntKind.i64.wrap (Int.ofNat v4.length - (1:Int)) - v1)).toNat 0)),v4,v5,v6) else none else none else bif decide (0 ≤ v6) then some (v3.fdiv ((2:Int) ^ min v6.toNat 64),()) else none
def ZkP (k:Nat):ZkO:=Zs (fun L1 => Zbs k L1) k
noncomputable def Zt7 (k:Nat) (n:Nat) (v:Zrf) :=
 ZC (ZV k) ZC3 [] [1,1,0,1,0] [] (Xq Tryz.f173) (XQ (ZV k) Tryz.f173 WN Zf [] []) n (ZGI v)
def ZeN (k:Nat) (L1:ZkO):(List Int × Int × Unit) × List Int × Unit → Option (Int × Unit)
 | ((a0,a1,()),a2,()) => L1 (Int.ofNat a0.length,(0:Int),a0,(0:Int),a2,a0,a1)
def ZiO (k:Nat):=ZeN k (ZkP k)
theorem ZAw (k:Nat):∀ n,Zt7 k n = Zs (fun L1 => Zbs k L1) n :=
 Zn (fun v => by kernel_rfl) (fun n v => by
  obtain ⟨v0,v1,v2,v3,v4,v5,v6⟩:=v
  kernel_rfl)
theorem ZGJ (k:Nat) (x:Kd.dens WN):ZG (ZV k) ZC3 Tryz.f173 WN Zf x = ZiO k x:=by
 show _ = ZeN k (ZkP k) x
 rw [show ZkP k = Zt7 k k from (ZAw k k).symm]
 obtain ⟨⟨a0,⟨a1,⟨⟩⟩⟩,⟨a2,⟨⟩⟩⟩:=x
 kernel_rfl
theorem Zt8 (k:Nat):Ctr Tryz.prog k 173 (mk WN Zf ZiO) :=
 ZH (fn:=Tryz.f173) (Zi Ze) (by kernel_rfl) (by kernel_rfl) (ZGJ k)
noncomputable abbrev ZC4:Nat × Callee:=(173,mk WN Zf ZiO)
abbrev QO:Kd:=.tup [.view (.sl (.int .i64)),.view (.int .i64)]
noncomputable def Zwq (k:Nat):=WX k [ZlL,Zwt,ZC2,ZC4]
def ZCF:Nat → Ann:=fun id => bif Nat.beq id 9 then ⟨[7,1,2,6],[.slot 6 ((Ty.int IntKind.i64))]⟩ else ⟨[],[]⟩
abbrev Zq5:=Int × List Int × List Int × Int × List Int
abbrev ZkD:=Zq5 → Option ((List Int × Int × Unit) × Unit)
def ZGj:Zq5 → St
 | (v0,v1,v2,v3,v4) => St.mk (ZE [(7,Zr v0),(1,Yk v1),(2,AV.bx 8192 0),(6,AV.own 8193)]) (ZD [(8192,WE [Yk v2,Zr v3]),(8193,rsA v4 false)])
def Zbl (k:Nat) (L1:ZkD):ZkD
 | (v0,v1,v2,v3,v4) => bif decide (v0 < Int.ofNat v1.length) then bif decide (0 ≤ v0 ∧ v0 < Int.ofNat v1.length) then bif decide ((0:Int) ≤ 0 ∧ (0:Int) ≤ v0 ∧ v0 ≤ Int.ofNat v1.length) then (ZiO k ((v2,v3,()),List.drop 0 (List.take v0.toNat v1),())).bind fun y => (ZfO k (IntKind.i64.wrap (v1.getD v0.toNat 0 - y.1),())).bind fun y_1 => bif y_1.1 then some (([],12,()),()) else bif decide (v4.length + [IntKind.i64.wrap (v1.getD v0.toNat 0 - y.1)].length < 2147483648) then L1 (IntKind.i64.wrap (v0 + 1),v1,v2,v3,v4 ++ [IntKind.i64.wrap (v1.getD v0.toNat 0 - y.1)]) else none else none else none else some ((v4,0,()),())
def ZkE (k:Nat):ZkD:=Zs (fun L1 => Zbl k L1) k
noncomputable def ZtQ (k:Nat) (n:Nat) (v:Zq5) :=
 ZC (Zwq k) ZCF [] [1,1,1,0,1,0] [] (Xq Tryz.f148) (XQ (Zwq k) Tryz.f148 WN QO [] []) n (ZGj v)
def Zey (k:Nat) (L1:ZkD):(List Int × Int × Unit) × List Int × Unit → Option ((List Int × Int × Unit) × Unit)
 | ((a0,a1,()),a2,()) => (ZiN k ((a0,a1,()),())).bind fun y => bif y.1 != 0 then some (([],2,()),()) else bif decide (Int.ofNat a2.length < Int.ofNat a0.length) then some (([],1,()),()) else (Y5 k (a2,(),())).bind fun y => bif y.1 then some (([],12,()),()) else L1 (Int.ofNat a0.length,a2,a0,a1,[])
def ZiF (k:Nat):=Zey k (ZkE k)
theorem ZAh (k:Nat):∀ n,ZtQ k n = Zs (fun L1 => Zbl k L1) n :=
 Zn (fun v => by kernel_rfl) (fun n v => by
  obtain ⟨v0,v1,v2,v3,v4⟩:=v
  kernel_rfl)
theorem ZGk (k:Nat) (x:Kd.dens WN):ZG (Zwq k) ZCF Tryz.f148 WN QO x = ZiF k x:=by
 show _ = Zey k (ZkE k) x
 rw [show ZkE k = ZtQ k k from (ZAh k k).symm]
 obtain ⟨⟨a0,⟨a1,⟨⟩⟩⟩,⟨a2,⟨⟩⟩⟩:=x
 kernel_rfl
theorem ZtR (k:Nat):Ctr Tryz.prog k 148 (mk WN QO ZiF) :=
 ZH (fn:=Tryz.f148) (Zi (Za (ZfH k) (Za (Zma k) (Za (Zt6 k) (Za (Zt8 k) Ze))))) (by kernel_rfl) (by kernel_rfl) (ZGk k)
noncomputable abbrev ZCG:Nat × Callee:=(148,mk WN QO ZiF)
def ZeD (k:Nat):Int × Unit → Option (Bool × Unit)
 | (a0,()) => bif decide (a0 ≤ -2147483648) then some (true,()) else some (decide (2147483648 ≤ a0),())
def Zmd (k:Nat):=ZeD k
theorem ZGs (k:Nat) (x:Kd.dens Zw):ZG (ZV k) nA Tryz.f155 Zw Zx x = Zmd k x:=by
 show _ = ZeD k x
 obtain ⟨a0,⟨⟩⟩:=x
 kernel_rfl
theorem ZCR (k:Nat):Ctr Tryz.prog k 155 (mk Zw Zx Zmd) :=
 ZH (fn:=Tryz.f155) (Zi Ze) (by kernel_rfl) (by kernel_rfl) (ZGs k)
noncomputable abbrev ZJq:Nat × Callee:=(155,mk Zw Zx Zmd)
abbrev Xv:List Kd:=[.view (.sl (.int .i64)),.fn 155]
noncomputable def Zl4 (k:Nat):=WX k [ZJq]
def ZAd:YI → St
 | (v0,v1,v2) => St.mk (ZE [(7,Zr v0),(8,Zr v1),(1,AV.fn 155),(0,Yk v2)]) (ZD [])
def Kb (k:Nat) (L1:Wb):Wb
 | (v0,v1,v2) => bif decide (v1 < v0) then bif decide (0 ≤ v1 ∧ v1 < Int.ofNat v2.length) then (Zmd k (v2.getD v1.toNat 0,())).bind fun y => bif y.1 then some (v1,()) else L1 (v0,IntKind.i64.wrap (v1 + 1),v2) else none else some ((-1:Int),())
def ZiD (k:Nat):Wb:=Zs (fun L1 => Kb k L1) k
noncomputable def Zl5 (k:Nat) (n:Nat) (v:YI) :=
 ZC (Zl4 k) XJ [] [1,0,1,0] [] (Xq Tryz.f146) (XQ (Zl4 k) Tryz.f146 Xv Zf [] []) n (ZAd v)
def Zjy (k:Nat) (L1:Wb):List Int × Unit × Unit → Option (Int × Unit)
 | (a0,(),()) => L1 (Int.ofNat a0.length,(0:Int),a0)
def Zc0 (k:Nat):=Zjy k (ZiD k)
theorem ZtO (k:Nat):∀ n,Zl5 k n = Zs (fun L1 => Kb k L1) n :=
 Zn (fun v => by kernel_rfl) (fun n v => by
  obtain ⟨v0,v1,v2⟩:=v
  kernel_rfl)
theorem ZAe (k:Nat) (x:Kd.dens Xv):ZG (Zl4 k) XJ Tryz.f146 Xv Zf x = Zc0 k x:=by
 show _ = Zjy k (ZiD k) x
 rw [show ZiD k = Zl5 k k from (ZtO k k).symm]
 obtain ⟨a0,⟨⟨⟩,⟨⟩⟩⟩:=x
 kernel_rfl
theorem Zwn (k:Nat):Ctr Tryz.prog k 146 (mk Xv Zf Zc0) :=
 ZH (fn:=Tryz.f146) (Zi (Za (ZCR k) Ze)) (by kernel_rfl) (by kernel_rfl) (ZAe k)
noncomputable abbrev ZCC:Nat × Callee:=(146,mk Xv Zf Zc0)
noncomputable def ZBW (k:Nat):=WX k [ZCC]
def Zav (k:Nat):List Int × Unit × Unit → Option (Bool × Unit)
 | (a0,(),()) => (Zc0 k (a0,(),())).bind fun y => some (decide ((0:Int) ≤ y.1),())
def ZcR (k:Nat):=Zav k
theorem Zzu (k:Nat) (x:Kd.dens Xv):ZG (ZBW k) nA Tryz.f104 Xv Zx x = ZcR k x:=by
 show _ = Zav k x
 obtain ⟨a0,⟨⟨⟩,⟨⟩⟩⟩:=x
 kernel_rfl
theorem Zv7 (k:Nat):Ctr Tryz.prog k 104 (mk Xv Zx ZcR) :=
 ZH (fn:=Tryz.f104) (Zi (Za (Zwn k) Ze)) (by kernel_rfl) (by kernel_rfl) (Zzu k)
noncomputable abbrev ZBX:Nat × Callee:=(104,mk Xv Zx ZcR)
def ZeC (k:Nat):Int × Int × Unit → Option (Bool × Unit)
 | (a0,a1,()) => bif decide (1 ≤ a0) then bif decide (a0 ≤ 512) then bif decide (0 ≤ a1) then some (decide (a1 ≤ if a0 < 8 then a0 else (8:Int)),()) else some (false,()) else some (false,()) else some (false,())
def ZiK (k:Nat):=ZeC k
theorem ZGr (k:Nat) (x:Kd.dens Kv):ZG (ZV k) nA Tryz.f154 Kv Zx x = ZiK k x:=by
 show _ = ZeC k x
 obtain ⟨a0,⟨a1,⟨⟩⟩⟩:=x
 kernel_rfl
theorem ZtZ (k:Nat):Ctr Tryz.prog k 154 (mk Kv Zx ZiK) :=
 ZH (fn:=Tryz.f154) (Zi Ze) (by kernel_rfl) (by kernel_rfl) (ZGr k)
noncomputable abbrev ZCQ:Nat × Callee:=(154,mk Kv Zx ZiK)
noncomputable def ZI4 (k:Nat):=WX k [ZBX,ZCQ]
def Zec (k:Nat):List Int × Int × Unit → Option (Int × Unit)
 | (a0,a1,()) => bif decide (a1 < 0) then some (1,()) else bif decide ((8:Int) < a1) then some (1,()) else (ZiK k (IntKind.i64.wrap (Int.ofNat a0.length + a1),a1,())).bind fun y => bif !y.1 then some (1,()) else (ZcR k (a0,(),())).bind fun y => bif y.1 then some (12,()) else some (0,())
def Zir (k:Nat):=Zec k
theorem ZFO (k:Nat) (x:Kd.dens Z1):ZG (ZI4 k) nA Tryz.f113 Z1 Zf x = Zir k x:=by
 show _ = Zec k x
 obtain ⟨a0,⟨a1,⟨⟩⟩⟩:=x
 kernel_rfl
theorem Ztr (k:Nat):Ctr Tryz.prog k 113 (mk Z1 Zf Zir) :=
 ZH (fn:=Tryz.f113) (Zi (Za (Zv7 k) (Za (ZtZ k) Ze))) (by kernel_rfl) (by kernel_rfl) (ZFO k)
noncomputable abbrev ZCa:Nat × Callee:=(113,mk Z1 Zf Zir)
abbrev ZgL:List Kd:=[.view (.sl (.int .i64)),.view (.int .i64),.view (.int .i64)]
abbrev Zkl:Kd:=.view (.sl (.sl (.int .i64)))
def ZCc:Nat → Ann:=fun id => bif Nat.beq id 4 then ⟨[8,2,9,7],[]⟩ else ⟨[],[]⟩
abbrev ZqV:=Int × List Int × Int × List (List Int)
abbrev Zkj:=ZqV → Option (List (List Int) × Unit)
def ZFT:ZqV → St
 | (v0,v1,v2,v3) => St.mk (ZE [(8,AV.own 8192),(2,Zr v0),(9,Yk v1),(7,Zr v2)]) (ZD [(8192,RS.live (Res.arr (Ty.int IntKind.i64).sl v3 false))])
def Zbb (k:Nat) (L1:Zkj):Zkj
 | (v0,v1,v2,v3) => bif decide (0 ≤ v0) then bif decide (Int.ofNat v3.length < IntKind.i64.wrap ((1:Int) * (2:Int) ^ min v0.toNat 64)) then bif decide ((0:Int) ≤ 0 ∧ (0:Int) ≤ v2 ∧ v2 ≤ Int.ofNat v1.length) then bif decide (v3.length + [List.drop 0 (List.take v2.toNat v1)].length < 2147483648) then bif decide (0 ≤ v2 ∧ v2 ≤ Int.ofNat v1.length ∧ Int.ofNat v1.length ≤ Int.ofNat v1.length) then L1 (v0,List.drop v2.toNat (List.take (Int.ofNat v1.length).toNat v1),v2,v3 ++ [List.drop 0 (List.take v2.toNat v1)]) else none else none else none else some (v3,()) else none
def Zkk (k:Nat):Zkj:=Zs (fun L1 => Zbb k L1) k
noncomputable def Ztt (k:Nat) (n:Nat) (v:ZqV) :=
 ZC (ZV k) ZCc [] [1,1,1,0,1,0] [] (Xq Tryz.f115) (XQ (ZV k) Tryz.f115 ZgL Zkl [] []) n (ZFT v)
def Zeg (k:Nat) (L1:Zkj):List Int × Int × Int × Unit → Option (List (List Int) × Unit)
 | (a0,a1,a2,()) => bif decide (0 ≤ a2) then bif decide ((0:Int) ≤ 0 ∧ (0:Int) ≤ IntKind.i64.wrap ((IntKind.i64.wrap (Int.ofNat a0.length + a1)).fdiv ((2:Int) ^ min a2.toNat 64) - a1) ∧ IntKind.i64.wrap ((IntKind.i64.wrap (Int.ofNat a0.length + a1)).fdiv ((2:Int) ^ min a2.toNat 64) - a1) ≤ Int.ofNat a0.length) then bif decide (0 ≤ IntKind.i64.wrap ((IntKind.i64.wrap (Int.ofNat a0.length + a1)).fdiv ((2:Int) ^ min a2.toNat 64) - a1) ∧ IntKind.i64.wrap ((IntKind.i64.wrap (Int.ofNat a0.length + a1)).fdiv ((2:Int) ^ min a2.toNat 64) - a1) ≤ Int.ofNat a0.length ∧ Int.ofNat a0.length ≤ Int.ofNat a0.length) then L1 (a2,List.drop (IntKind.i64.wrap ((IntKind.i64.wrap (Int.ofNat a0.length + a1)).fdiv ((2:Int) ^ min a2.toNat 64) - a1)).toNat (List.take (Int.ofNat a0.length).toNat a0),(IntKind.i64.wrap (Int.ofNat a0.length + a1)).fdiv ((2:Int) ^ min a2.toNat 64),[List.drop 0 (List.take (IntKind.i64.wrap ((IntKind.i64.wrap (Int.ofNat a0.length + a1)).fdiv ((2:Int) ^ min a2.toNat 64) - a1)).toNat a0)]) else none else none else none
def Zit (k:Nat):=Zeg k (Zkk k)
theorem ZzN (k:Nat):∀ n,Ztt k n = Zs (fun L1 => Zbb k L1) n :=
 Zn (fun v => by kernel_rfl) (fun n v => by
  obtain ⟨v0,v1,v2,v3⟩:=v
  kernel_rfl)
theorem ZFU (k:Nat) (x:Kd.dens ZgL):ZG (ZV k) ZCc Tryz.f115 ZgL Zkl x = Zit k x:=by
 show _ = Zeg k (Zkk k) x
 rw [show Zkk k = Ztt k k from (ZzN k k).symm]
 obtain ⟨a0,⟨a1,⟨a2,⟨⟩⟩⟩⟩:=x
 kernel_rfl
theorem Ztu (k:Nat):Ctr Tryz.prog k 115 (mk ZgL Zkl Zit) :=
 ZH (fn:=Tryz.f115) (Zi Ze) (by kernel_rfl) (by kernel_rfl) (ZFU k)
noncomputable abbrev ZCd:Nat × Callee:=(115,mk ZgL Zkl Zit)
def ZoN (k:Nat):Int × Unit → Option (Int × Unit)
 | (a0,()) => some (IntKind.i64.wrap ((4:Int) + a0),())
def K0 (k:Nat):=ZoN k
theorem ZFV (k:Nat) (x:Kd.dens Zw):ZG (ZV k) nA Tryz.f116 Zw Zf x = K0 k x:=by
 show _ = ZoN k x
 obtain ⟨a0,⟨⟩⟩:=x
 kernel_rfl
theorem Ztv (k:Nat):Ctr Tryz.prog k 116 (mk Zw Zf K0) :=
 ZH (fn:=Tryz.f116) (Zi Ze) (by kernel_rfl) (by kernel_rfl) (ZFV k)
noncomputable abbrev ZI5:Nat × Callee:=(116,mk Zw Zf K0)
abbrev ZeE:List Kd:=[.view (.int .i64),.view (.int .i64),.view (.int .i64)]
def ZeF (k:Nat):Int × Int × Int × Unit → Option (Bool × Unit)
 | (a0,a1,a2,()) => bif decide (0 ≤ a2) then bif IntKind.i64.wrap (Int.ofNat (BitVec.ofInt 64 a0 &&& BitVec.ofInt 64 (IntKind.i64.wrap (IntKind.i64.wrap ((1:Int) * (2:Int) ^ min a2.toNat 64) - (1:Int)))).toNat) == 0 then bif decide (0 ≤ a2) then some (decide (a1 ≤ a0.fdiv ((2:Int) ^ min a2.toNat 64)),()) else none else some (false,()) else none
def K3 (k:Nat):=ZeF k
theorem ZGt (k:Nat) (x:Kd.dens ZeE):ZG (ZV k) nA Tryz.f156 ZeE Zx x = K3 k x:=by
 show _ = ZeF k x
 obtain ⟨a0,⟨a1,⟨a2,⟨⟩⟩⟩⟩:=x
 kernel_rfl
theorem Zt0 (k:Nat):Ctr Tryz.prog k 156 (mk ZeE Zx K3) :=
 ZH (fn:=Tryz.f156) (Zi Ze) (by kernel_rfl) (by kernel_rfl) (ZGt k)
noncomputable abbrev ZJr:Nat × Callee:=(156,mk ZeE Zx K3)
noncomputable def ZI6 (k:Nat):=WX k [ZI5]
def ZoP (k:Nat):Int × Unit → Option (Int × Unit)
 | (a0,()) => (K0 k (a0,())).bind fun y => bif decide ((0:Int) ≤ y.1) then some (IntKind.i64.wrap (IntKind.i64.wrap ((1:Int) * (2:Int) ^ min (Int.toNat y.1) (64:Nat)) - (1:Int)),()) else none
def K1 (k:Nat):=ZoP k
theorem ZFW (k:Nat) (x:Kd.dens Zw):ZG (ZI6 k) nA Tryz.f117 Zw Zf x = K1 k x:=by
 show _ = ZoP k x
 obtain ⟨a0,⟨⟩⟩:=x
 kernel_rfl
theorem ZCe (k:Nat):Ctr Tryz.prog k 117 (mk Zw Zf K1) :=
 ZH (fn:=Tryz.f117) (Zi (Za (Ztv k) Ze)) (by kernel_rfl) (by kernel_rfl) (ZFW k)
noncomputable abbrev ZMu:Nat × Callee:=(117,mk Zw Zf K1)
def Zeh (k:Nat):Int × Unit → Option ((Int × Int × Unit) × Unit)
 | (a0,()) => bif decide (a0 < -1099511627776) then some ((0,12,()),()) else bif decide ((1099511627776:Int) < a0) then some ((0,12,()),()) else some ((IntKind.i64.wrap (Int.ofNat (BitVec.ofInt 64 (IntKind.i64.wrap (a0 * (2:Int))) ^^^ BitVec.ofInt 64 (a0.fdiv (9223372036854775808:Int))).toNat),0,()),())
def ZaW (k:Nat):=Zeh k
theorem ZFX (k:Nat) (x:Kd.dens Zw):ZG (ZV k) nA Tryz.f118 Zw Z7 x = ZaW k x:=by
 show _ = Zeh k x
 obtain ⟨a0,⟨⟩⟩:=x
 kernel_rfl
theorem ZCf (k:Nat):Ctr Tryz.prog k 118 (mk Zw Z7 ZaW) :=
 ZH (fn:=Tryz.f118) (Zi Ze) (by kernel_rfl) (by kernel_rfl) (ZFX k)
noncomputable abbrev ZMv:Nat × Callee:=(118,mk Zw Z7 ZaW)
def Zro (k:Nat):Int × Unit → Option (Int × Unit):=fun x => ZEy x
def ZK6:Go.Shelf.Ren:=⟨fun n => match n with | 129 => 194 | _ => 0,fun n => match n with | 0 => 0 | 3 => 3 | 4 => 4 | 5 => 5 | 9 => 9 | 46 => 114 | 53 => 49 | _ => 0,fun n => n⟩
set_option maxRecDepth 100000 in
theorem ZHz:Go.Proofs.Lays.n129 Tryz.prog ZK6:=by
 constructor <;> first | kernel_rfl | (intro w; rfl)
set_option maxRecDepth 100000 in
theorem ZDk (k:Nat):Ctr Tryz.prog k 194 (mk ZkC Zf Zro):=ZAU ZHz (fn:=Tryz.f194) (by kernel_rfl) (by kernel_rfl) (by kernel_rfl) (by kernel_rfl)
noncomputable abbrev ZJV:Nat × Callee:=(194,mk ZkC Zf Zro)
noncomputable def ZJI (k:Nat):=WX k [ZJV]
def ZeO (k:Nat):Int × Unit → Option (Int × Unit)
 | (a0,()) => (Zro k (IntKind.u64.wrap (IntKind.i64.wrap (Int.ofNat (BitVec.ofInt 64 a0 ^^^ BitVec.ofInt 64 (a0.fdiv (9223372036854775808:Int))).toNat)),())).bind fun y => some (IntKind.i64.wrap (y.1 + 1),())
def Zmk (k:Nat):=ZeO k
theorem ZGN (k:Nat) (x:Kd.dens Zw):ZG (ZJI k) nA Tryz.f182 Zw Zf x = Zmk k x:=by
 show _ = ZeO k x
 obtain ⟨a0,⟨⟩⟩:=x
 kernel_rfl
theorem ZC8 (k:Nat):Ctr Tryz.prog k 182 (mk Zw Zf Zmk) :=
 ZH (fn:=Tryz.f182) (Zi (Za (ZDk k) Ze)) (by kernel_rfl) (by kernel_rfl) (ZGN k)
noncomputable abbrev ZJJ:Nat × Callee:=(182,mk Zw Zf Zmk)
noncomputable def Ku:(k:Nat) → Int × Unit → Option (Int × Unit):=Classical.choose (⟨K1,rfl⟩:∃ F:(k:Nat) → Int × Unit → Option (Int × Unit),F = K1)
theorem ZoO:Ku = K1:=Classical.choose_spec (⟨K1,rfl⟩:∃ F:(k:Nat) → Int × Unit → Option (Int × Unit),F = K1)
theorem Ziw (k:Nat):Ctr Tryz.prog k 117 (mk Zw Zf Ku):=by rw [ZoO]; exact ZCe k
noncomputable def ZfL:(k:Nat) → Int × Unit → Option ((Int × Int × Unit) × Unit):=Classical.choose (⟨ZaW,rfl⟩:∃ F:(k:Nat) → Int × Unit → Option ((Int × Int × Unit) × Unit),F = ZaW)
theorem ZoQ:ZfL = ZaW:=Classical.choose_spec (⟨ZaW,rfl⟩:∃ F:(k:Nat) → Int × Unit → Option ((Int × Int × Unit) × Unit),F = ZaW)
theorem ZoR (k:Nat):Ctr Tryz.prog k 118 (mk Zw Z7 ZfL):=by rw [ZoQ]; exact ZCf k
abbrev ZeI:Kd:=.tup [.view ZEW,.view .bool]
noncomputable def ZfP (k:Nat):=WX k [(117,mk Zw Zf Ku),(118,mk Zw Z7 ZfL),ZJJ]
noncomputable def Zq9:Nat → Ann:=fun id => bif Nat.beq id 16 then ⟨[55,56,54,13,12,14,7,6,46,45,0,8,9,1,4],[]⟩ else bif Nat.beq id 12 then ⟨[45,46,0,8,7,6,9,1,4],[]⟩ else bif Nat.beq id 5 then ⟨[23,24,22,8,9,1,0,7,6,4],[]⟩ else ⟨[],[]⟩
abbrev Zrc:=Int × Int × Int × Int × Bool × Bool × Int × Int × List Int × Int × Int × List Int × Int × Int × Int × Int × Int × Int
abbrev ZkK:=Zrc → Option (((Int × Int × Int × Unit) × Bool × Unit) × Unit)
abbrev Zrb:=Int × Int × List Int × Bool × Int × Int × List Int × Int × Int × Int × Int × Int × Int
abbrev ZeG:=Zrb → Option (((Int × Int × Int × Unit) × Bool × Unit) × Unit)
abbrev Zra:=Int × Int × List Int × Int × Int × List Int × Bool × List Int × Int × Int × Int × Int × Int × Int
abbrev ZkJ:=Zra → Option (((Int × Int × Int × Unit) × Bool × Unit) × Unit)
noncomputable def ZGw:Zrc → St
 | (v0,v1,v2,v3,v4,v5,v6,v7,v8,v9,v10,v11,v12,v13,v14,v15,v16,v17) => St.mk (ZE [(55,Zr v0),(56,Zr v1),(54,AV.own 8192),(13,Zr v2),(12,Zr v3),(14,avB v4),(7,avB v5),(6,AV.bx 8193 0),(46,Zr v6),(45,Zr v7),(0,Yk v8),(8,AV.own 8192),(9,Zr v9),(1,Zr v10),(4,AV.bx 8194 0)]) (ZD [(8192,rsA v11 false),(8193,WE [Zr v12,Zr v13,Zr v14]),(8194,WE [Zr v15,Zr v16,Zr v17])])
noncomputable def KT (k:Nat) (L2:ZeG) (L3:ZkK):ZkK
 | (v0,v1,v2,v3,v4,v5,v6,v7,v8,v9,v10,v11,v12,v13,v14,v15,v16,v17) => bif decide (v1 < v0) then bif decide (0 ≤ v1 ∧ v1 < Int.ofNat v11.length) then bif decide (v1.toNat < v11.length) then bif decide (0 ≤ v3) then bif v4 then L3 (v0,IntKind.i64.wrap (v1 + 1),IntKind.i64.wrap (v2 + Int.fdiv (v11.getD v1.toNat 0) ((2:Int) ^ min v3.toNat 64)),v3,true,v5,v6,v7,v8,v9,v10,v11,v12,v13,v14,v15,v16,v17) else bif decide (0 ≤ v3) then L3 (v0,IntKind.i64.wrap (v1 + 1),IntKind.i64.wrap (v2 + Int.fdiv (v11.getD v1.toNat 0) ((2:Int) ^ min v3.toNat 64)),v3,decide ((65536:Int) < Int.fdiv (v11.getD v1.toNat 0) ((2:Int) ^ min v3.toNat 64)),v5,v6,v7,v8,v9,v10,v11,v12,v13,v14,v15,v16,v17) else none else none else none else none else bif !v4 then bif !v5 then L2 (v7,IntKind.i64.wrap (v6 + 1),v8,true,v9,v10,v11,v3,(0:Int),v2,v15,v16,v17) else bif decide (v2 < v14) then L2 (v7,IntKind.i64.wrap (v6 + 1),v8,true,v9,v10,v11,v3,(0:Int),v2,v15,v16,v17) else L2 (v7,IntKind.i64.wrap (v6 + 1),v8,v5,v9,v10,v11,v12,v13,v14,v15,v16,v17) else L2 (v7,IntKind.i64.wrap (v6 + 1),v8,v5,v9,v10,v11,v12,v13,v14,v15,v16,v17)
noncomputable def ZgR (k:Nat) (L2:ZeG):ZkK:=Zs (fun L3 => KT k L2 L3) k
noncomputable def ZgS (k:Nat) (n2:Nat) (n:Nat) (v:Zrc):Option (((Int × Int × Int × Unit) × Bool × Unit) × Unit) :=
 ZC (ZfP k) Zq9 [] [1,1,1,1,1,0,1,0,0,1,1,0,0,1,1,0,1,0] [n2] (Xq Tryz.f157) (XQ (ZfP k) Tryz.f157 Z1 ZeI [] []) n (ZGw v)
noncomputable def ZGv:Zrb → St
 | (v0,v1,v2,v3,v4,v5,v6,v7,v8,v9,v10,v11,v12) => St.mk (ZE [(45,Zr v0),(46,Zr v1),(0,Yk v2),(8,AV.own 8192),(7,avB v3),(6,AV.bx 8193 0),(9,Zr v4),(1,Zr v5),(4,AV.bx 8194 0)]) (ZD [(8192,rsA v6 false),(8193,WE [Zr v7,Zr v8,Zr v9]),(8194,WE [Zr v10,Zr v11,Zr v12])])
noncomputable def Zbp (k:Nat) (L3:ZkK) (L2:ZeG):ZeG
 | (v0,v1,v2,v3,v4,v5,v6,v7,v8,v9,v10,v11,v12) => bif decide (v1 < v0) then L3 (Int.ofNat v6.length,(0:Int),IntKind.i64.wrap (IntKind.i64.wrap (v1 + 1) * Int.ofNat v2.length),v1,false,v3,v1,v0,v2,v4,v5,v6,v7,v8,v9,v10,v11,v12) else bif decide (v4 ≤ 31) then bif !v3 then (Ku k (v5,())).bind fun y => some (((y.1,v4,IntKind.i64.wrap ((5:Int) + IntKind.i64.wrap (v4 * Int.ofNat v2.length)),()),true,()),()) else bif decide (IntKind.i64.wrap ((5:Int) + IntKind.i64.wrap (v4 * Int.ofNat v2.length)) < v9) then (Ku k (v5,())).bind fun y => some (((y.1,v4,IntKind.i64.wrap ((5:Int) + IntKind.i64.wrap (v4 * Int.ofNat v2.length)),()),true,()),()) else some (((v7,v8,v9,()),v3,()),()) else some (((v7,v8,v9,()),v3,()),())
noncomputable def ZgQ (k:Nat):ZeG:=Zs (fun L2 => Zbp k (ZgR k L2) L2) k
noncomputable def Zc2 (k:Nat) (n:Nat) (v:Zrb) :=
 ZC (ZfP k) Zq9 [] [1,1,1,1,1,0,1,0] [] (Xq Tryz.f157) (XQ (ZfP k) Tryz.f157 Z1 ZeI [] []) n (ZGv v)
noncomputable def ZGu:Zra → St
 | (v0,v1,v2,v3,v4,v5,v6,v7,v8,v9,v10,v11,v12,v13) => St.mk (ZE [(23,Zr v0),(24,Zr v1),(22,Yk v2),(8,AV.own 8192),(9,Zr v3),(1,Zr v4),(0,Yk v5),(7,avB v6),(6,AV.bx 8193 0),(4,AV.bx 8194 0)]) (ZD [(8192,rsA v7 false),(8193,WE [Zr v8,Zr v9,Zr v10]),(8194,WE [Zr v11,Zr v12,Zr v13])])
noncomputable def Zbo (k:Nat) (L2:ZeG) (L1:ZkJ):ZkJ
 | (v0,v1,v2,v3,v4,v5,v6,v7,v8,v9,v10,v11,v12,v13) => bif decide (v1 < v0) then bif decide (0 ≤ v1 ∧ v1 < Int.ofNat v2.length) then (ZfL k (v2.getD v1.toNat 0,())).bind fun y => bif decide (0 ≤ v1 ∧ v1 < Int.ofNat v7.length) then bif decide (v1.toNat < v7.length) then bif v2.getD v1.toNat 0 != (0:Int) then (Zmk k (v2.getD v1.toNat 0,())).bind fun y_1 => L1 (v0,IntKind.i64.wrap (v1 + 1),v2,if v3 < y_1.1 then y_1.1 else v3,v4,v5,v6,v7.set v1.toNat y.1.1,v8,v9,v10,v11,v12,v13) else L1 (v0,IntKind.i64.wrap (v1 + 1),v2,v3,v4,v5,v6,v7.set v1.toNat y.1.1,v8,v9,v10,v11,v12,v13) else none else none else none else (Ku k (v4,())).bind fun y => L2 (y.1,(0:Int),v5,v6,v3,v4,v7,v8,v9,v10,v11,v12,v13)
noncomputable def ZkL (k:Nat):ZkJ:=Zs (fun L1 => Zbo k (ZgQ k) L1) k
noncomputable def Zt1 (k:Nat) (n:Nat) (v:Zra) :=
 ZC (ZfP k) Zq9 [] [1,1,1,1,0,1,0] [] (Xq Tryz.f157) (XQ (ZfP k) Tryz.f157 Z1 ZeI [] []) n (ZGu v)
noncomputable def ZeH (k:Nat) (L1:ZkJ):List Int × Int × Unit → Option (((Int × Int × Int × Unit) × Bool × Unit) × Unit)
 | (a0,a1,()) => bif decide ((0:Int) ≤ Int.ofNat a0.length ∧ Int.ofNat a0.length ≤ Int.ofNat a0.length ∧ Int.ofNat a0.length < (4294967296:Int)) then L1 (Int.ofNat a0.length,(0:Int),a0,(0:Int),a1,a0,false,List.replicate (Int.ofNat a0.length).toNat (0:Int),(0:Int),(0:Int),(0:Int),(0:Int),(0:Int),(0:Int)) else none
noncomputable def Zmf (k:Nat):=ZeH k (ZkL k)
theorem ZAq (k:Nat) (n2:Nat):∀ n,ZgS k n2 n = Zs (fun L3 => KT k (Zc2 k n2) L3) n :=
 Zn (fun v => by kernel_rfl) (fun n v => by
  show ZgS k n2 (n + 1) v = KT k (Zc2 k n2) (ZgS k n2 n) v
  obtain ⟨v0,v1,v2,v3,v4,v5,v6,v7,v8,v9,v10,v11,v12,v13,v14,v15,v16,v17⟩:=v
  kernel_rfl)
theorem ZAp (k:Nat):∀ n,Zc2 k n = Zs (fun L2 => Zbp k (ZgR k L2) L2) n :=
 Zn (fun v => by kernel_rfl) (fun n v => by
  rw [show (ZgR k (Zc2 k n)) = ZgS k n k from (ZAq k n k).symm]
  obtain ⟨v0,v1,v2,v3,v4,v5,v6,v7,v8,v9,v10,v11,v12⟩:=v
  kernel_rfl)
theorem ZAo (k:Nat):∀ n,Zt1 k n = Zs (fun L1 => Zbo k (ZgQ k) L1) n :=
 Zn (fun v => by kernel_rfl) (fun n v => by
  rw [show (ZgQ k) = Zc2 k k from (ZAp k k).symm]
  obtain ⟨v0,v1,v2,v3,v4,v5,v6,v7,v8,v9,v10,v11,v12,v13⟩:=v
  kernel_rfl)
theorem ZGx (k:Nat) (x:Kd.dens Z1):ZG (ZfP k) Zq9 Tryz.f157 Z1 ZeI x = Zmf k x:=by
 show _ = ZeH k (ZkL k) x
 rw [show ZkL k = Zt1 k k from (ZAo k k).symm]
 obtain ⟨a0,⟨a1,⟨⟩⟩⟩:=x
 kernel_rfl
theorem ZCS (k:Nat):Ctr Tryz.prog k 157 (mk Z1 ZeI Zmf) :=
 ZH (fn:=Tryz.f157) (Zi (Za (Ziw k) (Za (ZoR k) (Za (ZC8 k) Ze)))) (by kernel_rfl) (by kernel_rfl) (ZGx k)
noncomputable abbrev ZJs:Nat × Callee:=(157,mk Z1 ZeI Zmf)
noncomputable def Zb8:(k:Nat) → Int × Unit → Option (Int × Unit):=Classical.choose (⟨K0,rfl⟩:∃ F:(k:Nat) → Int × Unit → Option (Int × Unit),F = K0)
theorem ZoM:Zb8 = K0:=Classical.choose_spec (⟨K0,rfl⟩:∃ F:(k:Nat) → Int × Unit → Option (Int × Unit),F = K0)
theorem Ziu (k:Nat):Ctr Tryz.prog k 116 (mk Zw Zf Zb8):=by rw [ZoM]; exact Ztv k
noncomputable def Zme:(k:Nat) → Int × Int × Int × Unit → Option (Bool × Unit):=Classical.choose (⟨K3,rfl⟩:∃ F:(k:Nat) → Int × Int × Int × Unit → Option (Bool × Unit),F = K3)
theorem Zo2:Zme = K3:=Classical.choose_spec (⟨K3,rfl⟩:∃ F:(k:Nat) → Int × Int × Int × Unit → Option (Bool × Unit),F = K3)
theorem ZAn (k:Nat):Ctr Tryz.prog k 156 (mk ZeE Zx Zme):=by rw [Zo2]; exact Zt0 k
abbrev Zef:Kd:=.view ZLg
noncomputable def ZfK (k:Nat):=WX k [ZCd,(116,mk Zw Zf Zb8),(156,mk ZeE Zx Zme),ZJs]
noncomputable def ZqR:Nat → Ann:=fun id => bif Nat.beq id 11 then ⟨[37,38,36,7,5,8,6,0,1,4,9],[.cell 8 2 (((Ty.int IntKind.i64).pair ((Ty.int IntKind.i64).pair ((Ty.int IntKind.i64).pair Ty.unit))))]⟩ else bif Nat.beq id 7 then ⟨[7,6,0,1,5,4],[.cell 5 2 (((Ty.int IntKind.i64).pair ((Ty.int IntKind.i64).pair ((Ty.int IntKind.i64).pair Ty.unit))))]⟩ else bif Nat.beq id 3 then ⟨[6,0,1,5,4],[.cell 5 2 (((Ty.int IntKind.i64).pair ((Ty.int IntKind.i64).pair ((Ty.int IntKind.i64).pair Ty.unit))))]⟩ else ⟨[],[]⟩
abbrev ZqU:=Int × Int × List (List Int) × Int × Int × List Int × Int × Bool × Int × Int × Int × List (Int × Int × Int × Unit) × Int × Int × Int × List (Int × Int × Int × Unit) × Int × Int × Int
abbrev Zkh:=ZqU → Option ((Int × Int × List (Int × Int × Int × Unit) × Int × Unit) × Unit)
abbrev ZqT:=Int × Int × List Int × Int × Int × Int × Int × List (Int × Int × Int × Unit) × Int × Int × Int
abbrev Zed:=ZqT → Option ((Int × Int × List (Int × Int × Int × Unit) × Int × Unit) × Unit)
abbrev ZqS:=Int × List Int × Int × Int × Int × Int × List (Int × Int × Int × Unit) × Int × Int × Int
abbrev Zay:=ZqS → Option ((Int × Int × List (Int × Int × Int × Unit) × Int × Unit) × Unit)
noncomputable def ZFR:ZqU → St
 | (v0,v1,v2,v3,v4,v5,v6,v7,v8,v9,v10,v11,v12,v13,v14,v15,v16,v17,v18) => St.mk (ZE [(37,Zr v0),(38,Zr v1),(36,AV.val (PV.sl (Ty.int IntKind.i64).sl v2)),(7,Zr v3),(5,AV.bx 8192 0),(8,AV.bx 8194 0),(6,Zr v4),(0,Yk v5),(1,Zr v6),(4,AV.bx 8196 0),(9,avB v7)]) (ZD [(8192,WE [Zr v8,Zr v9,AV.own 8193,Zr v10]),(8193,RS.live (Res.arr ((Ty.int IntKind.i64).pair ((Ty.int IntKind.i64).pair ((Ty.int IntKind.i64).pair Ty.unit))) v11 false)),(8194,WE [Zr v12,Zr v13,AV.own 8195,Zr v14]),(8195,RS.live (Res.arr ((Ty.int IntKind.i64).pair ((Ty.int IntKind.i64).pair ((Ty.int IntKind.i64).pair Ty.unit))) v15 false)),(8196,WE [Zr v16,Zr v17,AV.val (PV.v (Value.slice none (0:Nat) (0:Nat))),Zr v18])])
noncomputable def KR (k:Nat) (L1:Zay) (L2:Zed) (L3:Zkh):Zkh
 | (v0,v1,v2,v3,v4,v5,v6,v7,v8,v9,v10,v11,v12,v13,v14,v15,v16,v17,v18) => bif decide (v1 < v0) then bif decide (0 ≤ v1 ∧ v1 < Int.ofNat v2.length) then (Zmf k (v2.getD v1.toNat [],v3,())).bind fun y => bif !y.1.2.1 then bif y.1.2.1 then bif decide (v10 < 0) then L2 (IntKind.i64.wrap (v3 + 1),v4,v5,v6,v12,v13,v14,v15,v16,v17,v18) else bif decide (v14 < v10) then L2 (IntKind.i64.wrap (v3 + 1),v4,v5,v6,v12,v13,v14,v15,v16,v17,v18) else L2 (IntKind.i64.wrap (v3 + 1),v4,v5,v6,v8,v9,v10,v11,v16,v17,v18) else L2 (IntKind.i64.wrap (v3 + 1),v4,v5,v6,v8,v9,v10,v11,v16,v17,v18) else bif decide (v15.length + [(y.1.1.1,y.1.1.2.1,y.1.1.2.2.1,())].length < 2147483648) then (Zb8 k (v3,())).bind fun y_1 => L3 (v0,IntKind.i64.wrap (v1 + 1),v2,v3,v4,v5,v6,y.1.2.1,v8,v9,v10,v11,v12,v13,IntKind.i64.wrap (v14 + IntKind.i64.wrap (y_1.1 + y.1.1.2.2.1)),v15 ++ [(y.1.1.1,y.1.1.2.1,y.1.1.2.2.1,())],v16,v17,v18) else none else none else bif v7 then bif decide (v10 < 0) then L2 (IntKind.i64.wrap (v3 + 1),v4,v5,v6,v12,v13,v14,v15,v16,v17,v18) else bif decide (v14 < v10) then L2 (IntKind.i64.wrap (v3 + 1),v4,v5,v6,v12,v13,v14,v15,v16,v17,v18) else L2 (IntKind.i64.wrap (v3 + 1),v4,v5,v6,v8,v9,v10,v11,v16,v17,v18) else L2 (IntKind.i64.wrap (v3 + 1),v4,v5,v6,v8,v9,v10,v11,v16,v17,v18)
noncomputable def Zaz (k:Nat) (L1:Zay) (L2:Zed):Zkh:=Zs (fun L3 => KR k L1 L2 L3) k
noncomputable def ZgK (k:Nat) (n1 n2:Nat) (n:Nat) (v:ZqU):Option ((Int × Int × List (Int × Int × Int × Unit) × Int × Unit) × Unit) :=
 ZC (ZfK k) ZqR [] [1,1,0,1,0,0,1,0,0,1,1,0,0,1,0,0,1,0,1,0] [n1,n2] (Xq Tryz.f114) (XQ (ZfK k) Tryz.f114 Z1 Zef [] []) n (ZFR v)
noncomputable def ZFQ:ZqT → St
 | (v0,v1,v2,v3,v4,v5,v6,v7,v8,v9,v10) => St.mk (ZE [(7,Zr v0),(6,Zr v1),(0,Yk v2),(1,Zr v3),(5,AV.bx 8192 0),(4,AV.bx 8194 0)]) (ZD [(8192,WE [Zr v4,Zr v5,AV.own 8193,Zr v6]),(8193,RS.live (Res.arr ((Ty.int IntKind.i64).pair ((Ty.int IntKind.i64).pair ((Ty.int IntKind.i64).pair Ty.unit))) v7 false)),(8194,WE [Zr v8,Zr v9,AV.val (PV.v (Value.slice none (0:Nat) (0:Nat))),Zr v10])])
noncomputable def Yd (k:Nat) (L3:Zkh) (L1:Zay) (L2:Zed):Zed
 | (v0,v1,v2,v3,v4,v5,v6,v7,v8,v9,v10) => bif decide (v0 < 2) then (Zit k (v2,v3,v1,())).bind fun y => L3 (Int.ofNat (List.length y.1),(0:Int),y.1,v0,v1,v2,v3,true,v4,v5,v6,v7,v0,v1,(6:Int),[],v8,v9,v10) else L1 (IntKind.i64.wrap (v1 + 1),v2,v3,v4,v5,v6,v7,v8,v9,v10)
noncomputable def ZgJ (k:Nat) (L1:Zay):Zed:=Zs (fun L2 => Yd k (Zaz k L1 L2) L1 L2) k
noncomputable def Y7 (k:Nat) (n1:Nat) (n:Nat) (v:ZqT):Option ((Int × Int × List (Int × Int × Int × Unit) × Int × Unit) × Unit) :=
 ZC (ZfK k) ZqR [] [1,1,0,1,0,0,1,0,0,1,1,0] [n1] (Xq Tryz.f114) (XQ (ZfK k) Tryz.f114 Z1 Zef [] []) n (ZFQ v)
noncomputable def ZFP:ZqS → St
 | (v0,v1,v2,v3,v4,v5,v6,v7,v8,v9) => St.mk (ZE [(6,Zr v0),(0,Yk v1),(1,Zr v2),(5,AV.bx 8192 0),(4,AV.bx 8194 0)]) (ZD [(8192,WE [Zr v3,Zr v4,AV.own 8193,Zr v5]),(8193,RS.live (Res.arr ((Ty.int IntKind.i64).pair ((Ty.int IntKind.i64).pair ((Ty.int IntKind.i64).pair Ty.unit))) v6 false)),(8194,WE [Zr v7,Zr v8,AV.val (PV.v (Value.slice none (0:Nat) (0:Nat))),Zr v9])])
noncomputable def Zba (k:Nat) (L2:Zed) (L1:Zay):Zay
 | (v0,v1,v2,v3,v4,v5,v6,v7,v8,v9) => bif decide (v0 ≤ 4) then (Zme k (IntKind.i64.wrap (Int.ofNat v1.length + v2),v2,v0,())).bind fun y => bif !y.1 then L1 (IntKind.i64.wrap (v0 + 1),v1,v2,v3,v4,v5,v6,v7,v8,v9) else L2 (0,v0,v1,v2,v3,v4,v5,v6,v7,v8,v9) else some ((v3,v4,v6,v5,()),())
noncomputable def Zki (k:Nat):Zay:=Zs (fun L1 => Zba k (ZgJ k L1) L1) k
noncomputable def XI (k:Nat) (n:Nat) (v:ZqS) :=
 ZC (ZfK k) ZqR [] [1,1,0,1,0] [] (Xq Tryz.f114) (XQ (ZfK k) Tryz.f114 Z1 Zef [] []) n (ZFP v)
noncomputable def Zee (k:Nat) (L1:Zay):List Int × Int × Unit → Option ((Int × Int × List (Int × Int × Int × Unit) × Int × Unit) × Unit)
 | (a0,a1,()) => L1 (0,a0,a1,(0:Int),(0:Int),(-1:Int),[],(0:Int),(0:Int),(0:Int))
noncomputable def Zis (k:Nat):=Zee k (Zki k)
theorem ZzM (k:Nat) (n1 n2:Nat):∀ n,ZgK k n1 n2 n = Zs (fun L3 => KR k (XI k n1) (Y7 k n1 n2) L3) n :=
 Zn (fun v => by kernel_rfl) (fun n v => by
  show ZgK k n1 n2 (n + 1) v = KR k (XI k n1) (Y7 k n1 n2) (ZgK k n1 n2 n) v
  obtain ⟨v0,v1,v2,v3,v4,v5,v6,v7,v8,v9,v10,v11,v12,v13,v14,v15,v16,v17,v18⟩:=v
  kernel_rfl)
theorem ZzL (k:Nat) (n1:Nat):∀ n,Y7 k n1 n = Zs (fun L2 => Yd k (Zaz k (XI k n1) L2) (XI k n1) L2) n :=
 Zn (fun v => by kernel_rfl) (fun n v => by
  show Y7 k n1 (n + 1) v = Yd k (Zaz k (XI k n1) (Y7 k n1 n)) (XI k n1) (Y7 k n1 n) v
  rw [show (Zaz k (XI k n1) (Y7 k n1 n)) = ZgK k n1 n k from (ZzM k n1 n k).symm]
  obtain ⟨v0,v1,v2,v3,v4,v5,v6,v7,v8,v9,v10⟩:=v
  kernel_rfl)
theorem ZzK (k:Nat):∀ n,XI k n = Zs (fun L1 => Zba k (ZgJ k L1) L1) n :=
 Zn (fun v => by kernel_rfl) (fun n v => by
  rw [show (ZgJ k (XI k n)) = Y7 k n k from (ZzL k n k).symm]
  obtain ⟨v0,v1,v2,v3,v4,v5,v6,v7,v8,v9⟩:=v
  kernel_rfl)
theorem ZFS (k:Nat) (x:Kd.dens Z1):ZG (ZfK k) ZqR Tryz.f114 Z1 Zef x = Zis k x:=by
 show _ = Zee k (Zki k) x
 rw [show Zki k = XI k k from (ZzK k k).symm]
 obtain ⟨a0,⟨a1,⟨⟩⟩⟩:=x
 kernel_rfl
theorem Zts (k:Nat):Ctr Tryz.prog k 114 (mk Z1 Zef Zis) :=
 ZH (fn:=Tryz.f114) (Zi (Za (Ztu k) (Za (Ziu k) (Za (ZAn k) (Za (ZCS k) Ze))))) (by kernel_rfl) (by kernel_rfl) (ZFS k)
noncomputable abbrev ZCb:Nat × Callee:=(114,mk Z1 Zef Zis)
noncomputable def ZJj (k:Nat):=WX k [ZCa,ZCb]
noncomputable def Zez (k:Nat):List Int × Int × Unit → Option ((Int × Int × Unit) × Unit)
 | (a0,a1,()) => (Zir k (a0,a1,())).bind fun y => bif y.1 != 0 then some ((0,y.1,()),()) else (Zis k (a0,a1,())).bind fun y => some ((y.1.2.2.2.1,0,()),())
noncomputable def Zl8 (k:Nat):=Zez k
theorem ZGl (k:Nat) (x:Kd.dens Z1):ZG (ZJj k) nA Tryz.f149 Z1 Z7 x = Zl8 k x:=by
 show _ = Zez k x
 obtain ⟨a0,⟨a1,⟨⟩⟩⟩:=x
 kernel_rfl
theorem ZCH (k:Nat):Ctr Tryz.prog k 149 (mk Z1 Z7 Zl8) :=
 ZH (fn:=Tryz.f149) (Zi (Za (Ztr k) (Za (Zts k) Ze))) (by kernel_rfl) (by kernel_rfl) (ZGl k)
noncomputable abbrev ZJk:Nat × Callee:=(149,mk Z1 Z7 Zl8)
abbrev Zke:List Kd:=[.view ZsF,.view (.int .i64),.view ZfY,.view (.int .i64)]
abbrev ZqM:Kd:=.tup [.view ZsF,.view .bool]
noncomputable def ZI1 (k:Nat):=WX k [ZCG,ZJk]
noncomputable def Zd7 (k:Nat):(Int × Int × Int × List Int × (List Int × Int × Unit) × List Int × Int × Unit) × Int × (List Int × Int × Unit) × Int × Unit → Option (((Int × Int × Int × List Int × (List Int × Int × Unit) × List Int × Int × Unit) × Bool × Unit) × Unit)
 | ((a0,a1,a2,a3,(a4,a5,()),a6,a7,()),a8,(a9,a10,()),a11,()) => (ZiF k ((a9,a10,()),a3,())).bind fun y => bif y.1.2.1 != 0 then some (((a0,a1,a2,a3,(a4,a5,()),a6,a7,()),false,()),()) else (Zl8 k (y.1.1,Int.ofNat a9.length,())).bind fun y_1 => bif y_1.1.2.1 != 0 then some (((a0,a1,a2,a3,(a4,a5,()),a6,a7,()),false,()),()) else some (((a8,a1,a2,a3,(a9,a10,()),y.1.1,IntKind.i64.wrap (IntKind.i64.wrap (a11 + IntKind.i64.wrap (Int.ofNat a9.length * a2)) + y_1.1.1),()),true,()),())
noncomputable def ZfI (k:Nat):=Zd7 k
theorem ZFI (k:Nat) (x:Kd.dens Zke):ZG (ZI1 k) nA Tryz.f110 Zke ZqM x = ZfI k x:=by
 show _ = Zd7 k x
 obtain ⟨⟨a0,⟨a1,⟨a2,⟨a3,⟨⟨a4,⟨a5,⟨⟩⟩⟩,⟨a6,⟨a7,⟨⟩⟩⟩⟩⟩⟩⟩⟩,⟨a8,⟨⟨a9,⟨a10,⟨⟩⟩⟩,⟨a11,⟨⟩⟩⟩⟩⟩:=x
 kernel_rfl
theorem ZB6 (k:Nat):Ctr Tryz.prog k 110 (mk Zke ZqM ZfI) :=
 ZH (fn:=Tryz.f110) (Zi (Za (ZtR k) (Za (ZCH k) Ze))) (by kernel_rfl) (by kernel_rfl) (ZFI k)
noncomputable abbrev ZI2:Nat × Callee:=(110,mk Zke ZqM ZfI)
abbrev ZkG:Kd:=.view ZfY
noncomputable def Zwu (k:Nat):=WX k [Zwb]
def ZCL:Nat → Ann:=fun id => bif Nat.beq id 4 then ⟨[19,20,18,3,2],[]⟩ else ⟨[],[]⟩
abbrev ZkF:=Zd6 → Option ((List Int × Int × Unit) × Unit)
def ZGn:Zd6 → St
 | (v0,v1,v2,v3,v4,v5) => St.mk (ZE [(19,Zr v0),(20,Zr v1),(18,Yk v2),(3,AV.bx 8192 0),(2,AV.bx 8194 0)]) (ZD [(8192,WE [AV.own 8193,Zr v3]),(8193,rsA v4 false),(8194,WE [AV.val (PV.v (Value.slice none (0:Nat) (0:Nat))),Zr v5])])
def ZoZ (k:Nat) (L1:ZkF):ZkF
 | (v0,v1,v2,v3,v4,v5) => bif decide (v1 < v0) then bif decide (0 ≤ v1 ∧ v1 < Int.ofNat v2.length) then bif decide (0 ≤ v1 ∧ v1 < Int.ofNat v4.length) then bif decide (v1.toNat < v4.length) then L1 (v0,IntKind.i64.wrap (v1 + 1),v2,v3,v4.set v1.toNat (IntKind.i64.wrap (v2.getD v1.toNat 0 * (16:Int))),v5) else none else none else none else some ((v4,v3,()),())
def Zq8 (k:Nat):ZkF:=Zs (fun L1 => ZoZ k L1) k
noncomputable def ZtW (k:Nat) (n:Nat) (v:Zd6) :=
 ZC (Zwu k) ZCL [] [1,1,1,0,1,0] [] (Xq Tryz.f151) (XQ (Zwu k) Tryz.f151 Zw ZkG [] []) n (ZGn v)
def ZoY (k:Nat) (L1:ZkF):Int × Unit → Option ((List Int × Int × Unit) × Unit)
 | (a0,()) => bif decide (0 ≤ a0 ∧ a0 ≤ a0 ∧ a0 < 4294967296) then (ZcT k (if (4:Int) < a0 then (4:Int) else a0,())).bind fun y => L1 (Int.ofNat (List.length y.1.1.1),(0:Int),y.1.1.1,(4:Int),List.replicate a0.toNat (0:Int),(0:Int)) else none
def Zmb (k:Nat):=ZoY k (Zq8 k)
theorem ZAj (k:Nat):∀ n,ZtW k n = Zs (fun L1 => ZoZ k L1) n :=
 Zn (fun v => by kernel_rfl) (fun n v => by
  obtain ⟨v0,v1,v2,v3,v4,v5⟩:=v
  kernel_rfl)
theorem ZGo (k:Nat) (x:Kd.dens Zw):ZG (Zwu k) ZCL Tryz.f151 Zw ZkG x = Zmb k x:=by
 show _ = ZoY k (Zq8 k) x
 rw [show Zq8 k = ZtW k k from (ZAj k k).symm]
 obtain ⟨a0,⟨⟩⟩:=x
 kernel_rfl
theorem ZCM (k:Nat):Ctr Tryz.prog k 151 (mk Zw ZkG Zmb) :=
 ZH (fn:=Tryz.f151) (Zi (Za (ZlQ k) Ze)) (by kernel_rfl) (by kernel_rfl) (ZGo k)
noncomputable abbrev ZJo:Nat × Callee:=(151,mk Zw ZkG Zmb)
noncomputable def Zwv (k:Nat):=WX k [ZCG]
def ZCN:Nat → Ann:=fun id => bif Nat.beq id 4 then ⟨[18,19,17,8,7],[]⟩ else ⟨[],[]⟩
abbrev ZkH:=Zcb → Option ((Int × Int × Unit) × Unit)
def ZGp:Zcb → St
 | (v0,v1,v2,v3,v4) => St.mk (ZE [(18,Zr v0),(19,Zr v1),(17,Yk v2),(8,Zr v3),(7,Zr v4)]) (ZD [])
def Zbn (k:Nat) (L1:ZkH):ZkH
 | (v0,v1,v2,v3,v4) => bif decide (v1 < v0) then bif decide (0 ≤ v1 ∧ v1 < Int.ofNat v2.length) then L1 (v0,IntKind.i64.wrap (v1 + 1),v2,IntKind.i64.wrap (v3 + if v2.getD v1.toNat 0 < IntKind.i64.wrap ((0:Int) - v2.getD v1.toNat 0) then IntKind.i64.wrap ((0:Int) - v2.getD v1.toNat 0) else v2.getD v1.toNat 0),v4) else none else some ((v3,v4,()),())
def ZkI (k:Nat):ZkH:=Zs (fun L1 => Zbn k L1) k
noncomputable def ZtX (k:Nat) (n:Nat) (v:Zcb) :=
 ZC (Zwv k) ZCN [] [1,1,1,0,1,0] [] (Xq Tryz.f152) (XQ (Zwv k) Tryz.f152 WN Z7 [] []) n (ZGp v)
def ZeB (k:Nat) (L1:ZkH):(List Int × Int × Unit) × List Int × Unit → Option ((Int × Int × Unit) × Unit)
 | ((a0,a1,()),a2,()) => (ZiF k ((a0,a1,()),a2,())).bind fun y => L1 (Int.ofNat (List.length y.1.1),(0:Int),y.1.1,(0:Int),y.1.2.1)
def ZiI (k:Nat):=ZeB k (ZkI k)
theorem ZAl (k:Nat):∀ n,ZtX k n = Zs (fun L1 => Zbn k L1) n :=
 Zn (fun v => by kernel_rfl) (fun n v => by
  obtain ⟨v0,v1,v2,v3,v4⟩:=v
  kernel_rfl)
theorem ZGq (k:Nat) (x:Kd.dens WN):ZG (Zwv k) ZCN Tryz.f152 WN Z7 x = ZiI k x:=by
 show _ = ZeB k (ZkI k) x
 rw [show ZkI k = ZtX k k from (ZAl k k).symm]
 obtain ⟨⟨a0,⟨a1,⟨⟩⟩⟩,⟨a2,⟨⟩⟩⟩:=x
 kernel_rfl
theorem ZCO (k:Nat):Ctr Tryz.prog k 152 (mk WN Z7 ZiI) :=
 ZH (fn:=Tryz.f152) (Zi (Za (ZtR k) Ze)) (by kernel_rfl) (by kernel_rfl) (ZGq k)
noncomputable abbrev ZJp:Nat × Callee:=(152,mk WN Z7 ZiI)
abbrev ZxR:Kd:=.own (.int .i64) false
def ZiJ (k:Nat):List Int × Unit → Option (List Int × Unit):=fun x => Kt x
noncomputable def Zmc:Code:=ZBA Tryz.f153
theorem ZtY (k:Nat):Ctr Tryz.prog k 153 (mk Kw ZxR ZiJ) :=
 Zou (C:=ZIt k) (A:=fun _ => ⟨[],[]⟩) (Zi Ze) Zf3 (f:=153) (fn:=Tryz.f153) (o0:=Zi9 (ZaK [0] Zmc) 0) (o1:=Zi9 (ZaK [1,0,0] Zmc) 0) (o2:=Zi9 (ZaK [1,0,0] Zmc) 1)
  (r0:=0) (r1:=1) (X:=ZaK [1,0,1,0] Zmc) (Y:=ZaK [1,1] Zmc) (T:=51) (E:=3) (U:=51) (t:=(.int .i64))
  (by kernel_rfl) (by kernel_rfl) (by kernel_rfl) (by kernel_rfl) (by kernel_rfl) (of_decide_eq_true (by kernel_rfl)) (by kernel_rfl) ⟨by kernel_rfl,by kernel_rfl,by kernel_rfl⟩ ⟨by kernel_rfl,by kernel_rfl,by kernel_rfl⟩ ⟨by kernel_rfl,by kernel_rfl,by kernel_rfl⟩ (fun xs => by kernel_rfl) (by kernel_rfl)
noncomputable abbrev ZCP:Nat × Callee:=(153,mk Kw ZxR ZiJ)
noncomputable def ZfJ (k:Nat):=WX k [ZlL,ZJo,ZJp,ZCP]
def ZqN:Nat → Ann:=fun id => bif Nat.beq id 15 then ⟨[57,56,6,11,0,9,7,50,49,10,1,4],[.seen 6 0]⟩ else bif Nat.beq id 12 then ⟨[49,50,10,6,0,9,7,1,4],[]⟩ else bif Nat.beq id 9 then ⟨[10,1,6,0,9,7,4],[]⟩ else ⟨[],[]⟩
abbrev ZqQ:=Int × Int × Int × Int × List Int × Bool × Int × Int × Int × Int × Int × List Int × Int × Int
abbrev Zkf:=ZqQ → Option (((List Int × Int × Unit) × Int × Unit) × Unit)
abbrev ZqP:=Int × Int × Int × List Int × Bool × Int × Int × List Int × Int × Int
abbrev Zd8:=ZqP → Option (((List Int × Int × Unit) × Int × Unit) × Unit)
abbrev ZqO:=Int × Int × List Int × Bool × Int × List Int × Int × Int
abbrev Zax:=ZqO → Option (((List Int × Int × Unit) × Int × Unit) × Unit)
def ZFL:ZqQ → St
 | (v0,v1,v2,v3,v4,v5,v6,v7,v8,v9,v10,v11,v12,v13) => St.mk (ZE [(57,Zr v0),(56,AV.agg [Zr v1,Zr v2]),(6,AV.bx 8192 0),(11,Zr v3),(0,Yk v4),(9,avB v5),(7,Zr v6),(50,Zr v7),(49,Zr v8),(10,Zr v9),(1,Zr v10),(4,AV.bx 8193 0)]) (ZD [(8192,WE [Yk v11,Zr v12]),(8193,WE [AV.val (PV.v (Value.slice none (0:Nat) (0:Nat))),Zr v13])])
def YH (k:Nat) (L1:Zax) (L2:Zd8) (L3:Zkf):Zkf
 | (v0,v1,v2,v3,v4,v5,v6,v7,v8,v9,v10,v11,v12,v13) => bif decide (v0 < 2) then bif decide (0 ≤ v0 ∧ v0 < 2) then (ZiJ k (v11,())).bind fun y => bif decide (0 ≤ v3 ∧ v3 < Int.ofNat (List.length y.1)) then bif decide (v3.toNat < List.length y.1) then bif decide (0 ≤ v3 ∧ v3 < Int.ofNat (List.length y.1)) then bif decide (v3.toNat < List.length y.1) then (ZiI k ((List.set y.1 v3.toNat (IntKind.i64.wrap (List.getD y.1 v3.toNat 0 + [v1,v2].getD v0.toNat (0:Int))),v12,()),v4,())).bind fun y_1 => bif y_1.1.2.1 == 0 then bif !v5 then L3 (IntKind.i64.wrap (v0 + 1),v1,v2,v3,v4,true,y_1.1.1,v7,v8,v9,v10,List.set y.1 v3.toNat (IntKind.i64.wrap (List.getD y.1 v3.toNat 0 + [v1,v2].getD v0.toNat (0:Int))),v12,v13) else bif decide (y_1.1.1 < v6) then L3 (IntKind.i64.wrap (v0 + 1),v1,v2,v3,v4,true,y_1.1.1,v7,v8,v9,v10,List.set y.1 v3.toNat (IntKind.i64.wrap (List.getD y.1 v3.toNat 0 + [v1,v2].getD v0.toNat (0:Int))),v12,v13) else L3 (IntKind.i64.wrap (v0 + 1),v1,v2,v3,v4,v5,v6,v7,v8,v9,v10,v11,v12,v13) else L3 (IntKind.i64.wrap (v0 + 1),v1,v2,v3,v4,v5,v6,v7,v8,v9,v10,v11,v12,v13) else none else none else none else none else none else L2 (v8,IntKind.i64.wrap (v7 + 1),v9,v4,v5,v6,v10,v11,v12,v13)
def Zd9 (k:Nat) (L1:Zax) (L2:Zd8):Zkf:=Zs (fun L3 => YH k L1 L2 L3) k
noncomputable def ZgI (k:Nat) (n1 n2:Nat) (n:Nat) (v:ZqQ):Option (((List Int × Int × Unit) × Int × Unit) × Unit) :=
 ZC (ZfJ k) ZqN [] [1,1,1,1,1,0,1,0,0,1,0,0,1,0,0,1,1,0,0,1,1,0] [n1,n2] (Xq Tryz.f111) (XQ (ZfJ k) Tryz.f111 Z1 XY [] []) n (ZFL v)
def ZFK:ZqP → St
 | (v0,v1,v2,v3,v4,v5,v6,v7,v8,v9) => St.mk (ZE [(49,Zr v0),(50,Zr v1),(10,Zr v2),(6,AV.bx 8192 0),(0,Yk v3),(9,avB v4),(7,Zr v5),(1,Zr v6),(4,AV.bx 8193 0)]) (ZD [(8192,WE [Yk v7,Zr v8]),(8193,WE [AV.val (PV.v (Value.slice none (0:Nat) (0:Nat))),Zr v9])])
def KQ (k:Nat) (L3:Zkf) (L1:Zax) (L2:Zd8):Zd8
 | (v0,v1,v2,v3,v4,v5,v6,v7,v8,v9) => bif decide (v1 < v0) then L3 (0,v2,IntKind.i64.wrap ((0:Int) - v2),v1,v3,v4,v5,v1,v0,v2,v6,v7,v8,v9) else L1 (IntKind.i64.wrap (v2.tdiv (2:Int)),v6,v3,v4,v5,v7,v8,v9)
def ZgH (k:Nat) (L1:Zax):Zd8:=Zs (fun L2 => KQ k (Zd9 k L1 L2) L1 L2) k
noncomputable def Y6 (k:Nat) (n1:Nat) (n:Nat) (v:ZqP):Option (((List Int × Int × Unit) × Int × Unit) × Unit) :=
 ZC (ZfJ k) ZqN [] [1,1,1,1,1,0,1,0,0,1,0,0,1,0] [n1] (Xq Tryz.f111) (XQ (ZfJ k) Tryz.f111 Z1 XY [] []) n (ZFK v)
def ZFJ:ZqO → St
 | (v0,v1,v2,v3,v4,v5,v6,v7) => St.mk (ZE [(10,Zr v0),(1,Zr v1),(6,AV.bx 8192 0),(0,Yk v2),(9,avB v3),(7,Zr v4),(4,AV.bx 8193 0)]) (ZD [(8192,WE [Yk v5,Zr v6]),(8193,WE [AV.val (PV.v (Value.slice none (0:Nat) (0:Nat))),Zr v7])])
def KP (k:Nat) (L2:Zd8) (L1:Zax):Zax
 | (v0,v1,v2,v3,v4,v5,v6,v7) => bif decide ((0:Int) < v0) then L2 (v1,(0:Int),v0,v2,v3,v4,v1,v5,v6,v7) else some (((v5,v6,()),0,()),())
def Zkg (k:Nat):Zax:=Zs (fun L1 => KP k (ZgH k L1) L1) k
noncomputable def XH (k:Nat) (n:Nat) (v:ZqO) :=
 ZC (ZfJ k) ZqN [] [1,1,1,1,1,0,1,0] [] (Xq Tryz.f111) (XQ (ZfJ k) Tryz.f111 Z1 XY [] []) n (ZFJ v)
def Zea (k:Nat) (L1:Zax):List Int × Int × Unit → Option (((List Int × Int × Unit) × Int × Unit) × Unit)
 | (a0,a1,()) => bif decide (a1 < 0) then some ((([],(0:Int),()),1,()),()) else bif decide ((8:Int) < a1) then some ((([],(0:Int),()),1,()),()) else bif decide (Int.ofNat a0.length < a1) then some ((([],(0:Int),()),1,()),()) else (Y5 k (a0,(),())).bind fun y => bif y.1 then some ((([],(0:Int),()),12,()),()) else (Zmb k (a1,())).bind fun y => (ZiI k ((y.1.1,y.1.2.1,()),a0,())).bind fun y_1 => L1 (8,a1,a0,y_1.1.2.1 == 0,y_1.1.1,y.1.1,y.1.2.1,(0:Int))
def ZlS (k:Nat):=Zea k (Zkg k)
theorem ZzH (k:Nat) (n1 n2:Nat):∀ n,ZgI k n1 n2 n = Zs (fun L3 => YH k (XH k n1) (Y6 k n1 n2) L3) n :=
 Zn (fun v => by kernel_rfl) (fun n v => by
  show ZgI k n1 n2 (n + 1) v = YH k (XH k n1) (Y6 k n1 n2) (ZgI k n1 n2 n) v
  obtain ⟨v0,v1,v2,v3,v4,v5,v6,v7,v8,v9,v10,v11,v12,v13⟩:=v
  kernel_rfl)
theorem ZzG (k:Nat) (n1:Nat):∀ n,Y6 k n1 n = Zs (fun L2 => KQ k (Zd9 k (XH k n1) L2) (XH k n1) L2) n :=
 Zn (fun v => by kernel_rfl) (fun n v => by
  show Y6 k n1 (n + 1) v = KQ k (Zd9 k (XH k n1) (Y6 k n1 n)) (XH k n1) (Y6 k n1 n) v
  rw [show (Zd9 k (XH k n1) (Y6 k n1 n)) = ZgI k n1 n k from (ZzH k n1 n k).symm]
  obtain ⟨v0,v1,v2,v3,v4,v5,v6,v7,v8,v9⟩:=v
  kernel_rfl)
theorem ZzF (k:Nat):∀ n,XH k n = Zs (fun L1 => KP k (ZgH k L1) L1) n :=
 Zn (fun v => by kernel_rfl) (fun n v => by
  rw [show (ZgH k (XH k n)) = Y6 k n k from (ZzG k n k).symm]
  obtain ⟨v0,v1,v2,v3,v4,v5,v6,v7⟩:=v
  kernel_rfl)
theorem ZFM (k:Nat) (x:Kd.dens Z1):ZG (ZfJ k) ZqN Tryz.f111 Z1 XY x = ZlS k x:=by
 show _ = Zea k (Zkg k) x
 rw [show Zkg k = XH k k from (ZzF k k).symm]
 obtain ⟨a0,⟨a1,⟨⟩⟩⟩:=x
 kernel_rfl
theorem ZB7 (k:Nat):Ctr Tryz.prog k 111 (mk Z1 XY ZlS) :=
 ZH (fn:=Tryz.f111) (Zi (Za (ZfH k) (Za (ZCM k) (Za (ZCO k) (Za (ZtY k) Ze))))) (by kernel_rfl) (by kernel_rfl) (ZFM k)
noncomputable abbrev ZI3:Nat × Callee:=(111,mk Z1 XY ZlS)
abbrev Zka:List Kd:=[.view ZsF,.view .bool,.box [.view (.int .i64),.view (.int .i64),.view (.int .i64),.view (.sl (.int .i64)),.view (.sl (.int .i64)),.view (.int .i64),.view (.sl (.int .i64)),.view (.int .i64)]]
def ZoE (k:Nat):(Int × Int × Int × List Int × (List Int × Int × Unit) × List Int × Int × Unit) × Bool × (Int × Int × Int × List Int × List Int × Int × List Int × Int × Unit) × Unit → Option (Unit × (Int × Int × Int × List Int × List Int × Int × List Int × Int × Unit) × Unit)
 | ((a0,a1,a2,a3,(a4,a5,()),a6,a7,()),a8,(a9,a10,a11,a12,a13,a14,a15,a16,()),()) => bif a8 then bif decide (a16 < 0) then some ((),(a0,a1,a2,a3,a4,a5,a6,a7,()),()) else bif decide (a7 < a16) then some ((),(a0,a1,a2,a3,a4,a5,a6,a7,()),()) else some ((),(a9,a10,a11,a12,a13,a14,a15,a16,()),()) else some ((),(a9,a10,a11,a12,a13,a14,a15,a16,()),())
def ZaV (k:Nat):=ZoE k
theorem ZFB (k:Nat) (x:Kd.dens Zka):ZG (ZV k) nA Tryz.f107 Zka Qx x = ZaV k x:=by
 show _ = ZoE k x
 obtain ⟨⟨a0,⟨a1,⟨a2,⟨a3,⟨⟨a4,⟨a5,⟨⟩⟩⟩,⟨a6,⟨a7,⟨⟩⟩⟩⟩⟩⟩⟩⟩,⟨a8,⟨⟨a9,⟨a10,⟨a11,⟨a12,⟨a13,⟨a14,⟨a15,⟨a16,⟨⟩⟩⟩⟩⟩⟩⟩⟩⟩,⟨⟩⟩⟩⟩:=x
 kernel_rfl
theorem ZB4 (k:Nat):Ctr Tryz.prog k 107 (mk Zka Qx ZaV) :=
 ZH (fn:=Tryz.f107) (Zi Ze) (by kernel_rfl) (by kernel_rfl) (ZFB k)
noncomputable abbrev ZIY:Nat × Callee:=(107,mk Zka Qx ZaV)
abbrev ZiU:Kd:=.view ZsF
noncomputable def ZmR (k:Nat):=WX k [ZBU,ZIX,Zwb,ZI2,ZI3,ZIY]
def Zyl:Nat → Ann:=fun id => bif Nat.beq id 21 then ⟨[82,81,11,6,10,12,9,4],[]⟩ else bif Nat.beq id 15 then ⟨[62,63,10,6,11,12,9,4],[]⟩ else bif Nat.beq id 4 then ⟨[28,29,27,6,5,4],[.cell 6 3 ((Ty.int IntKind.i64))]⟩ else ⟨[],[]⟩
abbrev ZwV:=Int × Int × Int × Int × Int × Int × Int × Int × List Int × List Int × Int × List Int × Int × Int × Int × Int × List Int × List Int × Int × List Int × Int × Int × Int × Int × Int × Int × List Int × Int × Int × Int × Int × Int
abbrev ZrW:=ZwV → Option ((Int × Int × Int × List Int × (List Int × Int × Unit) × List Int × Int × Unit) × Unit)
abbrev ZwU:=Int × Int × Int × Int × Int × Int × List Int × List Int × Int × List Int × Int × Int × Int × Int × List Int × List Int × Int × List Int × Int × Int × Int × Int × Int × Int × List Int × Int × Int × Int × Int × Int
abbrev ZrV:=ZwU → Option ((Int × Int × Int × List Int × (List Int × Int × Unit) × List Int × Int × Unit) × Unit)
abbrev ZwT:=Int × Int × List Int × Int × Int × Int × Int × Int × Int × List Int × Int × Int × Int × Int × Int
abbrev ZrU:=ZwT → Option ((Int × Int × Int × List Int × (List Int × Int × Unit) × List Int × Int × Unit) × Unit)
def ZKK:ZwV → St
 | (v0,v1,v2,v3,v4,v5,v6,v7,v8,v9,v10,v11,v12,v13,v14,v15,v16,v17,v18,v19,v20,v21,v22,v23,v24,v25,v26,v27,v28,v29,v30,v31) => St.mk (ZE [(82,Zr v0),(81,AV.agg [Zr v1,Zr v2,Zr v3]),(11,Zr v4),(6,AV.bx 8192 0),(10,AV.clo 107 [AV.bx 8193 0]),(12,AV.bx 8194 0),(9,AV.bx 8193 0),(4,AV.bx 8196 0)]) (ZD [(8192,WE [Zr v5,Zr v6,Zr v7,Yk v8,Yk v9,Zr v10,Yk v11,Zr v12]),(8193,WE [Zr v13,Zr v14,Zr v15,Yk v16,Yk v17,Zr v18,Yk v19,Zr v20]),(8194,WE [Zr v21,Zr v22,Zr v23,AV.own 8195,AV.val (PV.v (Value.slice none (0:Nat) (0:Nat))),Zr v24,AV.val (PV.v (Value.slice none (0:Nat) (0:Nat))),Zr v25]),(8195,rsA v26 true),(8196,WE [Zr v27,Zr v28,Zr v29,AV.val (PV.v (Value.slice none (0:Nat) (0:Nat))),AV.val (PV.v (Value.slice none (0:Nat) (0:Nat))),Zr v30,AV.val (PV.v (Value.slice none (0:Nat) (0:Nat))),Zr v31])])
noncomputable def ZbA (k:Nat) (L3:ZrW):ZrW
 | (v0,v1,v2,v3,v4,v5,v6,v7,v8,v9,v10,v11,v12,v13,v14,v15,v16,v17,v18,v19,v20,v21,v22,v23,v24,v25,v26,v27,v28,v29,v30,v31) => bif decide (v0 < 3) then bif decide (0 ≤ v0 ∧ v0 < 3) then bif decide ([v1,v2,v3].getD v0.toNat (0:Int) < v4) then (ZlS k (v8,[v1,v2,v3].getD v0.toNat (0:Int),())).bind fun y => (ZfI k ((v5,v6,v7,v8,(v9,v10,()),v11,v12,()),IntKind.i64.wrap ((31:Int) + [v1,v2,v3].getD v0.toNat (0:Int)),(y.1.1.1,y.1.1.2.1,()),IntKind.i64.wrap ((9:Int) + IntKind.i64.wrap ((12:Int) * [v1,v2,v3].getD v0.toNat (0:Int))),())).bind fun y => (ZaV k ((y.1.1.1,y.1.1.2.1,y.1.1.2.2.1,y.1.1.2.2.2.1,(y.1.1.2.2.2.2.1.1,y.1.1.2.2.2.2.1.2.1,()),y.1.1.2.2.2.2.2.1,y.1.1.2.2.2.2.2.2.1,()),y.1.2.1,(v13,v14,v15,v16,v17,v18,v19,v20,()),())).bind fun y => L3 (IntKind.i64.wrap (v0 + 1),v1,v2,v3,v4,v5,v6,v7,v8,v9,v10,v11,v12,y.2.1.1,y.2.1.2.1,y.2.1.2.2.1,y.2.1.2.2.2.1,y.2.1.2.2.2.2.1,y.2.1.2.2.2.2.2.1,y.2.1.2.2.2.2.2.2.1,y.2.1.2.2.2.2.2.2.2.1,v21,v22,v23,v24,v25,v26,v27,v28,v29,v30,v31) else L3 (IntKind.i64.wrap (v0 + 1),v1,v2,v3,v4,v5,v6,v7,v8,v9,v10,v11,v12,v13,v14,v15,v16,v17,v18,v19,v20,v21,v22,v23,v24,v25,v26,v27,v28,v29,v30,v31) else none else (ZaV k (((1:Int),v22,v23,v26,([],v24,()),[],IntKind.i64.wrap (v4 * v7),()),true,(v13,v14,v15,v16,v17,v18,v19,v20,()),())).bind fun y => some ((y.2.1.1,y.2.1.2.1,y.2.1.2.2.1,y.2.1.2.2.2.1,(y.2.1.2.2.2.2.1,y.2.1.2.2.2.2.2.1,()),y.2.1.2.2.2.2.2.2.1,y.2.1.2.2.2.2.2.2.2.1,()),())
noncomputable def ZiT (k:Nat):ZrW:=Zs (fun L3 => ZbA k L3) k
noncomputable def Zyo (k:Nat) (n:Nat) (v:ZwV) :=
 ZC (ZmR k) Zyl [] [1,1,1,1,1,1,1,1,1,1,1,0,1,0] [] (Xq Tryz.f68) (XQ (ZmR k) Tryz.f68 Z1 ZiU [] []) n (ZKK v)
def ZKJ:ZwU → St
 | (v0,v1,v2,v3,v4,v5,v6,v7,v8,v9,v10,v11,v12,v13,v14,v15,v16,v17,v18,v19,v20,v21,v22,v23,v24,v25,v26,v27,v28,v29) => St.mk (ZE [(62,Zr v0),(63,Zr v1),(10,AV.clo 107 [AV.bx 8192 0]),(6,AV.bx 8193 0),(11,Zr v2),(12,AV.bx 8194 0),(9,AV.bx 8192 0),(4,AV.bx 8196 0)]) (ZD [(8192,WE [Zr v3,Zr v4,Zr v5,Yk v6,Yk v7,Zr v8,Yk v9,Zr v10]),(8193,WE [Zr v11,Zr v12,Zr v13,Yk v14,Yk v15,Zr v16,Yk v17,Zr v18]),(8194,WE [Zr v19,Zr v20,Zr v21,AV.own 8195,AV.val (PV.v (Value.slice none (0:Nat) (0:Nat))),Zr v22,AV.val (PV.v (Value.slice none (0:Nat) (0:Nat))),Zr v23]),(8195,rsA v24 true),(8196,WE [Zr v25,Zr v26,Zr v27,AV.val (PV.v (Value.slice none (0:Nat) (0:Nat))),AV.val (PV.v (Value.slice none (0:Nat) (0:Nat))),Zr v28,AV.val (PV.v (Value.slice none (0:Nat) (0:Nat))),Zr v29])])
noncomputable def Zdk (k:Nat) (L3:ZrW) (L2:ZrV):ZrV
 | (v0,v1,v2,v3,v4,v5,v6,v7,v8,v9,v10,v11,v12,v13,v14,v15,v16,v17,v18,v19,v20,v21,v22,v23,v24,v25,v26,v27,v28,v29) => bif decide (v1 < v0) then (ZcT k (v1,())).bind fun y => (ZfI k ((v11,v12,v13,v14,(v15,v16,()),v17,v18,()),IntKind.i64.wrap ((8:Int) + v1),(y.1.1.1,y.1.1.2.1,()),0,())).bind fun y => (ZaV k ((y.1.1.1,y.1.1.2.1,y.1.1.2.2.1,y.1.1.2.2.2.1,(y.1.1.2.2.2.2.1.1,y.1.1.2.2.2.2.1.2.1,()),y.1.1.2.2.2.2.2.1,y.1.1.2.2.2.2.2.2.1,()),y.1.2.1,(v3,v4,v5,v6,v7,v8,v9,v10,()),())).bind fun y => L2 (v0,IntKind.i64.wrap (v1 + 1),v2,y.2.1.1,y.2.1.2.1,y.2.1.2.2.1,y.2.1.2.2.2.1,y.2.1.2.2.2.2.1,y.2.1.2.2.2.2.2.1,y.2.1.2.2.2.2.2.2.1,y.2.1.2.2.2.2.2.2.2.1,v11,v12,v13,v14,v15,v16,v17,v18,v19,v20,v21,v22,v23,v24,v25,v26,v27,v28,v29) else L3 (0,(2:Int),(4:Int),(8:Int),v2,v11,v12,v13,v14,v15,v16,v17,v18,v3,v4,v5,v6,v7,v8,v9,v10,v19,v20,v21,v22,v23,v24,v25,v26,v27,v28,v29)
noncomputable def ZiS (k:Nat):ZrV:=Zs (fun L2 => Zdk k (ZiT k) L2) k
noncomputable def Zyn (k:Nat) (n:Nat) (v:ZwU) :=
 ZC (ZmR k) Zyl [] [1,1,1,1,1,1,1,1,1,1,0,1,0] [] (Xq Tryz.f68) (XQ (ZmR k) Tryz.f68 Z1 ZiU [] []) n (ZKJ v)
def ZKI:ZwT → St
 | (v0,v1,v2,v3,v4,v5,v6,v7,v8,v9,v10,v11,v12,v13,v14) => St.mk (ZE [(28,Zr v0),(29,Zr v1),(27,Yk v2),(6,AV.bx 8192 0),(5,Zr v3),(4,AV.bx 8194 0)]) (ZD [(8192,WE [Zr v4,Zr v5,Zr v6,AV.own 8193,AV.val (PV.v (Value.slice none (0:Nat) (0:Nat))),Zr v7,AV.val (PV.v (Value.slice none (0:Nat) (0:Nat))),Zr v8]),(8193,rsA v9 false),(8194,WE [Zr v10,Zr v11,Zr v12,AV.val (PV.v (Value.slice none (0:Nat) (0:Nat))),AV.val (PV.v (Value.slice none (0:Nat) (0:Nat))),Zr v13,AV.val (PV.v (Value.slice none (0:Nat) (0:Nat))),Zr v14])])
def Kg (k:Nat) (L2:ZrV) (L1:ZrU):ZrU
 | (v0,v1,v2,v3,v4,v5,v6,v7,v8,v9,v10,v11,v12,v13,v14) => bif decide (v1 < v0) then bif decide (0 ≤ v1 ∧ v1 < Int.ofNat v2.length) then bif decide (0 ≤ v3) then bif decide (v9.length + [Int.fdiv (v2.getD v1.toNat 0) ((2:Int) ^ min v3.toNat 64)].length < 2147483648) then L1 (v0,IntKind.i64.wrap (v1 + 1),v2,v3,v4,v5,v6,v7,v8,v9 ++ [Int.fdiv (v2.getD v1.toNat 0) ((2:Int) ^ min v3.toNat 64)],v10,v11,v12,v13,v14) else none else none else none else (ZcQ k (v9,((v4,v5,v6,v9,[],v7,[],v8,()),()),())).bind fun y => (ZaV k (((0:Int),v5,v6,v9,([],v7,()),[],v6,()),!y.1,(0,0,0,[],[],0,[],(-1:Int),()),())).bind fun y_1 => L2 (IntKind.i64.wrap ((if Int.ofNat v9.length < (4:Int) then Int.ofNat v9.length else (4:Int)) + (1:Int)),(0:Int),Int.ofNat v9.length,y_1.2.1.1,y_1.2.1.2.1,y_1.2.1.2.2.1,y_1.2.1.2.2.2.1,y_1.2.1.2.2.2.2.1,y_1.2.1.2.2.2.2.2.1,y_1.2.1.2.2.2.2.2.2.1,y_1.2.1.2.2.2.2.2.2.2.1,y.2.1.1,y.2.1.2.1,y.2.1.2.2.1,y.2.1.2.2.2.1,y.2.1.2.2.2.2.1,y.2.1.2.2.2.2.2.1,y.2.1.2.2.2.2.2.2.1,y.2.1.2.2.2.2.2.2.2.1,(0:Int),v5,v6,v7,v6,v9,v10,v11,v12,v13,v14)
noncomputable def ZrX (k:Nat):ZrU:=Zs (fun L1 => Kg k (ZiS k) L1) k
noncomputable def Zym (k:Nat) (n:Nat) (v:ZwT) :=
 ZC (ZmR k) Zyl [] [1,1,1,0,1,0] [] (Xq Tryz.f68) (XQ (ZmR k) Tryz.f68 Z1 ZiU [] []) n (ZKI v)
def Zhn (k:Nat) (L1:ZrU):List Int × Int × Unit → Option ((Int × Int × Int × List Int × (List Int × Int × Unit) × List Int × Int × Unit) × Unit)
 | (a0,a1,()) => (ZlN k (a0,())).bind fun y => L1 (Int.ofNat a0.length,(0:Int),a0,y.1,(0:Int),y.1,IntKind.i64.wrap (a1 - y.1),(0:Int),(0:Int),[],(0:Int),(0:Int),(0:Int),(0:Int),(0:Int))
noncomputable def Zpo (k:Nat):=Zhn k (ZrX k)
theorem ZD5 (k:Nat):∀ n,Zyo k n = Zs (fun L3 => ZbA k L3) n :=
 Zn (fun v => by kernel_rfl) (fun n v => by
  obtain ⟨v0,v1,v2,v3,v4,v5,v6,v7,v8,v9,v10,v11,v12,v13,v14,v15,v16,v17,v18,v19,v20,v21,v22,v23,v24,v25,v26,v27,v28,v29,v30,v31⟩:=v
  kernel_rfl)
theorem ZD4 (k:Nat):∀ n,Zyn k n = Zs (fun L2 => Zdk k (ZiT k) L2) n :=
 Zn (fun v => by kernel_rfl) (fun n v => by
  rw [show (ZiT k) = Zyo k k from (ZD5 k k).symm]
  obtain ⟨v0,v1,v2,v3,v4,v5,v6,v7,v8,v9,v10,v11,v12,v13,v14,v15,v16,v17,v18,v19,v20,v21,v22,v23,v24,v25,v26,v27,v28,v29⟩:=v
  kernel_rfl)
theorem ZD3 (k:Nat):∀ n,Zym k n = Zs (fun L1 => Kg k (ZiS k) L1) n :=
 Zn (fun v => by kernel_rfl) (fun n v => by
  rw [show (ZiS k) = Zyn k k from (ZD4 k k).symm]
  obtain ⟨v0,v1,v2,v3,v4,v5,v6,v7,v8,v9,v10,v11,v12,v13,v14⟩:=v
  kernel_rfl)
theorem ZKL (k:Nat) (x:Kd.dens Z1):ZG (ZmR k) Zyl Tryz.f68 Z1 ZiU x = Zpo k x:=by
 show _ = Zhn k (ZrX k) x
 rw [show ZrX k = Zym k k from (ZD3 k k).symm]
 obtain ⟨a0,⟨a1,⟨⟩⟩⟩:=x
 kernel_rfl
theorem ZHj (k:Nat):Ctr Tryz.prog k 68 (mk Z1 ZiU Zpo) :=
 ZH (fn:=Tryz.f68) (Zi (Za (Zv6 k) (Za (ZB3 k) (Za (ZlQ k) (Za (ZB6 k) (Za (ZB7 k) (Za (ZB4 k) Ze))))))) (by kernel_rfl) (by kernel_rfl) (ZKL k)
noncomputable abbrev ZL4:Nat × Callee:=(68,mk Z1 ZiU Zpo)
def ZIv:Nat → Ann:=fun id => bif Nat.beq id 4 then ⟨[15,16,0],[]⟩ else ⟨[],[]⟩
abbrev ZrY:=Zca → Option (Int × (List Int × Int × Unit) × Unit)
def ZKM:Zca → St
 | (v0,v1,v2,v3) => St.mk (ZE [(15,Zr v0),(16,Zr v1),(0,AV.bx 0 0)]) (ZD [(0,WE [AV.own 8192,Zr v2]),(8192,RS.live (Res.arr (Ty.int IntKind.u8) v3 false))])
def Zdl (k:Nat) (L1:ZrY):ZrY
 | (v0,v1,v2,v3) => bif decide (v1 < v0) then (ZfG k ((v3,v2,()),0,())).bind fun y => L1 (v0,IntKind.i64.wrap (v1 + 1),y.2.1.2.1,y.2.1.1) else (ZfG k ((v3,v2,()),1,())).bind fun y => some (0,(y.2.1.1,y.2.1.2.1,()),())
def ZrZ (k:Nat):ZrY:=Zs (fun L1 => Zdl k L1) k
noncomputable def Zyp (k:Nat) (n:Nat) (v:Zca) :=
 ZC (Zpk k) ZIv [0] [1,1,0,1,0] [] (Xq Tryz.f69) (XQ (Zpk k) Tryz.f69 KH Zf [AV.bx (nat_lit 0) (nat_lit 0)] [[]]) n (ZKM v)
def Zho (k:Nat) (L1:ZrY):(List Int × Int × Unit) × Int × Unit → Option (Int × (List Int × Int × Unit) × Unit)
 | ((a0,a1,()),a2,()) => bif decide (a2 < 0) then some (1,(a0,a1,()),()) else bif decide ((65536:Int) < a2) then some (1,(a0,a1,()),()) else L1 (a2,(0:Int),a1,a0)
def ZjA (k:Nat):=Zho k (ZrZ k)
theorem ZD7 (k:Nat):∀ n,Zyp k n = Zs (fun L1 => Zdl k L1) n :=
 Zn (fun v => by kernel_rfl) (fun n v => by
  obtain ⟨v0,v1,v2,v3⟩:=v
  kernel_rfl)
theorem ZKN (k:Nat) (x:Kd.dens KH):ZG (Zpk k) ZIv Tryz.f69 KH Zf x = ZjA k x:=by
 show _ = Zho k (ZrZ k) x
 rw [show ZrZ k = Zyp k k from (ZD7 k k).symm]
 obtain ⟨⟨a0,⟨a1,⟨⟩⟩⟩,⟨a2,⟨⟩⟩⟩:=x
 kernel_rfl
theorem Zyq (k:Nat):Ctr Tryz.prog k 69 (mk KH Zf ZjA) :=
 ZH (fn:=Tryz.f69) (Zi (Za (Zti k) Ze)) (by kernel_rfl) (by kernel_rfl) (ZKN k)
noncomputable abbrev ZIw:Nat × Callee:=(69,mk KH Zf ZjA)
def Zeb (k:Nat):(List Int × Int × Unit) × Int × Int × Unit → Option (Int × (List Int × Int × Unit) × Unit)
 | ((a0,a1,()),a2,a3,()) => (ZmM k (a3,())).bind fun y => bif y.1 then some (1,(a0,a1,()),()) else bif a3 == 0 then bif a2 != 0 then some (12,(a0,a1,()),()) else bif decide ((0:Int) < a3) then bif decide (0 ≤ IntKind.i64.wrap (a3 - 1)) then bif a2.fdiv ((2:Int) ^ min (IntKind.i64.wrap (a3 - 1)).toNat 64) != (0:Int) then bif decide (0 ≤ IntKind.i64.wrap (a3 - 1)) then bif a2.fdiv ((2:Int) ^ min (IntKind.i64.wrap (a3 - 1)).toNat 64) != (-1:Int) then some (12,(a0,a1,()),()) else (Zcv k ((a0,a1,()),IntKind.u64.wrap a2,a3,())).bind fun y => some (0,(y.2.1.1,y.2.1.2.1,()),()) else none else (Zcv k ((a0,a1,()),IntKind.u64.wrap a2,a3,())).bind fun y => some (0,(y.2.1.1,y.2.1.2.1,()),()) else none else (Zcv k ((a0,a1,()),IntKind.u64.wrap a2,a3,())).bind fun y => some (0,(y.2.1.1,y.2.1.2.1,()),()) else bif decide ((0:Int) < a3) then bif decide (0 ≤ IntKind.i64.wrap (a3 - 1)) then bif a2.fdiv ((2:Int) ^ min (IntKind.i64.wrap (a3 - 1)).toNat 64) != (0:Int) then bif decide (0 ≤ IntKind.i64.wrap (a3 - 1)) then bif a2.fdiv ((2:Int) ^ min (IntKind.i64.wrap (a3 - 1)).toNat 64) != (-1:Int) then some (12,(a0,a1,()),()) else (Zcv k ((a0,a1,()),IntKind.u64.wrap a2,a3,())).bind fun y => some (0,(y.2.1.1,y.2.1.2.1,()),()) else none else (Zcv k ((a0,a1,()),IntKind.u64.wrap a2,a3,())).bind fun y => some (0,(y.2.1.1,y.2.1.2.1,()),()) else none else (Zcv k ((a0,a1,()),IntKind.u64.wrap a2,a3,())).bind fun y => some (0,(y.2.1.1,y.2.1.2.1,()),())
def Ziq (k:Nat):=Zeb k
theorem ZFN (k:Nat) (x:Kd.dens Zc8):ZG (ZId k) nA Tryz.f112 Zc8 Zf x = Ziq k x:=by
 show _ = Zeb k x
 obtain ⟨⟨a0,⟨a1,⟨⟩⟩⟩,⟨a2,⟨a3,⟨⟩⟩⟩⟩:=x
 kernel_rfl
theorem Ztq (k:Nat):Ctr Tryz.prog k 112 (mk Zc8 Zf Ziq) :=
 ZH (fn:=Tryz.f112) (Zi (Za (ZrO k) (Za (Zyh k) Ze))) (by kernel_rfl) (by kernel_rfl) (ZFN k)
noncomputable abbrev ZB9:Nat × Callee:=(112,mk Zc8 Zf Ziq)
abbrev X2:List Kd:=[.box [.own (.int .u8) false,.view (.int .i64)],.view (.sl (.int .i64)),.view (.int .i64)]
noncomputable def ZD8 (k:Nat):=WX k [ZB9]
def ZIx:Nat → Ann:=fun id => bif Nat.beq id 1 then ⟨[9,10,8,0,2],[]⟩ else ⟨[],[]⟩
abbrev Zdm:=Int × Int × List Int × Int × Int × List Int
abbrev Zr0:=Zdm → Option (Unit × (List Int × Int × Unit) × Unit)
def ZKO:Zdm → St
 | (v0,v1,v2,v3,v4,v5) => St.mk (ZE [(9,Zr v0),(10,Zr v1),(8,Yk v2),(0,AV.bx 0 0),(2,Zr v3)]) (ZD [(0,WE [AV.own 8192,Zr v4]),(8192,RS.live (Res.arr (Ty.int IntKind.u8) v5 false))])
def Zdn (k:Nat) (L1:Zr0):Zr0
 | (v0,v1,v2,v3,v4,v5) => bif decide (v1 < v0) then bif decide (0 ≤ v1 ∧ v1 < Int.ofNat v2.length) then (Ziq k ((v5,v4,()),v2.getD v1.toNat 0,v3,())).bind fun y => L1 (v0,IntKind.i64.wrap (v1 + 1),v2,v3,y.2.1.2.1,y.2.1.1) else none else some ((),(v5,v4,()),())
def Zr1 (k:Nat):Zr0:=Zs (fun L1 => Zdn k L1) k
noncomputable def Zyr (k:Nat) (n:Nat) (v:Zdm) :=
 ZC (ZD8 k) ZIx [0] [1,0] [] (Xq Tryz.f70) (XQ (ZD8 k) Tryz.f70 X2 Qx [AV.bx (nat_lit 0) (nat_lit 0)] [[]]) n (ZKO v)
def Zhp (k:Nat) (L1:Zr0):(List Int × Int × Unit) × List Int × Int × Unit → Option (Unit × (List Int × Int × Unit) × Unit)
 | ((a0,a1,()),a2,a3,()) => L1 (Int.ofNat a2.length,(0:Int),a2,a3,a1,a0)
def KB (k:Nat):=Zhp k (Zr1 k)
theorem ZD9 (k:Nat):∀ n,Zyr k n = Zs (fun L1 => Zdn k L1) n :=
 Zn (fun v => by kernel_rfl) (fun n v => by
  obtain ⟨v0,v1,v2,v3,v4,v5⟩:=v
  kernel_rfl)
theorem ZKP (k:Nat) (x:Kd.dens X2):ZG (ZD8 k) ZIx Tryz.f70 X2 Qx x = KB k x:=by
 show _ = Zhp k (Zr1 k) x
 rw [show Zr1 k = Zyr k k from (ZD9 k k).symm]
 obtain ⟨⟨a0,⟨a1,⟨⟩⟩⟩,⟨a2,⟨a3,⟨⟩⟩⟩⟩:=x
 kernel_rfl
theorem ZHm (k:Nat):Ctr Tryz.prog k 70 (mk X2 Qx KB) :=
 ZH (fn:=Tryz.f70) (Zi (Za (Ztq k) Ze)) (by kernel_rfl) (by kernel_rfl) (ZKP k)
noncomputable abbrev ZL5:Nat × Callee:=(70,mk X2 Qx KB)
noncomputable def ZuE (k:Nat):=WX k [ZDu,ZIw,ZCa,ZCb,ZCd,(116,mk Zw Zf Zb8),(117,mk Zw Zf Ku),(118,mk Zw Z7 ZfL),ZB9]
noncomputable def ZEa:Nat → Ann:=fun id => bif Nat.beq id 17 then ⟨[69,70,68,11,8,0,41,40,39],[]⟩ else bif Nat.beq id 10 then ⟨[40,41,39,8,0],[]⟩ else ⟨[],[]⟩
abbrev ZwX:=Int × Int × List Int × Int × Int × List (List Int) × Int × List Int × Int × Int × Int × Int × Int × List (Int × Int × Int × Unit) × Int
abbrev Zr2:=ZwX → Option (Int × (List Int × Int × Unit) × Unit)
abbrev ZwW:=Int × Int × List (List Int) × Int × List Int × Int × Int × List (Int × Int × Int × Unit) × Int
abbrev ZiV:=ZwW → Option (Int × (List Int × Int × Unit) × Unit)
noncomputable def ZKR:ZwX → St
 | (v0,v1,v2,v3,v4,v5,v6,v7,v8,v9,v10,v11,v12,v13,v14) => St.mk (ZE [(69,Zr v0),(70,Zr v1),(68,Yk v2),(11,AV.bx 8193 0),(8,AV.bx 8194 0),(0,AV.bx 0 0),(41,Zr v3),(40,Zr v4),(39,AV.val (PV.sl (Ty.int IntKind.i64).sl v5))]) (ZD [(0,WE [AV.own 8192,Zr v6]),(8192,RS.live (Res.arr (Ty.int IntKind.u8) v7 false)),(8193,WE [Zr v8,Zr v9,Zr v10]),(8194,WE [Zr v11,Zr v12,AV.val (PV.sl ((Ty.int IntKind.i64).pair ((Ty.int IntKind.i64).pair ((Ty.int IntKind.i64).pair Ty.unit))) v13),Zr v14])])
noncomputable def Kh (k:Nat) (L1:ZiV) (L2:Zr2):Zr2
 | (v0,v1,v2,v3,v4,v5,v6,v7,v8,v9,v10,v11,v12,v13,v14) => bif decide (v1 < v0) then bif decide (0 ≤ v1 ∧ v1 < Int.ofNat v2.length) then (Ku k (v11,())).bind fun y => bif v8 == y.1 then (Ziq k ((v7,v6,()),v2.getD v1.toNat 0,v9,())).bind fun y => L2 (v0,IntKind.i64.wrap (v1 + 1),v2,v3,v4,v5,y.2.1.2.1,y.2.1.1,v8,v9,v10,v11,v12,v13,v14) else (ZfL k (v2.getD v1.toNat 0,())).bind fun y => bif decide (0 ≤ v8) then (ZjA k ((v7,v6,()),Int.fdiv y.1.1 ((2:Int) ^ min v8.toNat 64),())).bind fun y_1 => bif decide (0 ≤ v8) then (QJ k ((y_1.2.1.1,y_1.2.1.2.1,()),IntKind.i64.wrap (Int.ofNat (BitVec.ofInt 64 y.1.1 &&& BitVec.ofInt 64 (IntKind.i64.wrap (IntKind.i64.wrap ((1:Int) * (2:Int) ^ min v8.toNat 64) - (1:Int)))).toNat),v8,())).bind fun y => L2 (v0,IntKind.i64.wrap (v1 + 1),v2,v3,v4,v5,y.2.1.2.1,y.2.1.1,v8,v9,v10,v11,v12,v13,v14) else none else none else none else L1 (v4,IntKind.i64.wrap (v3 + 1),v5,v6,v7,v11,v12,v13,v14)
noncomputable def ZiW (k:Nat) (L1:ZiV):Zr2:=Zs (fun L2 => Kh k L1 L2) k
noncomputable def ZkX (k:Nat) (n1:Nat) (n:Nat) (v:ZwX):Option (Int × (List Int × Int × Unit) × Unit) :=
 ZC (ZuE k) ZEa [0] [1,1,1,1,1,1,0,1,0,0,1,1,0,0,1,1,1,1,1,0] [n1] (Xq Tryz.f71) (XQ (ZuE k) Tryz.f71 X2 Zf [AV.bx (nat_lit 0) (nat_lit 0)] [[]]) n (ZKR v)
noncomputable def ZKQ:ZwW → St
 | (v0,v1,v2,v3,v4,v5,v6,v7,v8) => St.mk (ZE [(40,Zr v0),(41,Zr v1),(39,AV.val (PV.sl (Ty.int IntKind.i64).sl v2)),(8,AV.bx 8193 0),(0,AV.bx 0 0)]) (ZD [(0,WE [AV.own 8192,Zr v3]),(8192,RS.live (Res.arr (Ty.int IntKind.u8) v4 false)),(8193,WE [Zr v5,Zr v6,AV.val (PV.sl ((Ty.int IntKind.i64).pair ((Ty.int IntKind.i64).pair ((Ty.int IntKind.i64).pair Ty.unit))) v7),Zr v8])])
noncomputable def Zdp (k:Nat) (L2:Zr2) (L1:ZiV):ZiV
 | (v0,v1,v2,v3,v4,v5,v6,v7,v8) => bif decide (v1 < v0) then bif decide (0 ≤ v1 ∧ v1 < Int.ofNat v2.length) then bif decide (0 ≤ v1 ∧ v1 < Int.ofNat v7.length) then (Zb8 k (v5,())).bind fun y => (QJ k ((v4,v3,()),(v7.getD v1.toNat (0,0,0,())).1,y.1,())).bind fun y => (Ku k (v5,())).bind fun y_1 => bif (v7.getD v1.toNat (0,0,0,())).1 == y_1.1 then (QJ k ((y.2.1.1,y.2.1.2.1,()),(v7.getD v1.toNat (0,0,0,())).2.1,5,())).bind fun y => L2 (Int.ofNat (List.length (v2.getD v1.toNat [])),(0:Int),v2.getD v1.toNat [],v1,v0,v2,y.2.1.2.1,y.2.1.1,(v7.getD v1.toNat (0,0,0,())).1,(v7.getD v1.toNat (0,0,0,())).2.1,(v7.getD v1.toNat (0,0,0,())).2.2.1,v5,v6,v7,v8) else L2 (Int.ofNat (List.length (v2.getD v1.toNat [])),(0:Int),v2.getD v1.toNat [],v1,v0,v2,y.2.1.2.1,y.2.1.1,(v7.getD v1.toNat (0,0,0,())).1,(v7.getD v1.toNat (0,0,0,())).2.1,(v7.getD v1.toNat (0,0,0,())).2.2.1,v5,v6,v7,v8) else none else none else some (0,(v4,v3,()),())
noncomputable def Zr3 (k:Nat):ZiV:=Zs (fun L1 => Zdp k (ZiW k L1) L1) k
noncomputable def Zhq (k:Nat) (n:Nat) (v:ZwW) :=
 ZC (ZuE k) ZEa [0] [1,1,1,1,1,1,0,1,0] [] (Xq Tryz.f71) (XQ (ZuE k) Tryz.f71 X2 Zf [AV.bx (nat_lit 0) (nat_lit 0)] [[]]) n (ZKQ v)
noncomputable def Zhr (k:Nat) (L1:ZiV):(List Int × Int × Unit) × List Int × Int × Unit → Option (Int × (List Int × Int × Unit) × Unit)
 | ((a0,a1,()),a2,a3,()) => (Zir k (a2,a3,())).bind fun y => bif y.1 != 0 then some (y.1,(a0,a1,()),()) else (Zis k (a2,a3,())).bind fun y => (QJ k ((a0,a1,()),y.1.1,2,())).bind fun y_1 => (QJ k ((y_1.2.1.1,y_1.2.1.2.1,()),y.1.2.1,4,())).bind fun y_2 => (Zit k (a2,a3,y.1.2.1,())).bind fun y_3 => L1 (Int.ofNat (List.length y_3.1),(0:Int),y_3.1,y_2.2.1.2.1,y_2.2.1.1,y.1.1,y.1.2.1,y.1.2.2.1,y.1.2.2.2.1)
noncomputable def Zfg (k:Nat):=Zhr k (Zr3 k)
theorem ZEc (k:Nat) (n1:Nat):∀ n,ZkX k n1 n = Zs (fun L2 => Kh k (Zhq k n1) L2) n :=
 Zn (fun v => by kernel_rfl) (fun n v => by
  show ZkX k n1 (n + 1) v = Kh k (Zhq k n1) (ZkX k n1 n) v
  obtain ⟨v0,v1,v2,v3,v4,v5,v6,v7,v8,v9,v10,v11,v12,v13,v14⟩:=v
  kernel_rfl)
theorem ZEb (k:Nat):∀ n,Zhq k n = Zs (fun L1 => Zdp k (ZiW k L1) L1) n :=
 Zn (fun v => by kernel_rfl) (fun n v => by
  rw [show (ZiW k (Zhq k n)) = ZkX k n k from (ZEc k n k).symm]
  obtain ⟨v0,v1,v2,v3,v4,v5,v6,v7,v8⟩:=v
  kernel_rfl)
theorem ZKS (k:Nat) (x:Kd.dens X2):ZG (ZuE k) ZEa Tryz.f71 X2 Zf x = Zfg k x:=by
 show _ = Zhr k (Zr3 k) x
 rw [show Zr3 k = Zhq k k from (ZEb k k).symm]
 obtain ⟨⟨a0,⟨a1,⟨⟩⟩⟩,⟨a2,⟨a3,⟨⟩⟩⟩⟩:=x
 kernel_rfl
theorem ZHn (k:Nat):Ctr Tryz.prog k 71 (mk X2 Zf Zfg) :=
 ZH (fn:=Tryz.f71) (Zi (Za (Zrt k) (Za (Zyq k) (Za (Ztr k) (Za (Zts k) (Za (Ztu k) (Za (Ziu k) (Za (Ziw k) (Za (ZoR k) (Za (Ztq k) Ze)))))))))) (by kernel_rfl) (by kernel_rfl) (ZKS k)
noncomputable abbrev ZL6:Nat × Callee:=(71,mk X2 Zf Zfg)
noncomputable def ZLH (k:Nat):=WX k [ZDu,ZL3,ZL4,ZIw,ZL5,ZL6]
noncomputable def Zul (k:Nat):(List Int × Int × Unit) × List Int × Int × Unit → Option (Int × (List Int × Int × Unit) × Unit)
 | ((a0,a1,()),a2,a3,()) => (Zpn k (a2,a3,())).bind fun y => bif y.1 != 0 then some (y.1,(a0,a1,()),()) else (Zpo k (a2,a3,())).bind fun y => (QJ k ((a0,a1,()),y.1.1,7,())).bind fun y_1 => bif decide ((0:Int) < y.1.2.1) then (QJ k ((y_1.2.1.1,y_1.2.1.2.1,()),1,1,())).bind fun y_2 => (ZjA k ((y_2.2.1.1,y_2.2.1.2.1,()),IntKind.i64.wrap (y.1.2.1 - 1),())).bind fun y_3 => bif y.1.1 == 0 then bif decide ((0:Int) ≤ 0 ∧ (0:Int) ≤ 1 ∧ (1:Int) ≤ Int.ofNat (List.length y.1.2.2.2.1)) then (KB k ((y_3.2.1.1,y_3.2.1.2.1,()),List.drop 0 (List.take 1 y.1.2.2.2.1),y.1.2.2.1,())).bind fun y => some (0,(y.2.1.1,y.2.1.2.1,()),()) else none else bif y.1.1 == 1 then (KB k ((y_3.2.1.1,y_3.2.1.2.1,()),y.1.2.2.2.1,y.1.2.2.1,())).bind fun y => some (0,(y.2.1.1,y.2.1.2.1,()),()) else bif decide ((0:Int) ≤ 0 ∧ (0:Int) ≤ Int.ofNat (List.length y.1.2.2.2.2.1.1) ∧ Int.ofNat (List.length y.1.2.2.2.2.1.1) ≤ Int.ofNat (List.length y.1.2.2.2.1)) then (KB k ((y_3.2.1.1,y_3.2.1.2.1,()),List.drop 0 (List.take (Int.ofNat (List.length y.1.2.2.2.2.1.1)).toNat y.1.2.2.2.1),y.1.2.2.1,())).bind fun y_4 => bif decide ((31:Int) < y.1.1) then (QJ k ((y_4.2.1.1,y_4.2.1.2.1,()),11,4,())).bind fun y_5 => (QJ k ((y_5.2.1.1,y_5.2.1.2.1,()),y.1.2.2.2.2.1.2.1,5,())).bind fun y_6 => (KB k ((y_6.2.1.1,y_6.2.1.2.1,()),y.1.2.2.2.2.1.1,12,())).bind fun y_7 => (Zfg k ((y_7.2.1.1,y_7.2.1.2.1,()),y.1.2.2.2.2.2.1,Int.ofNat (List.length y.1.2.2.2.2.1.1),())).bind fun y => some (y.1,(y.2.1.1,y.2.1.2.1,()),()) else (Zfg k ((y_4.2.1.1,y_4.2.1.2.1,()),y.1.2.2.2.2.2.1,Int.ofNat (List.length y.1.2.2.2.2.1.1),())).bind fun y => some (y.1,(y.2.1.1,y.2.1.2.1,()),()) else none else (QJ k ((y_1.2.1.1,y_1.2.1.2.1,()),0,1,())).bind fun y_2 => bif y.1.1 == 0 then bif decide ((0:Int) ≤ 0 ∧ (0:Int) ≤ 1 ∧ (1:Int) ≤ Int.ofNat (List.length y.1.2.2.2.1)) then (KB k ((y_2.2.1.1,y_2.2.1.2.1,()),List.drop 0 (List.take 1 y.1.2.2.2.1),y.1.2.2.1,())).bind fun y => some (0,(y.2.1.1,y.2.1.2.1,()),()) else none else bif y.1.1 == 1 then (KB k ((y_2.2.1.1,y_2.2.1.2.1,()),y.1.2.2.2.1,y.1.2.2.1,())).bind fun y => some (0,(y.2.1.1,y.2.1.2.1,()),()) else bif decide ((0:Int) ≤ 0 ∧ (0:Int) ≤ Int.ofNat (List.length y.1.2.2.2.2.1.1) ∧ Int.ofNat (List.length y.1.2.2.2.2.1.1) ≤ Int.ofNat (List.length y.1.2.2.2.1)) then (KB k ((y_2.2.1.1,y_2.2.1.2.1,()),List.drop 0 (List.take (Int.ofNat (List.length y.1.2.2.2.2.1.1)).toNat y.1.2.2.2.1),y.1.2.2.1,())).bind fun y_3 => bif decide ((31:Int) < y.1.1) then (QJ k ((y_3.2.1.1,y_3.2.1.2.1,()),11,4,())).bind fun y_4 => (QJ k ((y_4.2.1.1,y_4.2.1.2.1,()),y.1.2.2.2.2.1.2.1,5,())).bind fun y_5 => (KB k ((y_5.2.1.1,y_5.2.1.2.1,()),y.1.2.2.2.2.1.1,12,())).bind fun y_6 => (Zfg k ((y_6.2.1.1,y_6.2.1.2.1,()),y.1.2.2.2.2.2.1,Int.ofNat (List.length y.1.2.2.2.2.1.1),())).bind fun y => some (y.1,(y.2.1.1,y.2.1.2.1,()),()) else (Zfg k ((y_3.2.1.1,y_3.2.1.2.1,()),y.1.2.2.2.2.2.1,Int.ofNat (List.length y.1.2.2.2.2.1.1),())).bind fun y => some (y.1,(y.2.1.1,y.2.1.2.1,()),()) else none
noncomputable def Zph (k:Nat):=Zul k
theorem ZKd (k:Nat) (x:Kd.dens X2):ZG (ZLH k) nA Tryz.f31 X2 Zf x = Zph k x:=by
 show _ = Zul k x
 obtain ⟨⟨a0,⟨a1,⟨⟩⟩⟩,⟨a2,⟨a3,⟨⟩⟩⟩⟩:=x
 kernel_rfl
theorem ZG3 (k:Nat):Ctr Tryz.prog k 31 (mk X2 Zf Zph) :=
 ZH (fn:=Tryz.f31) (Zi (Za (Zrt k) (Za (ZHi k) (Za (ZHj k) (Za (Zyq k) (Za (ZHm k) (Za (ZHn k) Ze))))))) (by kernel_rfl) (by kernel_rfl) (ZKd k)
noncomputable abbrev ZLI:Nat × Callee:=(31,mk X2 Zf Zph)
def Zg6 (k:Nat):(List Int × Int × Unit) × Unit → Option (Int × (List Int × Int × Unit) × Unit)
 | ((a0,a1,()),()) => some (IntKind.i64.wrap (Int.ofNat (BitVec.ofInt 64 (IntKind.i64.wrap ((0:Int) - a1)) &&& BitVec.ofInt 64 (7:Int)).toNat),(a0,IntKind.i64.wrap (a1 + IntKind.i64.wrap (Int.ofNat (BitVec.ofInt 64 (IntKind.i64.wrap ((0:Int) - a1)) &&& BitVec.ofInt 64 (7:Int)).toNat)),()),())
def Zum (k:Nat):=Zg6 k
theorem ZKe (k:Nat) (x:Kd.dens Zdb):ZG (ZV k) nA Tryz.f32 Zdb Zf x = Zum k x:=by
 show _ = Zg6 k x
 obtain ⟨⟨a0,⟨a1,⟨⟩⟩⟩,⟨⟩⟩:=x
 kernel_rfl
theorem ZG4 (k:Nat):Ctr Tryz.prog k 32 (mk Zdb Zf Zum) :=
 ZH (fn:=Tryz.f32) (Zi Ze) (by kernel_rfl) (by kernel_rfl) (ZKe k)
noncomputable abbrev ZLJ:Nat × Callee:=(32,mk Zdb Zf Zum)
def Zg7 (k:Nat):List Int × Unit → Option (Int × Unit)
 | (a0,()) => (Zff k (a0,16,32773,())).bind fun y => some (y.1,())
def Zpi (k:Nat):=Zg7 k
theorem ZKf (k:Nat) (x:Kd.dens WO):ZG (ZIe k) nA Tryz.f33 WO Zf x = Zpi k x:=by
 show _ = Zg7 k x
 obtain ⟨a0,⟨⟩⟩:=x
 kernel_rfl
theorem Zx4 (k:Nat):Ctr Tryz.prog k 33 (mk WO Zf Zpi) :=
 ZH (fn:=Tryz.f33) (Zi (Za (Zyj k) Ze)) (by kernel_rfl) (by kernel_rfl) (ZKf k)
noncomputable abbrev ZIh:Nat × Callee:=(33,mk WO Zf Zpi)
abbrev Zl9:Kd:=.tup [.own (.int .u8) false,.view (.int .i64)]
noncomputable def ZtS (k:Nat):=WX k [ZIc,ZLB,ZLC,ZDu,ZLD,ZIf,ZLF,ZIg,ZLI,ZLJ,ZIh]
def ZCI:Nat → Ann:=fun id => bif Nat.beq id 27 then ⟨[87,88,86,12,7],[]⟩ else bif Nat.beq id 20 then ⟨[61,62,60,12,10,11,2,8,7],[]⟩ else ⟨[],[]⟩
abbrev Zws:=Int × Int × List Int × List (List Int) × Int × List Int
abbrev Zq7:=Zws → Option ((List Int × Int × Unit) × Unit)
abbrev Zwr:=Int × Int × List Int × Int × Int × Int × List (List Int) × Int × List Int × Int × Int × Int
abbrev Zq6:=Zwr → Option ((List Int × Int × Unit) × Unit)
def ZJm:Zws → St
 | (v0,v1,v2,v3,v4,v5) => St.mk (ZE [(87,Zr v0),(88,Zr v1),(86,Yk v2),(12,AV.bx 8192 0),(7,AV.val (PV.sl (Ty.int IntKind.i64).sl v3))]) (ZD [(8192,WE [AV.own 8193,Zr v4]),(8193,RS.live (Res.arr (Ty.int IntKind.u8) v5 false))])
noncomputable def Zbm (k:Nat) (L2:Zq7):Zq7
 | (v0,v1,v2,v3,v4,v5) => bif decide (v1 < v0) then bif decide (0 ≤ v1 ∧ v1 < Int.ofNat v2.length) then bif decide (0 ≤ v1 ∧ v1 < Int.ofNat v3.length) then (Zph k ((v5,v4,()),v3.getD v1.toNat [],v2.getD v1.toNat 0,())).bind fun y => bif y.1 != 0 then some (([],y.1,()),()) else L2 (v0,IntKind.i64.wrap (v1 + 1),v2,v3,y.2.1.2.1,y.2.1.1) else none else none else (Zum k ((v5,v4,()),())).bind fun y => (ZmC k ((y.2.1.1,y.2.1.2.1,()),())).bind fun y => (Zpi k (y.1,())).bind fun y_1 => (QJ k ((y.2.1.1,y.2.1.2.1,()),y_1.1,16,())).bind fun y => (ZmC k ((y.2.1.1,y.2.1.2.1,()),())).bind fun y => some ((y.1,0,()),())
noncomputable def ZfN (k:Nat):Zq7:=Zs (fun L2 => Zbm k L2) k
noncomputable def ZxP (k:Nat) (n:Nat) (v:Zws) :=
 ZC (ZtS k) ZCI [] [1,1,1,1,1,1,1,1,1,1,1,1,1,1,1,1,1,0,1,0] [] (Xq Tryz.f14) (XQ (ZtS k) Tryz.f14 YJ Zl9 [] []) n (ZJm v)
def ZJl:Zwr → St
 | (v0,v1,v2,v3,v4,v5,v6,v7,v8,v9,v10,v11) => St.mk (ZE [(61,Zr v0),(62,Zr v1),(60,AV.val (PV.sl (Ty.int IntKind.u8) v2)),(12,AV.bx 8192 0),(10,Zr v3),(11,Zr v4),(2,AV.bx 8194 0),(8,Zr v5),(7,AV.val (PV.sl (Ty.int IntKind.i64).sl v6))]) (ZD [(8192,WE [AV.own 8193,Zr v7]),(8193,RS.live (Res.arr (Ty.int IntKind.u8) v8 false)),(8194,WE [Zr v9,Zr v10,Zr v11])])
def Ke (k:Nat) (L2:Zq7) (L1:Zq6):Zq6
 | (v0,v1,v2,v3,v4,v5,v6,v7,v8,v9,v10,v11) => bif decide (v1 < v0) then bif decide (0 ≤ v1 ∧ v1 < Int.ofNat v2.length) then (QJ k ((v8,v7,()),IntKind.i64.wrap (v2.getD v1.toNat 0),8,())).bind fun y => L1 (v0,IntKind.i64.wrap (v1 + 1),v2,v3,v4,v5,v6,y.2.1.2.1,y.2.1.1,v9,v10,v11) else none else (QJ k ((v8,v7,()),IntKind.i64.wrap (v3 - 1),IntKind.i64.wrap ((8:Int) * IntKind.i64.wrap (IntKind.i64.wrap (v4 - 6) + (1:Int))),())).bind fun y => (ZmC k ((y.2.1.1,y.2.1.2.1,()),())).bind fun y => (Zpf k (y.1,())).bind fun y_1 => (QJ k ((y.2.1.1,y.2.1.2.1,()),y_1.1,8,())).bind fun y => (Zpg k ((v9,v10,v11,()),v5,())).bind fun y_2 => L2 (Int.ofNat (List.length y_2.1),(0:Int),y_2.1,v6,y.2.1.2.1,y.2.1.1)
noncomputable def ZiG (k:Nat):Zq6:=Zs (fun L1 => Ke k (ZfN k) L1) k
noncomputable def ZxO (k:Nat) (n:Nat) (v:Zwr) :=
 ZC (ZtS k) ZCI [] [1,1,1,1,1,1,1,1,1,1,1,1,1,1,0,1,0] [] (Xq Tryz.f14) (XQ (ZtS k) Tryz.f14 YJ Zl9 [] []) n (ZJl v)
def ZgP (k:Nat) (L1:Zq6):(Int × Int × Int × Unit) × (Int × List (List Int) × Unit) × Unit → Option ((List Int × Int × Unit) × Unit)
 | ((a0,a1,a2,()),(a3,a4,()),()) => (Zfc k ((a0,a1,a2,()),(a3,a4,()),())).bind fun y => bif y.1 != 0 then some (([],y.1,()),()) else (Zuf k ((a3,a4,()),())).bind fun y => bif y.1.2.2.1 != 0 then some (([],y.1.2.2.1,()),()) else bif decide ((0:Int) ≤ 0 ∧ (0:Int) < Int.ofNat (List.length y.1.1)) then bif decide ((256:Int) < Int.ofNat (List.length (List.getD y.1.1 (0:Nat) []))) then (Zmy k ()).bind fun y_1 => (QJ k ((y_1.1.1,y_1.1.2.1,()),16382,14,())).bind fun y_2 => (QJ k ((y_2.2.1.1,y_2.2.1.2.1,()),7,6,())).bind fun y_3 => (QJ k ((y_3.2.1.1,y_3.2.1.2.1,()),y.1.2.1,8,())).bind fun y_4 => (QJ k ((y_4.2.1.1,y_4.2.1.2.1,()),0,4,())).bind fun y_5 => (Zmz k (a3,())).bind fun y_6 => bif y_6.1.2.1 != 0 then some (([],y_6.1.2.1,()),()) else L1 (Int.ofNat (List.length y_6.1.1),(0:Int),y_6.1.1,Int.ofNat (List.length (List.getD y.1.1 (0:Nat) [])),(7:Int),y.1.2.1,y.1.1,y_5.2.1.2.1,y_5.2.1.1,a0,a1,a2) else (Zmy k ()).bind fun y_1 => (QJ k ((y_1.1.1,y_1.1.2.1,()),16382,14,())).bind fun y_2 => (QJ k ((y_2.2.1.1,y_2.2.1.2.1,()),6,6,())).bind fun y_3 => (QJ k ((y_3.2.1.1,y_3.2.1.2.1,()),y.1.2.1,8,())).bind fun y_4 => (QJ k ((y_4.2.1.1,y_4.2.1.2.1,()),0,4,())).bind fun y_5 => (Zmz k (a3,())).bind fun y_6 => bif y_6.1.2.1 != 0 then some (([],y_6.1.2.1,()),()) else L1 (Int.ofNat (List.length y_6.1.1),(0:Int),y_6.1.1,Int.ofNat (List.length (List.getD y.1.1 (0:Nat) [])),(6:Int),y.1.2.1,y.1.1,y_5.2.1.2.1,y_5.2.1.1,a0,a1,a2) else none
noncomputable def ZoX (k:Nat):=ZgP k (ZiG k)
theorem ZCK (k:Nat):∀ n,ZxP k n = Zs (fun L2 => Zbm k L2) n :=
 Zn (fun v => by kernel_rfl) (fun n v => by
  obtain ⟨v0,v1,v2,v3,v4,v5⟩:=v
  kernel_rfl)
theorem ZCJ (k:Nat):∀ n,ZxO k n = Zs (fun L1 => Ke k (ZfN k) L1) n :=
 Zn (fun v => by kernel_rfl) (fun n v => by
  rw [show (ZfN k) = ZxP k k from (ZCK k k).symm]
  obtain ⟨v0,v1,v2,v3,v4,v5,v6,v7,v8,v9,v10,v11⟩:=v
  kernel_rfl)
theorem ZJn (k:Nat) (x:Kd.dens YJ):ZG (ZtS k) ZCI Tryz.f14 YJ Zl9 x = ZoX k x:=by
 show _ = ZgP k (ZiG k) x
 rw [show ZiG k = ZxO k k from (ZCJ k k).symm]
 obtain ⟨⟨a0,⟨a1,⟨a2,⟨⟩⟩⟩⟩,⟨⟨a3,⟨a4,⟨⟩⟩⟩,⟨⟩⟩⟩:=x
 kernel_rfl
theorem ZxQ (k:Nat):Ctr Tryz.prog k 14 (mk YJ Zl9 ZoX) :=
 ZH (fn:=Tryz.f14) (Zi (Za (ZxZ k) (Za (ZGZ k) (Za (ZG0 k) (Za (Zrt k) (Za (ZG1 k) (Za (Zx2 k) (Za (ZG2 k) (Za (Zx3 k) (Za (ZG3 k) (Za (ZG4 k) (Za (Zx4 k) Ze)))))))))))) (by kernel_rfl) (by kernel_rfl) (ZJn k)
noncomputable abbrev ZH7:Nat × Callee:=(14,mk YJ Zl9 ZoX)
abbrev ZwJ:Kd:=.box [.view (.sl (.int .u8)),.view (.int .i64)]
noncomputable def ZLK (k:Nat):=WX k [ZIu]
def Zg8 (k:Nat):List Int × Unit → Option ((List Int × Int × Unit) × Unit)
 | (a0,()) => (Zpm k (a0,())).bind fun y => some ((y.1,0,()),())
def Zuo (k:Nat):=Zg8 k
theorem ZKg (k:Nat) (x:Kd.dens WO):ZG (ZLK k) nA Tryz.f44 WO ZwJ x = Zuo k x:=by
 show _ = Zg8 k x
 obtain ⟨a0,⟨⟩⟩:=x
 kernel_rfl
theorem ZG5 (k:Nat):Ctr Tryz.prog k 44 (mk WO ZwJ Zuo) :=
 ZH (fn:=Tryz.f44) (Zi (Za (Zyk k) Ze)) (by kernel_rfl) (by kernel_rfl) (ZKg k)
noncomputable abbrev ZLL:Nat × Callee:=(44,mk WO ZwJ Zuo)
abbrev W1:List Kd:=[.box [.view (.sl (.int .u8)),.view (.int .i64)]]
def Zuv (k:Nat):(List Int × Int × Unit) × Unit → Option (Int × (List Int × Int × Unit) × Unit)
 | ((a0,a1,()),()) => some (a1,(a0,a1,()),())
def K4 (k:Nat):=Zuv k
theorem ZKq (k:Nat) (x:Kd.dens W1):ZG (ZV k) nA Tryz.f51 W1 Zf x = K4 k x:=by
 show _ = Zuv k x
 obtain ⟨⟨a0,⟨a1,⟨⟩⟩⟩,⟨⟩⟩:=x
 kernel_rfl
theorem ZkT (k:Nat):Ctr Tryz.prog k 51 (mk W1 Zf K4) :=
 ZH (fn:=Tryz.f51) (Zi Ze) (by kernel_rfl) (by kernel_rfl) (ZKq k)
noncomputable abbrev Zx8:Nat × Callee:=(51,mk W1 Zf K4)
abbrev Zr4:List Kd:=[.box [.view (.sl (.int .u8)),.ref [.view (.sl (.int .u8)),.view (.int .i64)],.view (.int .i64)],.view .bool,.view (.int .i64)]
def Zhs (k:Nat):(List Int × (List Int × Int × Unit) × Int × Unit) × Bool × Int × Unit → Option (Unit × (List Int × (List Int × Int × Unit) × Int × Unit) × Unit)
 | ((a0,(a1,a2,()),a3,()),a4,a5,()) => bif a3 == 0 then bif !a4 then some ((),(a0,(a1,a2,()),a5,()),()) else some ((),(a0,(a1,a2,()),a3,()),()) else some ((),(a0,(a1,a2,()),a3,()),())
def QT (k:Nat):=Zhs k
theorem ZKT (k:Nat) (x:Kd.dens Zr4):ZG (ZV k) nA Tryz.f82 Zr4 Qx x = QT k x:=by
 show _ = Zhs k x
 obtain ⟨⟨a0,⟨⟨a1,⟨a2,⟨⟩⟩⟩,⟨a3,⟨⟩⟩⟩⟩,⟨a4,⟨a5,⟨⟩⟩⟩⟩:=x
 kernel_rfl
theorem ZkY (k:Nat):Ctr Tryz.prog k 82 (mk Zr4 Qx QT) :=
 ZH (fn:=Tryz.f82) (Zi Ze) (by kernel_rfl) (by kernel_rfl) (ZKT k)
noncomputable abbrev Zys:Nat × Callee:=(82,mk Zr4 Qx QT)
abbrev Xg:List Kd:=[.box [.view (.sl (.int .u8)),.view (.int .i64)],.view (.int .i64)]
def ZhB (k:Nat):(List Int × Int × Unit) × Int × Unit → Option (Int × (List Int × Int × Unit) × Unit)
 | ((a0,a1,()),a2,()) => bif decide (0 ≤ IntKind.i64.wrap (a2.tdiv (8:Int)) ∧ IntKind.i64.wrap (a2.tdiv (8:Int)) < Int.ofNat a0.length) then bif decide (0 ≤ IntKind.i64.wrap ((7:Int) - a2.tmod (8:Int))) then some (IntKind.i64.wrap (Int.ofNat (BitVec.ofInt 64 (IntKind.i64.wrap (Int.fdiv (a0.getD (IntKind.i64.wrap (a2.tdiv (8:Int))).toNat 0) ((2:Int) ^ min (IntKind.i64.wrap ((7:Int) - a2.tmod (8:Int))).toNat 8))) &&& BitVec.ofInt 64 (1:Int)).toNat),(a0,a1,()),()) else none else none
def ZmU (k:Nat):=ZhB k
theorem ZK2 (k:Nat) (x:Kd.dens Xg):ZG (ZV k) nA Tryz.f90 Xg Zf x = ZmU k x:=by
 show _ = ZhB k x
 obtain ⟨⟨a0,⟨a1,⟨⟩⟩⟩,⟨a2,⟨⟩⟩⟩:=x
 kernel_rfl
theorem Zr9 (k:Nat):Ctr Tryz.prog k 90 (mk Xg Zf ZmU) :=
 ZH (fn:=Tryz.f90) (Zi Ze) (by kernel_rfl) (by kernel_rfl) (ZK2 k)
noncomputable abbrev ZIC:Nat × Callee:=(90,mk Xg Zf ZmU)
def ZeJ (k:Nat):(List Int × Int × Unit) × Unit → Option (Int × (List Int × Int × Unit) × Unit)
 | ((a0,a1,()),()) => some (IntKind.i64.wrap (IntKind.i64.wrap ((8:Int) * Int.ofNat a0.length) - a1),(a0,a1,()),())
def Zmg (k:Nat):=ZeJ k
theorem ZGz (k:Nat) (x:Kd.dens W1):ZG (ZV k) nA Tryz.f167 W1 Zf x = Zmg k x:=by
 show _ = ZeJ k x
 obtain ⟨⟨a0,⟨a1,⟨⟩⟩⟩,⟨⟩⟩:=x
 kernel_rfl
theorem ZCW (k:Nat):Ctr Tryz.prog k 167 (mk W1 Zf Zmg) :=
 ZH (fn:=Tryz.f167) (Zi Ze) (by kernel_rfl) (by kernel_rfl) (ZGz k)
noncomputable abbrev ZJv:Nat × Callee:=(167,mk W1 Zf Zmg)
noncomputable def Zwd (k:Nat):=WX k [ZIq,ZIC,ZJv]
def ZCg:Nat → Ann:=fun id => bif Nat.beq id 7 then ⟨[19,20,6,0],[]⟩ else ⟨[],[]⟩
abbrev ZqX:=Int × Int × Int × List Int × Int
abbrev Zkm:=ZqX → Option ((Int × Int × Unit) × (List Int × Int × Unit) × Unit)
def ZFY:ZqX → St
 | (v0,v1,v2,v3,v4) => St.mk (ZE [(19,Zr v0),(20,Zr v1),(6,Zr v2),(0,AV.bx 0 0)]) (ZD [(0,WE [AV.val (PV.sl (Ty.int IntKind.u8) v3),Zr v4])])
def Zbe (k:Nat) (L1:Zkm):Zkm
 | (v0,v1,v2,v3,v4) => bif decide (v1 < v0) then (ZmU k ((v3,v4,()),v4,())).bind fun y => L1 (v0,IntKind.i64.wrap (v1 + 1),IntKind.i64.wrap (Int.ofNat (BitVec.ofInt 64 (IntKind.i64.wrap (v2 * (2:Int))) ||| BitVec.ofInt 64 y.1).toNat),y.2.1.1,IntKind.i64.wrap (y.2.1.2.1 + 1)) else some ((v2,0,()),(v3,v4,()),())
def Zkn (k:Nat):Zkm:=Zs (fun L1 => Zbe k L1) k
noncomputable def Ztx (k:Nat) (n:Nat) (v:ZqX) :=
 ZC (Zwd k) ZCg [0] [1,1,1,0,1,0] [] (Xq Tryz.f126) (XQ (Zwd k) Tryz.f126 Xg Z7 [AV.bx (nat_lit 0) (nat_lit 0)] [[]]) n (ZFY v)
def Zei (k:Nat) (L1:Zkm):(List Int × Int × Unit) × Int × Unit → Option ((Int × Int × Unit) × (List Int × Int × Unit) × Unit)
 | ((a0,a1,()),a2,()) => (ZmM k (a2,())).bind fun y => bif y.1 then some ((0,1,()),(a0,a1,()),()) else (Zmg k ((a0,a1,()),())).bind fun y => bif decide (y.1 < a2) then some ((0,10,()),(y.2.1.1,y.2.1.2.1,()),()) else L1 (a2,(0:Int),(0:Int),y.2.1.1,y.2.1.2.1)
def Ym (k:Nat):=Zei k (Zkn k)
theorem ZzQ (k:Nat):∀ n,Ztx k n = Zs (fun L1 => Zbe k L1) n :=
 Zn (fun v => by kernel_rfl) (fun n v => by
  obtain ⟨v0,v1,v2,v3,v4⟩:=v
  kernel_rfl)
theorem ZFZ (k:Nat) (x:Kd.dens Xg):ZG (Zwd k) ZCg Tryz.f126 Xg Z7 x = Ym k x:=by
 show _ = Zei k (Zkn k) x
 rw [show Zkn k = Ztx k k from (ZzQ k k).symm]
 obtain ⟨⟨a0,⟨a1,⟨⟩⟩⟩,⟨a2,⟨⟩⟩⟩:=x
 kernel_rfl
theorem Zbd (k:Nat):Ctr Tryz.prog k 126 (mk Xg Z7 Ym) :=
 ZH (fn:=Tryz.f126) (Zi (Za (ZrO k) (Za (Zr9 k) (Za (ZCW k) Ze)))) (by kernel_rfl) (by kernel_rfl) (ZFZ k)
noncomputable abbrev ZqY:Nat × Callee:=(126,mk Xg Z7 Ym)
abbrev Zr5:List Kd:=[.box [.view (.sl (.int .u8)),.ref [.view (.sl (.int .u8)),.view (.int .i64)],.view (.int .i64)],.view (.int .i64)]
noncomputable def ZEd (k:Nat):=WX k [ZqY]
def Zht (k:Nat):(List Int × (List Int × Int × Unit) × Int × Unit) × Int × Unit → Option (Int × (List Int × (List Int × Int × Unit) × Int × Unit) × Unit)
 | ((a0,(a1,a2,()),a3,()),a4,()) => bif a3 == 0 then (Ym k ((a1,a2,()),a4,())).bind fun y => some (y.1.1,(a0,(y.2.1.1,y.2.1.2.1,()),y.1.2.1,()),()) else some (0,(a0,(a1,a2,()),a3,()),())
def We (k:Nat):=Zht k
theorem ZKU (k:Nat) (x:Kd.dens Zr5):ZG (ZEd k) nA Tryz.f83 Zr5 Zf x = We k x:=by
 show _ = Zht k x
 obtain ⟨⟨a0,⟨⟨a1,⟨a2,⟨⟩⟩⟩,⟨a3,⟨⟩⟩⟩⟩,⟨a4,⟨⟩⟩⟩:=x
 kernel_rfl
theorem ZkZ (k:Nat):Ctr Tryz.prog k 83 (mk Zr5 Zf We) :=
 ZH (fn:=Tryz.f83) (Zi (Za (Zbd k) Ze)) (by kernel_rfl) (by kernel_rfl) (ZKU k)
noncomputable abbrev Zyt:Nat × Callee:=(83,mk Zr5 Zf We)
abbrev ZrE:List Kd:=[.box [.view (.sl (.int .u8)),.ref [.view (.sl (.int .u8)),.view (.int .i64)],.view (.int .i64)],.view (.int .i64),.fn 28]
noncomputable def ZLQ (k:Nat):=WX k [Zx8,Zys,Zyt,ZIf]
def Zhb (k:Nat):(List Int × (List Int × Int × Unit) × Int × Unit) × Int × Unit × Unit → Option (Unit × (List Int × (List Int × Int × Unit) × Int × Unit) × Unit)
 | ((a0,(a1,a2,()),a3,()),a4,(),()) => (K4 k ((a1,a2,()),())).bind fun y => (We k ((a0,(y.2.1.1,y.2.1.2.1,()),a3,()),a4,())).bind fun y_1 => bif y_1.2.1.2.2.1 != 0 then (QT k ((y_1.2.1.1,(y_1.2.1.2.1.1,y_1.2.1.2.1.2.1,()),y_1.2.1.2.2.1,()),true,16,())).bind fun y => some ((),(y.2.1.1,(y.2.1.2.1.1,y.2.1.2.1.2.1,()),y.2.1.2.2.1,()),()) else bif decide ((0:Int) ≤ 0 ∧ (0:Int) ≤ IntKind.i64.wrap (Int.tdiv y.1 (8:Int)) ∧ IntKind.i64.wrap (Int.tdiv y.1 (8:Int)) ≤ Int.ofNat (List.length y_1.2.1.1)) then (Zpf k (List.drop 0 (List.take (IntKind.i64.wrap (Int.tdiv y.1 (8:Int))).toNat y_1.2.1.1),())).bind fun y => (QT k ((y_1.2.1.1,(y_1.2.1.2.1.1,y_1.2.1.2.1.2.1,()),y_1.2.1.2.2.1,()),y_1.1 == y.1,16,())).bind fun y => some ((),(y.2.1.1,(y.2.1.2.1.1,y.2.1.2.1.2.1,()),y.2.1.2.2.1,()),()) else none
def Zfe (k:Nat):=Zhb k
theorem ZKm (k:Nat) (x:Kd.dens ZrE):ZG (ZLQ k) nA Tryz.f48 ZrE Qx x = Zfe k x:=by
 show _ = Zhb k x
 obtain ⟨⟨a0,⟨⟨a1,⟨a2,⟨⟩⟩⟩,⟨a3,⟨⟩⟩⟩⟩,⟨a4,⟨⟨⟩,⟨⟩⟩⟩⟩:=x
 kernel_rfl
theorem ZG9 (k:Nat):Ctr Tryz.prog k 48 (mk ZrE Qx Zfe) :=
 ZH (fn:=Tryz.f48) (Zi (Za (ZkT k) (Za (ZkY k) (Za (ZkZ k) (Za (Zx2 k) Ze))))) (by kernel_rfl) (by kernel_rfl) (ZKm k)
noncomputable abbrev ZLR:Nat × Callee:=(48,mk ZrE Qx Zfe)
def Zhu (k:Nat):(Int × Int × Int × Unit) × Int × Unit → Option (Bool × Unit)
 | ((a0,a1,a2,()),a3,()) => bif a0 == 1 then some (a3 == 0,()) else bif a3 == 1 then some (true,()) else bif decide (8 ≤ a3) then some (decide (a3 ≤ 10),()) else some (false,())
def ZmS (k:Nat):=Zhu k
theorem ZKV (k:Nat) (x:Kd.dens Zdc):ZG (ZV k) nA Tryz.f84 Zdc Zx x = ZmS k x:=by
 show _ = Zhu k x
 obtain ⟨⟨a0,⟨a1,⟨a2,⟨⟩⟩⟩⟩,⟨a3,⟨⟩⟩⟩:=x
 kernel_rfl
theorem ZHo (k:Nat):Ctr Tryz.prog k 84 (mk Zdc Zx ZmS) :=
 ZH (fn:=Tryz.f84) (Zi Ze) (by kernel_rfl) (by kernel_rfl) (ZKV k)
noncomputable abbrev ZL7:Nat × Callee:=(84,mk Zdc Zx ZmS)
abbrev ZaC:List Kd:=[.view (.int .u8)]
def Zpc (k:Nat):Int × Unit → Option (Int × Unit)
 | (a0,()) => bif decide (0 ≤ a0 ∧ a0 < 256) then some (IntKind.i64.wrap (Int.ofNat ((ByteArray.mk (([0,1,2,2,3,3,3,3,4,4,4,4,4,4,4,4,5,5,5,5,5,5,5,5,5,5,5,5,5,5,5,5,6,6,6,6,6,6,6,6,6,6,6,6,6,6,6,6,6,6,6,6,6,6,6,6,6,6,6,6,6,6,6,6].append [7,7,7,7,7,7,7,7,7,7,7,7,7,7,7,7,7,7,7,7,7,7,7,7,7,7,7,7,7,7,7,7,7,7,7,7,7,7,7,7,7,7,7,7,7,7,7,7,7,7,7,7,7,7,7,7,7,7,7,7,7,7,7,7]).append ([8,8,8,8,8,8,8,8,8,8,8,8,8,8,8,8,8,8,8,8,8,8,8,8,8,8,8,8,8,8,8,8,8,8,8,8,8,8,8,8,8,8,8,8,8,8,8,8,8,8,8,8,8,8,8,8,8,8,8,8,8,8,8,8].append [8,8,8,8,8,8,8,8,8,8,8,8,8,8,8,8,8,8,8,8,8,8,8,8,8,8,8,8,8,8,8,8,8,8,8,8,8,8,8,8,8,8,8,8,8,8,8,8,8,8,8,8,8,8,8,8,8,8,8,8,8,8,8,8])).toArray).data.toList.getD a0.toNat 0).toNat),()) else none
def Zri (k:Nat):=Zpc k
theorem ZGO (k:Nat) (x:Kd.dens ZaC):ZG (ZV k) nA Tryz.f186 ZaC Zf x = Zri k x:=by
 show _ = Zpc k x
 obtain ⟨a0,⟨⟩⟩:=x
 kernel_rfl
theorem ZC9 (k:Nat):Ctr Tryz.prog k 186 (mk ZaC Zf Zri) :=
 ZH (fn:=Tryz.f186) (Zi Ze) (by kernel_rfl) (by kernel_rfl) (ZGO k)
noncomputable abbrev ZJK:Nat × Callee:=(186,mk ZaC Zf Zri)
noncomputable def ZJw (k:Nat):=WX k [ZJK]
def Zo4 (k:Nat):Int × Unit → Option (Int × Unit)
 | (a0,()) => (Zri k (a0,())).bind fun y => some (IntKind.i64.wrap ((8:Int) - y.1),())
def ZiL (k:Nat):=Zo4 k
theorem ZGA (k:Nat) (x:Kd.dens ZaC):ZG (ZJw k) nA Tryz.f168 ZaC Zf x = ZiL k x:=by
 show _ = Zo4 k x
 obtain ⟨a0,⟨⟩⟩:=x
 kernel_rfl
theorem ZCX (k:Nat):Ctr Tryz.prog k 168 (mk ZaC Zf ZiL) :=
 ZH (fn:=Tryz.f168) (Zi (Za (ZC9 k) Ze)) (by kernel_rfl) (by kernel_rfl) (ZGA k)
noncomputable abbrev ZJx:Nat × Callee:=(168,mk ZaC Zf ZiL)
abbrev Zb9:Kd:=.tup [.view (.int .i64),.view (.int .i64),.view (.int .i64)]
noncomputable def Zwe (k:Nat):=WX k [ZIs,ZJx]
def ZCh:Nat → Ann:=fun id => bif Nat.beq id 10 then ⟨[8,5,0,6,7],[]⟩ else ⟨[],[]⟩
abbrev Zko:=Zcb → Option ((Int × Int × Int × Unit) × Unit)
def ZF0:Zcb → St
 | (v0,v1,v2,v3,v4) => St.mk (ZE [(8,Zr v0),(5,Zr v1),(0,AV.val (PV.sl (Ty.int IntKind.u8) v2)),(6,Zr v3),(7,Zr v4)]) (ZD [])
def Zbf (k:Nat) (L1:Zko):Zko
 | (v0,v1,v2,v3,v4) => bif decide (v0 < v1) then bif decide (v0 < Int.ofNat v2.length) then bif decide (0 ≤ v0 ∧ v0 < Int.ofNat v2.length) then bif Int.fdiv (v2.getD v0.toNat 0) (64:Int) != 2 then some ((0,0,2,()),()) else bif decide (0 ≤ v0 ∧ v0 < Int.ofNat v2.length) then L1 (IntKind.i64.wrap (v0 + 1),v1,v2,IntKind.i64.wrap (Int.ofNat (BitVec.ofInt 64 (IntKind.i64.wrap (v3 * (64:Int))) ||| BitVec.ofInt 64 (IntKind.i64.wrap (Int.ofNat (BitVec.ofInt 64 (IntKind.i64.wrap (v2.getD v0.toNat 0)) &&& BitVec.ofInt 64 (63:Int)).toNat))).toNat),IntKind.i64.wrap (Int.ofNat (BitVec.ofInt 64 (IntKind.i64.wrap (v4 * (64:Int))) ||| BitVec.ofInt 64 (IntKind.i64.wrap (Int.ofNat (BitVec.ofInt 64 (IntKind.i64.wrap (v2.getD v0.toNat 0)) &&& BitVec.ofInt 64 (63:Int)).toNat))).toNat)) else none else none else L1 (IntKind.i64.wrap (v0 + 1),v1,v2,IntKind.i64.wrap (Int.ofNat (BitVec.ofInt 64 (IntKind.i64.wrap (v3 * (64:Int))) ||| BitVec.ofInt 64 (0:Int)).toNat),IntKind.i64.wrap (Int.ofNat (BitVec.ofInt 64 (IntKind.i64.wrap (v4 * (64:Int))) ||| BitVec.ofInt 64 (63:Int)).toNat)) else (Zpl k (IntKind.i64.wrap (v1 - 1),())).bind fun y => bif decide ((0:Int) ≤ y.1) then bif decide (v4 < IntKind.i64.wrap ((1:Int) * (2:Int) ^ min (Int.toNat y.1) (64:Nat))) then some ((0,0,2,()),()) else bif decide (Int.ofNat v2.length < v1) then some ((0,0,10,()),()) else some ((v3,v1,0,()),()) else none
def Zkp (k:Nat):Zko:=Zs (fun L1 => Zbf k L1) k
noncomputable def Zty (k:Nat) (n:Nat) (v:Zcb) :=
 ZC (Zwe k) ZCh [] [1,1,1,1,1,0,1,0] [] (Xq Tryz.f127) (XQ (Zwe k) Tryz.f127 WO Zb9 [] []) n (ZF0 v)
def Zej (k:Nat) (L1:Zko):List Int × Unit → Option ((Int × Int × Int × Unit) × Unit)
 | (a0,()) => bif Int.ofNat a0.length == (0:Int) then some ((0,0,10,()),()) else bif decide ((0:Int) ≤ 0 ∧ (0:Int) < Int.ofNat a0.length) then (ZiL k (IntKind.u8.wrap (Int.ofNat (BitVec.ofInt 8 (255:Int) ^^^ BitVec.ofInt 8 (a0.getD 0 0)).toNat),())).bind fun y => bif y.1 == 0 then bif decide ((0:Int) ≤ 0 ∧ (0:Int) < Int.ofNat a0.length) then some ((IntKind.i64.wrap (a0.getD 0 0),1,0,()),()) else none else bif y.1 == 1 then some ((0,0,2,()),()) else bif decide ((7:Int) < y.1) then some ((0,0,2,()),()) else bif decide ((0:Int) ≤ 0 ∧ (0:Int) < Int.ofNat a0.length) then bif decide ((0:Int) ≤ y.1) then bif decide ((0:Int) ≤ 0 ∧ (0:Int) < Int.ofNat a0.length) then bif decide ((0:Int) ≤ y.1) then L1 (1,y.1,a0,IntKind.i64.wrap (Int.ofNat (BitVec.ofInt 64 (IntKind.i64.wrap (a0.getD 0 0)) &&& BitVec.ofInt 64 (Int.fdiv (127:Int) ((2:Int) ^ min (Int.toNat y.1) (64:Nat)))).toNat),IntKind.i64.wrap (Int.ofNat (BitVec.ofInt 64 (IntKind.i64.wrap (a0.getD 0 0)) &&& BitVec.ofInt 64 (Int.fdiv (127:Int) ((2:Int) ^ min (Int.toNat y.1) (64:Nat)))).toNat)) else none else none else none else none else none
def ZlT (k:Nat):=Zej k (Zkp k)
theorem ZzS (k:Nat):∀ n,Zty k n = Zs (fun L1 => Zbf k L1) n :=
 Zn (fun v => by kernel_rfl) (fun n v => by
  obtain ⟨v0,v1,v2,v3,v4⟩:=v
  kernel_rfl)
theorem ZF1 (k:Nat) (x:Kd.dens WO):ZG (Zwe k) ZCh Tryz.f127 WO Zb9 x = ZlT k x:=by
 show _ = Zej k (Zkp k) x
 rw [show Zkp k = Zty k k from (ZzS k k).symm]
 obtain ⟨a0,⟨⟩⟩:=x
 kernel_rfl
theorem ZCi (k:Nat):Ctr Tryz.prog k 127 (mk WO Zb9 ZlT) :=
 ZH (fn:=Tryz.f127) (Zi (Za (Zyi k) (Za (ZCX k) Ze))) (by kernel_rfl) (by kernel_rfl) (ZF1 k)
noncomputable abbrev ZI8:Nat × Callee:=(127,mk WO Zb9 ZlT)
abbrev ZmT:List Kd:=[.box [.view (.sl (.int .u8)),.ref [.view (.sl (.int .u8)),.view (.int .i64)],.view (.int .i64)]]
noncomputable def ZEf (k:Nat):=WX k [Zx8,Zys,Zyt,ZI8]
def ZIy:Nat → Ann:=fun id => bif Nat.beq id 6 then ⟨[31,32,0,3],[]⟩ else ⟨[],[]⟩
abbrev ZwY:=Int × Int × Int × List Int × Int × List Int × Int
abbrev Zr6:=ZwY → Option (Int × (List Int × (List Int × Int × Unit) × Int × Unit) × Unit)
def ZKW:ZwY → St
 | (v0,v1,v2,v3,v4,v5,v6) => St.mk (ZE [(31,Zr v0),(32,Zr v1),(0,AV.bx 0 0),(3,Zr v2)]) (ZD [(0,WE [AV.val (PV.sl (Ty.int IntKind.u8) v3),AV.bx 1 0,Zr v4]),(1,WE [AV.val (PV.sl (Ty.int IntKind.u8) v5),Zr v6])])
def Zdq (k:Nat) (L1:Zr6):Zr6
 | (v0,v1,v2,v3,v4,v5,v6) => bif decide (v1 < v0) then (We k ((v3,(v5,v6,()),v4,()),8,())).bind fun y => L1 (v0,IntKind.i64.wrap (v1 + 1),v2,y.2.1.1,y.2.1.2.2.1,y.2.1.2.1.1,y.2.1.2.1.2.1) else (QT k ((v3,(v5,v6,()),v4,()),decide (v2 ≤ 2147483647),2,())).bind fun y => some (v2,(y.2.1.1,(y.2.1.2.1.1,y.2.1.2.1.2.1,()),y.2.1.2.2.1,()),())
def Zr7 (k:Nat):Zr6:=Zs (fun L1 => Zdq k L1) k
noncomputable def Zyu (k:Nat) (n:Nat) (v:ZwY) :=
 ZC (ZEf k) ZIy [0,1] [1,1,1,1,0,1,0] [] (Xq Tryz.f85) (XQ (ZEf k) Tryz.f85 ZmT Zf [AV.bx (nat_lit 0) (nat_lit 0)] [[1]]) n (ZKW v)
def Zhw (k:Nat) (L1:Zr6):(List Int × (List Int × Int × Unit) × Int × Unit) × Unit → Option (Int × (List Int × (List Int × Int × Unit) × Int × Unit) × Unit)
 | ((a0,(a1,a2,()),a3,()),()) => bif a3 != 0 then some (0,(a0,(a1,a2,()),a3,()),()) else (K4 k ((a1,a2,()),())).bind fun y => bif decide (0 ≤ IntKind.i64.wrap (Int.tdiv y.1 (8:Int)) ∧ IntKind.i64.wrap (Int.tdiv y.1 (8:Int)) ≤ Int.ofNat a0.length ∧ Int.ofNat a0.length ≤ Int.ofNat a0.length) then (ZlT k (List.drop (IntKind.i64.wrap (Int.tdiv y.1 (8:Int))).toNat (List.take (Int.ofNat a0.length).toNat a0),())).bind fun y_1 => L1 (y_1.1.2.1,(0:Int),y_1.1.1,a0,y_1.1.2.2.1,y.2.1.1,y.2.1.2.1) else none
def Zhv (k:Nat):=Zhw k (Zr7 k)
theorem ZEg (k:Nat):∀ n,Zyu k n = Zs (fun L1 => Zdq k L1) n :=
 Zn (fun v => by kernel_rfl) (fun n v => by
  obtain ⟨v0,v1,v2,v3,v4,v5,v6⟩:=v
  kernel_rfl)
theorem ZKX (k:Nat) (x:Kd.dens ZmT):ZG (ZEf k) ZIy Tryz.f85 ZmT Zf x = Zhv k x:=by
 show _ = Zhw k (Zr7 k) x
 rw [show Zr7 k = Zyu k k from (ZEg k k).symm]
 obtain ⟨⟨a0,⟨⟨a1,⟨a2,⟨⟩⟩⟩,⟨a3,⟨⟩⟩⟩⟩,⟨⟩⟩:=x
 kernel_rfl
theorem ZHp (k:Nat):Ctr Tryz.prog k 85 (mk ZmT Zf Zhv) :=
 ZH (fn:=Tryz.f85) (Zi (Za (ZkT k) (Za (ZkY k) (Za (ZkZ k) (Za (ZCi k) Ze))))) (by kernel_rfl) (by kernel_rfl) (ZKX k)
noncomputable abbrev ZL8:Nat × Callee:=(85,mk ZmT Zf Zhv)
abbrev Zrx:List Kd:=[.box [.view (.sl (.int .u8)),.ref [.view (.sl (.int .u8)),.view (.int .i64)],.view (.int .i64)],.view shapeT]
noncomputable def ZLM (k:Nat):=WX k [ZLR,Zys,Zyt,ZL7,ZL8]
def Zup (k:Nat):(List Int × (List Int × Int × Unit) × Int × Unit) × (Int × Int × Int × Unit) × Unit → Option ((Int × Int × Int × Unit) × (List Int × (List Int × Int × Unit) × Int × Unit) × Unit)
 | ((a0,(a1,a2,()),a3,()),(a4,a5,a6,()),()) => (We k ((a0,(a1,a2,()),a3,()),15,())).bind fun y => (QT k ((y.2.1.1,(y.2.1.2.1.1,y.2.1.2.1.2.1,()),y.2.1.2.2.1,()),y.1 == 32764,11,())).bind fun y => (We k ((y.2.1.1,(y.2.1.2.1.1,y.2.1.2.1.2.1,()),y.2.1.2.2.1,()),1,())).bind fun y => (QT k ((y.2.1.1,(y.2.1.2.1.1,y.2.1.2.1.2.1,()),y.2.1.2.2.1,()),y.1 == 0,2,())).bind fun y => (We k ((y.2.1.1,(y.2.1.2.1.1,y.2.1.2.1.2.1,()),y.2.1.2.2.1,()),4,())).bind fun y => bif y.1 == 6 then (QT k ((y.2.1.1,(y.2.1.2.1.1,y.2.1.2.1.2.1,()),y.2.1.2.2.1,()),true,2,())).bind fun y_1 => (We k ((y_1.2.1.1,(y_1.2.1.2.1.1,y_1.2.1.2.1.2.1,()),y_1.2.1.2.2.1,()),4,())).bind fun y_2 => (QT k ((y_2.2.1.1,(y_2.2.1.2.1.1,y_2.2.1.2.1.2.1,()),y_2.2.1.2.2.1,()),y_2.1 == 0,2,())).bind fun y_3 => (We k ((y_3.2.1.1,(y_3.2.1.2.1.1,y_3.2.1.2.1.2.1,()),y_3.2.1.2.2.1,()),4,())).bind fun y_4 => (ZmS k ((a4,a5,a6,()),y_4.1,())).bind fun y_5 => (QT k ((y_4.2.1.1,(y_4.2.1.2.1.1,y_4.2.1.2.1.2.1,()),y_4.2.1.2.2.1,()),y_5.1,2,())).bind fun y_6 => (We k ((y_6.2.1.1,(y_6.2.1.2.1.1,y_6.2.1.2.1.2.1,()),y_6.2.1.2.2.1,()),4,())).bind fun y_7 => (QT k ((y_7.2.1.1,(y_7.2.1.2.1.1,y_7.2.1.2.1.2.1,()),y_7.2.1.2.2.1,()),y_7.1 == 0,2,())).bind fun y_8 => (Zhv k ((y_8.2.1.1,(y_8.2.1.2.1.1,y_8.2.1.2.1.2.1,()),y_8.2.1.2.2.1,()),())).bind fun y_9 => bif y_9.2.1.2.2.1 == 0 then (We k ((y_9.2.1.1,(y_9.2.1.2.1.1,y_9.2.1.2.1.2.1,()),y_9.2.1.2.2.1,()),IntKind.i64.wrap ((8:Int) * IntKind.i64.wrap (IntKind.i64.wrap (y.1 - 6) + (1:Int))),())).bind fun y => (QT k ((y.2.1.1,(y.2.1.2.1.1,y.2.1.2.1.2.1,()),y.2.1.2.2.1,()),decide (IntKind.i64.wrap (y.1 + 1) ≤ (512:Int)),1,())).bind fun y_10 => (Zfe k ((y_10.2.1.1,(y_10.2.1.2.1.1,y_10.2.1.2.1.2.1,()),y_10.2.1.2.2.1,()),8,(),())).bind fun y_11 => some ((y_4.1,y_9.1,IntKind.i64.wrap (y.1 + 1),()),(y_11.2.1.1,(y_11.2.1.2.1.1,y_11.2.1.2.1.2.1,()),y_11.2.1.2.2.1,()),()) else (QT k ((y_9.2.1.1,(y_9.2.1.2.1.1,y_9.2.1.2.1.2.1,()),y_9.2.1.2.2.1,()),decide ((0:Int) ≤ 512),1,())).bind fun y => (Zfe k ((y.2.1.1,(y.2.1.2.1.1,y.2.1.2.1.2.1,()),y.2.1.2.2.1,()),8,(),())).bind fun y => some ((y_4.1,y_9.1,0,()),(y.2.1.1,(y.2.1.2.1.1,y.2.1.2.1.2.1,()),y.2.1.2.2.1,()),()) else (QT k ((y.2.1.1,(y.2.1.2.1.1,y.2.1.2.1.2.1,()),y.2.1.2.2.1,()),y.1 == 7,2,())).bind fun y_1 => (We k ((y_1.2.1.1,(y_1.2.1.2.1.1,y_1.2.1.2.1.2.1,()),y_1.2.1.2.2.1,()),4,())).bind fun y_2 => (QT k ((y_2.2.1.1,(y_2.2.1.2.1.1,y_2.2.1.2.1.2.1,()),y_2.2.1.2.2.1,()),y_2.1 == 0,2,())).bind fun y_3 => (We k ((y_3.2.1.1,(y_3.2.1.2.1.1,y_3.2.1.2.1.2.1,()),y_3.2.1.2.2.1,()),4,())).bind fun y_4 => (ZmS k ((a4,a5,a6,()),y_4.1,())).bind fun y_5 => (QT k ((y_4.2.1.1,(y_4.2.1.2.1.1,y_4.2.1.2.1.2.1,()),y_4.2.1.2.2.1,()),y_5.1,2,())).bind fun y_6 => (We k ((y_6.2.1.1,(y_6.2.1.2.1.1,y_6.2.1.2.1.2.1,()),y_6.2.1.2.2.1,()),4,())).bind fun y_7 => (QT k ((y_7.2.1.1,(y_7.2.1.2.1.1,y_7.2.1.2.1.2.1,()),y_7.2.1.2.2.1,()),y_7.1 == 0,2,())).bind fun y_8 => (Zhv k ((y_8.2.1.1,(y_8.2.1.2.1.1,y_8.2.1.2.1.2.1,()),y_8.2.1.2.2.1,()),())).bind fun y_9 => bif y_9.2.1.2.2.1 == 0 then (We k ((y_9.2.1.1,(y_9.2.1.2.1.1,y_9.2.1.2.1.2.1,()),y_9.2.1.2.2.1,()),IntKind.i64.wrap ((8:Int) * IntKind.i64.wrap (IntKind.i64.wrap (y.1 - 6) + (1:Int))),())).bind fun y => (QT k ((y.2.1.1,(y.2.1.2.1.1,y.2.1.2.1.2.1,()),y.2.1.2.2.1,()),decide (IntKind.i64.wrap (y.1 + 1) ≤ (512:Int)),1,())).bind fun y_10 => (Zfe k ((y_10.2.1.1,(y_10.2.1.2.1.1,y_10.2.1.2.1.2.1,()),y_10.2.1.2.2.1,()),8,(),())).bind fun y_11 => some ((y_4.1,y_9.1,IntKind.i64.wrap (y.1 + 1),()),(y_11.2.1.1,(y_11.2.1.2.1.1,y_11.2.1.2.1.2.1,()),y_11.2.1.2.2.1,()),()) else (QT k ((y_9.2.1.1,(y_9.2.1.2.1.1,y_9.2.1.2.1.2.1,()),y_9.2.1.2.2.1,()),decide ((0:Int) ≤ 512),1,())).bind fun y => (Zfe k ((y.2.1.1,(y.2.1.2.1.1,y.2.1.2.1.2.1,()),y.2.1.2.2.1,()),8,(),())).bind fun y => some ((y_4.1,y_9.1,0,()),(y.2.1.1,(y.2.1.2.1.1,y.2.1.2.1.2.1,()),y.2.1.2.2.1,()),())
def Zpj (k:Nat):=Zup k
theorem ZKh (k:Nat) (x:Kd.dens Zrx):ZG (ZLM k) nA Tryz.f45 Zrx Zb9 x = Zpj k x:=by
 show _ = Zup k x
 obtain ⟨⟨a0,⟨⟨a1,⟨a2,⟨⟩⟩⟩,⟨a3,⟨⟩⟩⟩⟩,⟨⟨a4,⟨a5,⟨a6,⟨⟩⟩⟩⟩,⟨⟩⟩⟩:=x
 kernel_rfl
theorem ZG6 (k:Nat):Ctr Tryz.prog k 45 (mk Zrx Zb9 Zpj) :=
 ZH (fn:=Tryz.f45) (Zi (Za (ZG9 k) (Za (ZkY k) (Za (ZkZ k) (Za (ZHo k) (Za (ZHp k) Ze)))))) (by kernel_rfl) (by kernel_rfl) (ZKh k)
noncomputable abbrev ZLN:Nat × Callee:=(45,mk Zrx Zb9 Zpj)
abbrev Zkq:List Kd:=[.box [.ref [.view (.sl (.int .u8)),.view (.int .i64)],.view (.int .i64)],.view .bool]
def Zek (k:Nat):((List Int × Int × Unit) × Int × Unit) × Bool × Unit → Option (Unit × ((List Int × Int × Unit) × Int × Unit) × Unit)
 | (((a0,a1,()),a2,()),a3,()) => bif a2 == 0 then bif !a3 then some ((),((a0,a1,()),2,()),()) else some ((),((a0,a1,()),a2,()),()) else some ((),((a0,a1,()),a2,()),())
def WM (k:Nat):=Zek k
theorem ZF2 (k:Nat) (x:Kd.dens Zkq):ZG (ZV k) nA Tryz.f128 Zkq Qx x = WM k x:=by
 show _ = Zek k x
 obtain ⟨⟨⟨a0,⟨a1,⟨⟩⟩⟩,⟨a2,⟨⟩⟩⟩,⟨a3,⟨⟩⟩⟩:=x
 kernel_rfl
theorem Ztz (k:Nat):Ctr Tryz.prog k 128 (mk Zkq Qx WM) :=
 ZH (fn:=Tryz.f128) (Zi Ze) (by kernel_rfl) (by kernel_rfl) (ZF2 k)
noncomputable abbrev ZCj:Nat × Callee:=(128,mk Zkq Qx WM)
abbrev ZaA:List Kd:=[.box [.ref [.view (.sl (.int .u8)),.view (.int .i64)],.view (.int .i64)],.view (.int .i64)]
def Zel (k:Nat):((List Int × Int × Unit) × Int × Unit) × Int × Unit → Option (Int × ((List Int × Int × Unit) × Int × Unit) × Unit)
 | (((a0,a1,()),a2,()),a3,()) => bif a2 == 0 then (Ym k ((a0,a1,()),a3,())).bind fun y => some (y.1.1,((y.2.1.1,y.2.1.2.1,()),y.1.2.1,()),()) else some (0,((a0,a1,()),a2,()),())
def Yn (k:Nat):=Zel k
theorem ZF3 (k:Nat) (x:Kd.dens ZaA):ZG (ZEd k) nA Tryz.f129 ZaA Zf x = Yn k x:=by
 show _ = Zel k x
 obtain ⟨⟨⟨a0,⟨a1,⟨⟩⟩⟩,⟨a2,⟨⟩⟩⟩,⟨a3,⟨⟩⟩⟩:=x
 kernel_rfl
theorem ZtA (k:Nat):Ctr Tryz.prog k 129 (mk ZaA Zf Yn) :=
 ZH (fn:=Tryz.f129) (Zi (Za (Zbd k) Ze)) (by kernel_rfl) (by kernel_rfl) (ZF3 k)
noncomputable abbrev ZCk:Nat × Callee:=(129,mk ZaA Zf Yn)
def Zem (k:Nat):Int × Unit → Option (Bool × Unit)
 | (a0,()) => bif a0 == 0 then some (true,()) else bif a0 == 1 then some (true,()) else bif decide (8 ≤ a0) then bif decide (a0 ≤ 12) then some (true,()) else bif decide ((31:Int) < a0) then some (decide (a0 ≤ 39),()) else some (false,()) else bif decide ((31:Int) < a0) then some (decide (a0 ≤ 39),()) else some (false,())
def ZlU (k:Nat):=Zem k
theorem ZF4 (k:Nat) (x:Kd.dens Zw):ZG (ZV k) nA Tryz.f130 Zw Zx x = ZlU k x:=by
 show _ = Zem k x
 obtain ⟨a0,⟨⟩⟩:=x
 kernel_rfl
theorem ZCl (k:Nat):Ctr Tryz.prog k 130 (mk Zw Zx ZlU) :=
 ZH (fn:=Tryz.f130) (Zi Ze) (by kernel_rfl) (by kernel_rfl) (ZF4 k)
noncomputable abbrev ZI9:Nat × Callee:=(130,mk Zw Zx ZlU)
noncomputable def Zix (k:Nat):=WX k [ZIC]
def ZCm:Nat → Ann:=fun id => bif Nat.beq id 4 then ⟨[4,0],[]⟩ else ⟨[],[]⟩
abbrev ZqZ:=Int × List Int × Int
abbrev Zkr:=ZqZ → Option ((Int × Int × Unit) × (List Int × Int × Unit) × Unit)
def ZF5:ZqZ → St
 | (v0,v1,v2) => St.mk (ZE [(4,Zr v0),(0,AV.bx 0 0)]) (ZD [(0,WE [AV.val (PV.sl (Ty.int IntKind.u8) v1),Zr v2])])
def Zbh (k:Nat) (L1:Zkr):Zkr
 | (v0,v1,v2) => bif decide (v0 < IntKind.i64.wrap ((8:Int) * Int.ofNat v1.length)) then (ZmU k ((v1,v2,()),v0,())).bind fun y => bif y.1 == 1 then some ((IntKind.i64.wrap (v0 - y.2.1.2.1),0,()),(y.2.1.1,IntKind.i64.wrap (v0 + 1),()),()) else L1 (IntKind.i64.wrap (v0 + 1),y.2.1.1,y.2.1.2.1) else some ((0,10,()),(v1,v2,()),())
def Zks (k:Nat):Zkr:=Zs (fun L1 => Zbh k L1) k
noncomputable def ZtB (k:Nat) (n:Nat) (v:ZqZ) :=
 ZC (Zix k) ZCm [0] [1,1,0,1,0] [] (Xq Tryz.f131) (XQ (Zix k) Tryz.f131 W1 Z7 [AV.bx (nat_lit 0) (nat_lit 0)] [[]]) n (ZF5 v)
def Zen (k:Nat) (L1:Zkr):(List Int × Int × Unit) × Unit → Option ((Int × Int × Unit) × (List Int × Int × Unit) × Unit)
 | ((a0,a1,()),()) => L1 (a1,a0,a1)
def ZfM (k:Nat):=Zen k (Zks k)
theorem ZzW (k:Nat):∀ n,ZtB k n = Zs (fun L1 => Zbh k L1) n :=
 Zn (fun v => by kernel_rfl) (fun n v => by
  obtain ⟨v0,v1,v2⟩:=v
  kernel_rfl)
theorem ZF6 (k:Nat) (x:Kd.dens W1):ZG (Zix k) ZCm Tryz.f131 W1 Z7 x = ZfM k x:=by
 show _ = Zen k (Zks k) x
 rw [show Zks k = ZtB k k from (ZzW k k).symm]
 obtain ⟨⟨a0,⟨a1,⟨⟩⟩⟩,⟨⟩⟩:=x
 kernel_rfl
theorem ZtC (k:Nat):Ctr Tryz.prog k 131 (mk W1 Z7 ZfM) :=
 ZH (fn:=Tryz.f131) (Zi (Za (Zr9 k) Ze)) (by kernel_rfl) (by kernel_rfl) (ZF6 k)
noncomputable abbrev ZCn:Nat × Callee:=(131,mk W1 Z7 ZfM)
noncomputable def ZL9 (k:Nat):=WX k [ZCj,ZCk,ZI9,ZCn]
def Zhy (k:Nat):((List Int × Int × Unit) × Int × Unit) × Int × Unit → Option ((Int × Int × Unit) × ((List Int × Int × Unit) × Int × Unit) × Unit)
 | (((a0,a1,()),a2,()),a3,()) => (Yn k (((a0,a1,()),a2,()),1,())).bind fun y => (WM k (((y.2.1.1.1,y.2.1.1.2.1,()),y.2.1.2.1,()),y.1 == 0,())).bind fun y => (Yn k (((y.2.1.1.1,y.2.1.1.2.1,()),y.2.1.2.1,()),6,())).bind fun y => (ZlU k (y.1,())).bind fun y_1 => (WM k (((y.2.1.1.1,y.2.1.1.2.1,()),y.2.1.2.1,()),y_1.1,())).bind fun y_2 => (Yn k (((y_2.2.1.1.1,y_2.2.1.1.2.1,()),y_2.2.1.2.1,()),1,())).bind fun y_3 => bif y_3.1 == 1 then bif y_3.2.1.2.1 == 0 then (ZfM k ((y_3.2.1.1.1,y_3.2.1.1.2.1,()),())).bind fun y_4 => (WM k (((y_4.2.1.1,y_4.2.1.2.1,()),y_4.1.2.1,()),decide (IntKind.i64.wrap (y_4.1.1 + 1) < a3),())).bind fun y_5 => some ((y.1,IntKind.i64.wrap (y_4.1.1 + 1),()),((y_5.2.1.1.1,y_5.2.1.1.2.1,()),y_5.2.1.2.1,()),()) else (WM k (((y_3.2.1.1.1,y_3.2.1.1.2.1,()),y_3.2.1.2.1,()),decide ((0:Int) < a3),())).bind fun y_4 => some ((y.1,0,()),((y_4.2.1.1.1,y_4.2.1.1.2.1,()),y_4.2.1.2.1,()),()) else (WM k (((y_3.2.1.1.1,y_3.2.1.1.2.1,()),y_3.2.1.2.1,()),decide ((0:Int) < a3),())).bind fun y_4 => some ((y.1,0,()),((y_4.2.1.1.1,y_4.2.1.1.2.1,()),y_4.2.1.2.1,()),())
def ZuI (k:Nat):=Zhy k
theorem ZKZ (k:Nat) (x:Kd.dens ZaA):ZG (ZL9 k) nA Tryz.f87 ZaA Z7 x = ZuI k x:=by
 show _ = Zhy k x
 obtain ⟨⟨⟨a0,⟨a1,⟨⟩⟩⟩,⟨a2,⟨⟩⟩⟩,⟨a3,⟨⟩⟩⟩:=x
 kernel_rfl
theorem ZHq (k:Nat):Ctr Tryz.prog k 87 (mk ZaA Z7 ZuI) :=
 ZH (fn:=Tryz.f87) (Zi (Za (Ztz k) (Za (ZtA k) (Za (ZCl k) (Za (ZtC k) Ze))))) (by kernel_rfl) (by kernel_rfl) (ZKZ k)
noncomputable abbrev ZMa:Nat × Callee:=(87,mk ZaA Z7 ZuI)
abbrev ZkQ:List Kd:=[.view (.int .u32),.view (.int .u32)]
abbrev Zrj:Kd:=.tup [.view (.int .u32),.view (.int .u32)]
def Zpd (k:Nat):Int × Int × Unit → Option ((Int × Int × Unit) × Unit)
 | (a0,a1,()) => some ((IntKind.u32.wrap ((IntKind.u64.wrap (IntKind.u64.wrap a0 * IntKind.u64.wrap a1)).fdiv (4294967296:Int)),IntKind.u32.wrap (IntKind.u64.wrap (IntKind.u64.wrap a0 * IntKind.u64.wrap a1)),()),())
def ZwA (k:Nat):=Zpd k
theorem ZGP (k:Nat) (x:Kd.dens ZkQ):ZG (ZV k) nA Tryz.f187 ZkQ Zrj x = ZwA k x:=by
 show _ = Zpd k x
 obtain ⟨a0,⟨a1,⟨⟩⟩⟩:=x
 kernel_rfl
theorem ZDa (k:Nat):Ctr Tryz.prog k 187 (mk ZkQ Zrj ZwA) :=
 ZH (fn:=Tryz.f187) (Zi Ze) (by kernel_rfl) (by kernel_rfl) (ZGP k)
noncomputable abbrev ZJL:Nat × Callee:=(187,mk ZkQ Zrj ZwA)
abbrev ZaD:List Kd:=[.view (.int .u64),.view (.int .u64)]
abbrev ZeQ:Kd:=.tup [.view (.int .u64),.view (.int .u64)]
def ZeP (k:Nat):Int × Int × Unit → Option ((Int × Int × Unit) × Unit)
 | (a0,a1,()) => some ((IntKind.u64.wrap (IntKind.u64.wrap (IntKind.u64.wrap (a0.fdiv (4294967296:Int) * a1.fdiv (4294967296:Int)) + (IntKind.u64.wrap (IntKind.u64.wrap (a0.fdiv (4294967296:Int) * IntKind.u64.wrap (Int.ofNat (BitVec.ofInt 64 a1 &&& BitVec.ofInt 64 (4294967295:Int)).toNat)) + (IntKind.u64.wrap (IntKind.u64.wrap (Int.ofNat (BitVec.ofInt 64 a0 &&& BitVec.ofInt 64 (4294967295:Int)).toNat) * IntKind.u64.wrap (Int.ofNat (BitVec.ofInt 64 a1 &&& BitVec.ofInt 64 (4294967295:Int)).toNat))).fdiv (4294967296:Int))).fdiv (4294967296:Int)) + (IntKind.u64.wrap (IntKind.u64.wrap (Int.ofNat (BitVec.ofInt 64 (IntKind.u64.wrap (IntKind.u64.wrap (a0.fdiv (4294967296:Int) * IntKind.u64.wrap (Int.ofNat (BitVec.ofInt 64 a1 &&& BitVec.ofInt 64 (4294967295:Int)).toNat)) + (IntKind.u64.wrap (IntKind.u64.wrap (Int.ofNat (BitVec.ofInt 64 a0 &&& BitVec.ofInt 64 (4294967295:Int)).toNat) * IntKind.u64.wrap (Int.ofNat (BitVec.ofInt 64 a1 &&& BitVec.ofInt 64 (4294967295:Int)).toNat))).fdiv (4294967296:Int))) &&& BitVec.ofInt 64 (4294967295:Int)).toNat) + IntKind.u64.wrap (IntKind.u64.wrap (Int.ofNat (BitVec.ofInt 64 a0 &&& BitVec.ofInt 64 (4294967295:Int)).toNat) * a1.fdiv (4294967296:Int)))).fdiv (4294967296:Int)),IntKind.u64.wrap (a0 * a1),()),())
def Zrk (k:Nat):=ZeP k
theorem ZGQ (k:Nat) (x:Kd.dens ZaD):ZG (ZV k) nA Tryz.f188 ZaD ZeQ x = Zrk k x:=by
 show _ = ZeP k x
 obtain ⟨a0,⟨a1,⟨⟩⟩⟩:=x
 kernel_rfl
theorem ZDb (k:Nat):Ctr Tryz.prog k 188 (mk ZaD ZeQ Zrk) :=
 ZH (fn:=Tryz.f188) (Zi Ze) (by kernel_rfl) (by kernel_rfl) (ZGQ k)
noncomputable abbrev ZJM:Nat × Callee:=(188,mk ZaD ZeQ Zrk)
noncomputable def ZJy (k:Nat):=WX k [ZJL,ZJM]
def Zo5 (k:Nat):Int × Int × Unit → Option ((Int × Int × Unit) × Unit)
 | (a0,a1,()) => (Zrk k (a0,a1,())).bind fun y => some ((y.1.1,y.1.2.1,()),())
def Zmh (k:Nat):=Zo5 k
theorem ZGB (k:Nat) (x:Kd.dens ZaD):ZG (ZJy k) nA Tryz.f169 ZaD ZeQ x = Zmh k x:=by
 show _ = Zo5 k x
 obtain ⟨a0,⟨a1,⟨⟩⟩⟩:=x
 kernel_rfl
theorem ZCY (k:Nat):Ctr Tryz.prog k 169 (mk ZaD ZeQ Zmh) :=
 ZH (fn:=Tryz.f169) (Zi (Za (ZDa k) (Za (ZDb k) Ze))) (by kernel_rfl) (by kernel_rfl) (ZGB k)
noncomputable abbrev ZJz:Nat × Callee:=(169,mk ZaD ZeQ Zmh)
noncomputable def Zwf (k:Nat):=WX k [ZJz] (fun r => bif Nat.beq r 999999 then [1] else [])
def ZCo:Nat → Ann:=fun id => bif Nat.beq id 8 then ⟨[8,7],[]⟩ else ⟨[],[]⟩
abbrev Zq0:=Int × List Int
abbrev Zkt:=Zq0 → Option (List Int × Unit)
def ZF7:Zq0 → St
 | (v0,v1) => St.mk (ZE [(8,Zr v0),(7,AV.own 8192)]) (ZD [(8192,rsA v1 false)])
def Zep (k:Nat) (L1:Zkt):Zkt
 | (v0,v1) => bif decide (v0 < Int.ofNat v1.length) then bif decide (0 ≤ v0 ∧ v0 ≤ Int.ofNat v1.length ∧ Int.ofNat v1.length ≤ Int.ofNat v1.length) then bif decide ((0:Int) ≤ 0 ∧ (0:Int) ≤ v0 ∧ v0 ≤ Int.ofNat v1.length) then bif decide (v0.toNat ≤ (Int.ofNat v1.length).toNat ∧ (Int.ofNat v1.length).toNat ≤ v1.length) then bif decide ((0:Nat) ≤ v0.toNat ∧ v0.toNat ≤ v1.length) then L1 (IntKind.i64.wrap (v0 + Int.ofNat (min (List.drop 0 (List.take v0.toNat v1)).length ((Int.ofNat v1.length).toNat - v0.toNat))),List.take v0.toNat v1 ++ List.take ((Int.ofNat v1.length).toNat - v0.toNat) (List.drop 0 (List.take v0.toNat v1)) ++ List.drop (v0.toNat + min (List.drop 0 (List.take v0.toNat v1)).length ((Int.ofNat v1.length).toNat - v0.toNat)) v1) else none else none else none else none else some (v1,())
def Zku (k:Nat):Zkt:=Zs (fun L1 => Zep k L1) k
noncomputable def ZtD (k:Nat) (n:Nat) (v:Zq0) :=
 ZC (Zwf k) ZCo [] [1,1,1,1,1,1,0,0] [] (Xq Tryz.f132) (XQ (Zwf k) Tryz.f132 Z1 Yo [] []) n (ZF7 v)
def Zeo (k:Nat) (L1:Zkt):List Int × Int × Unit → Option (List Int × Unit)
 | (a0,a1,()) => bif decide (a1 < 0) then none else (Zmh k (IntKind.u64.wrap (Int.ofNat a0.length),IntKind.u64.wrap a1,())).bind fun y => bif decide ((0:Int) < y.1.1) then none else bif decide ((9223372036854775807:Int) < y.1.2.1) then none else bif decide (0 ≤ IntKind.i64.wrap y.1.2.1 ∧ IntKind.i64.wrap y.1.2.1 ≤ IntKind.i64.wrap y.1.2.1 ∧ IntKind.i64.wrap y.1.2.1 < 4294967296) then L1 (Int.ofNat (min a0.length ((List.replicate (IntKind.i64.wrap y.1.2.1).toNat (0:Int)).length - (0:Nat))),List.take 0 (List.replicate (IntKind.i64.wrap y.1.2.1).toNat (0:Int)) ++ List.take ((List.replicate (IntKind.i64.wrap y.1.2.1).toNat (0:Int)).length - (0:Nat)) a0 ++ List.drop ((0:Nat) + min a0.length ((List.replicate (IntKind.i64.wrap y.1.2.1).toNat (0:Int)).length - (0:Nat))) (List.replicate (IntKind.i64.wrap y.1.2.1).toNat (0:Int))) else none
def ZlV (k:Nat):=Zeo k (Zku k)
theorem ZzY (k:Nat):∀ n,ZtD k n = Zs (fun L1 => Zep k L1) n :=
 Zn (fun v => by kernel_rfl) (fun n v => by
  obtain ⟨v0,v1⟩:=v
  kernel_rfl)
theorem ZF8 (k:Nat) (x:Kd.dens Z1):ZG (Zwf k) ZCo Tryz.f132 Z1 Yo x = ZlV k x:=by
 show _ = Zeo k (Zku k) x
 rw [show Zku k = ZtD k k from (ZzY k k).symm]
 obtain ⟨a0,⟨a1,⟨⟩⟩⟩:=x
 kernel_rfl
theorem ZCp (k:Nat):Ctr Tryz.prog k 132 (mk Z1 Yo ZlV) :=
 ZH (fn:=Tryz.f132) (Zi (Za (ZCY k) Ze)) (by kernel_rfl) (by kernel_rfl) (ZF8 k)
noncomputable abbrev ZJa:Nat × Callee:=(132,mk Z1 Yo ZlV)
def ZeK (k:Nat):(List Int × Int × Unit) × Int × Unit → Option ((Int × Int × Unit) × (List Int × Int × Unit) × Unit)
 | ((a0,a1,()),a2,()) => (Ym k ((a0,a1,()),a2,())).bind fun y => bif y.1.2.1 == 0 then bif decide ((0:Int) < a2) then bif decide (0 ≤ IntKind.i64.wrap (a2 - 1)) then bif Int.fdiv y.1.1 ((2:Int) ^ min (IntKind.i64.wrap (a2 - 1)).toNat 64) == (1:Int) then bif decide (0 ≤ a2) then some ((IntKind.i64.wrap (y.1.1 - IntKind.i64.wrap ((1:Int) * (2:Int) ^ min a2.toNat 64)),y.1.2.1,()),(y.2.1.1,y.2.1.2.1,()),()) else none else some ((y.1.1,y.1.2.1,()),(y.2.1.1,y.2.1.2.1,()),()) else none else some ((y.1.1,y.1.2.1,()),(y.2.1.1,y.2.1.2.1,()),()) else some ((y.1.1,y.1.2.1,()),(y.2.1.1,y.2.1.2.1,()),())
def ZiM (k:Nat):=ZeK k
theorem ZGC (k:Nat) (x:Kd.dens Xg):ZG (ZEd k) nA Tryz.f170 Xg Z7 x = ZiM k x:=by
 show _ = ZeK k x
 obtain ⟨⟨a0,⟨a1,⟨⟩⟩⟩,⟨a2,⟨⟩⟩⟩:=x
 kernel_rfl
theorem Zt3 (k:Nat):Ctr Tryz.prog k 170 (mk Xg Z7 ZiM) :=
 ZH (fn:=Tryz.f170) (Zi (Za (Zbd k) Ze)) (by kernel_rfl) (by kernel_rfl) (ZGC k)
noncomputable abbrev ZJA:Nat × Callee:=(170,mk Xg Z7 ZiM)
abbrev ZgN:List Kd:=[.box [.ref [.view (.sl (.int .u8)),.view (.int .i64)],.view (.int .i64)],.view (.int .i64),.view (.int .i64)]
noncomputable def Zq1 (k:Nat):=WX k [ZJA]
def ZCq:Nat → Ann:=fun id => bif Nat.beq id 3 then ⟨[9,10,0,2,7],[.slot 7 ((Ty.int IntKind.i64))]⟩ else ⟨[],[]⟩
abbrev Zq2:=Int × Int × Int × Int × List Int × Int × List Int
abbrev Zkv:=Zq2 → Option (List Int × ((List Int × Int × Unit) × Int × Unit) × Unit)
def ZF9:Zq2 → St
 | (v0,v1,v2,v3,v4,v5,v6) => St.mk (ZE [(9,Zr v0),(10,Zr v1),(0,AV.bx 0 0),(2,Zr v2),(7,AV.own 8192)]) (ZD [(0,WE [AV.bx 1 0,Zr v3]),(1,WE [AV.val (PV.sl (Ty.int IntKind.u8) v4),Zr v5]),(8192,rsA v6 false)])
def Zbi (k:Nat) (L1:Zkv):Zkv
 | (v0,v1,v2,v3,v4,v5,v6) => bif decide (v1 < v0) then bif v3 == 0 then (ZiM k ((v4,v5,()),v2,())).bind fun y => bif decide (v6.length + [y.1.1].length < 2147483648) then L1 (v0,IntKind.i64.wrap (v1 + 1),v2,y.1.2.1,y.2.1.1,y.2.1.2.1,v6 ++ [y.1.1]) else none else bif decide (v6.length + (1:Nat) < (2147483648:Nat)) then L1 (v0,IntKind.i64.wrap (v1 + 1),v2,v3,v4,v5,v6 ++ [(0:Int)]) else none else some (v6,((v4,v5,()),v3,()),())
def Zkw (k:Nat):Zkv:=Zs (fun L1 => Zbi k L1) k
noncomputable def ZtE (k:Nat) (n:Nat) (v:Zq2) :=
 ZC (Zq1 k) ZCq [0,1] [1,1,0,1,0] [] (Xq Tryz.f133) (XQ (Zq1 k) Tryz.f133 ZgN Yo [AV.bx (nat_lit 0) (nat_lit 0)] [[1]]) n (ZF9 v)
def Zeq (k:Nat) (L1:Zkv):((List Int × Int × Unit) × Int × Unit) × Int × Int × Unit → Option (List Int × ((List Int × Int × Unit) × Int × Unit) × Unit)
 | (((a0,a1,()),a2,()),a3,a4,()) => L1 (a3,(0:Int),a4,a2,a0,a1,[])
def K2 (k:Nat):=Zeq k (Zkw k)
theorem Zz1 (k:Nat):∀ n,ZtE k n = Zs (fun L1 => Zbi k L1) n :=
 Zn (fun v => by kernel_rfl) (fun n v => by
  obtain ⟨v0,v1,v2,v3,v4,v5,v6⟩:=v
  kernel_rfl)
theorem ZGa (k:Nat) (x:Kd.dens ZgN):ZG (Zq1 k) ZCq Tryz.f133 ZgN Yo x = K2 k x:=by
 show _ = Zeq k (Zkw k) x
 rw [show Zkw k = ZtE k k from (Zz1 k k).symm]
 obtain ⟨⟨⟨a0,⟨a1,⟨⟩⟩⟩,⟨a2,⟨⟩⟩⟩,⟨a3,⟨a4,⟨⟩⟩⟩⟩:=x
 kernel_rfl
theorem ZCr (k:Nat):Ctr Tryz.prog k 133 (mk ZgN Yo K2) :=
 ZH (fn:=Tryz.f133) (Zi (Za (Zt3 k) Ze)) (by kernel_rfl) (by kernel_rfl) (ZGa k)
noncomputable abbrev ZJb:Nat × Callee:=(133,mk ZgN Yo K2)
def ZeV (k:Nat):Int × Unit → Option ((Int × Int × Unit) × Unit)
 | (a0,()) => bif decide (a0 < 0) then some ((0,12,()),()) else bif decide ((2199023255552:Int) < a0) then some ((0,12,()),()) else some ((IntKind.i64.wrap (Int.ofNat (BitVec.ofInt 64 (a0.fdiv (2:Int)) ^^^ BitVec.ofInt 64 (IntKind.i64.wrap ((0:Int) - IntKind.i64.wrap (Int.ofNat (BitVec.ofInt 64 a0 &&& BitVec.ofInt 64 (1:Int)).toNat)))).toNat),0,()),())
def Zmt (k:Nat):=ZeV k
theorem ZGW (k:Nat) (x:Kd.dens Zw):ZG (ZV k) nA Tryz.f195 Zw Z7 x = Zmt k x:=by
 show _ = ZeV k x
 obtain ⟨a0,⟨⟩⟩:=x
 kernel_rfl
theorem ZDl (k:Nat):Ctr Tryz.prog k 195 (mk Zw Z7 Zmt) :=
 ZH (fn:=Tryz.f195) (Zi Ze) (by kernel_rfl) (by kernel_rfl) (ZGW k)
noncomputable abbrev ZJW:Nat × Callee:=(195,mk Zw Z7 Zmt)
noncomputable def ZJR (k:Nat):=WX k [ZqY,ZCn,ZJW]
def ZeS (k:Nat):(List Int × Int × Unit) × Int × Unit → Option ((Int × Int × Unit) × (List Int × Int × Unit) × Unit)
 | ((a0,a1,()),a2,()) => (ZfM k ((a0,a1,()),())).bind fun y => bif y.1.2.1 != 0 then some ((0,y.1.2.1,()),(y.2.1.1,y.2.1.2.1,()),()) else (Ym k ((y.2.1.1,y.2.1.2.1,()),a2,())).bind fun y_1 => bif y_1.1.2.1 != 0 then some ((0,y_1.1.2.1,()),(y_1.2.1.1,y_1.2.1.2.1,()),()) else bif decide (0 ≤ a2) then bif decide (4294967295 ≤ IntKind.i64.wrap (Int.ofNat (BitVec.ofInt 64 (IntKind.i64.wrap (y.1.1 * (2:Int) ^ min a2.toNat 64)) ||| BitVec.ofInt 64 y_1.1.1).toNat)) then some ((0,12,()),(y_1.2.1.1,y_1.2.1.2.1,()),()) else (Zmt k (IntKind.i64.wrap (Int.ofNat (BitVec.ofInt 64 (IntKind.i64.wrap (y.1.1 * (2:Int) ^ min a2.toNat 64)) ||| BitVec.ofInt 64 y_1.1.1).toNat),())).bind fun y => some ((y.1.1,y.1.2.1,()),(y_1.2.1.1,y_1.2.1.2.1,()),()) else none
def Zmp (k:Nat):=ZeS k
theorem ZGS (k:Nat) (x:Kd.dens Xg):ZG (ZJR k) nA Tryz.f190 Xg Z7 x = Zmp k x:=by
 show _ = ZeS k x
 obtain ⟨⟨a0,⟨a1,⟨⟩⟩⟩,⟨a2,⟨⟩⟩⟩:=x
 kernel_rfl
theorem ZDg (k:Nat):Ctr Tryz.prog k 190 (mk Xg Z7 Zmp) :=
 ZH (fn:=Tryz.f190) (Zi (Za (Zbd k) (Za (ZtC k) (Za (ZDl k) Ze)))) (by kernel_rfl) (by kernel_rfl) (ZGS k)
noncomputable abbrev ZJS:Nat × Callee:=(190,mk Xg Z7 Zmp)
abbrev ZaE:List Kd:=[.box [.ref [.view (.sl (.int .u8)),.view (.int .i64)]],.box [.view (.int .i64)]]
noncomputable def ZJN (k:Nat):=WX k [ZJS]
def ZeR (k:Nat):((List Int × Int × Unit) × Unit) × (Int × Unit) × Unit → Option ((Int × Int × Unit) × ((List Int × Int × Unit) × Unit) × (Int × Unit) × Unit)
 | (((a0,a1,()),()),(a2,()),()) => (Zmp k ((a0,a1,()),a2,())).bind fun y => some ((y.1.1,y.1.2.1,()),((y.2.1.1,y.2.1.2.1,()),()),(a2,()),())
def Zml (k:Nat):=ZeR k
theorem ZGR (k:Nat) (x:Kd.dens ZaE):ZG (ZJN k) nA Tryz.f189 ZaE Z7 x = Zml k x:=by
 show _ = ZeR k x
 obtain ⟨⟨⟨a0,⟨a1,⟨⟩⟩⟩,⟨⟩⟩,⟨⟨a2,⟨⟩⟩,⟨⟩⟩⟩:=x
 kernel_rfl
theorem ZDc (k:Nat):Ctr Tryz.prog k 189 (mk ZaE Z7 Zml) :=
 ZH (fn:=Tryz.f189) (Zi (Za (ZDg k) Ze)) (by kernel_rfl) (by kernel_rfl) (ZGR k)
noncomputable abbrev ZJO:Nat × Callee:=(189,mk ZaE Z7 Zml)
def ZeT (k:Nat):((List Int × Int × Unit) × Unit) × (Int × Unit) × Unit → Option ((Int × Int × Unit) × ((List Int × Int × Unit) × Unit) × (Int × Unit) × Unit)
 | (((a0,a1,()),()),(a2,()),()) => (ZiM k ((a0,a1,()),a2,())).bind fun y => some ((y.1.1,y.1.2.1,()),((y.2.1.1,y.2.1.2.1,()),()),(a2,()),())
def Zmq (k:Nat):=ZeT k
theorem ZGT (k:Nat) (x:Kd.dens ZaE):ZG (Zq1 k) nA Tryz.f191 ZaE Z7 x = Zmq k x:=by
 show _ = ZeT k x
 obtain ⟨⟨⟨a0,⟨a1,⟨⟩⟩⟩,⟨⟩⟩,⟨⟨a2,⟨⟩⟩,⟨⟩⟩⟩:=x
 kernel_rfl
theorem ZDh (k:Nat):Ctr Tryz.prog k 191 (mk ZaE Z7 Zmq) :=
 ZH (fn:=Tryz.f191) (Zi (Za (Zt3 k) Ze)) (by kernel_rfl) (by kernel_rfl) (ZGT k)
noncomputable abbrev ZJT:Nat × Callee:=(191,mk ZaE Z7 Zmq)
abbrev Wv:List Kd:=[.box [.view (.sl (.int .u8)),.view (.int .i64)],.view (.int .i64),.view (.int .i64)]
noncomputable def Zmi (k:Nat):=WX k [(116,mk Zw Zf Zb8),(117,mk Zw Zf Ku),ZqY,ZJO,ZJT]
noncomputable def Zwy:Nat → Ann:=fun id => bif Nat.beq id 12 then ⟨[40,41,10,13],[.slot 13 ((Ty.int IntKind.i64))]⟩ else ⟨[],[]⟩
abbrev ZaB:=Zdm → Option ((List Int × Int × Unit) × (List Int × Int × Unit) × Unit)
noncomputable def ZGD:Zdm → St
 | (v0,v1,v2,v3,v4,v5) => St.mk (ZE [(40,Zr v0),(41,Zr v1),(10,AV.clo 191 [AV.bx 8192 0,AV.bx 8193 0]),(13,AV.own 8194)]) (ZD [(0,WE [AV.val (PV.sl (Ty.int IntKind.u8) v2),Zr v3]),(8192,WE [AV.bx 0 0]),(8193,WE [Zr v4]),(8194,rsA v5 false)])
noncomputable def Zbq (k:Nat) (L1:ZaB):ZaB
 | (v0,v1,v2,v3,v4,v5) => bif decide (v1 < v0) then (Zmq k (((v2,v3,()),()),(v4,()),())).bind fun y => bif y.1.2.1 != 0 then some (([],y.1.2.1,()),(y.2.1.1.1,y.2.1.1.2.1,()),()) else bif decide (v5.length + [y.1.1].length < 2147483648) then L1 (v0,IntKind.i64.wrap (v1 + 1),y.2.1.1.1,y.2.1.1.2.1,y.2.2.1.1,v5 ++ [y.1.1]) else none else some ((v5,0,()),(v2,v3,()),())
noncomputable def ZkM (k:Nat):ZaB:=Zs (fun L1 => Zbq k L1) k
noncomputable def Zt4 (k:Nat) (n:Nat) (v:Zdm) :=
 ZC (Zmi k) Zwy [0] [1,1,1,1,1,1,0,1,0] [] (Xq Tryz.f171) (XQ (Zmi k) Tryz.f171 Wv QO [AV.bx (nat_lit 0) (nat_lit 0)] [[]]) n (ZGD v)
noncomputable def ZGE:Zdm → St
 | (v0,v1,v2,v3,v4,v5) => St.mk (ZE [(40,Zr v0),(41,Zr v1),(10,AV.clo 189 [AV.bx 8192 0,AV.bx 8193 0]),(13,AV.own 8194)]) (ZD [(0,WE [AV.val (PV.sl (Ty.int IntKind.u8) v2),Zr v3]),(8192,WE [AV.bx 0 0]),(8193,WE [Zr v4]),(8194,rsA v5 false)])
noncomputable def Zbr (k:Nat) (L2:ZaB):ZaB
 | (v0,v1,v2,v3,v4,v5) => bif decide (v1 < v0) then (Zml k (((v2,v3,()),()),(v4,()),())).bind fun y => bif y.1.2.1 != 0 then some (([],y.1.2.1,()),(y.2.1.1.1,y.2.1.1.2.1,()),()) else bif decide (v5.length + [y.1.1].length < 2147483648) then L2 (v0,IntKind.i64.wrap (v1 + 1),y.2.1.1.1,y.2.1.1.2.1,y.2.2.1.1,v5 ++ [y.1.1]) else none else some ((v5,0,()),(v2,v3,()),())
noncomputable def ZgU (k:Nat):ZaB:=Zs (fun L2 => Zbr k L2) k
noncomputable def Zt5 (k:Nat) (n:Nat) (v:Zdm) :=
 ZC (Zmi k) Zwy [0] [1,1,1,1,1,1,0,1,0] [] (Xq Tryz.f171) (XQ (Zmi k) Tryz.f171 Wv QO [AV.bx (nat_lit 0) (nat_lit 0)] [[]]) n (ZGE v)
noncomputable def ZeL (k:Nat) (L1:ZaB) (L2:ZaB):(List Int × Int × Unit) × Int × Int × Unit → Option ((List Int × Int × Unit) × (List Int × Int × Unit) × Unit)
 | ((a0,a1,()),a2,a3,()) => (Zb8 k (a2,())).bind fun y => (Ym k ((a0,a1,()),y.1,())).bind fun y => bif y.1.2.1 != 0 then some (([],y.1.2.1,()),(y.2.1.1,y.2.1.2.1,()),()) else (Ku k (a2,())).bind fun y_1 => bif y.1.1 == y_1.1 then (Ym k ((y.2.1.1,y.2.1.2.1,()),5,())).bind fun y => bif y.1.2.1 != 0 then some (([],y.1.2.1,()),(y.2.1.1,y.2.1.2.1,()),()) else L1 (a3,(0:Int),y.2.1.1,y.2.1.2.1,y.1.1,[]) else L2 (a3,(0:Int),y.2.1.1,y.2.1.2.1,y.1.1,[])
noncomputable def ZfR (k:Nat):=ZeL k (ZkM k) (ZgU k)
theorem ZAt (k:Nat):∀ n,Zt4 k n = Zs (fun L1 => Zbq k L1) n :=
 Zn (fun v => by kernel_rfl) (fun n v => by
  obtain ⟨v0,v1,v2,v3,v4,v5⟩:=v
  kernel_rfl)
theorem ZAu (k:Nat):∀ n,Zt5 k n = Zs (fun L2 => Zbr k L2) n :=
 Zn (fun v => by kernel_rfl) (fun n v => by
  obtain ⟨v0,v1,v2,v3,v4,v5⟩:=v
  kernel_rfl)
theorem ZGF (k:Nat) (x:Kd.dens Wv):ZG (Zmi k) Zwy Tryz.f171 Wv QO x = ZfR k x:=by
 show _ = ZeL k (ZkM k) (ZgU k) x
 rw [show ZkM k = Zt4 k k from (ZAt k k).symm,show ZgU k = Zt5 k k from (ZAu k k).symm]
 obtain ⟨⟨a0,⟨a1,⟨⟩⟩⟩,⟨a2,⟨a3,⟨⟩⟩⟩⟩:=x
 kernel_rfl
theorem ZC0 (k:Nat):Ctr Tryz.prog k 171 (mk Wv QO ZfR) :=
 ZH (fn:=Tryz.f171) (Zi (Za (Ziu k) (Za (Ziw k) (Za (Zbd k) (Za (ZDc k) (Za (ZDh k) Ze)))))) (by kernel_rfl) (by kernel_rfl) (ZGF k)
noncomputable abbrev ZJB:Nat × Callee:=(171,mk Wv QO ZfR)
noncomputable def Zwg (k:Nat):=WX k [ZqY,ZCQ,ZJr,ZJB]
def ZCs:Nat → Ann:=fun id => bif Nat.beq id 15 then ⟨[52,53,1,10,2,0,8,11],[.slot 11 ((Ty.int IntKind.i64))]⟩ else ⟨[],[]⟩
abbrev Zq3:=Int × Int × Int × Int × Int × Int × List Int × Int × List Int
abbrev Zkx:=Zq3 → Option ((List Int × Int × Unit) × (List Int × Int × Unit) × Unit)
def ZGb:Zq3 → St
 | (v0,v1,v2,v3,v4,v5,v6,v7,v8) => St.mk (ZE [(52,Zr v0),(53,Zr v1),(1,Zr v2),(10,Zr v3),(2,Zr v4),(0,AV.bx 0 0),(8,Zr v5),(11,AV.own 8192)]) (ZD [(0,WE [AV.val (PV.sl (Ty.int IntKind.u8) v6),Zr v7]),(8192,rsA v8 false)])
noncomputable def KS (k:Nat) (L1:Zkx):Zkx
 | (v0,v1,v2,v3,v4,v5,v6,v7,v8) => bif decide (v1 < v0) then bif decide (0 ≤ v3) then bif v1 == 0 then (ZfR k ((v6,v7,()),v5,IntKind.i64.wrap (v2.fdiv ((2:Int) ^ min v3.toNat 64) - v4),())).bind fun y => bif y.1.2.1 != 0 then some (([],y.1.2.1,()),(y.2.1.1,y.2.1.2.1,()),()) else bif decide (v8.length + List.length y.1.1 < 2147483648) then L1 (v0,IntKind.i64.wrap (v1 + 1),v2,v3,v4,v5,y.2.1.1,y.2.1.2.1,v8 ++ y.1.1) else none else (ZfR k ((v6,v7,()),v5,v2.fdiv ((2:Int) ^ min v3.toNat 64),())).bind fun y => bif y.1.2.1 != 0 then some (([],y.1.2.1,()),(y.2.1.1,y.2.1.2.1,()),()) else bif decide (v8.length + List.length y.1.1 < 2147483648) then L1 (v0,IntKind.i64.wrap (v1 + 1),v2,v3,v4,v5,y.2.1.1,y.2.1.2.1,v8 ++ y.1.1) else none else none else some ((v8,0,()),(v6,v7,()),())
noncomputable def Zky (k:Nat):Zkx:=Zs (fun L1 => KS k L1) k
noncomputable def ZtF (k:Nat) (n:Nat) (v:Zq3) :=
 ZC (Zwg k) ZCs [0] [1,1,1,1,1,1,1,0,1,0] [] (Xq Tryz.f134) (XQ (Zwg k) Tryz.f134 Wv QO [AV.bx (nat_lit 0) (nat_lit 0)] [[]]) n (ZGb v)
def Zer (k:Nat) (L1:Zkx):(List Int × Int × Unit) × Int × Int × Unit → Option ((List Int × Int × Unit) × (List Int × Int × Unit) × Unit)
 | ((a0,a1,()),a2,a3,()) => (ZiK k (a2,a3,())).bind fun y => bif !y.1 then some (([],1,()),(a0,a1,()),()) else (Ym k ((a0,a1,()),2,())).bind fun y => bif y.1.2.1 != 0 then some (([],y.1.2.1,()),(y.2.1.1,y.2.1.2.1,()),()) else bif decide ((1:Int) < y.1.1) then some (([],2,()),(y.2.1.1,y.2.1.2.1,()),()) else (Ym k ((y.2.1.1,y.2.1.2.1,()),4,())).bind fun y_1 => bif y_1.1.2.1 != 0 then some (([],y_1.1.2.1,()),(y_1.2.1.1,y_1.2.1.2.1,()),()) else (K3 k (a2,a3,y_1.1.1,())).bind fun y_2 => bif !y_2.1 then some (([],2,()),(y_1.2.1.1,y_1.2.1.2.1,()),()) else bif decide ((0:Int) ≤ y_1.1.1) then L1 (IntKind.i64.wrap ((1:Int) * (2:Int) ^ min (Int.toNat y_1.1.1) (64:Nat)),(0:Int),a2,y_1.1.1,a3,y.1.1,y_1.2.1.1,y_1.2.1.2.1,[]) else none
noncomputable def ZaX (k:Nat):=Zer k (Zky k)
theorem Zz2 (k:Nat):∀ n,ZtF k n = Zs (fun L1 => KS k L1) n :=
 Zn (fun v => by kernel_rfl) (fun n v => by
  obtain ⟨v0,v1,v2,v3,v4,v5,v6,v7,v8⟩:=v
  kernel_rfl)
theorem ZGc (k:Nat) (x:Kd.dens Wv):ZG (Zwg k) ZCs Tryz.f134 Wv QO x = ZaX k x:=by
 show _ = Zer k (Zky k) x
 rw [show Zky k = ZtF k k from (Zz2 k k).symm]
 obtain ⟨⟨a0,⟨a1,⟨⟩⟩⟩,⟨a2,⟨a3,⟨⟩⟩⟩⟩:=x
 kernel_rfl
theorem ZCt (k:Nat):Ctr Tryz.prog k 134 (mk Wv QO ZaX) :=
 ZH (fn:=Tryz.f134) (Zi (Za (Zbd k) (Za (ZtZ k) (Za (Zt0 k) (Za (ZC0 k) Ze))))) (by kernel_rfl) (by kernel_rfl) (ZGc k)
noncomputable abbrev ZJc:Nat × Callee:=(134,mk Wv QO ZaX)
abbrev ZgO:List Kd:=[.view ZfY,.view (.sl (.int .i64)),.view (.sl (.int .i64))]
noncomputable def Zwh (k:Nat):=WX k [ZlL,Zwt,ZCP,ZC2,ZC4]
def ZCu:Nat → Ann:=fun id => bif Nat.beq id 9 then ⟨[32,33,31,3,8],[.«show» 8]⟩ else ⟨[],[]⟩
abbrev Zq4:=Int × Int × List Int × List Int × Int × List Int
abbrev Zkz:=Zq4 → Option ((List Int × Int × Unit) × Unit)
def ZGd:Zq4 → St
 | (v0,v1,v2,v3,v4,v5) => St.mk (ZE [(32,Zr v0),(33,Zr v1),(31,Yk v2),(3,AV.bx 8192 0),(8,AV.own 8193)]) (ZD [(8192,WE [Yk v3,Zr v4]),(8193,rsA v5 true)])
def Zbk (k:Nat) (L1:Zkz):Zkz
 | (v0,v1,v2,v3,v4,v5) => bif decide (v1 < v0) then bif decide (0 ≤ v1 ∧ v1 < Int.ofNat v2.length) then (ZiO k ((v3,v4,()),v5,())).bind fun y => (ZfO k (IntKind.i64.wrap (v2.getD v1.toNat 0 + y.1),())).bind fun y_1 => bif y_1.1 then some (([],12,()),()) else bif decide (v5.length + [IntKind.i64.wrap (v2.getD v1.toNat 0 + y.1)].length < 2147483648) then L1 (v0,IntKind.i64.wrap (v1 + 1),v2,v3,v4,v5 ++ [IntKind.i64.wrap (v2.getD v1.toNat 0 + y.1)]) else none else none else some ((v5,0,()),())
def ZkA (k:Nat):Zkz:=Zs (fun L1 => Zbk k L1) k
noncomputable def ZtG (k:Nat) (n:Nat) (v:Zq4) :=
 ZC (Zwh k) ZCu [] [1,1,1,0,1,0] [] (Xq Tryz.f135) (XQ (Zwh k) Tryz.f135 ZgO QO [] []) n (ZGd v)
def Zes (k:Nat) (L1:Zkz):(List Int × Int × Unit) × List Int × List Int × Unit → Option ((List Int × Int × Unit) × Unit)
 | ((a0,a1,()),a2,a3,()) => (ZiN k ((a0,a1,()),())).bind fun y => bif y.1 != 0 then some (([],2,()),()) else bif Int.ofNat a2.length != Int.ofNat a0.length then some (([],1,()),()) else (Y5 k (a2,(),())).bind fun y => bif y.1 then some (([],12,()),()) else (Y5 k (a3,(),())).bind fun y => bif y.1 then some (([],12,()),()) else (ZiJ k (a2,())).bind fun y => L1 (Int.ofNat a3.length,(0:Int),a3,a0,a1,y.1)
def ZaY (k:Nat):=Zes k (ZkA k)
theorem Zz5 (k:Nat):∀ n,ZtG k n = Zs (fun L1 => Zbk k L1) n :=
 Zn (fun v => by kernel_rfl) (fun n v => by
  obtain ⟨v0,v1,v2,v3,v4,v5⟩:=v
  kernel_rfl)
theorem ZGe (k:Nat) (x:Kd.dens ZgO):ZG (Zwh k) ZCu Tryz.f135 ZgO QO x = ZaY k x:=by
 show _ = Zes k (ZkA k) x
 rw [show ZkA k = ZtG k k from (Zz5 k k).symm]
 obtain ⟨⟨a0,⟨a1,⟨⟩⟩⟩,⟨a2,⟨a3,⟨⟩⟩⟩⟩:=x
 kernel_rfl
theorem ZCv (k:Nat):Ctr Tryz.prog k 135 (mk ZgO QO ZaY) :=
 ZH (fn:=Tryz.f135) (Zi (Za (ZfH k) (Za (Zma k) (Za (ZtY k) (Za (Zt6 k) (Za (Zt8 k) Ze)))))) (by kernel_rfl) (by kernel_rfl) (ZGe k)
noncomputable abbrev ZJd:Nat × Callee:=(135,mk ZgO QO ZaY)
abbrev Zr8:List Kd:=[.box [.ref [.view (.sl (.int .u8)),.view (.int .i64)],.view (.int .i64)],.view (.int .i64),.view (.int .i64),.view (.int .i64)]
noncomputable def ZMb (k:Nat):=WX k [Zwb,ZCj,ZCk,ZJa,ZJb,ZJc,ZJd]
noncomputable def Zhz (k:Nat):((List Int × Int × Unit) × Int × Unit) × Int × Int × Int × Unit → Option (List Int × ((List Int × Int × Unit) × Int × Unit) × Unit)
 | (((a0,a1,()),a2,()),a3,a4,a5,()) => bif a3 == 0 then (K2 k (((a0,a1,()),a2,()),1,a5,())).bind fun y => (ZlV k (y.1,a4,())).bind fun y_1 => some (y_1.1,((y.2.1.1.1,y.2.1.1.2.1,()),y.2.1.2.1,()),()) else bif a3 == 1 then (K2 k (((a0,a1,()),a2,()),a4,a5,())).bind fun y => some (y.1,((y.2.1.1.1,y.2.1.1.2.1,()),y.2.1.2.1,()),()) else bif decide ((31:Int) < a3) then (WM k (((a0,a1,()),a2,()),decide (IntKind.i64.wrap (a3 - 31) ≤ a4),())).bind fun y => bif y.2.1.2.1 != 0 then some ([],((y.2.1.1.1,y.2.1.1.2.1,()),y.2.1.2.1,()),()) else (K2 k (((y.2.1.1.1,y.2.1.1.2.1,()),y.2.1.2.1,()),IntKind.i64.wrap (a3 - 31),a5,())).bind fun y => (ZcT k (if (4:Int) < IntKind.i64.wrap (a3 - 31) then (4:Int) else IntKind.i64.wrap (a3 - 31),())).bind fun y_1 => bif decide ((31:Int) < a3) then (Yn k (((y.2.1.1.1,y.2.1.1.2.1,()),y.2.1.2.1,()),4,())).bind fun y_2 => (WM k (((y_2.2.1.1.1,y_2.2.1.1.2.1,()),y_2.2.1.2.1,()),y_2.1 == 11,())).bind fun y_3 => (Yn k (((y_3.2.1.1.1,y_3.2.1.1.2.1,()),y_3.2.1.2.1,()),5,())).bind fun y_4 => (WM k (((y_4.2.1.1.1,y_4.2.1.1.2.1,()),y_4.2.1.2.1,()),decide (y_4.1 ≤ 15),())).bind fun y_5 => (K2 k (((y_5.2.1.1.1,y_5.2.1.1.2.1,()),y_5.2.1.2.1,()),IntKind.i64.wrap (a3 - 31),12,())).bind fun y_6 => bif y_6.2.1.2.1 != 0 then some ([],((y_6.2.1.1.1,y_6.2.1.1.2.1,()),y_6.2.1.2.1,()),()) else (ZaX k ((y_6.2.1.1.1,y_6.2.1.1.2.1,()),a4,IntKind.i64.wrap (a3 - 31),())).bind fun y_7 => bif y_7.1.2.1 != 0 then some ([],((y_7.2.1.1,y_7.2.1.2.1,()),y_7.1.2.1,()),()) else (ZaY k ((y_6.1,y_4.1,()),y.1,y_7.1.1,())).bind fun y => some (y.1.1,((y_7.2.1.1,y_7.2.1.2.1,()),y.1.2.1,()),()) else bif y.2.1.2.1 != 0 then some ([],((y.2.1.1.1,y.2.1.1.2.1,()),y.2.1.2.1,()),()) else (ZaX k ((y.2.1.1.1,y.2.1.1.2.1,()),a4,IntKind.i64.wrap (a3 - 31),())).bind fun y_2 => bif y_2.1.2.1 != 0 then some ([],((y_2.2.1.1,y_2.2.1.2.1,()),y_2.1.2.1,()),()) else (ZaY k ((y_1.1.1.1,y_1.1.1.2.1,()),y.1,y_2.1.1,())).bind fun y => some (y.1.1,((y_2.2.1.1,y_2.2.1.2.1,()),y.1.2.1,()),()) else (WM k (((a0,a1,()),a2,()),decide (IntKind.i64.wrap (a3 - 8) ≤ a4),())).bind fun y => bif y.2.1.2.1 != 0 then some ([],((y.2.1.1.1,y.2.1.1.2.1,()),y.2.1.2.1,()),()) else (K2 k (((y.2.1.1.1,y.2.1.1.2.1,()),y.2.1.2.1,()),IntKind.i64.wrap (a3 - 8),a5,())).bind fun y => (ZcT k (if (4:Int) < IntKind.i64.wrap (a3 - 8) then (4:Int) else IntKind.i64.wrap (a3 - 8),())).bind fun y_1 => bif decide ((31:Int) < a3) then (Yn k (((y.2.1.1.1,y.2.1.1.2.1,()),y.2.1.2.1,()),4,())).bind fun y_2 => (WM k (((y_2.2.1.1.1,y_2.2.1.1.2.1,()),y_2.2.1.2.1,()),y_2.1 == 11,())).bind fun y_3 => (Yn k (((y_3.2.1.1.1,y_3.2.1.1.2.1,()),y_3.2.1.2.1,()),5,())).bind fun y_4 => (WM k (((y_4.2.1.1.1,y_4.2.1.1.2.1,()),y_4.2.1.2.1,()),decide (y_4.1 ≤ 15),())).bind fun y_5 => (K2 k (((y_5.2.1.1.1,y_5.2.1.1.2.1,()),y_5.2.1.2.1,()),IntKind.i64.wrap (a3 - 8),12,())).bind fun y_6 => bif y_6.2.1.2.1 != 0 then some ([],((y_6.2.1.1.1,y_6.2.1.1.2.1,()),y_6.2.1.2.1,()),()) else (ZaX k ((y_6.2.1.1.1,y_6.2.1.1.2.1,()),a4,IntKind.i64.wrap (a3 - 8),())).bind fun y_7 => bif y_7.1.2.1 != 0 then some ([],((y_7.2.1.1,y_7.2.1.2.1,()),y_7.1.2.1,()),()) else (ZaY k ((y_6.1,y_4.1,()),y.1,y_7.1.1,())).bind fun y => some (y.1.1,((y_7.2.1.1,y_7.2.1.2.1,()),y.1.2.1,()),()) else bif y.2.1.2.1 != 0 then some ([],((y.2.1.1.1,y.2.1.1.2.1,()),y.2.1.2.1,()),()) else (ZaX k ((y.2.1.1.1,y.2.1.1.2.1,()),a4,IntKind.i64.wrap (a3 - 8),())).bind fun y_2 => bif y_2.1.2.1 != 0 then some ([],((y_2.2.1.1,y_2.2.1.2.1,()),y_2.1.2.1,()),()) else (ZaY k ((y_1.1.1.1,y_1.1.1.2.1,()),y.1,y_2.1.1,())).bind fun y => some (y.1.1,((y_2.2.1.1,y_2.2.1.2.1,()),y.1.2.1,()),())
noncomputable def ZuJ (k:Nat):=Zhz k
theorem ZK0 (k:Nat) (x:Kd.dens Zr8):ZG (ZMb k) nA Tryz.f88 Zr8 Yo x = ZuJ k x:=by
 show _ = Zhz k x
 obtain ⟨⟨⟨a0,⟨a1,⟨⟩⟩⟩,⟨a2,⟨⟩⟩⟩,⟨a3,⟨a4,⟨a5,⟨⟩⟩⟩⟩⟩:=x
 kernel_rfl
theorem ZHr (k:Nat):Ctr Tryz.prog k 88 (mk Zr8 Yo ZuJ) :=
 ZH (fn:=Tryz.f88) (Zi (Za (ZlQ k) (Za (Ztz k) (Za (ZtA k) (Za (ZCp k) (Za (ZCr k) (Za (ZCt k) (Za (ZCv k) Ze)))))))) (by kernel_rfl) (by kernel_rfl) (ZK0 k)
noncomputable abbrev ZMc:Nat × Callee:=(88,mk Zr8 Yo ZuJ)
noncomputable def ZDC (k:Nat):=WX k [ZIz,ZMa,ZMc,ZIB]
def ZIi:Nat → Ann:=fun id => bif Nat.beq id 12 then ⟨[58,59,57,2,10,12],[.slot 12 ((Ty.int IntKind.i64))]⟩ else ⟨[],[]⟩
abbrev ZwK:=Int × Int × List Int × Int × Int × List Int × Int × List Int
abbrev ZrA:=ZwK → Option ((List Int × Int × Unit) × (List Int × Int × Unit) × Unit)
def ZKi:ZwK → St
 | (v0,v1,v2,v3,v4,v5,v6,v7) => St.mk (ZE [(58,Zr v0),(59,Zr v1),(57,Yk v2),(2,Zr v3),(10,Zr v4),(12,AV.own 8192)]) (ZD [(0,WE [AV.val (PV.sl (Ty.int IntKind.u8) v5),Zr v6]),(8192,rsA v7 false)])
def Zdd (k:Nat) (L1:ZrA):ZrA
 | (v0,v1,v2,v3,v4,v5,v6,v7) => bif decide (v1 < v0) then bif decide (0 ≤ v1 ∧ v1 < Int.ofNat v2.length) then (Zpq k (v2.getD v1.toNat 0,IntKind.i64.wrap (v3 - v4),())).bind fun y => bif !y.1 then some (([],12,()),(v5,v6,()),()) else bif decide (0 ≤ v4) then bif decide (v7.length + [IntKind.i64.wrap (v2.getD v1.toNat 0 * (2:Int) ^ min v4.toNat 64)].length < 2147483648) then L1 (v0,IntKind.i64.wrap (v1 + 1),v2,v3,v4,v5,v6,v7 ++ [IntKind.i64.wrap (v2.getD v1.toNat 0 * (2:Int) ^ min v4.toNat 64)]) else none else none else none else some ((v7,0,()),(v5,v6,()),())
def ZrB (k:Nat):ZrA:=Zs (fun L1 => Zdd k L1) k
noncomputable def Zx5 (k:Nat) (n:Nat) (v:ZwK) :=
 ZC (ZDC k) ZIi [0] [1,1,1,1,1,1,1,1,0,1,0] [] (Xq Tryz.f46) (XQ (ZDC k) Tryz.f46 Wv QO [AV.bx (nat_lit 0) (nat_lit 0)] [[]]) n (ZKi v)
noncomputable def Zg9 (k:Nat) (L1:ZrA):(List Int × Int × Unit) × Int × Int × Unit → Option ((List Int × Int × Unit) × (List Int × Int × Unit) × Unit)
 | ((a0,a1,()),a2,a3,()) => (Zpp k (a2,a3,())).bind fun y => bif !y.1 then some (([],1,()),(a0,a1,()),()) else (ZuI k (((a0,a1,()),0,()),a3,())).bind fun y => bif y.2.1.2.1 != 0 then some (([],y.2.1.2.1,()),(y.2.1.1.1,y.2.1.1.2.1,()),()) else (ZuJ k (((y.2.1.1.1,y.2.1.1.2.1,()),y.2.1.2.1,()),y.1.1,a2,IntKind.i64.wrap (a3 - y.1.2.1),())).bind fun y_1 => bif y_1.2.1.2.1 != 0 then some (([],y_1.2.1.2.1,()),(y_1.2.1.1.1,y_1.2.1.1.2.1,()),()) else L1 (Int.ofNat (List.length y_1.1),(0:Int),y_1.1,a3,y.1.2.1,y_1.2.1.1.1,y_1.2.1.1.2.1,[])
noncomputable def Zus (k:Nat):=Zg9 k (ZrB k)
theorem ZDD (k:Nat):∀ n,Zx5 k n = Zs (fun L1 => Zdd k L1) n :=
 Zn (fun v => by kernel_rfl) (fun n v => by
  obtain ⟨v0,v1,v2,v3,v4,v5,v6,v7⟩:=v
  kernel_rfl)
theorem ZKj (k:Nat) (x:Kd.dens Wv):ZG (ZDC k) ZIi Tryz.f46 Wv QO x = Zus k x:=by
 show _ = Zg9 k (ZrB k) x
 rw [show ZrB k = Zx5 k k from (ZDD k k).symm]
 obtain ⟨⟨a0,⟨a1,⟨⟩⟩⟩,⟨a2,⟨a3,⟨⟩⟩⟩⟩:=x
 kernel_rfl
theorem ZG7 (k:Nat):Ctr Tryz.prog k 46 (mk Wv QO Zus) :=
 ZH (fn:=Tryz.f46) (Zi (Za (Zyv k) (Za (ZHq k) (Za (ZHr k) (Za (Zyw k) Ze))))) (by kernel_rfl) (by kernel_rfl) (ZKj k)
noncomputable abbrev ZLO:Nat × Callee:=(46,mk Wv QO Zus)
def ZIj:Nat → Ann:=fun id => bif Nat.beq id 5 then ⟨[4,3,0],[]⟩ else ⟨[],[]⟩
abbrev ZrC:=Wa → Option (Int × (List Int × Int × Unit) × Unit)
def ZKk:Wa → St
 | (v0,v1,v2,v3) => St.mk (ZE [(4,Zr v0),(3,Zr v1),(0,AV.bx 0 0)]) (ZD [(0,WE [AV.val (PV.sl (Ty.int IntKind.u8) v2),Zr v3])])
def Zde (k:Nat) (L1:ZrC):ZrC
 | (v0,v1,v2,v3) => bif decide (v0 < v1) then (ZmU k ((v2,v3,()),v0,())).bind fun y => bif y.1 == 1 then some (2,(y.2.1.1,y.2.1.2.1,()),()) else L1 (IntKind.i64.wrap (v0 + 1),v1,y.2.1.1,y.2.1.2.1) else some (0,(v2,v1,()),())
def ZrD (k:Nat):ZrC:=Zs (fun L1 => Zde k L1) k
noncomputable def Zx6 (k:Nat) (n:Nat) (v:Wa) :=
 ZC (Zix k) ZIj [0] [1,1,1,0,1,0] [] (Xq Tryz.f47) (XQ (Zix k) Tryz.f47 W1 Zf [AV.bx (nat_lit 0) (nat_lit 0)] [[]]) n (ZKk v)
def Zha (k:Nat) (L1:ZrC):(List Int × Int × Unit) × Unit → Option (Int × (List Int × Int × Unit) × Unit)
 | ((a0,a1,()),()) => L1 (a1,IntKind.i64.wrap (Int.ofNat (BitVec.ofInt 64 (IntKind.i64.wrap (a1 + 7)) &&& ~~~BitVec.ofInt 64 (7:Int)).toNat),a0,a1)
def Zut (k:Nat):=Zha k (ZrD k)
theorem ZDF (k:Nat):∀ n,Zx6 k n = Zs (fun L1 => Zde k L1) n :=
 Zn (fun v => by kernel_rfl) (fun n v => by
  obtain ⟨v0,v1,v2,v3⟩:=v
  kernel_rfl)
theorem ZKl (k:Nat) (x:Kd.dens W1):ZG (Zix k) ZIj Tryz.f47 W1 Zf x = Zut k x:=by
 show _ = Zha k (ZrD k) x
 rw [show ZrD k = Zx6 k k from (ZDF k k).symm]
 obtain ⟨⟨a0,⟨a1,⟨⟩⟩⟩,⟨⟩⟩:=x
 kernel_rfl
theorem ZG8 (k:Nat):Ctr Tryz.prog k 47 (mk W1 Zf Zut) :=
 ZH (fn:=Tryz.f47) (Zi (Za (Zr9 k) Ze)) (by kernel_rfl) (by kernel_rfl) (ZKl k)
noncomputable abbrev ZLP:Nat × Callee:=(47,mk W1 Zf Zut)
abbrev ZgE:List Kd:=[.box [.view (.sl (.int .u8)),.ref [.view (.sl (.int .u8)),.view (.int .i64)],.view (.int .i64)],.view (.int .i64),.fn 33]
noncomputable def ZFw (k:Nat):=WX k [Zx8,Zys,Zyt,ZIh]
def Zb7 (k:Nat):(List Int × (List Int × Int × Unit) × Int × Unit) × Int × Unit × Unit → Option (Unit × (List Int × (List Int × Int × Unit) × Int × Unit) × Unit)
 | ((a0,(a1,a2,()),a3,()),a4,(),()) => (K4 k ((a1,a2,()),())).bind fun y => (We k ((a0,(y.2.1.1,y.2.1.2.1,()),a3,()),a4,())).bind fun y_1 => bif y_1.2.1.2.2.1 != 0 then (QT k ((y_1.2.1.1,(y_1.2.1.2.1.1,y_1.2.1.2.1.2.1,()),y_1.2.1.2.2.1,()),true,16,())).bind fun y => some ((),(y.2.1.1,(y.2.1.2.1.1,y.2.1.2.1.2.1,()),y.2.1.2.2.1,()),()) else bif decide ((0:Int) ≤ 0 ∧ (0:Int) ≤ IntKind.i64.wrap (Int.tdiv y.1 (8:Int)) ∧ IntKind.i64.wrap (Int.tdiv y.1 (8:Int)) ≤ Int.ofNat (List.length y_1.2.1.1)) then (Zpi k (List.drop 0 (List.take (IntKind.i64.wrap (Int.tdiv y.1 (8:Int))).toNat y_1.2.1.1),())).bind fun y => (QT k ((y_1.2.1.1,(y_1.2.1.2.1.1,y_1.2.1.2.1.2.1,()),y_1.2.1.2.2.1,()),y_1.1 == y.1,16,())).bind fun y => some ((),(y.2.1.1,(y.2.1.2.1.1,y.2.1.2.1.2.1,()),y.2.1.2.2.1,()),()) else none
def ZgD (k:Nat):=Zb7 k
theorem ZB0 (k:Nat) (x:Kd.dens ZgE):ZG (ZFw k) nA Tryz.f48 ZgE Qx x = ZgD k x:=by
 show _ = Zb7 k x
 obtain ⟨⟨a0,⟨⟨a1,⟨a2,⟨⟩⟩⟩,⟨a3,⟨⟩⟩⟩⟩,⟨a4,⟨⟨⟩,⟨⟩⟩⟩⟩:=x
 kernel_rfl
theorem Zzw (k:Nat):Ctr Tryz.prog k 48 (mk ZgE Qx ZgD) :=
 ZH (fn:=Tryz.f48) (Zi (Za (ZkT k) (Za (ZkY k) (Za (ZkZ k) (Za (Zx4 k) Ze))))) (by kernel_rfl) (by kernel_rfl) (ZB0 k)
noncomputable abbrev ZFx:Nat × Callee:=(48,mk ZgE Qx ZgD)
abbrev ZmF:List Kd:=[.view (.sl (.int .i64)),.view (.sl (.int .i64)),.view (.int .i64)]
noncomputable def ZDI (k:Nat):=WX k [ZIn,ZID]
def ZIk:Nat → Ann:=fun id => bif Nat.beq id 7 then ⟨[36,37,35,1,2,8,9],[]⟩ else ⟨[],[]⟩
abbrev ZwL:=Int × Int × List Int × List Int × Int × List Int × List Int
abbrev ZrF:=ZwL → Option ((List (Nat × Nat) × Int × Unit) × Unit)
def ZKn:ZwL → St
 | (v0,v1,v2,v3,v4,v5,v6) => St.mk (ZE [(36,Zr v0),(37,Zr v1),(35,Yk v2),(1,Yk v3),(2,Zr v4),(8,AV.own 8192),(9,AV.own 8193)]) (ZD [(8192,rsA v5 false),(8193,rsA v6 false)])
def Zbw (k:Nat) (L1:ZrF):ZrF
 | (v0,v1,v2,v3,v4,v5,v6) => bif decide (v1 < v0) then bif decide (0 ≤ v1 ∧ v1 < Int.ofNat v2.length) then bif decide (0 ≤ v1 ∧ v1 < Int.ofNat v3.length) then bif decide ((if v3.getD v1.toNat 0 < v2.getD v1.toNat 0 then v3.getD v1.toNat 0 else v2.getD v1.toNat 0) < -67108864) then some (([],12,()),()) else bif decide ((67108864:Int) < if v2.getD v1.toNat 0 < v3.getD v1.toNat 0 then v3.getD v1.toNat 0 else v2.getD v1.toNat 0) then some (([],12,()),()) else bif v4 == 0 then bif decide (0 ≤ v1 ∧ v1 < Int.ofNat v5.length) then bif decide (v1.toNat < v5.length) then bif decide (0 ≤ v1 ∧ v1 < Int.ofNat v6.length) then bif decide (v1.toNat < v6.length) then L1 (v0,IntKind.i64.wrap (v1 + 1),v2,v3,v4,v5.set v1.toNat (v2.getD v1.toNat 0),v6.set v1.toNat (v3.getD v1.toNat 0)) else none else none else none else none else bif v4 == 8 then bif decide (0 ≤ v1 ∧ v1 < Int.ofNat v5.length) then bif decide (v1.toNat < v5.length) then bif decide (0 ≤ v1 ∧ v1 < Int.ofNat v6.length) then bif decide (v1.toNat < v6.length) then L1 (v0,IntKind.i64.wrap (v1 + 1),v2,v3,v4,v5.set v1.toNat (v2.getD v1.toNat 0),v6.set v1.toNat (IntKind.i64.wrap (v2.getD v1.toNat 0 - v3.getD v1.toNat 0))) else none else none else none else none else bif v4 == 9 then bif decide (0 ≤ v1 ∧ v1 < Int.ofNat v5.length) then bif decide (v1.toNat < v5.length) then bif decide (0 ≤ v1 ∧ v1 < Int.ofNat v6.length) then bif decide (v1.toNat < v6.length) then L1 (v0,IntKind.i64.wrap (v1 + 1),v2,v3,v4,v5.set v1.toNat (IntKind.i64.wrap (v2.getD v1.toNat 0 + v3.getD v1.toNat 0)),v6.set v1.toNat (v3.getD v1.toNat 0)) else none else none else none else none else bif v4 == 10 then bif decide (0 ≤ v1 ∧ v1 < Int.ofNat v5.length) then bif decide (v1.toNat < v5.length) then bif decide (0 ≤ v1 ∧ v1 < Int.ofNat v6.length) then bif decide (v1.toNat < v6.length) then L1 (v0,IntKind.i64.wrap (v1 + 1),v2,v3,v4,v5.set v1.toNat ((IntKind.i64.wrap (IntKind.i64.wrap (Int.ofNat (BitVec.ofInt 64 (IntKind.i64.wrap (v2.getD v1.toNat 0 * (2:Int))) ||| BitVec.ofInt 64 (IntKind.i64.wrap (Int.ofNat (BitVec.ofInt 64 (v3.getD v1.toNat 0) &&& BitVec.ofInt 64 (1:Int)).toNat))).toNat) + v3.getD v1.toNat 0)).fdiv (2:Int)),v6.set v1.toNat ((IntKind.i64.wrap (IntKind.i64.wrap (Int.ofNat (BitVec.ofInt 64 (IntKind.i64.wrap (v2.getD v1.toNat 0 * (2:Int))) ||| BitVec.ofInt 64 (IntKind.i64.wrap (Int.ofNat (BitVec.ofInt 64 (v3.getD v1.toNat 0) &&& BitVec.ofInt 64 (1:Int)).toNat))).toNat) - v3.getD v1.toNat 0)).fdiv (2:Int))) else none else none else none else none else L1 (v0,IntKind.i64.wrap (v1 + 1),v2,v3,v4,v5,v6) else none else none else (ZmH k (v5,v6,())).bind fun y => some ((y.1.1,y.1.2.1,()),())
def ZrG (k:Nat):ZrF:=Zs (fun L1 => Zbw k L1) k
noncomputable def Zx7 (k:Nat) (n:Nat) (v:ZwL) :=
 ZC (ZDI k) ZIk [] [1,1,1,0,1,0] [] (Xq Tryz.f49) (XQ (ZDI k) Tryz.f49 ZmF Zdg [] []) n (ZKn v)
def Zhc (k:Nat) (L1:ZrF):List Int × List Int × Int × Unit → Option ((List (Nat × Nat) × Int × Unit) × Unit)
 | (a0,a1,a2,()) => (Zpr k (a2,())).bind fun y => bif !y.1 then some (([],1,()),()) else bif Int.ofNat a0.length != Int.ofNat a1.length then some (([],1,()),()) else bif decide ((8192:Int) < Int.ofNat a0.length) then some (([],14,()),()) else bif decide ((0:Int) ≤ Int.ofNat a0.length ∧ Int.ofNat a0.length ≤ Int.ofNat a0.length ∧ Int.ofNat a0.length < (4294967296:Int)) then bif decide ((0:Int) ≤ Int.ofNat a0.length ∧ Int.ofNat a0.length ≤ Int.ofNat a0.length ∧ Int.ofNat a0.length < (4294967296:Int)) then L1 (Int.ofNat a0.length,(0:Int),a0,a1,a2,List.replicate (Int.ofNat a0.length).toNat (0:Int),List.replicate (Int.ofNat a0.length).toNat (0:Int)) else none else none
def ZmE (k:Nat):=Zhc k (ZrG k)
theorem ZDJ (k:Nat):∀ n,Zx7 k n = Zs (fun L1 => Zbw k L1) n :=
 Zn (fun v => by kernel_rfl) (fun n v => by
  obtain ⟨v0,v1,v2,v3,v4,v5,v6⟩:=v
  kernel_rfl)
theorem ZKo (k:Nat) (x:Kd.dens ZmF):ZG (ZDI k) ZIk Tryz.f49 ZmF Zdg x = ZmE k x:=by
 show _ = Zhc k (ZrG k) x
 rw [show ZrG k = Zx7 k k from (ZDJ k k).symm]
 obtain ⟨a0,⟨a1,⟨a2,⟨⟩⟩⟩⟩:=x
 kernel_rfl
theorem ZHa (k:Nat):Ctr Tryz.prog k 49 (mk ZmF Zdg ZmE) :=
 ZH (fn:=Tryz.f49) (Zi (Za (Zyb k) (Za (Zyx k) Ze))) (by kernel_rfl) (by kernel_rfl) (ZKo k)
noncomputable abbrev ZLS:Nat × Callee:=(49,mk ZmF Zdg ZmE)
noncomputable def ZLT (k:Nat):=WX k [ZDX]
def Zhd (k:Nat):List (Nat × Nat) × Unit → Option ((List Int × List Int × Int × Unit) × Unit)
 | (a0,()) => (ZmJ k (a0,0,())).bind fun y => some ((y.1.1,y.1.2.1,y.1.2.2.1,()),())
def ZmG (k:Nat):=Zhd k
theorem ZKp (k:Nat) (x:Kd.dens Wu):ZG (ZLT k) nA Tryz.f50 Wu ZfS x = ZmG k x:=by
 show _ = Zhd k x
 obtain ⟨a0,⟨⟩⟩:=x
 kernel_rfl
theorem ZHb (k:Nat):Ctr Tryz.prog k 50 (mk Wu ZfS ZmG) :=
 ZH (fn:=Tryz.f50) (Zi (Za (ZrN k) Ze)) (by kernel_rfl) (by kernel_rfl) (ZKp k)
noncomputable abbrev ZLU:Nat × Callee:=(50,mk Wu ZfS ZmG)
abbrev Zmn:List Kd:=[.view shapeT,.view (.sl (.int .u8))]
abbrev Zrn:Kd:=.tup [.view frameT,.view (.int .i64),.view (.int .i64)]
noncomputable def ZDd (k:Nat):=WX k [ZH6,ZIc,ZIg,ZLL,ZLN,ZLO,ZLP,ZFx,ZLS,ZLU,Zx8]
def ZH9:Nat → Ann:=fun id => bif Nat.beq id 10 then ⟨[55,56,54,8,11,4,12,2,9],[.cell 12 1 ((Ty.int IntKind.i64).sl)]⟩ else ⟨[],[]⟩
abbrev ZwB:=Int × Int × List Int × Int × Int × List Int × Int × List Int × Int × Int × Int × List (List Int) × Int × Int × Int
abbrev Zrl:=ZwB → Option (((Int × List (List Int) × Unit) × Int × Int × Unit) × Unit)
def ZJP:ZwB → St
 | (v0,v1,v2,v3,v4,v5,v6,v7,v8,v9,v10,v11,v12,v13,v14) => St.mk (ZE [(55,Zr v0),(56,Zr v1),(54,Yk v2),(8,AV.bx 8192 0),(11,Zr v3),(4,AV.bx 8194 0),(12,AV.bx 8195 0),(2,AV.bx 8197 0),(9,Zr v4)]) (ZD [(8192,WE [AV.val (PV.sl (Ty.int IntKind.u8) v5),AV.bx 8193 0,Zr v6]),(8193,WE [AV.val (PV.sl (Ty.int IntKind.u8) v7),Zr v8]),(8194,WE [Zr v9,AV.val (PV.v (Value.slice none (0:Nat) (0:Nat)))]),(8195,WE [Zr v10,AV.own 8196]),(8196,RS.live (Res.arr (Ty.int IntKind.i64).sl v11 false)),(8197,WE [Zr v12,Zr v13,Zr v14])])
noncomputable def Zc4 (k:Nat) (L1:Zrl):Zrl
 | (v0,v1,v2,v3,v4,v5,v6,v7,v8,v9,v10,v11,v12,v13,v14) => bif decide (v1 < v0) then bif decide (0 ≤ v1 ∧ v1 < Int.ofNat v2.length) then (Zus k ((v7,v8,()),v3,v2.getD v1.toNat 0,())).bind fun y => bif y.1.2.1 != 0 then some ((((0:Int),[],()),0,y.1.2.1,()),()) else bif decide (v11.length + [y.1.1].length < 2147483648) then L1 (v0,IntKind.i64.wrap (v1 + 1),v2,v3,v4,v5,v6,y.2.1.1,y.2.1.2.1,v9,v10,v11 ++ [y.1.1],v12,v13,v14) else none else none else (Zut k ((v7,v8,()),())).bind fun y => (ZgD k ((v5,(y.2.1.1,y.2.1.2.1,()),y.1,()),16,(),())).bind fun y => bif y.2.1.2.2.1 != 0 then some ((((0:Int),[],()),0,y.2.1.2.2.1,()),()) else bif decide ((1:Int) < v12) then bif v4 == 1 then bif decide ((0:Int) ≤ 0 ∧ (0:Int) < Int.ofNat v11.length) then bif decide ((0:Nat) < v11.length) then bif decide ((0:Int) ≤ 1 ∧ (1:Int) < Int.ofNat v11.length) then bif decide ((1:Nat) < v11.length) then (ZmE k (v11.getD 0 [],v11.getD 1 [],0,())).bind fun y_1 => bif y_1.1.2.1 != 0 then some ((((0:Int),[],()),0,y_1.1.2.1,()),()) else (ZmG k (y_1.1.1,())).bind fun y_2 => bif y_2.1.2.2.1 != 0 then some ((((0:Int),[],()),0,y_2.1.2.2.1,()),()) else (Zfc k ((v12,v13,v14,()),(v10,[y_2.1.1,y_2.1.2.1],()),())).bind fun y_3 => bif y_3.1 != 0 then some ((((0:Int),[],()),0,y_3.1,()),()) else (K4 k ((y.2.1.2.1.1,y.2.1.2.1.2.1,()),())).bind fun y => some (((v10,[y_2.1.1,y_2.1.2.1],()),IntKind.i64.wrap (Int.tdiv y.1 (8:Int)),0,()),()) else none else none else none else none else bif decide ((0:Int) ≤ 0 ∧ (0:Int) < Int.ofNat v11.length) then bif decide ((0:Nat) < v11.length) then bif decide ((0:Int) ≤ 1 ∧ (1:Int) < Int.ofNat v11.length) then bif decide ((1:Nat) < v11.length) then (ZmE k (v11.getD 0 [],v11.getD 1 [],v4,())).bind fun y_1 => bif y_1.1.2.1 != 0 then some ((((0:Int),[],()),0,y_1.1.2.1,()),()) else (ZmG k (y_1.1.1,())).bind fun y_2 => bif y_2.1.2.2.1 != 0 then some ((((0:Int),[],()),0,y_2.1.2.2.1,()),()) else (Zfc k ((v12,v13,v14,()),(v10,[y_2.1.1,y_2.1.2.1],()),())).bind fun y_3 => bif y_3.1 != 0 then some ((((0:Int),[],()),0,y_3.1,()),()) else (K4 k ((y.2.1.2.1.1,y.2.1.2.1.2.1,()),())).bind fun y => some (((v10,[y_2.1.1,y_2.1.2.1],()),IntKind.i64.wrap (Int.tdiv y.1 (8:Int)),0,()),()) else none else none else none else none else (Zfc k ((v12,v13,v14,()),(v10,v11,()),())).bind fun y_1 => bif y_1.1 != 0 then some ((((0:Int),[],()),0,y_1.1,()),()) else (K4 k ((y.2.1.2.1.1,y.2.1.2.1.2.1,()),())).bind fun y => some (((v10,v11,()),IntKind.i64.wrap (Int.tdiv y.1 (8:Int)),0,()),())
noncomputable def Zrm (k:Nat):Zrl:=Zs (fun L1 => Zc4 k L1) k
noncomputable def ZxT (k:Nat) (n:Nat) (v:ZwB) :=
 ZC (ZDd k) ZH9 [] [1,1,1,1,1,1,0,1,0] [] (Xq Tryz.f18) (XQ (ZDd k) Tryz.f18 Zmn Zrn [] []) n (ZJP v)
def ZgV (k:Nat) (L1:Zrl):(Int × Int × Int × Unit) × List Int × Unit → Option (((Int × List (List Int) × Unit) × Int × Int × Unit) × Unit)
 | ((a0,a1,a2,()),a3,()) => (ZoT k ((a0,a1,a2,()),())).bind fun y => bif y.1 != 0 then some ((((0:Int),[],()),0,y.1,()),()) else (Zuo k (a3,())).bind fun y => (Zpj k ((a3,(y.1.1,y.1.2.1,()),0,()),(a0,a1,a2,()),())).bind fun y => bif y.2.1.2.2.1 != 0 then some ((((0:Int),[],()),0,y.2.1.2.2.1,()),()) else (Zpg k ((a0,a1,a2,()),y.1.1,())).bind fun y_1 => L1 (Int.ofNat (List.length y_1.1),(0:Int),y_1.1,y.1.2.2.1,y.1.1,y.2.1.1,y.2.1.2.2.1,y.2.1.2.1.1,y.2.1.2.1.2.1,(0:Int),y.1.2.1,[],a0,a1,a2)
noncomputable def Zmm (k:Nat):=ZgV k (Zrm k)
theorem ZDe (k:Nat):∀ n,ZxT k n = Zs (fun L1 => Zc4 k L1) n :=
 Zn (fun v => by kernel_rfl) (fun n v => by
  obtain ⟨v0,v1,v2,v3,v4,v5,v6,v7,v8,v9,v10,v11,v12,v13,v14⟩:=v
  kernel_rfl)
theorem ZJQ (k:Nat) (x:Kd.dens Zmn):ZG (ZDd k) ZH9 Tryz.f18 Zmn Zrn x = Zmm k x:=by
 show _ = ZgV k (Zrm k) x
 rw [show Zrm k = ZxT k k from (ZDe k k).symm]
 obtain ⟨⟨a0,⟨a1,⟨a2,⟨⟩⟩⟩⟩,⟨a3,⟨⟩⟩⟩:=x
 kernel_rfl
theorem ZxU (k:Nat):Ctr Tryz.prog k 18 (mk Zmn Zrn Zmm) :=
 ZH (fn:=Tryz.f18) (Zi (Za (ZxN k) (Za (ZxZ k) (Za (Zx3 k) (Za (ZG5 k) (Za (ZG6 k) (Za (ZG7 k) (Za (ZG8 k) (Za (Zzw k) (Za (ZHa k) (Za (ZHb k) (Za (ZkT k) Ze)))))))))))) (by kernel_rfl) (by kernel_rfl) (ZJQ k)
noncomputable abbrev ZIa:Nat × Callee:=(18,mk Zmn Zrn Zmm)
noncomputable def ZLv (k:Nat):=WX k [ZH7,ZIa]
noncomputable def ZgG (k:Nat):Unit → Option (Bool × Unit)
 | () => (ZoX k (((1:Int),(8:Int),(44100:Int),()),((0:Int),[[(5:Int),(5:Int),(5:Int)]],()),())).bind fun y => bif y.1.2.1 != 0 then some (false,()) else bif Int.ofNat (List.length y.1.1) != 11 then some (false,()) else bif decide ((0:Int) ≤ 0 ∧ (0:Int) ≤ 6 ∧ (6:Int) ≤ Int.ofNat (List.length y.1.1)) then bif !(ByteArray.mk (List.map (fun n => UInt8.ofNat n.toNat) (List.drop 0 (List.take 6 y.1.1))).toArray).toList == (ByteArray.mk #[255,248,96,0,0,2]).toList then some (false,()) else (Zmm k (((1:Int),(8:Int),(44100:Int),()),y.1.1,())).bind fun y => bif y.1.2.2.1 == 0 then bif y.1.2.1 == 11 then bif Int.ofNat (List.length y.1.1.2.1) == 1 then bif decide ((0:Int) ≤ 0 ∧ (0:Int) < Int.ofNat (List.length y.1.1.2.1)) then bif Int.ofNat (List.length (List.getD y.1.1.2.1 (0:Nat) [])) == (3:Int) then bif decide ((0:Int) ≤ 0 ∧ (0:Int) < Int.ofNat (List.length y.1.1.2.1)) then bif decide ((0:Int) ≤ 2 ∧ (2:Int) < Int.ofNat (List.length (List.getD y.1.1.2.1 (0:Nat) []))) then some (List.getD (List.getD y.1.1.2.1 (0:Nat) []) (2:Nat) 0 == (5:Int),()) else none else none else some (false,()) else none else some (false,()) else some (false,()) else some (false,()) else none
noncomputable def ZlR (k:Nat):=ZgG k
theorem ZI0 (k:Nat) (x:Kd.dens Zc7):ZG (ZLv k) nA Tryz.f10 Zc7 Zx x = ZlR k x:=by
 show _ = ZgG k x
 obtain ⟨⟩:=x
 kernel_rfl
theorem ZFH (k:Nat):Ctr Tryz.prog k 10 (mk Zc7 Zx ZlR) :=
 ZH (fn:=Tryz.f10) (Zi (Za (ZxQ k) (Za (ZxU k) Ze))) (by kernel_rfl) (by kernel_rfl) (ZI0 k)
noncomputable abbrev ZLw:Nat × Callee:=(10,mk Zc7 Zx ZlR)
abbrev ZfQ:Kd:=.view frameT
def ZH8:Nat → Ann:=fun id => bif Nat.beq id 3 then ⟨[4,1,3,2],[.cell 3 1 ((Ty.int IntKind.i64).sl)]⟩ else ⟨[],[]⟩
abbrev Zwx:=Int × Int × List (List Int) × Int × List (List Int) × Int
abbrev Zrd:=Zwx → Option ((Int × List (List Int) × Unit) × Unit)
def ZJt:Zwx → St
 | (v0,v1,v2,v3,v4,v5) => St.mk (ZE [(4,Zr v0),(1,AV.bx 8192 0),(3,AV.bx 8193 0),(2,AV.bx 8195 0)]) (ZD [(8192,WE [Zr v1,AV.val (PV.sl (Ty.int IntKind.i64).sl v2)]),(8193,WE [Zr v3,AV.own 8194]),(8194,RS.live (Res.arr (Ty.int IntKind.i64).sl v4 false)),(8195,WE [Zr v5,AV.val (PV.v (Value.slice none (0:Nat) (0:Nat)))])])
def Zc3 (k:Nat) (L1:Zrd):Zrd
 | (v0,v1,v2,v3,v4,v5) => bif decide (v0 < Int.ofNat v2.length) then bif decide (0 ≤ v0 ∧ v0 < Int.ofNat v2.length) then bif decide ((0:Int) ≤ 0 ∧ (0:Int) ≤ IntKind.i64.wrap (Int.ofNat (List.length (v2.getD v0.toNat [])) + (2:Int)) ∧ IntKind.i64.wrap (Int.ofNat (List.length (v2.getD v0.toNat [])) + (2:Int)) < (4294967296:Int)) then bif decide (0 ≤ v0 ∧ v0 < Int.ofNat v2.length) then bif decide ((0:Nat) + List.length (v2.getD v0.toNat []) < 2147483648) then bif decide (v4.length + [List.replicate (0:Nat) (0:Int) ++ v2.getD v0.toNat []].length < 2147483648) then L1 (IntKind.i64.wrap (v0 + 1),v1,v2,v3,v4 ++ [List.replicate (0:Nat) (0:Int) ++ v2.getD v0.toNat []],v5) else none else none else none else none else none else some ((v3,v4,()),())
def Zre (k:Nat):Zrd:=Zs (fun L1 => Zc3 k L1) k
noncomputable def ZxS (k:Nat) (n:Nat) (v:Zwx) :=
 ZC (ZV k) ZH8 [] [1,1,0,1,0] [] (Xq Tryz.f15) (XQ (ZV k) Tryz.f15 YK ZfQ [] []) n (ZJt v)
def ZgT (k:Nat) (L1:Zrd):(Int × List (List Int) × Unit) × Unit → Option ((Int × List (List Int) × Unit) × Unit)
 | ((a0,a1,()),()) => L1 (0,a0,a1,a0,[],(0:Int))
def Zt2 (k:Nat):=ZgT k (Zre k)
theorem ZCU (k:Nat):∀ n,ZxS k n = Zs (fun L1 => Zc3 k L1) n :=
 Zn (fun v => by kernel_rfl) (fun n v => by
  obtain ⟨v0,v1,v2,v3,v4,v5⟩:=v
  kernel_rfl)
theorem ZJu (k:Nat) (x:Kd.dens YK):ZG (ZV k) ZH8 Tryz.f15 YK ZfQ x = Zt2 k x:=by
 show _ = ZgT k (Zre k) x
 rw [show Zre k = ZxS k k from (ZCU k k).symm]
 obtain ⟨⟨a0,⟨a1,⟨⟩⟩⟩,⟨⟩⟩:=x
 kernel_rfl
theorem ZGy (k:Nat):Ctr Tryz.prog k 15 (mk YK ZfQ Zt2) :=
 ZH (fn:=Tryz.f15) (Zi Ze) (by kernel_rfl) (by kernel_rfl) (ZJu k)
noncomputable abbrev ZLx:Nat × Callee:=(15,mk YK ZfQ Zt2)
def ZIl:Nat → Ann:=fun id => bif Nat.beq id 4 then ⟨[5,0,1],[]⟩ else ⟨[],[]⟩
abbrev ZwM:=Int × List Int × List Int
abbrev ZrH:=ZwM → Option (Bool × Unit)
def ZKr:ZwM → St
 | (v0,v1,v2) => St.mk (ZE [(5,Zr v0),(0,Yk v1),(1,Yk v2)]) (ZD [])
def Zdf (k:Nat) (L1:ZrH):ZrH
 | (v0,v1,v2) => bif decide (v0 < Int.ofNat v1.length) then bif decide (0 ≤ v0 ∧ v0 < Int.ofNat v1.length) then bif decide (0 ≤ v0 ∧ v0 < Int.ofNat v2.length) then bif v1.getD v0.toNat 0 != v2.getD v0.toNat 0 then some (false,()) else L1 (IntKind.i64.wrap (v0 + 1),v1,v2) else none else none else some (true,())
def ZrI (k:Nat):ZrH:=Zs (fun L1 => Zdf k L1) k
noncomputable def Zx9 (k:Nat) (n:Nat) (v:ZwM) :=
 ZC (ZV k) ZIl [] [1,1,0,1,0] [] (Xq Tryz.f58) (XQ (ZV k) Tryz.f58 ZaZ Zx [] []) n (ZKr v)
def Zhe (k:Nat) (L1:ZrH):List Int × List Int × Unit → Option (Bool × Unit)
 | (a0,a1,()) => bif Int.ofNat a0.length != Int.ofNat a1.length then some (false,()) else L1 (0,a0,a1)
def Zuw (k:Nat):=Zhe k (ZrI k)
theorem ZDM (k:Nat):∀ n,Zx9 k n = Zs (fun L1 => Zdf k L1) n :=
 Zn (fun v => by kernel_rfl) (fun n v => by
  obtain ⟨v0,v1,v2⟩:=v
  kernel_rfl)
theorem ZKs (k:Nat) (x:Kd.dens ZaZ):ZG (ZV k) ZIl Tryz.f58 ZaZ Zx x = Zuw k x:=by
 show _ = Zhe k (ZrI k) x
 rw [show ZrI k = Zx9 k k from (ZDM k k).symm]
 obtain ⟨a0,⟨a1,⟨⟩⟩⟩:=x
 kernel_rfl
theorem ZHc (k:Nat):Ctr Tryz.prog k 58 (mk ZaZ Zx Zuw) :=
 ZH (fn:=Tryz.f58) (Zi Ze) (by kernel_rfl) (by kernel_rfl) (ZKs k)
noncomputable abbrev ZLV:Nat × Callee:=(58,mk ZaZ Zx Zuw)
abbrev Zmu:List Kd:=[.view frameT,.view frameT]
noncomputable def ZDm (k:Nat):=WX k [ZLV]
def ZIb:Nat → Ann:=fun id => bif Nat.beq id 4 then ⟨[5,2,3],[]⟩ else ⟨[],[]⟩
abbrev ZwC:=Int × Int × List (List Int) × Int × List (List Int)
abbrev Zrp:=ZwC → Option (Bool × Unit)
def ZJX:ZwC → St
 | (v0,v1,v2,v3,v4) => St.mk (ZE [(5,Zr v0),(2,AV.bx 8192 0),(3,AV.bx 8193 0)]) (ZD [(8192,WE [Zr v1,AV.val (PV.sl (Ty.int IntKind.i64).sl v2)]),(8193,WE [Zr v3,AV.val (PV.sl (Ty.int IntKind.i64).sl v4)])])
def Zc5 (k:Nat) (L1:Zrp):Zrp
 | (v0,v1,v2,v3,v4) => bif decide (v0 < Int.ofNat v2.length) then bif decide (0 ≤ v0 ∧ v0 < Int.ofNat v2.length) then bif decide (0 ≤ v0 ∧ v0 < Int.ofNat v4.length) then (Zuw k (v2.getD v0.toNat [],v4.getD v0.toNat [],())).bind fun y => bif !y.1 then some (false,()) else L1 (IntKind.i64.wrap (v0 + 1),v1,v2,v3,v4) else none else none else some (true,())
def Zrq (k:Nat):Zrp:=Zs (fun L1 => Zc5 k L1) k
noncomputable def ZxW (k:Nat) (n:Nat) (v:ZwC) :=
 ZC (ZDm k) ZIb [] [1,1,0,1,0] [] (Xq Tryz.f20) (XQ (ZDm k) Tryz.f20 Zmu Zx [] []) n (ZJX v)
def ZgW (k:Nat) (L1:Zrp):(Int × List (List Int) × Unit) × (Int × List (List Int) × Unit) × Unit → Option (Bool × Unit)
 | ((a0,a1,()),(a2,a3,()),()) => bif a0 != a2 then some (false,()) else bif Int.ofNat a1.length != Int.ofNat a3.length then some (false,()) else L1 (0,a0,a1,a2,a3)
def Zub (k:Nat):=ZgW k (Zrq k)
theorem ZDn (k:Nat):∀ n,ZxW k n = Zs (fun L1 => Zc5 k L1) n :=
 Zn (fun v => by kernel_rfl) (fun n v => by
  obtain ⟨v0,v1,v2,v3,v4⟩:=v
  kernel_rfl)
theorem ZJY (k:Nat) (x:Kd.dens Zmu):ZG (ZDm k) ZIb Tryz.f20 Zmu Zx x = Zub k x:=by
 show _ = ZgW k (Zrq k) x
 rw [show Zrq k = ZxW k k from (ZDn k k).symm]
 obtain ⟨⟨a0,⟨a1,⟨⟩⟩⟩,⟨⟨a2,⟨a3,⟨⟩⟩⟩,⟨⟩⟩⟩:=x
 kernel_rfl
theorem ZGX (k:Nat):Ctr Tryz.prog k 20 (mk Zmu Zx Zub) :=
 ZH (fn:=Tryz.f20) (Zi (Za (ZHc k) Ze)) (by kernel_rfl) (by kernel_rfl) (ZJY k)
noncomputable abbrev ZLy:Nat × Callee:=(20,mk Zmu Zx Zub)
def Zud (k:Nat):(Int × List (List Int) × Unit) × Unit → Option ((Int × List (List Int) × Unit) × Unit)
 | ((a0,a1,()),()) => some ((a0,a1,()),())
def Zuc (k:Nat):=Zud k
theorem ZJZ (k:Nat) (x:Kd.dens YK):ZG (ZV k) nA Tryz.f21 YK ZfQ x = Zuc k x:=by
 show _ = Zud k x
 obtain ⟨⟨a0,⟨a1,⟨⟩⟩⟩,⟨⟩⟩:=x
 kernel_rfl
theorem ZGY (k:Nat):Ctr Tryz.prog k 21 (mk YK ZfQ Zuc) :=
 ZH (fn:=Tryz.f21) (Zi Ze) (by kernel_rfl) (by kernel_rfl) (ZJZ k)
noncomputable abbrev ZLz:Nat × Callee:=(21,mk YK ZfQ Zuc)
abbrev Zux:List Kd:=[.view shapeT,.view frameT,.view (.sl (.int .u8))]
noncomputable def ZKv (k:Nat):=WX k [ZLw,ZH7,ZLx,ZIa,ZLy,ZLz]
def ZLW:Nat → Ann:=fun id => bif Nat.beq id 10 then ⟨[12,7,3],[.«show» 7]⟩ else ⟨[],[]⟩
abbrev ZDQ:=Int × List Int × Int × Int × Int
abbrev Zyc:=ZDQ → Option (Bool × Unit)
def ZLX:ZDQ → St
 | (v0,v1,v2,v3,v4) => St.mk (ZE [(12,Zr v0),(7,AV.own 8192),(3,AV.bx 8193 0)]) (ZD [(8192,RS.live (Res.arr (Ty.int IntKind.u8) v1 true)),(8193,WE [Zr v2,Zr v3,Zr v4])])
noncomputable def ZkV (k:Nat) (L1:Zyc):Zyc
 | (v0,v1,v2,v3,v4) => bif decide (v0 < Int.ofNat v1.length) then bif decide ((0:Int) ≤ 0 ∧ (0:Int) ≤ v0 ∧ v0 ≤ Int.ofNat v1.length) then (Zmm k ((v2,v3,v4,()),List.drop 0 (List.take v0.toNat v1),())).bind fun y => bif y.1.2.2.1 != 10 then some (false,()) else bif y.1.2.1 != 0 then some (false,()) else L1 (IntKind.i64.wrap (IntKind.i64.wrap (v0 + 1) + IntKind.i64.wrap ((Int.ofNat v1.length).tdiv (20:Int))),v1,v2,v3,v4) else none else some (true,())
noncomputable def Zyd (k:Nat):Zyc:=Zs (fun L1 => ZkV k L1) k
noncomputable def ZDR (k:Nat) (n:Nat) (v:ZDQ) :=
 ZC (ZKv k) ZLW [] [1,1,1,1,1,1,0,1,0] [] (Xq Tryz.f5) (XQ (ZKv k) Tryz.f5 Zux Zx [] []) n (ZLX v)
noncomputable def ZkU (k:Nat) (L1:Zyc):(Int × Int × Int × Unit) × (Int × List (List Int) × Unit) × List Int × Unit → Option (Bool × Unit)
 | ((a0,a1,a2,()),(a3,a4,()),a5,()) => (ZlR k ()).bind fun y => bif !y.1 then (ZlR k ()).bind fun y => some (y.1,()) else bif decide ((1000:Int) < Int.ofNat a5.length) then (ZlR k ()).bind fun y => some (y.1,()) else (Zt2 k ((a3,a4,()),())).bind fun y => (ZoX k ((a0,a1,a2,()),(y.1.1,y.1.2.1,()),())).bind fun y => bif y.1.2.1 != 0 then some (Int.ofNat (List.length y.1.1) == 0,()) else bif decide ((0:Nat) + List.length y.1.1 < 2147483648) then bif decide (([] ++ y.1.1).length + a5.length < 2147483648) then (Zmm k ((a0,a1,a2,()),[] ++ y.1.1 ++ a5,())).bind fun y_1 => bif y_1.1.2.2.1 != 0 then some (false,()) else bif y_1.1.2.1 != Int.ofNat (List.length y.1.1) then some (false,()) else (Zuc k ((y_1.1.1.1,y_1.1.1.2.1,()),())).bind fun y_2 => (Zub k ((y_2.1.1,y_2.1.2.1,()),(a3,a4,()),())).bind fun y_3 => bif !y_3.1 then some (false,()) else L1 (0,y.1.1,a0,a1,a2) else none else none
noncomputable def f5_F (k:Nat):=ZkU k (Zyd k)
theorem ZHe (k:Nat):∀ n,ZDR k n = Zs (fun L1 => ZkV k L1) n :=
 Zn (fun v => by kernel_rfl) (fun n v => by
  obtain ⟨v0,v1,v2,v3,v4⟩:=v
  kernel_rfl)
theorem ZLY (k:Nat) (x:Kd.dens Zux):ZG (ZKv k) ZLW Tryz.f5 Zux Zx x = f5_F k x:=by
 show _ = ZkU k (Zyd k) x
 rw [show Zyd k = ZDR k k from (ZHe k k).symm]
 obtain ⟨⟨a0,⟨a1,⟨a2,⟨⟩⟩⟩⟩,⟨⟨a3,⟨a4,⟨⟩⟩⟩,⟨a5,⟨⟩⟩⟩⟩:=x
 kernel_rfl
theorem f5_ctr (k:Nat):Ctr Tryz.prog k 5 (mk Zux Zx f5_F) :=
 ZH (fn:=Tryz.f5) (Zi (Za (ZFH k) (Za (ZxQ k) (Za (ZGy k) (Za (ZxU k) (Za (ZGX k) (Za (ZGY k) Ze))))))) (by kernel_rfl) (by kernel_rfl) (ZLY k)
noncomputable abbrev ZMB:Nat × Callee:=(5,mk Zux Zx f5_F)
end Go.Sh
