/-
  What the row needs, part 9.
-/
import Derived.Test.YtgbhjfacjekhcaaGreatDoorXStreamBack8
import Derived.Test.YtgbhjfacjekhcaaGreatDoorProg
set_option linter.unusedSimpArgs false
set_option linter.unusedVariables false
set_option linter.unusedSectionVars false
namespace Go.Sh
open Go Go.Proofs
def deBruijnT:List Int:=[0,1,56,2,57,49,28,3,61,58,42,50,38,29,17,4,62,47,59,36,45,43,51,22,53,39,33,30,24,18,12,5,63,55,48,27,60,41,37,16,46,35,44,21,52,32,23,11,54,26,40,15,34,20,31,10,25,14,19,9,13,8,7,6]
instance frameGl:Gl:=⟨fun g => bif Nat.beq g 4 then (.u8,deBruijnT) else (.u8,[])⟩
abbrev Zoc:Ty:=.pair (.int .i64) (.pair (.int .i64) (.pair (.int .i64) .unit))
abbrev ZnK:Ty:=.pair (.int .i64) (.pair (.sl (.sl (.int .i64))) .unit)
abbrev Zjw:Ty:=.pair (.sl (.int .i64)) (.pair (.int .i64) .unit)
abbrev ZzJ:Ty:=.pair (.int .i64) (.pair (.int .i64) (.pair (.int .i64) (.pair (.sl (.int .i64)) (.pair Zjw (.pair (.sl (.int .i64)) (.pair (.int .i64) .unit))))))
abbrev ZQa:Ty:=.pair (.int .i64) (.pair (.int .i64) (.pair (.int .i64) .unit))
abbrev ZXz:Ty:=.pair (.int .i64) (.pair (.int .i64) (.pair (.sl ZQa) (.pair (.int .i64) .unit)))
theorem ZjB:Tryz.prog.follows .mixedOrders = true:=by kernel_rfl
abbrev Zk (v:Int):AV:=AV.val (PV.v (Value.int IntKind.i64 v))
abbrev YE (v:List Int):AV:=AV.val (PV.sl (Ty.int IntKind.i64) v)
abbrev avB (v:Bool):AV:=AV.val (PV.v (Value.bool v))
noncomputable abbrev Wg (f:Func):Code:=f.body.getD .skip
noncomputable def Wi (k:Nat) (l:List (Nat × Callee)) (live:Nat → List Nat:=fun _ => []):Ctx:={ P:=Tryz.prog,Φ:=phi l,k:=k,live:=live }
def nA:Nat → Ann:=fun _ => ⟨[],[]⟩
noncomputable abbrev ZC (C:Ctx) (A:Nat → Ann) (fn:Func) (pk:List Kd) (rk:Kd) (x:Kd.dens pk):=ZFP C A fn.ntmps (Wg fn) fn.results.toList pk rk (WC pk x) (ZLE pk rk)
noncomputable abbrev Wn (C:Ctx) (fn:Func) (pk:List Kd) (rk:Kd) (a:List AV) (b:List (List Nat)):=KT C fn.results.toList pk a b rk (ZLE pk rk)
noncomputable def ZYX (fn:Func):Bool:=fn.body.isSome && (!(fn.name == "runtime.NumGoroutine") && Yu Tryz.prog fn.ntmps (Wg fn))
abbrev QZ (l:List AV):RS:=RS.live (Res.box l)
abbrev rsA (v:List Int) (b:Bool):RS:=RS.live (Res.arr (Ty.int IntKind.i64) v b)
theorem ZD {l:List (Nat × Callee)} {live:Nat → List Nat} {A:Nat → Ann} {f k:Nat} {fn:Func} {pk:List Kd} {rk:Kd} {F:Nat → Kd.dens pk → Option (Ans pk rk)} (hC:∀ f cal,phi l f = some cal → Ctr Tryz.prog k f cal)
  (hf:Tryz.prog.funcs[f]? = some fn) (hq:ZYX fn = true)
  (h:∀ x,ZC (Wi k l live) A fn pk rk x = F k x):Ctr Tryz.prog k f (mk pk rk F) :=
 have hq1:(fn.body.isSome && (!(fn.name == "runtime.NumGoroutine") && Yu Tryz.prog fn.ntmps (Wg fn))) = true:=hq
 have hq2:=Bool.and_eq_true_iff.1 hq1
 have hq3:=Bool.and_eq_true_iff.1 hq2.2
 have hb:fn.body = some (Wg fn):=by
  cases e:fn.body with
  | none => rw [e] at hq2; exact absurd hq2.1 (by simp)
  | some c => show some c = some (fn.body.getD .skip); rw [e]; rfl
 ZTB (C:=Wi k l live) hC ZjB hf hb (by simpa using hq3.1) hq3.2 (fun x y e => (h x).trans e)
abbrev ZxM:List Kd:=[.view Zoc]
abbrev Zj:Kd:=.view (.int .i64)
noncomputable def Z8 (k:Nat):=Wi k []
def Zc6 (k:Nat):(Int × Int × Int × Unit) × Unit → Option (Int × Unit)
 | ((a0,a1,a2,()),()) => bif decide (a0 < 1) then some (2,()) else bif decide ((2:Int) < a0) then some (2,()) else bif decide (a1 < 4) then some (2,()) else bif decide ((24:Int) < a1) then some (2,()) else bif decide (a2 < 1) then some (2,()) else bif decide ((655350:Int) < a2) then some (2,()) else some (0,())
def Zkk (k:Nat):=Zc6 k
theorem ZVn (k:Nat) (x:Kd.dens ZxM):ZC (Z8 k) nA Tryz.f36 ZxM Zj x = Zkk k x:=by
 show _ = Zc6 k x
 obtain ⟨⟨a0,⟨a1,⟨a2,⟨⟩⟩⟩⟩,⟨⟩⟩:=x
 kernel_rfl
theorem Zpr (k:Nat):Ctr Tryz.prog k 36 (mk ZxM Zj Zkk) :=
 ZD (fn:=Tryz.f36) (Zg Zd) (by kernel_rfl) (by kernel_rfl) (ZVn k)
noncomputable abbrev ZGi:Nat × Callee:=(36,mk ZxM Zj Zkk)
abbrev Kh:List Kd:=[.view Zoc,.view ZnK]
noncomputable def ZsE (k:Nat):=Wi k [ZGi]
def ZGP:Nat → Ann:=fun id => bif Nat.beq id 17 then ⟨[68,69,67,2,63,62,61],[]⟩ else bif Nat.beq id 14 then ⟨[62,63,61,2],[]⟩ else bif Nat.beq id 8 then ⟨[42,43,41,6,3,2],[]⟩ else ⟨[],[]⟩
abbrev ZE5:=Int × Int × List Int × Int × Int × List (List Int) × Int × Int × Int
abbrev Zyr:=ZE5 → Option (Int × Unit)
abbrev ZE4:=Int × Int × List (List Int) × Int × Int × Int
abbrev ZnB:=ZE4 → Option (Int × Unit)
abbrev ZE3:=Int × Int × List (List Int) × Int × Int × List (List Int) × Int × Int × Int
abbrev Zyq:=ZE3 → Option (Int × Unit)
def ZWf:ZE5 → St
 | (v0,v1,v2,v3,v4,v5,v6,v7,v8) => St.mk (Zw [(68,Zk v0),(69,Zk v1),(67,YE v2),(2,AV.bx 8192 0),(63,Zk v3),(62,Zk v4),(61,AV.val (PV.sl (Ty.int IntKind.i64).sl v5))]) (Zu [(8192,QZ [Zk v6,Zk v7,Zk v8])])
def ZdB (k:Nat) (L2:ZnB) (L3:Zyr):Zyr
 | (v0,v1,v2,v3,v4,v5,v6,v7,v8) => bif decide (v1 < v0) then bif decide (0 ≤ v1 ∧ v1 < Int.ofNat v2.length) then bif decide (0 ≤ IntKind.i64.wrap (v7 - 1)) then bif Int.fdiv (v2.getD v1.toNat 0) ((2:Int) ^ min (IntKind.i64.wrap (v7 - 1)).toNat 64) != (0:Int) then bif Int.fdiv (v2.getD v1.toNat 0) ((2:Int) ^ min (IntKind.i64.wrap (v7 - 1)).toNat 64) != (-1:Int) then some (12,()) else L3 (v0,IntKind.i64.wrap (v1 + 1),v2,v3,v4,v5,v6,v7,v8) else L3 (v0,IntKind.i64.wrap (v1 + 1),v2,v3,v4,v5,v6,v7,v8) else none else none else L2 (v4,IntKind.i64.wrap (v3 + 1),v5,v6,v7,v8)
def ZsG (k:Nat) (L2:ZnB):Zyr:=Zn (fun L3 => ZdB k L2 L3) k
noncomputable def Zp7 (k:Nat) (n2:Nat) (n:Nat) (v:ZE5):Option (Int × Unit) :=
 Zs (ZsE k) ZGP [] [1,1,1,1,1,0,1,0,0,1,1,0,0,1,1,0] [n2] (Wg Tryz.f64) (Wn (ZsE k) Tryz.f64 Kh Zj [] []) n (ZWf v)
def ZWe:ZE4 → St
 | (v0,v1,v2,v3,v4,v5) => St.mk (Zw [(62,Zk v0),(63,Zk v1),(61,AV.val (PV.sl (Ty.int IntKind.i64).sl v2)),(2,AV.bx 8192 0)]) (Zu [(8192,QZ [Zk v3,Zk v4,Zk v5])])
def ZdA (k:Nat) (L3:Zyr) (L2:ZnB):ZnB
 | (v0,v1,v2,v3,v4,v5) => bif decide (v1 < v0) then bif decide (0 ≤ v1 ∧ v1 < Int.ofNat v2.length) then L3 (Int.ofNat (List.length (v2.getD v1.toNat [])),(0:Int),v2.getD v1.toNat [],v1,v0,v2,v3,v4,v5) else none else some (0,())
def Zf8 (k:Nat):ZnB:=Zn (fun L2 => ZdA k (ZsG k L2) L2) k
noncomputable def Zls (k:Nat) (n:Nat) (v:ZE4) :=
 Zs (ZsE k) ZGP [] [1,1,1,1,1,0,1,0] [] (Wg Tryz.f64) (Wn (ZsE k) Tryz.f64 Kh Zj [] []) n (ZWe v)
def ZWd:ZE3 → St
 | (v0,v1,v2,v3,v4,v5,v6,v7,v8) => St.mk (Zw [(42,Zk v0),(43,Zk v1),(41,AV.val (PV.sl (Ty.int IntKind.i64).sl v2)),(6,Zk v3),(3,AV.bx 8192 0),(2,AV.bx 8193 0)]) (Zu [(8192,QZ [Zk v4,AV.val (PV.sl (Ty.int IntKind.i64).sl v5)]),(8193,QZ [Zk v6,Zk v7,Zk v8])])
def Zdz (k:Nat) (L2:ZnB) (L1:Zyq):Zyq
 | (v0,v1,v2,v3,v4,v5,v6,v7,v8) => bif decide (v1 < v0) then bif decide (0 ≤ v1 ∧ v1 < Int.ofNat v2.length) then bif Int.ofNat (List.length (v2.getD v1.toNat [])) != v3 then some (1,()) else bif decide (v3 < 1) then some (1,()) else bif decide ((512:Int) < v3) then some (1,()) else L1 (v0,IntKind.i64.wrap (v1 + 1),v2,v3,v4,v5,v6,v7,v8) else none else L2 (Int.ofNat v5.length,(0:Int),v5,v6,v7,v8)
def ZsF (k:Nat):Zyq:=Zn (fun L1 => Zdz k (Zf8 k) L1) k
noncomputable def ZGQ (k:Nat) (n:Nat) (v:ZE3) :=
 Zs (ZsE k) ZGP [] [1,1,1,1,0,1,0] [] (Wg Tryz.f64) (Wn (ZsE k) Tryz.f64 Kh Zj [] []) n (ZWd v)
def Zlt (k:Nat) (L1:Zyq):(Int × Int × Int × Unit) × (Int × List (List Int) × Unit) × Unit → Option (Int × Unit)
 | ((a0,a1,a2,()),(a3,a4,()),()) => (Zkk k ((a0,a1,a2,()),())).bind fun y => bif y.1 != 0 then some (y.1,()) else bif decide (a3 < 0) then some (1,()) else bif decide ((2147483647:Int) < a3) then some (1,()) else bif Int.ofNat a4.length != a0 then some (1,()) else bif decide ((0:Int) ≤ 0 ∧ (0:Int) < Int.ofNat a4.length) then L1 (Int.ofNat a4.length,(0:Int),a4,Int.ofNat (List.length (a4.getD 0 [])),a3,a4,a0,a1,a2) else none
def ZiB (k:Nat):=Zlt k (ZsF k)
theorem ZOv (k:Nat) (n2:Nat):∀ n,Zp7 k n2 n = Zn (fun L3 => ZdB k (Zls k n2) L3) n :=
 Zh (fun v => by kernel_rfl) (fun n v => by
  show Zp7 k n2 (n + 1) v = ZdB k (Zls k n2) (Zp7 k n2 n) v
  obtain ⟨v0,v1,v2,v3,v4,v5,v6,v7,v8⟩:=v
  kernel_rfl)
theorem ZOu (k:Nat):∀ n,Zls k n = Zn (fun L2 => ZdA k (ZsG k L2) L2) n :=
 Zh (fun v => by kernel_rfl) (fun n v => by
  rw [show (ZsG k (Zls k n)) = Zp7 k n k from (ZOv k n k).symm]
  obtain ⟨v0,v1,v2,v3,v4,v5⟩:=v
  kernel_rfl)
theorem ZOt (k:Nat):∀ n,ZGQ k n = Zn (fun L1 => Zdz k (Zf8 k) L1) n :=
 Zh (fun v => by kernel_rfl) (fun n v => by
  rw [show (Zf8 k) = Zls k k from (ZOu k k).symm]
  obtain ⟨v0,v1,v2,v3,v4,v5,v6,v7,v8⟩:=v
  kernel_rfl)
theorem ZWg (k:Nat) (x:Kd.dens Kh):ZC (ZsE k) ZGP Tryz.f64 Kh Zj x = ZiB k x:=by
 show _ = Zlt k (ZsF k) x
 rw [show ZsF k = ZGQ k k from (ZOt k k).symm]
 obtain ⟨⟨a0,⟨a1,⟨a2,⟨⟩⟩⟩⟩,⟨⟨a3,⟨a4,⟨⟩⟩⟩,⟨⟩⟩⟩:=x
 kernel_rfl
theorem ZGR (k:Nat):Ctr Tryz.prog k 64 (mk Kh Zj ZiB) :=
 ZD (fn:=Tryz.f64) (Zg (Za (Zpr k) Zd)) (by kernel_rfl) (by kernel_rfl) (ZWg k)
noncomputable abbrev ZUl:Nat × Callee:=(64,mk Kh Zj ZiB)
abbrev ZcP:List Kd:=[.view (.sl (.int .i64)),.view (.sl (.int .i64))]
abbrev Zgf:Kd:=.tup [.view (.sl (.cx .f64)),.view (.int .i64)]
def ZUw:Nat → Ann:=fun id => bif Nat.beq id 7 then ⟨[21,22,20,1,6],[.slot 6 ((Ty.cx FloatKind.f64))]⟩ else ⟨[],[]⟩
abbrev ZFc:=Int × Int × List Int × List Int × List (Nat × Nat)
abbrev ZyK:=ZFc → Option ((List (Nat × Nat) × Int × Unit) × Unit)
def ZWG:ZFc → St
 | (v0,v1,v2,v3,v4) => St.mk (Zw [(21,Zk v0),(22,Zk v1),(20,YE v2),(1,YE v3),(6,AV.own 8192)]) (Zu [(8192,RS.live (Res.arr (Ty.cx FloatKind.f64) v4 false))])
def Zat (k:Nat) (L1:ZyK):ZyK
 | (v0,v1,v2,v3,v4) => bif decide (v1 < v0) then bif decide (0 ≤ v1 ∧ v1 < Int.ofNat v2.length) then bif decide (0 ≤ v1 ∧ v1 < Int.ofNat v3.length) then bif decide (v2.getD v1.toNat 0 < (-16777216:Int)) then some (([],12,()),()) else bif decide ((16777216:Int) < v2.getD v1.toNat 0) then some (([],12,()),()) else bif decide (v3.getD v1.toNat 0 < (-16777216:Int)) then some (([],12,()),()) else bif decide ((16777216:Int) < v3.getD v1.toNat 0) then some (([],12,()),()) else bif decide (v4.length + [(FloatKind.f64.nearest (v2.getD v1.toNat 0),FloatKind.f64.nearest (v3.getD v1.toNat 0))].length < 2147483648) then L1 (v0,IntKind.i64.wrap (v1 + 1),v2,v3,v4 ++ [(FloatKind.f64.nearest (v2.getD v1.toNat 0),FloatKind.f64.nearest (v3.getD v1.toNat 0))]) else none else none else none else some ((v4,0,()),())
def ZsO (k:Nat):ZyK:=Zn (fun L1 => Zat k L1) k
noncomputable def ZG5 (k:Nat) (n:Nat) (v:ZFc) :=
 Zs (Z8 k) ZUw [] [1,1,1,0,1,0] [] (Wg Tryz.f129) (Wn (Z8 k) Tryz.f129 ZcP Zgf [] []) n (ZWG v)
def ZdE (k:Nat) (L1:ZyK):List Int × List Int × Unit → Option ((List (Nat × Nat) × Int × Unit) × Unit)
 | (a0,a1,()) => bif Int.ofNat a0.length != Int.ofNat a1.length then some (([],1,()),()) else bif decide ((8192:Int) < Int.ofNat a0.length) then some (([],14,()),()) else L1 (Int.ofNat a0.length,(0:Int),a0,a1,[])
def ZsN (k:Nat):=ZdE k (ZsO k)
theorem ZOR (k:Nat):∀ n,ZG5 k n = Zn (fun L1 => Zat k L1) n :=
 Zh (fun v => by kernel_rfl) (fun n v => by
  obtain ⟨v0,v1,v2,v3,v4⟩:=v
  kernel_rfl)
theorem ZWH (k:Nat) (x:Kd.dens ZcP):ZC (Z8 k) ZUw Tryz.f129 ZcP Zgf x = ZsN k x:=by
 show _ = ZdE k (ZsO k) x
 rw [show ZsO k = ZG5 k k from (ZOR k k).symm]
 obtain ⟨a0,⟨a1,⟨⟩⟩⟩:=x
 kernel_rfl
theorem ZG6 (k:Nat):Ctr Tryz.prog k 129 (mk ZcP Zgf ZsN) :=
 ZD (fn:=Tryz.f129) (Zg Zd) (by kernel_rfl) (by kernel_rfl) (ZWH k)
noncomputable abbrev ZUx:Nat × Callee:=(129,mk ZcP Zgf ZsN)
abbrev ZB:List Kd:=[.view (.int .i64)]
abbrev ZF:Kd:=.view .bool
def ZBQ (k:Nat):Int × Unit → Option (Bool × Unit)
 | (a0,()) => bif a0 == 0 then some (true,()) else bif decide (8 ≤ a0) then some (decide (a0 ≤ 10),()) else some (false,())
def Zwb (k:Nat):=ZBQ k
theorem ZXf (k:Nat) (x:Kd.dens ZB):ZC (Z8 k) nA Tryz.f128 ZB ZF x = Zwb k x:=by
 show _ = ZBQ k x
 obtain ⟨a0,⟨⟩⟩:=x
 kernel_rfl
theorem ZHp (k:Nat):Ctr Tryz.prog k 128 (mk ZB ZF Zwb) :=
 ZD (fn:=Tryz.f128) (Zg Zd) (by kernel_rfl) (by kernel_rfl) (ZXf k)
noncomputable abbrev ZUN:Nat × Callee:=(128,mk ZB ZF Zwb)
abbrev QA:List Kd:=[.view (.fl .f64)]
abbrev Q5:Kd:=.view (.fl .f64)
def ZhE (k:Nat):Nat × Unit → Option (Nat × Unit)
 | (a0,()) => some ((IntKind.u64.wrap (Int.ofNat (BitVec.ofInt 64 (Int.ofNat a0) &&& ~~~BitVec.ofInt 64 (9223372036854775808:Int)).toNat)).toNat,())
def ZfJ (k:Nat):=ZhE k
theorem ZRH (k:Nat) (x:Kd.dens QA):ZC (Z8 k) nA Tryz.f225 QA Q5 x = ZfJ k x:=by
 show _ = ZhE k x
 obtain ⟨a0,⟨⟩⟩:=x
 kernel_rfl
theorem Zrc (k:Nat):Ctr Tryz.prog k 225 (mk QA Q5 ZfJ) :=
 ZD (fn:=Tryz.f225) (Zg Zd) (by kernel_rfl) (by kernel_rfl) (ZRH k)
noncomputable abbrev ZDS:Nat × Callee:=(225,mk QA Q5 ZfJ)
abbrev ZpX:List Kd:=[.view (.fl .f64),.view (.fl .f64)]
def Zvw (k:Nat):Nat × Nat × Unit → Option (Nat × Unit)
 | (a0,a1,()) => some ((IntKind.u64.wrap (Int.ofNat (BitVec.ofInt 64 (IntKind.u64.wrap (Int.ofNat (BitVec.ofInt 64 (Int.ofNat a0) &&& ~~~BitVec.ofInt 64 (9223372036854775808:Int)).toNat)) ||| BitVec.ofInt 64 (IntKind.u64.wrap (Int.ofNat (BitVec.ofInt 64 (Int.ofNat a1) &&& BitVec.ofInt 64 (9223372036854775808:Int)).toNat))).toNat)).toNat,())
def ZrF (k:Nat):=Zvw k
theorem ZSm (k:Nat) (x:Kd.dens ZpX):ZC (Z8 k) nA Tryz.f269 ZpX Q5 x = ZrF k x:=by
 show _ = Zvw k x
 obtain ⟨a0,⟨a1,⟨⟩⟩⟩:=x
 kernel_rfl
theorem ZBf (k:Nat):Ctr Tryz.prog k 269 (mk ZpX Q5 ZrF) :=
 ZD (fn:=Tryz.f269) (Zg Zd) (by kernel_rfl) (by kernel_rfl) (ZSm k)
noncomputable abbrev ZNg:Nat × Callee:=(269,mk ZpX Q5 ZrF)
noncomputable def ZVR (k:Nat):=Wi k [ZDS,ZNg]
def Zvr (k:Nat):Nat × Unit → Option (Nat × Unit)
 | (a0,()) => (ZfJ k (a0,())).bind fun y => bif FloatKind.f64.format.order y.1 (4607182418800017408:Nat) == some Ordering.lt then (ZrF k (0,a0,())).bind fun y => some (y.1,()) else bif decide (IntKind.u64.wrap (IntKind.u64.wrap (Int.ofNat (BitVec.ofInt 64 ((Int.ofNat a0).fdiv (4503599627370496:Int)) &&& BitVec.ofInt 64 (2047:Int)).toNat) - 1023) < (52:Int)) then bif decide (0 ≤ IntKind.u64.wrap ((52:Int) - IntKind.u64.wrap (IntKind.u64.wrap (Int.ofNat (BitVec.ofInt 64 ((Int.ofNat a0).fdiv (4503599627370496:Int)) &&& BitVec.ofInt 64 (2047:Int)).toNat) - 1023))) then some ((IntKind.u64.wrap (Int.ofNat (BitVec.ofInt 64 (Int.ofNat a0) &&& ~~~BitVec.ofInt 64 (IntKind.u64.wrap (IntKind.u64.wrap ((1:Int) * (2:Int) ^ min (IntKind.u64.wrap ((52:Int) - IntKind.u64.wrap (IntKind.u64.wrap (Int.ofNat (BitVec.ofInt 64 ((Int.ofNat a0).fdiv (4503599627370496:Int)) &&& BitVec.ofInt 64 (2047:Int)).toNat) - 1023))).toNat 64) - (1:Int)))).toNat)).toNat,()) else none else some ((Int.ofNat a0).toNat,())
def ZD8 (k:Nat):=Zvr k
theorem ZSa (k:Nat) (x:Kd.dens QA):ZC (ZVR k) nA Tryz.f259 QA Q5 x = ZD8 k x:=by
 show _ = Zvr k x
 obtain ⟨a0,⟨⟩⟩:=x
 kernel_rfl
theorem ZM2 (k:Nat):Ctr Tryz.prog k 259 (mk QA Q5 ZD8) :=
 ZD (fn:=Tryz.f259) (Zg (Za (Zrc k) (Za (ZBf k) Zd))) (by kernel_rfl) (by kernel_rfl) (ZSa k)
noncomputable abbrev ZVS:Nat × Callee:=(259,mk QA Q5 ZD8)
noncomputable def ZVu (k:Nat):=Wi k [ZVS]
def ZhC (k:Nat):Nat × Unit → Option (Nat × Unit)
 | (a0,()) => (WU Ieee.Toward.zero a0).bind fun y => some (y,())
def ZfI (k:Nat):=ZhC k
theorem ZRF (k:Nat) (x:Kd.dens QA):ZC (ZVu k) nA Tryz.f223 QA Q5 x = ZfI k x:=by
 show _ = ZhC k x
 obtain ⟨a0,⟨⟩⟩:=x
 kernel_rfl
theorem ZAM (k:Nat):Ctr Tryz.prog k 223 (mk QA Q5 ZfI) :=
 ZD (fn:=Tryz.f223) (Zg (Za (ZM2 k) Zd)) (by kernel_rfl) (by kernel_rfl) (ZRF k)
noncomputable abbrev ZMu:Nat × Callee:=(223,mk QA Q5 ZfI)
abbrev ZpH:List Kd:=[.view (.fl .f64),.view (.int .i64)]
noncomputable def ZVv (k:Nat):=Wi k [ZDS]
def ZhD (k:Nat):Nat × Int × Unit → Option (Bool × Unit)
 | (a0,a1,()) => bif a1 == 0 then (ZfJ k (a0,())).bind fun y => some (FloatKind.f64.format.order y.1 (9218868437227405311:Nat) == some Ordering.gt,()) else bif decide (a1 < 0) then some (FloatKind.f64.format.order (a0 ^^^ (9223372036854775808:Nat)) (9218868437227405311:Nat) == some Ordering.gt,()) else some (FloatKind.f64.format.order a0 (9218868437227405311:Nat) == some Ordering.gt,())
def Znf (k:Nat):=ZhD k
theorem ZRG (k:Nat) (x:Kd.dens ZpH):ZC (ZVv k) nA Tryz.f224 ZpH ZF x = Znf k x:=by
 show _ = ZhD k x
 obtain ⟨a0,⟨a1,⟨⟩⟩⟩:=x
 kernel_rfl
theorem ZAO (k:Nat):Ctr Tryz.prog k 224 (mk ZpH ZF Znf) :=
 ZD (fn:=Tryz.f224) (Zg (Za (Zrc k) Zd)) (by kernel_rfl) (by kernel_rfl) (ZRG k)
noncomputable abbrev ZMv:Nat × Callee:=(224,mk ZpH ZF Znf)
abbrev W3:List Kd:=[.view (.sl (.cx .f64))]
noncomputable def Zi9 (k:Nat):=Wi k [ZMu,ZMv,ZDS]
def Zxt:Nat → Ann:=fun id => bif Nat.beq id 14 then ⟨[37,38,36],[]⟩ else bif Nat.beq id 7 then ⟨[23,22,14,13,12,0],[]⟩ else bif Nat.beq id 4 then ⟨[13,14,12,0],[]⟩ else ⟨[],[]⟩
abbrev Zxv:=Int × Nat × Nat × Int × Int × List (Nat × Nat) × List (Nat × Nat)
abbrev Zo8:=Zxv → Option (Int × Unit)
abbrev Zxw:=Int × Int × List (Nat × Nat)
abbrev Zo9:=Zxw → Option (Int × Unit)
abbrev Zxu:=Int × Int × List (Nat × Nat) × List (Nat × Nat)
abbrev Zg6:=Zxu → Option (Int × Unit)
def ZQR:Zxv → St
 | (v0,v1,v2,v3,v4,v5,v6) => St.mk (Zw [(23,Zk v0),(22,AV.agg [AV.val (PV.v (Value.float FloatKind.f64 v1)),AV.val (PV.v (Value.float FloatKind.f64 v2))]),(14,Zk v3),(13,Zk v4),(12,AV.val (PV.sl (Ty.cx FloatKind.f64) v5)),(0,AV.val (PV.sl (Ty.cx FloatKind.f64) v6))]) (Zu [])
def Za6 (k:Nat) (L1:Zg6) (L2:Zo8):Zo8
 | (v0,v1,v2,v3,v4,v5,v6) => bif decide (v0 < 2) then bif decide (0 ≤ v0 ∧ v0 < 2) then (ZfI k ([v1,v2].getD v0.toNat 0,())).bind fun y => bif FloatKind.f64.format.order y.1 ([v1,v2].getD v0.toNat 0) != some Ordering.eq then some (2,()) else (Znf k ([v1,v2].getD v0.toNat 0,0,())).bind fun y => bif y.1 then some (2,()) else L2 (IntKind.i64.wrap (v0 + 1),v1,v2,v3,v4,v5,v6) else none else L1 (v4,IntKind.i64.wrap (v3 + 1),v5,v6)
def Zj9 (k:Nat) (L1:Zg6):Zo8:=Zn (fun L2 => Za6 k L1 L2) k
noncomputable def Zkb (k:Nat) (n1:Nat) (n:Nat) (v:Zxv):Option (Int × Unit) :=
 Zs (Zi9 k) Zxt [] [1,1,0,1,0,0,1,1,0,0,1,1,0] [n1] (Wg Tryz.f174) (Wn (Zi9 k) Tryz.f174 W3 Zj [] []) n (ZQR v)
def ZQS:Zxw → St
 | (v0,v1,v2) => St.mk (Zw [(37,Zk v0),(38,Zk v1),(36,AV.val (PV.sl (Ty.cx FloatKind.f64) v2))]) (Zu [])
def Zc0 (k:Nat) (L3:Zo9):Zo9
 | (v0,v1,v2) => bif decide (v1 < v0) then bif decide (0 ≤ v1 ∧ v1 < Int.ofNat v2.length) then (ZfJ k ((v2.getD v1.toNat ((0:Nat),(0:Nat))).1,())).bind fun y => (ZfJ k ((v2.getD v1.toNat ((0:Nat),(0:Nat))).2,())).bind fun y_1 => (ZCl FloatKind.f64 y.1 y_1.1).bind fun y => bif FloatKind.f64.format.order y (4715268809856909312:Nat) == some Ordering.gt then some (12,()) else L3 (v0,IntKind.i64.wrap (v1 + 1),v2) else none else some (0,())
def Zka (k:Nat):Zo9:=Zn (fun L3 => Zc0 k L3) k
noncomputable def ZAn (k:Nat) (n:Nat) (v:Zxw) :=
 Zs (Zi9 k) Zxt [] [1,1,1,0,1,0] [] (Wg Tryz.f174) (Wn (Zi9 k) Tryz.f174 W3 Zj [] []) n (ZQS v)
def ZQQ:Zxu → St
 | (v0,v1,v2,v3) => St.mk (Zw [(13,Zk v0),(14,Zk v1),(12,AV.val (PV.sl (Ty.cx FloatKind.f64) v2)),(0,AV.val (PV.sl (Ty.cx FloatKind.f64) v3))]) (Zu [])
def ZcZ (k:Nat) (L2:Zo8) (L3:Zo9) (L1:Zg6):Zg6
 | (v0,v1,v2,v3) => bif decide (v1 < v0) then bif decide (0 ≤ v1 ∧ v1 < Int.ofNat v2.length) then L2 (0,(v2.getD v1.toNat ((0:Nat),(0:Nat))).1,(v2.getD v1.toNat ((0:Nat),(0:Nat))).2,v1,v0,v2,v3) else none else L3 (Int.ofNat v3.length,(0:Int),v3)
def Zpa (k:Nat):Zg6:=Zn (fun L1 => ZcZ k (Zj9 k L1) (Zka k) L1) k
noncomputable def ZfA (k:Nat) (n:Nat) (v:Zxu) :=
 Zs (Zi9 k) Zxt [] [1,1,0,1,0] [] (Wg Tryz.f174) (Wn (Zi9 k) Tryz.f174 W3 Zj [] []) n (ZQQ v)
def Zg7 (k:Nat) (L1:Zg6):List (Nat × Nat) × Unit → Option (Int × Unit)
 | (a0,()) => bif decide ((8192:Int) < Int.ofNat a0.length) then some (14,()) else L1 (Int.ofNat a0.length,(0:Int),a0,a0)
def ZqZ (k:Nat):=Zg7 k (Zpa k)
theorem ZIn (k:Nat) (n1:Nat):∀ n,Zkb k n1 n = Zn (fun L2 => Za6 k (ZfA k n1) L2) n :=
 Zh (fun v => by kernel_rfl) (fun n v => by
  show Zkb k n1 (n + 1) v = Za6 k (ZfA k n1) (Zkb k n1 n) v
  obtain ⟨v0,v1,v2,v3,v4,v5,v6⟩:=v
  kernel_rfl)
theorem ZIo (k:Nat):∀ n,ZAn k n = Zn (fun L3 => Zc0 k L3) n :=
 Zh (fun v => by kernel_rfl) (fun n v => by
  obtain ⟨v0,v1,v2⟩:=v
  kernel_rfl)
theorem ZIm (k:Nat):∀ n,ZfA k n = Zn (fun L1 => ZcZ k (Zj9 k L1) (Zka k) L1) n :=
 Zh (fun v => by kernel_rfl) (fun n v => by
  rw [show (Zj9 k (ZfA k n)) = Zkb k n k from (ZIn k n k).symm,show (Zka k) = ZAn k k from (ZIo k k).symm]
  obtain ⟨v0,v1,v2,v3⟩:=v
  kernel_rfl)
theorem ZQT (k:Nat) (x:Kd.dens W3):ZC (Zi9 k) Zxt Tryz.f174 W3 Zj x = ZqZ k x:=by
 show _ = Zg7 k (Zpa k) x
 rw [show Zpa k = ZfA k k from (ZIm k k).symm]
 obtain ⟨a0,⟨⟩⟩:=x
 kernel_rfl
theorem ZLL (k:Nat):Ctr Tryz.prog k 174 (mk W3 Zj ZqZ) :=
 ZD (fn:=Tryz.f174) (Zg (Za (ZAM k) (Za (ZAO k) (Za (Zrc k) Zd)))) (by kernel_rfl) (by kernel_rfl) (ZQT k)
noncomputable abbrev ZU7:Nat × Callee:=(174,mk W3 Zj ZqZ)
abbrev Zpb:List Kd:=[.view (.cx .f64)]
def Zg8 (k:Nat):(Nat × Nat) × Unit → Option (Nat × Unit)
 | (a0,()) => (cMulBits a0.1 a0.2 (4607182418800017408:Nat) (4607182418800017408:Nat)).bind fun y => some (y.1,())
def Zja (k:Nat):=Zg8 k
theorem ZQU (k:Nat) (x:Kd.dens Zpb):ZC (Z8 k) nA Tryz.f175 Zpb Q5 x = Zja k x:=by
 show _ = Zg8 k x
 obtain ⟨a0,⟨⟩⟩:=x
 kernel_rfl
theorem ZLM (k:Nat):Ctr Tryz.prog k 175 (mk Zpb Q5 Zja) :=
 ZD (fn:=Tryz.f175) (Zg Zd) (by kernel_rfl) (by kernel_rfl) (ZQU k)
noncomputable abbrev ZU8:Nat × Callee:=(175,mk Zpb Q5 Zja)
def Zvs (k:Nat):Nat × Unit → Option (Bool × Unit)
 | (a0,()) => some (FloatKind.f64.format.order a0 a0 != some Ordering.eq,())
def Zx4 (k:Nat):=Zvs k
theorem ZSb (k:Nat) (x:Kd.dens QA):ZC (Z8 k) nA Tryz.f262 QA ZF x = Zx4 k x:=by
 show _ = Zvs k x
 obtain ⟨a0,⟨⟩⟩:=x
 kernel_rfl
theorem ZM3 (k:Nat):Ctr Tryz.prog k 262 (mk QA ZF Zx4) :=
 ZD (fn:=Tryz.f262) (Zg Zd) (by kernel_rfl) (by kernel_rfl) (ZSb k)
noncomputable abbrev ZVT:Nat × Callee:=(262,mk QA ZF Zx4)
abbrev Zx5:Kd:=.tup [.view (.fl .f64),.view (.fl .f64)]
noncomputable def ZVU (k:Nat):=Wi k [ZMu,ZNg]
def Zvt (k:Nat):Nat × Unit → Option ((Nat × Nat × Unit) × Unit)
 | (a0,()) => (ZfI k (a0,())).bind fun y => (floatBits BinOp.sub FloatKind.f64 a0 y.1).bind fun y_1 => (ZrF k (y_1,a0,())).bind fun y_2 => some ((y.1,y_2.1,()),())
def Zry (k:Nat):=Zvt k
theorem ZSc (k:Nat) (x:Kd.dens QA):ZC (ZVU k) nA Tryz.f263 QA Zx5 x = Zry k x:=by
 show _ = Zvt k x
 obtain ⟨a0,⟨⟩⟩:=x
 kernel_rfl
theorem ZM4 (k:Nat):Ctr Tryz.prog k 263 (mk QA Zx5 Zry) :=
 ZD (fn:=Tryz.f263) (Zg (Za (ZAM k) (Za (ZBf k) Zd))) (by kernel_rfl) (by kernel_rfl) (ZSc k)
noncomputable abbrev ZVV:Nat × Callee:=(263,mk QA Zx5 Zry)
noncomputable def ZVw (k:Nat):=Wi k [ZMv,ZVT,ZVV]
def Zvd (k:Nat):Nat × Unit → Option (Nat × Unit)
 | (a0,()) => bif FloatKind.f64.format.order a0 (0:Nat) == some Ordering.eq then some (a0,()) else (Zx4 k (a0,())).bind fun y => bif y.1 then some (a0,()) else (Znf k (a0,0,())).bind fun y => bif y.1 then some (a0,()) else bif FloatKind.f64.format.order a0 (0:Nat) == some Ordering.lt then (Zry k (a0 ^^^ (9223372036854775808:Nat),())).bind fun y => bif FloatKind.f64.format.order y.1.2.1 (0:Nat) != some Ordering.eq then (floatBits BinOp.add FloatKind.f64 y.1.1 (4607182418800017408:Nat)).bind fun y => some (y ^^^ (9223372036854775808:Nat),()) else some (y.1.1 ^^^ (9223372036854775808:Nat),()) else (Zry k (a0,())).bind fun y => some (y.1.1,())
def ZDT (k:Nat):=Zvd k
theorem ZRI (k:Nat) (x:Kd.dens QA):ZC (ZVw k) nA Tryz.f227 QA Q5 x = ZDT k x:=by
 show _ = Zvd k x
 obtain ⟨a0,⟨⟩⟩:=x
 kernel_rfl
theorem ZMw (k:Nat):Ctr Tryz.prog k 227 (mk QA Q5 ZDT) :=
 ZD (fn:=Tryz.f227) (Zg (Za (ZAO k) (Za (ZM3 k) (Za (ZM4 k) Zd)))) (by kernel_rfl) (by kernel_rfl) (ZRI k)
noncomputable abbrev ZVx:Nat × Callee:=(227,mk QA Q5 ZDT)
noncomputable def ZU9 (k:Nat):=Wi k [ZVx]
def Zg9 (k:Nat):Nat × Unit → Option (Nat × Unit)
 | (a0,()) => (WU Ieee.Toward.down a0).bind fun y => some (y,())
def Zq1 (k:Nat):=Zg9 k
theorem ZQV (k:Nat) (x:Kd.dens QA):ZC (ZU9 k) nA Tryz.f176 QA Q5 x = Zq1 k x:=by
 show _ = Zg9 k x
 obtain ⟨a0,⟨⟩⟩:=x
 kernel_rfl
theorem ZLN (k:Nat):Ctr Tryz.prog k 176 (mk QA Q5 Zq1) :=
 ZD (fn:=Tryz.f176) (Zg (Za (ZMw k) Zd)) (by kernel_rfl) (by kernel_rfl) (ZQV k)
noncomputable abbrev ZVa:Nat × Callee:=(176,mk QA Q5 Zq1)
abbrev ZsQ:List Kd:=[.view (.sl (.cx .f64)),.view (.int .i64)]
abbrev Zjq:Kd:=.tup [.view (.sl (.int .i64)),.view (.sl (.int .i64)),.view (.int .i64)]
noncomputable def ZOW (k:Nat):=Wi k [ZUN,ZU7,ZU8,ZVa]
def ZUz:Nat → Ann:=fun id => bif Nat.beq id 8 then ⟨[23,24,22,1,8,9],[.slot 8 ((Ty.int IntKind.i64)),.slot 9 ((Ty.int IntKind.i64))]⟩ else ⟨[],[]⟩
abbrev ZFf:=Int × Int × List (Nat × Nat) × Int × List Int × List Int
abbrev ZyM:=ZFf → Option ((List Int × List Int × Int × Unit) × Unit)
def ZWK:ZFf → St
 | (v0,v1,v2,v3,v4,v5) => St.mk (Zw [(23,Zk v0),(24,Zk v1),(22,AV.val (PV.sl (Ty.cx FloatKind.f64) v2)),(1,Zk v3),(8,AV.own 8192),(9,AV.own 8193)]) (Zu [(8192,rsA v4 false),(8193,rsA v5 false)])
def Zgh (k:Nat) (L1:ZyM):ZyM
 | (v0,v1,v2,v3,v4,v5) => bif decide (v1 < v0) then bif decide (0 ≤ v1 ∧ v1 < Int.ofNat v2.length) then bif v3 == 8 then (Zja k (((v2.getD v1.toNat ((0:Nat),(0:Nat))).1,(v2.getD v1.toNat ((0:Nat),(0:Nat))).2),())).bind fun y => (floatToIntVal FloatKind.f64 (v2.getD v1.toNat ((0:Nat),(0:Nat))).1 IntKind.i64).bind fun y_1 => bif decide (v4.length + [y_1].length < 2147483648) then (floatToIntVal FloatKind.f64 y.1 IntKind.i64).bind fun y => bif decide (v5.length + [y].length < 2147483648) then L1 (v0,IntKind.i64.wrap (v1 + 1),v2,v3,v4 ++ [y_1],v5 ++ [y]) else none else none else bif v3 == 9 then (Zja k (((v2.getD v1.toNat ((0:Nat),(0:Nat))).1,(v2.getD v1.toNat ((0:Nat),(0:Nat))).2),())).bind fun y => (floatToIntVal FloatKind.f64 y.1 IntKind.i64).bind fun y => bif decide (v4.length + [y].length < 2147483648) then (floatToIntVal FloatKind.f64 (v2.getD v1.toNat ((0:Nat),(0:Nat))).2 IntKind.i64).bind fun y_1 => bif decide (v5.length + [y_1].length < 2147483648) then L1 (v0,IntKind.i64.wrap (v1 + 1),v2,v3,v4 ++ [y],v5 ++ [y_1]) else none else none else bif v3 == 10 then (floatBits BinOp.add FloatKind.f64 (v2.getD v1.toNat ((0:Nat),(0:Nat))).1 (v2.getD v1.toNat ((0:Nat),(0:Nat))).2).bind fun y => (floatBits BinOp.quo FloatKind.f64 y (4611686018427387904:Nat)).bind fun y => (Zq1 k (y,())).bind fun y => (Zja k (((v2.getD v1.toNat ((0:Nat),(0:Nat))).1,(v2.getD v1.toNat ((0:Nat),(0:Nat))).2),())).bind fun y_1 => (floatToIntVal FloatKind.f64 y.1 IntKind.i64).bind fun y => bif decide (v4.length + [y].length < 2147483648) then (floatToIntVal FloatKind.f64 y_1.1 IntKind.i64).bind fun y_2 => bif decide (v5.length + [y_2].length < 2147483648) then L1 (v0,IntKind.i64.wrap (v1 + 1),v2,v3,v4 ++ [y],v5 ++ [y_2]) else none else none else (floatToIntVal FloatKind.f64 (v2.getD v1.toNat ((0:Nat),(0:Nat))).1 IntKind.i64).bind fun y => bif decide (v4.length + [y].length < 2147483648) then (floatToIntVal FloatKind.f64 (v2.getD v1.toNat ((0:Nat),(0:Nat))).2 IntKind.i64).bind fun y_1 => bif decide (v5.length + [y_1].length < 2147483648) then L1 (v0,IntKind.i64.wrap (v1 + 1),v2,v3,v4 ++ [y],v5 ++ [y_1]) else none else none else none else some ((v4,v5,0,()),())
def ZyN (k:Nat):ZyM:=Zn (fun L1 => Zgh k L1) k
noncomputable def ZG8 (k:Nat) (n:Nat) (v:ZFf) :=
 Zs (ZOW k) ZUz [] [1,1,1,1,0,1,0] [] (Wg Tryz.f130) (Wn (ZOW k) Tryz.f130 ZsQ Zjq [] []) n (ZWK v)
def ZlN (k:Nat) (L1:ZyM):List (Nat × Nat) × Int × Unit → Option ((List Int × List Int × Int × Unit) × Unit)
 | (a0,a1,()) => (Zwb k (a1,())).bind fun y => bif !y.1 then some (([],[],1,()),()) else (ZqZ k (a0,())).bind fun y => bif y.1 != 0 then some (([],[],y.1,()),()) else L1 (Int.ofNat a0.length,(0:Int),a0,a1,[],[])
def ZsP (k:Nat):=ZlN k (ZyN k)
theorem ZOX (k:Nat):∀ n,ZG8 k n = Zn (fun L1 => Zgh k L1) n :=
 Zh (fun v => by kernel_rfl) (fun n v => by
  obtain ⟨v0,v1,v2,v3,v4,v5⟩:=v
  kernel_rfl)
theorem ZWL (k:Nat) (x:Kd.dens ZsQ):ZC (ZOW k) ZUz Tryz.f130 ZsQ Zjq x = ZsP k x:=by
 show _ = ZlN k (ZyN k) x
 rw [show ZyN k = ZG8 k k from (ZOX k k).symm]
 obtain ⟨a0,⟨a1,⟨⟩⟩⟩:=x
 kernel_rfl
theorem ZyO (k:Nat):Ctr Tryz.prog k 130 (mk ZsQ Zjq ZsP) :=
 ZD (fn:=Tryz.f130) (Zg (Za (ZHp k) (Za (ZLL k) (Za (ZLM k) (Za (ZLN k) Zd))))) (by kernel_rfl) (by kernel_rfl) (ZWL k)
noncomputable abbrev ZOY:Nat × Callee:=(130,mk ZsQ Zjq ZsP)
abbrev ZaK:List Kd:=[.view (.sl (.int .i64))]
def ZUO:Nat → Ann:=fun id => bif Nat.beq id 3 then ⟨[8,9,7,3,4],[]⟩ else ⟨[],[]⟩
abbrev ZeU:=Int × Int × List Int × Int × Int
abbrev Zzc:=ZeU → Option (Int × Unit)
def ZXg:ZeU → St
 | (v0,v1,v2,v3,v4) => St.mk (Zw [(8,Zk v0),(9,Zk v1),(7,YE v2),(3,Zk v3),(4,Zk v4)]) (Zu [])
def Zgr (k:Nat) (L1:Zzc):Zzc
 | (v0,v1,v2,v3,v4) => bif decide (v1 < v0) then bif decide (0 ≤ v1 ∧ v1 < Int.ofNat v2.length) then L1 (v0,IntKind.i64.wrap (v1 + 1),v2,IntKind.i64.wrap (v3 + if IntKind.i64.wrap (v2.getD v1.toNat 0 - v4) < IntKind.i64.wrap (v4 - v2.getD v1.toNat 0) then IntKind.i64.wrap (v4 - v2.getD v1.toNat 0) else IntKind.i64.wrap (v2.getD v1.toNat 0 - v4)),v2.getD v1.toNat 0) else none else some (v3,())
def Zzd (k:Nat):Zzc:=Zn (fun L1 => Zgr k L1) k
noncomputable def ZHq (k:Nat) (n:Nat) (v:ZeU) :=
 Zs (Z8 k) ZUO [] [1,1,0,1,0] [] (Wg Tryz.f191) (Wn (Z8 k) Tryz.f191 ZaK Zj [] []) n (ZXg v)
def Zl9 (k:Nat) (L1:Zzc):List Int × Unit → Option (Int × Unit)
 | (a0,()) => L1 (Int.ofNat a0.length,(0:Int),a0,(0:Int),(0:Int))
def Zwc (k:Nat):=Zl9 k (Zzd k)
theorem ZPl (k:Nat):∀ n,ZHq k n = Zn (fun L1 => Zgr k L1) n :=
 Zh (fun v => by kernel_rfl) (fun n v => by
  obtain ⟨v0,v1,v2,v3,v4⟩:=v
  kernel_rfl)
theorem ZXh (k:Nat) (x:Kd.dens ZaK):ZC (Z8 k) ZUO Tryz.f191 ZaK Zj x = Zwc k x:=by
 show _ = Zl9 k (Zzd k) x
 rw [show Zzd k = ZHq k k from (ZPl k k).symm]
 obtain ⟨a0,⟨⟩⟩:=x
 kernel_rfl
theorem ZTx (k:Nat):Ctr Tryz.prog k 191 (mk ZaK Zj Zwc) :=
 ZD (fn:=Tryz.f191) (Zg Zd) (by kernel_rfl) (by kernel_rfl) (ZXh k)
noncomputable abbrev ZYA:Nat × Callee:=(191,mk ZaK Zj Zwc)
abbrev Z9:Kd:=.tup [.view (.int .i64),.view (.int .i64)]
noncomputable def ZOT (k:Nat):=Wi k [ZOY,ZYA]
def ZUy:Nat → Ann:=fun id => bif Nat.beq id 3 then ⟨[13,12,0,5,4],[]⟩ else ⟨[],[]⟩
abbrev ZFe:=Int × Int × Int × Int × Int × List (Nat × Nat) × Int × Int
abbrev ZyL:=ZFe → Option ((Int × Int × Unit) × Unit)
def ZWI:ZFe → St
 | (v0,v1,v2,v3,v4,v5,v6,v7) => St.mk (Zw [(13,Zk v0),(12,AV.agg [Zk v1,Zk v2,Zk v3,Zk v4]),(0,AV.val (PV.sl (Ty.cx FloatKind.f64) v5)),(5,Zk v6),(4,Zk v7)]) (Zu [])
def Zgg (k:Nat) (L1:ZyL):ZyL
 | (v0,v1,v2,v3,v4,v5,v6,v7) => bif decide (v0 < 4) then bif decide (0 ≤ v0 ∧ v0 < 4) then (ZsP k (v5,[v1,v2,v3,v4].getD v0.toNat (0:Int),())).bind fun y => bif y.1.2.2.1 != 0 then some ((0,y.1.2.2.1,()),()) else (Zwc k (y.1.1,())).bind fun y_1 => (Zwc k (y.1.2.1,())).bind fun y => bif decide (v6 < 0) then L1 (IntKind.i64.wrap (v0 + 1),v1,v2,v3,v4,v5,IntKind.i64.wrap (y_1.1 + y.1),[v1,v2,v3,v4].getD v0.toNat (0:Int)) else bif decide (IntKind.i64.wrap (y_1.1 + y.1) < v6) then L1 (IntKind.i64.wrap (v0 + 1),v1,v2,v3,v4,v5,IntKind.i64.wrap (y_1.1 + y.1),[v1,v2,v3,v4].getD v0.toNat (0:Int)) else L1 (IntKind.i64.wrap (v0 + 1),v1,v2,v3,v4,v5,v6,v7) else none else some ((v7,0,()),())
def ZFd (k:Nat):ZyL:=Zn (fun L1 => Zgg k L1) k
noncomputable def ZG7 (k:Nat) (n:Nat) (v:ZFe) :=
 Zs (ZOT k) ZUy [] [1,1,0,1,0] [] (Wg Tryz.f147) (Wn (ZOT k) Tryz.f147 W3 Z9 [] []) n (ZWI v)
def ZBE (k:Nat) (L1:ZyL):List (Nat × Nat) × Unit → Option ((Int × Int × Unit) × Unit)
 | (a0,()) => L1 (0,(0:Int),(8:Int),(9:Int),(10:Int),a0,(-1:Int),(0:Int))
def ZBD (k:Nat):=ZBE k (ZFd k)
theorem ZOU (k:Nat):∀ n,ZG7 k n = Zn (fun L1 => Zgg k L1) n :=
 Zh (fun v => by kernel_rfl) (fun n v => by
  obtain ⟨v0,v1,v2,v3,v4,v5,v6,v7⟩:=v
  kernel_rfl)
theorem ZWJ (k:Nat) (x:Kd.dens W3):ZC (ZOT k) ZUy Tryz.f147 W3 Z9 x = ZBD k x:=by
 show _ = ZBE k (ZFd k) x
 rw [show ZFd k = ZG7 k k from (ZOU k k).symm]
 obtain ⟨a0,⟨⟩⟩:=x
 kernel_rfl
theorem ZTm (k:Nat):Ctr Tryz.prog k 147 (mk W3 Z9 ZBD) :=
 ZD (fn:=Tryz.f147) (Zg (Za (ZyO k) (Za (ZTx k) Zd))) (by kernel_rfl) (by kernel_rfl) (ZWJ k)
noncomputable abbrev ZYm:Nat × Callee:=(147,mk W3 Z9 ZBD)
abbrev Zys:List Kd:=[.view ZnK]
abbrev ZE6:Kd:=.tup [.view (.sl (.sl (.int .i64))),.view (.int .i64),.view (.int .i64)]
noncomputable def ZX1 (k:Nat):=Wi k [ZUx,ZYm,ZOY]
def Zlu (k:Nat):(Int × List (List Int) × Unit) × Unit → Option ((List (List Int) × Int × Int × Unit) × Unit)
 | ((a0,a1,()),()) => bif Int.ofNat a1.length == (1:Int) then some ((a1,0,0,()),()) else bif decide ((0:Int) ≤ 0 ∧ (0:Int) < Int.ofNat a1.length) then bif decide ((0:Int) ≤ 1 ∧ (1:Int) < Int.ofNat a1.length) then (ZsN k (a1.getD 0 [],a1.getD 1 [],())).bind fun y => bif y.1.2.1 != 0 then some (([],0,y.1.2.1,()),()) else (ZBD k (y.1.1,())).bind fun y_1 => bif y_1.1.2.1 != 0 then some (([],0,y_1.1.2.1,()),()) else (ZsP k (y.1.1,y_1.1.1,())).bind fun y => bif y_1.1.1 == 0 then some (([y.1.1,y.1.2.1],1,y.1.2.2.1,()),()) else some (([y.1.1,y.1.2.1],y_1.1.1,y.1.2.2.1,()),()) else none else none
def ZBl (k:Nat):=Zlu k
theorem ZWh (k:Nat) (x:Kd.dens Zys):ZC (ZX1 k) nA Tryz.f92 Zys ZE6 x = ZBl k x:=by
 show _ = Zlu k x
 obtain ⟨⟨a0,⟨a1,⟨⟩⟩⟩,⟨⟩⟩:=x
 kernel_rfl
theorem ZTa (k:Nat):Ctr Tryz.prog k 92 (mk Zys ZE6 ZBl) :=
 ZD (fn:=Tryz.f92) (Zg (Za (ZG6 k) (Za (ZTm k) (Za (ZyO k) Zd)))) (by kernel_rfl) (by kernel_rfl) (ZWh k)
noncomputable abbrev ZX2:Nat × Callee:=(92,mk Zys ZE6 ZBl)
abbrev Zyt:List Kd:=[]
abbrev ZE7:Kd:=.box [.own (.int .u8) false,.view (.int .i64)]
def ZBm (k:Nat):Unit → Option ((List Int × Int × Unit) × Unit)
 | () => some (([],0,()),())
def ZoA (k:Nat):=ZBm k
theorem ZWi (k:Nat) (x:Kd.dens Zyt):ZC (Z8 k) nA Tryz.f93 Zyt ZE7 x = ZoA k x:=by
 show _ = ZBm k x
 obtain ⟨⟩:=x
 kernel_rfl
theorem ZGS (k:Nat):Ctr Tryz.prog k 93 (mk Zyt ZE7 ZoA) :=
 ZD (fn:=Tryz.f93) (Zg Zd) (by kernel_rfl) (by kernel_rfl) (ZWi k)
noncomputable abbrev ZUm:Nat × Callee:=(93,mk Zyt ZE7 ZoA)
def ZlO (k:Nat):Int × Unit → Option (Bool × Unit)
 | (a0,()) => bif decide (a0 < 0) then some (true,()) else some (decide ((32:Int) < a0),())
def ZsS (k:Nat):=ZlO k
theorem ZWM (k:Nat) (x:Kd.dens ZB):ZC (Z8 k) nA Tryz.f148 ZB ZF x = ZsS k x:=by
 show _ = ZlO k x
 obtain ⟨a0,⟨⟩⟩:=x
 kernel_rfl
theorem ZyP (k:Nat):Ctr Tryz.prog k 148 (mk ZB ZF ZsS) :=
 ZD (fn:=Tryz.f148) (Zg Zd) (by kernel_rfl) (by kernel_rfl) (ZWM k)
noncomputable abbrev ZUA:Nat × Callee:=(148,mk ZB ZF ZsS)
abbrev ZaS:List Kd:=[.box [.own (.int .u8) false,.view (.int .i64)],.view (.int .i64)]
abbrev QG:Kd:=.tup []
def Zha (k:Nat):(List Int × Int × Unit) × Int × Unit → Option (Unit × (List Int × Int × Unit) × Unit)
 | ((a0,a1,()),a2,()) => bif a1.tmod (8:Int) == 0 then bif decide (a0.length + (1:Nat) < (2147483648:Nat)) then bif decide (0 ≤ IntKind.i64.wrap (a1.tdiv (8:Int)) ∧ IntKind.i64.wrap (a1.tdiv (8:Int)) < Int.ofNat (a0 ++ [(0:Int)]).length) then bif decide ((IntKind.i64.wrap (a1.tdiv (8:Int))).toNat < (a0 ++ [(0:Int)]).length) then bif decide (0 ≤ IntKind.i64.wrap ((7:Int) - a1.tmod (8:Int))) then bif decide (0 ≤ IntKind.i64.wrap (a1.tdiv (8:Int)) ∧ IntKind.i64.wrap (a1.tdiv (8:Int)) < Int.ofNat (a0 ++ [(0:Int)]).length) then bif decide ((IntKind.i64.wrap (a1.tdiv (8:Int))).toNat < (a0 ++ [(0:Int)]).length) then some ((),((a0 ++ [(0:Int)]).set (IntKind.i64.wrap (a1.tdiv (8:Int))).toNat (IntKind.u8.wrap (Int.ofNat (BitVec.ofInt 8 ((a0 ++ [(0:Int)]).getD (IntKind.i64.wrap (a1.tdiv (8:Int))).toNat 0) ||| BitVec.ofInt 8 (IntKind.u8.wrap (IntKind.i64.wrap (a2 * (2:Int) ^ min (IntKind.i64.wrap ((7:Int) - a1.tmod (8:Int))).toNat 64)))).toNat)),IntKind.i64.wrap (a1 + 1),()),()) else none else none else none else none else none else none else bif decide (0 ≤ IntKind.i64.wrap (a1.tdiv (8:Int)) ∧ IntKind.i64.wrap (a1.tdiv (8:Int)) < Int.ofNat a0.length) then bif decide ((IntKind.i64.wrap (a1.tdiv (8:Int))).toNat < a0.length) then bif decide (0 ≤ IntKind.i64.wrap ((7:Int) - a1.tmod (8:Int))) then bif decide (0 ≤ IntKind.i64.wrap (a1.tdiv (8:Int)) ∧ IntKind.i64.wrap (a1.tdiv (8:Int)) < Int.ofNat a0.length) then bif decide ((IntKind.i64.wrap (a1.tdiv (8:Int))).toNat < a0.length) then some ((),(a0.set (IntKind.i64.wrap (a1.tdiv (8:Int))).toNat (IntKind.u8.wrap (Int.ofNat (BitVec.ofInt 8 (a0.getD (IntKind.i64.wrap (a1.tdiv (8:Int))).toNat 0) ||| BitVec.ofInt 8 (IntKind.u8.wrap (IntKind.i64.wrap (a2 * (2:Int) ^ min (IntKind.i64.wrap ((7:Int) - a1.tmod (8:Int))).toNat 64)))).toNat)),IntKind.i64.wrap (a1 + 1),()),()) else none else none else none else none else none
def Zjb (k:Nat):=Zha k
theorem ZQW (k:Nat) (x:Kd.dens ZaS):ZC (Z8 k) nA Tryz.f192 ZaS QG x = Zjb k x:=by
 show _ = Zha k x
 obtain ⟨⟨a0,⟨a1,⟨⟩⟩⟩,⟨a2,⟨⟩⟩⟩:=x
 kernel_rfl
theorem ZAo (k:Nat):Ctr Tryz.prog k 192 (mk ZaS QG Zjb) :=
 ZD (fn:=Tryz.f192) (Zg Zd) (by kernel_rfl) (by kernel_rfl) (ZQW k)
noncomputable abbrev ZVb:Nat × Callee:=(192,mk ZaS QG Zjb)
abbrev ZsU:List Kd:=[.box [.own (.int .u8) false,.view (.int .i64)],.view (.int .u64),.view (.int .i64)]
noncomputable def Zv5 (k:Nat):=Wi k [ZVb]
def ZUB:Nat → Ann:=fun id => bif Nat.beq id 1 then ⟨[6,0,1],[]⟩ else ⟨[],[]⟩
abbrev ZeT:=Int × Int × Int × List Int
abbrev ZyQ:=ZeT → Option (Unit × (List Int × Int × Unit) × Unit)
def ZWN:ZeT → St
 | (v0,v1,v2,v3) => St.mk (Zw [(6,Zk v0),(0,AV.bx 0 0),(1,AV.val (PV.v (Value.int IntKind.u64 v1)))]) (Zu [(0,QZ [AV.own 8192,Zk v2]),(8192,RS.live (Res.arr (Ty.int IntKind.u8) v3 false))])
def Zgi (k:Nat) (L1:ZyQ):ZyQ
 | (v0,v1,v2,v3) => bif decide (0 ≤ v0) then bif decide (0 ≤ v0) then (Zjb k ((v3,v2,()),IntKind.i64.wrap (IntKind.u64.wrap (Int.ofNat (BitVec.ofInt 64 (v1.fdiv ((2:Int) ^ min v0.toNat 64)) &&& BitVec.ofInt 64 (1:Int)).toNat)),())).bind fun y => L1 (IntKind.i64.wrap (v0 - 1),v1,y.2.1.2.1,y.2.1.1) else none else some ((),(v3,v2,()),())
def ZyR (k:Nat):ZyQ:=Zn (fun L1 => Zgi k L1) k
noncomputable def ZG9 (k:Nat) (n:Nat) (v:ZeT) :=
 Zs (Zv5 k) ZUB [0] [1,0] [] (Wg Tryz.f149) (Wn (Zv5 k) Tryz.f149 ZsU QG [AV.bx (nat_lit 0) (nat_lit 0)] [[]]) n (ZWN v)
def ZlP (k:Nat) (L1:ZyQ):(List Int × Int × Unit) × Int × Int × Unit → Option (Unit × (List Int × Int × Unit) × Unit)
 | ((a0,a1,()),a2,a3,()) => L1 (IntKind.i64.wrap (a3 - 1),a2,a1,a0)
def Zfd (k:Nat):=ZlP k (ZyR k)
theorem ZOZ (k:Nat):∀ n,ZG9 k n = Zn (fun L1 => Zgi k L1) n :=
 Zh (fun v => by kernel_rfl) (fun n v => by
  obtain ⟨v0,v1,v2,v3⟩:=v
  kernel_rfl)
theorem ZWO (k:Nat) (x:Kd.dens ZsU):ZC (Zv5 k) ZUB Tryz.f149 ZsU QG x = Zfd k x:=by
 show _ = ZlP k (ZyR k) x
 rw [show ZyR k = ZG9 k k from (ZOZ k k).symm]
 obtain ⟨⟨a0,⟨a1,⟨⟩⟩⟩,⟨a2,⟨a3,⟨⟩⟩⟩⟩:=x
 kernel_rfl
theorem ZHa (k:Nat):Ctr Tryz.prog k 149 (mk ZsU QG Zfd) :=
 ZD (fn:=Tryz.f149) (Zg (Za (ZAo k) Zd)) (by kernel_rfl) (by kernel_rfl) (ZWO k)
noncomputable abbrev ZYn:Nat × Callee:=(149,mk ZsU QG Zfd)
abbrev ZcO:List Kd:=[.box [.own (.int .u8) false,.view (.int .i64)],.view (.int .i64),.view (.int .i64)]
noncomputable def ZUn (k:Nat):=Wi k [ZUA,ZYn]
def Zlv (k:Nat):(List Int × Int × Unit) × Int × Int × Unit → Option (Int × (List Int × Int × Unit) × Unit)
 | ((a0,a1,()),a2,a3,()) => (ZsS k (a3,())).bind fun y => bif y.1 then some (1,(a0,a1,()),()) else bif decide (a2 < 0) then some (12,(a0,a1,()),()) else bif decide (0 ≤ a3) then bif a2.fdiv ((2:Int) ^ min a3.toNat 64) != (0:Int) then some (12,(a0,a1,()),()) else (Zfd k ((a0,a1,()),IntKind.u64.wrap a2,a3,())).bind fun y => some (0,(y.2.1.1,y.2.1.2.1,()),()) else none
def ZQ (k:Nat):=Zlv k
theorem ZWj (k:Nat) (x:Kd.dens ZcO):ZC (ZUn k) nA Tryz.f94 ZcO Zj x = ZQ k x:=by
 show _ = Zlv k x
 obtain ⟨⟨a0,⟨a1,⟨⟩⟩⟩,⟨a2,⟨a3,⟨⟩⟩⟩⟩:=x
 kernel_rfl
theorem ZeR (k:Nat):Ctr Tryz.prog k 94 (mk ZcO Zj ZQ) :=
 ZD (fn:=Tryz.f94) (Zg (Za (ZyP k) (Za (ZHa k) Zd))) (by kernel_rfl) (by kernel_rfl) (ZWj k)
noncomputable abbrev ZOx:Nat × Callee:=(94,mk ZcO Zj ZQ)
def ZlQ (k:Nat):Int × Unit → Option (Int × Unit)
 | (a0,()) => bif a0 == 1 then some (7,()) else some (IntKind.i64.wrap (IntKind.i64.wrap ((5:Int) * a0) + 1),())
def Zv6 (k:Nat):=ZlQ k
theorem ZWP (k:Nat) (x:Kd.dens ZB):ZC (Z8 k) nA Tryz.f150 ZB Zj x = Zv6 k x:=by
 show _ = ZlQ k x
 obtain ⟨a0,⟨⟩⟩:=x
 kernel_rfl
theorem ZHb (k:Nat):Ctr Tryz.prog k 150 (mk ZB Zj Zv6) :=
 ZD (fn:=Tryz.f150) (Zg Zd) (by kernel_rfl) (by kernel_rfl) (ZWP k)
noncomputable abbrev ZUC:Nat × Callee:=(150,mk ZB Zj Zv6)
abbrev ZsJ:Kd:=.tup [.view (.sl (.int .u8)),.view (.int .i64)]
noncomputable def ZBo (k:Nat):=Wi k [ZUC]
def ZOy:Nat → Ann:=fun id => bif Nat.beq id 10 then ⟨[6,5,0,4],[]⟩ else bif Nat.beq id 6 then ⟨[0,4],[]⟩ else ⟨[],[]⟩
abbrev Zyv:=ZeT → Option ((List Int × Int × Unit) × Unit)
abbrev ZE8:=Int × Int
abbrev Zyu:=ZE8 → Option ((List Int × Int × Unit) × Unit)
def ZWl:ZeT → St
 | (v0,v1,v2,v3) => St.mk (Zw [(6,Zk v0),(5,AV.own 8192),(0,Zk v1),(4,Zk v2)]) (Zu [(8192,RS.live (Res.arr (Ty.int IntKind.u8) v3 false))])
def Zga (k:Nat) (L2:Zyv):Zyv
 | (v0,v1,v2,v3) => bif decide ((0:Int) < v0) then bif decide (0 ≤ v0 ∧ v0 < Int.ofNat v3.length) then bif decide (v0.toNat < v3.length) then L2 (IntKind.i64.wrap (v0 - 1),v1.fdiv (64:Int),v2,v3.set v0.toNat (IntKind.u8.wrap (Int.ofNat (BitVec.ofInt 8 (128:Int) ||| BitVec.ofInt 8 (IntKind.u8.wrap (IntKind.i64.wrap (Int.ofNat (BitVec.ofInt 64 v1 &&& BitVec.ofInt 64 (63:Int)).toNat)))).toNat))) else none else none else bif decide (0 ≤ v2) then bif decide ((0:Int) ≤ 0 ∧ (0:Int) < Int.ofNat v3.length) then bif decide ((0:Nat) < v3.length) then some ((v3.set (0:Nat) (IntKind.u8.wrap (Int.ofNat (BitVec.ofInt 8 (IntKind.u8.wrap (Int.fdiv (65280:Int) ((2:Int) ^ min v2.toNat 64))) ||| BitVec.ofInt 8 (IntKind.u8.wrap v1)).toNat)),0,()),()) else none else none else none
def ZsI (k:Nat):Zyv:=Zn (fun L2 => Zga k L2) k
noncomputable def ZGU (k:Nat) (n:Nat) (v:ZeT) :=
 Zs (ZBo k) ZOy [] [1,1,1,1,1,1,0,1,0] [] (Wg Tryz.f95) (Wn (ZBo k) Tryz.f95 ZB ZsJ [] []) n (ZWl v)
def ZWk:ZE8 → St
 | (v0,v1) => St.mk (Zw [(0,Zk v0),(4,Zk v1)]) (Zu [])
def Zf9 (k:Nat) (L2:Zyv) (L1:Zyu):Zyu
 | (v0,v1) => (Zv6 k (v1,())).bind fun y => bif decide ((0:Int) ≤ y.1) then bif decide ((0:Int) < v0.fdiv ((2:Int) ^ min (Int.toNat y.1) (64:Nat))) then L1 (v0,IntKind.i64.wrap (v1 + 1)) else bif decide (0 ≤ v1 ∧ v1 ≤ v1 ∧ v1 < 4294967296) then L2 (IntKind.i64.wrap (v1 - 1),v0,v1,List.replicate v1.toNat (0:Int)) else none else none
def Zyw (k:Nat):Zyu:=Zn (fun L1 => Zf9 k (ZsI k) L1) k
noncomputable def ZGT (k:Nat) (n:Nat) (v:ZE8) :=
 Zs (ZBo k) ZOy [] [1,1,1,1,0,0] [] (Wg Tryz.f95) (Wn (ZBo k) Tryz.f95 ZB ZsJ [] []) n (ZWk v)
def Zlw (k:Nat) (L1:Zyu):Int × Unit → Option ((List Int × Int × Unit) × Unit)
 | (a0,()) => bif decide (a0 < 0) then some (([],12,()),()) else bif decide ((68719476735:Int) < a0) then some (([],12,()),()) else bif decide (a0 < 128) then some (([IntKind.u8.wrap a0],0,()),()) else L1 (a0,(2:Int))
def ZsH (k:Nat):=Zlw k (Zyw k)
theorem ZOA (k:Nat):∀ n,ZGU k n = Zn (fun L2 => Zga k L2) n :=
 Zh (fun v => by kernel_rfl) (fun n v => by
  obtain ⟨v0,v1,v2,v3⟩:=v
  kernel_rfl)
theorem ZOz (k:Nat):∀ n,ZGT k n = Zn (fun L1 => Zf9 k (ZsI k) L1) n :=
 Zh (fun v => by kernel_rfl) (fun n v => by
  rw [show (ZsI k) = ZGU k k from (ZOA k k).symm]
  obtain ⟨v0,v1⟩:=v
  kernel_rfl)
theorem ZWm (k:Nat) (x:Kd.dens ZB):ZC (ZBo k) ZOy Tryz.f95 ZB ZsJ x = ZsH k x:=by
 show _ = Zlw k (Zyw k) x
 rw [show Zyw k = ZGT k k from (ZOz k k).symm]
 obtain ⟨a0,⟨⟩⟩:=x
 kernel_rfl
theorem ZTb (k:Nat):Ctr Tryz.prog k 95 (mk ZB ZsJ ZsH) :=
 ZD (fn:=Tryz.f95) (Zg (Za (ZHb k) Zd)) (by kernel_rfl) (by kernel_rfl) (ZWm k)
noncomputable abbrev ZX3:Nat × Callee:=(95,mk ZB ZsJ ZsH)
abbrev ZnD:List Kd:=[.view (.sl (.int .u8)),.view (.int .i64),.view (.int .u64)]
def ZO0:Nat → Ann:=fun id => bif Nat.beq id 7 then ⟨[24,7,1,2,13,12,11],[]⟩ else bif Nat.beq id 3 then ⟨[12,13,11,7,1,2],[]⟩ else ⟨[],[]⟩
abbrev ZFh:=Int × Int × Int × Int × Int × Int × List Int
abbrev ZyS:=ZFh → Option (Int × Unit)
abbrev ZFg:=Int × Int × List Int × Int × Int × Int
abbrev ZnC:=ZFg → Option (Int × Unit)
def ZWR:ZFh → St
 | (v0,v1,v2,v3,v4,v5,v6) => St.mk (Zw [(24,Zk v0),(7,AV.val (PV.v (Value.int IntKind.u64 v1))),(1,Zk v2),(2,AV.val (PV.v (Value.int IntKind.u64 v3))),(13,Zk v4),(12,Zk v5),(11,AV.val (PV.sl (Ty.int IntKind.u8) v6))]) (Zu [])
def ZdF (k:Nat) (L1:ZnC) (L2:ZyS):ZyS
 | (v0,v1,v2,v3,v4,v5,v6) => bif decide (v0 < 8) then bif decide (0 ≤ IntKind.i64.wrap (v2 - 1)) then bif decide (0 ≤ v2) then L2 (IntKind.i64.wrap (v0 + 1),IntKind.u64.wrap (Int.ofNat (BitVec.ofInt 64 (IntKind.u64.wrap (Int.ofNat (BitVec.ofInt 64 (IntKind.u64.wrap (v1 * (2:Int))) &&& BitVec.ofInt 64 (IntKind.u64.wrap (IntKind.u64.wrap ((1:Int) * (2:Int) ^ min v2.toNat 64) - (1:Int)))).toNat)) ^^^ BitVec.ofInt 64 (IntKind.u64.wrap (IntKind.u64.wrap (Int.ofNat (BitVec.ofInt 64 (v1.fdiv ((2:Int) ^ min (IntKind.i64.wrap (v2 - 1)).toNat 64)) &&& BitVec.ofInt 64 (1:Int)).toNat) * v3))).toNat),v2,v3,v4,v5,v6) else none else none else L1 (v5,IntKind.i64.wrap (v4 + 1),v6,v1,v2,v3)
def ZyU (k:Nat) (L1:ZnC):ZyS:=Zn (fun L2 => ZdF k L1 L2) k
noncomputable def Zp8 (k:Nat) (n1:Nat) (n:Nat) (v:ZFh):Option (Int × Unit) :=
 Zs (Z8 k) ZO0 [] [1,1,0,1,0,0,1,1,0,0,1,1,1,0] [n1] (Wg Tryz.f127) (Wn (Z8 k) Tryz.f127 ZnD Zj [] []) n (ZWR v)
def ZWQ:ZFg → St
 | (v0,v1,v2,v3,v4,v5) => St.mk (Zw [(12,Zk v0),(13,Zk v1),(11,AV.val (PV.sl (Ty.int IntKind.u8) v2)),(7,AV.val (PV.v (Value.int IntKind.u64 v3))),(1,Zk v4),(2,AV.val (PV.v (Value.int IntKind.u64 v5)))]) (Zu [])
def Zgj (k:Nat) (L2:ZyS) (L1:ZnC):ZnC
 | (v0,v1,v2,v3,v4,v5) => bif decide (v1 < v0) then bif decide (0 ≤ v1 ∧ v1 < Int.ofNat v2.length) then bif decide (0 ≤ IntKind.i64.wrap (v4 - 8)) then L2 (0,IntKind.u64.wrap (Int.ofNat (BitVec.ofInt 64 v3 ^^^ BitVec.ofInt 64 (IntKind.u64.wrap (IntKind.u64.wrap (v2.getD v1.toNat 0) * (2:Int) ^ min (IntKind.i64.wrap (v4 - 8)).toNat 64))).toNat),v4,v5,v1,v0,v2) else none else none else some (IntKind.i64.wrap v3,())
def ZyT (k:Nat):ZnC:=Zn (fun L1 => Zgj k (ZyU k L1) L1) k
noncomputable def ZlR (k:Nat) (n:Nat) (v:ZFg) :=
 Zs (Z8 k) ZO0 [] [1,1,0,1,0] [] (Wg Tryz.f127) (Wn (Z8 k) Tryz.f127 ZnD Zj [] []) n (ZWQ v)
def ZlS (k:Nat) (L1:ZnC):List Int × Int × Int × Unit → Option (Int × Unit)
 | (a0,a1,a2,()) => L1 (Int.ofNat a0.length,(0:Int),a0,(0:Int),a1,a2)
def ZiE (k:Nat):=ZlS k (ZyT k)
theorem ZO2 (k:Nat) (n1:Nat):∀ n,Zp8 k n1 n = Zn (fun L2 => ZdF k (ZlR k n1) L2) n :=
 Zh (fun v => by kernel_rfl) (fun n v => by
  show Zp8 k n1 (n + 1) v = ZdF k (ZlR k n1) (Zp8 k n1 n) v
  obtain ⟨v0,v1,v2,v3,v4,v5,v6⟩:=v
  kernel_rfl)
theorem ZO1 (k:Nat):∀ n,ZlR k n = Zn (fun L1 => Zgj k (ZyU k L1) L1) n :=
 Zh (fun v => by kernel_rfl) (fun n v => by
  rw [show (ZyU k (ZlR k n)) = Zp8 k n k from (ZO2 k n k).symm]
  obtain ⟨v0,v1,v2,v3,v4,v5⟩:=v
  kernel_rfl)
theorem ZWS (k:Nat) (x:Kd.dens ZnD):ZC (Z8 k) ZO0 Tryz.f127 ZnD Zj x = ZiE k x:=by
 show _ = ZlS k (ZyT k) x
 rw [show ZyT k = ZlR k k from (ZO1 k k).symm]
 obtain ⟨a0,⟨a1,⟨a2,⟨⟩⟩⟩⟩:=x
 kernel_rfl
theorem ZHc (k:Nat):Ctr Tryz.prog k 127 (mk ZnD Zj ZiE) :=
 ZD (fn:=Tryz.f127) (Zg Zd) (by kernel_rfl) (by kernel_rfl) (ZWS k)
noncomputable abbrev ZYo:Nat × Callee:=(127,mk ZnD Zj ZiE)
abbrev WT:List Kd:=[.view (.sl (.int .u8))]
noncomputable def ZUo (k:Nat):=Wi k [ZYo]
def Zlx (k:Nat):List Int × Unit → Option (Int × Unit)
 | (a0,()) => (ZiE k (a0,8,7,())).bind fun y => some (y.1,())
def Zv0 (k:Nat):=Zlx k
theorem ZWn (k:Nat) (x:Kd.dens WT):ZC (ZUo k) nA Tryz.f96 WT Zj x = Zv0 k x:=by
 show _ = Zlx k x
 obtain ⟨a0,⟨⟩⟩:=x
 kernel_rfl
theorem ZGV (k:Nat):Ctr Tryz.prog k 96 (mk WT Zj Zv0) :=
 ZD (fn:=Tryz.f96) (Zg (Za (ZHc k) Zd)) (by kernel_rfl) (by kernel_rfl) (ZWn k)
noncomputable abbrev ZUp:Nat × Callee:=(96,mk WT Zj Zv0)
abbrev Zjr:Kd:=.own (.int .u8) false
def ZiF (k:Nat):List Int × Unit → Option (List Int × Unit):=fun x => Yg x
noncomputable def ZUD (k:Nat):Ctx:={ P:=Tryz.prog,Φ:=phi [],k:=k,live:=fun _ => [] }
noncomputable def ZBH:Code:=ZLu Tryz.f74
theorem ZyV (k:Nat):Ctr Tryz.prog k 74 (mk WT Zjr ZiF) :=
 ZuM (C:=ZUD k) (A:=fun _ => ⟨[],[]⟩) (Zg Zd) ZjB (f:=74) (fn:=Tryz.f74) (o0:=ZnW (Zcy [0] ZBH) 0) (o1:=ZnW (Zcy [1,0,0] ZBH) 0) (o2:=ZnW (Zcy [1,0,0] ZBH) 1)
  (r0:=0) (r1:=1) (X:=Zcy [1,0,1,0] ZBH) (Y:=Zcy [1,1] ZBH) (T:=46) (E:=5) (U:=46) (t:=(.int .u8))
  (by kernel_rfl) (by kernel_rfl) (by kernel_rfl) (by kernel_rfl) (by kernel_rfl) (of_decide_eq_true (by kernel_rfl)) (by kernel_rfl) ⟨by kernel_rfl,by kernel_rfl,by kernel_rfl⟩ ⟨by kernel_rfl,by kernel_rfl,by kernel_rfl⟩ ⟨by kernel_rfl,by kernel_rfl,by kernel_rfl⟩ (fun xs => by kernel_rfl) (by kernel_rfl)
noncomputable abbrev ZUE:Nat × Callee:=(74,mk WT Zjr ZiF)
abbrev ZeS:List Kd:=[.box [.own (.int .u8) false,.view (.int .i64)]]
noncomputable def ZX4 (k:Nat):=Wi k [ZUE] (fun r => bif Nat.beq r 999998 then [74] else [])
def Zlz (k:Nat):(List Int × Int × Unit) × Unit → Option (List Int × (List Int × Int × Unit) × Unit)
 | ((a0,a1,()),()) => (ZiF k (a0,())).bind fun y => some (y.1,(a0,a1,()),())
def Zly (k:Nat):=Zlz k
theorem ZWo (k:Nat) (x:Kd.dens ZeS):ZC (ZX4 k) nA Tryz.f97 ZeS Zjr x = Zly k x:=by
 show _ = Zlz k x
 obtain ⟨⟨a0,⟨a1,⟨⟩⟩⟩,⟨⟩⟩:=x
 kernel_rfl
theorem ZGW (k:Nat):Ctr Tryz.prog k 97 (mk ZeS Zjr Zly) :=
 ZD (fn:=Tryz.f97) (Zg (Za (ZyV k) Zd)) (by kernel_rfl) (by kernel_rfl) (ZWo k)
noncomputable abbrev ZX5:Nat × Callee:=(97,mk ZeS Zjr Zly)
abbrev Zgb:List Kd:=[.view Zoc,.view (.int .i64)]
abbrev Ki:Kd:=.view (.sl (.int .i64))
noncomputable def ZX6 (k:Nat):=Wi k [] (fun r => bif Nat.beq r 999999 then [1] else [])
def ZlB (k:Nat):(Int × Int × Int × Unit) × Int × Unit → Option (List Int × Unit)
 | ((a0,a1,a2,()),a3,()) => bif decide ((0:Int) ≤ 0 ∧ (0:Int) ≤ a0 ∧ a0 ≤ Int.ofNat [a1,a1].length) then bif a3 == 8 then bif decide ((0:Nat) ≤ a0.toNat ∧ a0.toNat ≤ [a1,a1].length ∧ (0:Int) ≤ 1 ∧ (1:Nat) < a0.toNat - (0:Nat)) then bif decide ((0:Nat) ≤ a0.toNat ∧ a0.toNat ≤ [a1,a1].length ∧ (0:Int) ≤ 1 ∧ (1:Nat) < a0.toNat - (0:Nat)) then bif decide ((0:Nat) ≤ a0.toNat ∧ a0.toNat ≤ ([a1,a1].set (1:Nat) (IntKind.i64.wrap ([a1,a1].getD 1 0 + (1:Int)))).length) then some (List.drop 0 (List.take a0.toNat ([a1,a1].set (1:Nat) (IntKind.i64.wrap ([a1,a1].getD 1 0 + (1:Int))))),()) else none else none else none else bif a3 == 10 then bif decide ((0:Nat) ≤ a0.toNat ∧ a0.toNat ≤ [a1,a1].length ∧ (0:Int) ≤ 1 ∧ (1:Nat) < a0.toNat - (0:Nat)) then bif decide ((0:Nat) ≤ a0.toNat ∧ a0.toNat ≤ [a1,a1].length ∧ (0:Int) ≤ 1 ∧ (1:Nat) < a0.toNat - (0:Nat)) then bif decide ((0:Nat) ≤ a0.toNat ∧ a0.toNat ≤ ([a1,a1].set (1:Nat) (IntKind.i64.wrap ([a1,a1].getD 1 0 + (1:Int)))).length) then some (List.drop 0 (List.take a0.toNat ([a1,a1].set (1:Nat) (IntKind.i64.wrap ([a1,a1].getD 1 0 + (1:Int))))),()) else none else none else none else bif a3 == 9 then bif decide ((0:Nat) ≤ a0.toNat ∧ a0.toNat ≤ [a1,a1].length ∧ (0:Int) ≤ 0 ∧ (0:Nat) < a0.toNat - (0:Nat)) then bif decide ((0:Nat) ≤ a0.toNat ∧ a0.toNat ≤ [a1,a1].length ∧ (0:Int) ≤ 0 ∧ (0:Nat) < a0.toNat - (0:Nat)) then bif decide ((0:Nat) ≤ a0.toNat ∧ a0.toNat ≤ ([a1,a1].set (0:Nat) (IntKind.i64.wrap ([a1,a1].getD 0 0 + (1:Int)))).length) then some (List.drop 0 (List.take a0.toNat ([a1,a1].set (0:Nat) (IntKind.i64.wrap ([a1,a1].getD 0 0 + (1:Int))))),()) else none else none else none else bif decide ((0:Nat) ≤ a0.toNat ∧ a0.toNat ≤ [a1,a1].length) then some (List.drop 0 (List.take a0.toNat [a1,a1]),()) else none else none
def Zv1 (k:Nat):=ZlB k
theorem ZWp (k:Nat) (x:Kd.dens Zgb):ZC (ZX6 k) nA Tryz.f57 Zgb Ki x = Zv1 k x:=by
 show _ = ZlB k x
 obtain ⟨⟨a0,⟨a1,⟨a2,⟨⟩⟩⟩⟩,⟨a3,⟨⟩⟩⟩:=x
 kernel_rfl
theorem ZGX (k:Nat):Ctr Tryz.prog k 57 (mk Zgb Ki Zv1) :=
 ZD (fn:=Tryz.f57) (Zg Zd) (by kernel_rfl) (by kernel_rfl) (ZWp k)
noncomputable abbrev ZUq:Nat × Callee:=(57,mk Zgb Ki Zv1)
abbrev ZaJ:List Kd:=[.view (.int .i64),.view (.int .i64)]
def Zl4 (k:Nat):Int × Int × Unit → Option (Bool × Unit)
 | (a0,a1,()) => bif decide (1 ≤ a0) then bif decide (a0 ≤ 512) then bif decide (4 ≤ a1) then some (decide (a1 ≤ 25),()) else some (false,()) else some (false,()) else some (false,())
def Zv9 (k:Nat):=Zl4 k
theorem ZXa (k:Nat) (x:Kd.dens ZaJ):ZC (Z8 k) nA Tryz.f122 ZaJ ZF x = Zv9 k x:=by
 show _ = Zl4 k x
 obtain ⟨a0,⟨a1,⟨⟩⟩⟩:=x
 kernel_rfl
theorem ZHn (k:Nat):Ctr Tryz.prog k 122 (mk ZaJ ZF Zv9) :=
 ZD (fn:=Tryz.f122) (Zg Zd) (by kernel_rfl) (by kernel_rfl) (ZXa k)
noncomputable abbrev ZUJ:Nat × Callee:=(122,mk ZaJ ZF Zv9)
def Zl7 (k:Nat):Int × Int × Unit → Option (Bool × Unit)
 | (a0,a1,()) => bif decide (0 ≤ IntKind.i64.wrap (a1 - 1)) then bif a0.fdiv ((2:Int) ^ min (IntKind.i64.wrap (a1 - 1)).toNat 64) == (0:Int) then some (true,()) else bif decide (0 ≤ IntKind.i64.wrap (a1 - 1)) then some (a0.fdiv ((2:Int) ^ min (IntKind.i64.wrap (a1 - 1)).toNat 64) == (-1:Int),()) else none else none
def Zwa (k:Nat):=Zl7 k
theorem ZXd (k:Nat) (x:Kd.dens ZaJ):ZC (Z8 k) nA Tryz.f125 ZaJ ZF x = Zwa k x:=by
 show _ = Zl7 k x
 obtain ⟨a0,⟨a1,⟨⟩⟩⟩:=x
 kernel_rfl
theorem ZHo (k:Nat):Ctr Tryz.prog k 125 (mk ZaJ ZF Zwa) :=
 ZD (fn:=Tryz.f125) (Zg Zd) (by kernel_rfl) (by kernel_rfl) (ZXd k)
noncomputable abbrev ZUL:Nat × Callee:=(125,mk ZaJ ZF Zwa)
abbrev Zpc:List Kd:=[.view (.int .i64),.box [.view (.int .i64)]]
noncomputable def ZVc (k:Nat):=Wi k [ZUL]
def Zhb (k:Nat):Int × (Int × Unit) × Unit → Option (Bool × (Int × Unit) × Unit)
 | (a0,(a1,()),()) => (Zwa k (a0,a1,())).bind fun y => some (!y.1,(a1,()),())
def Zq3 (k:Nat):=Zhb k
theorem ZQZ (k:Nat) (x:Kd.dens Zpc):ZC (ZVc k) nA Tryz.f194 Zpc ZF x = Zq3 k x:=by
 show _ = Zhb k x
 obtain ⟨a0,⟨⟨a1,⟨⟩⟩,⟨⟩⟩⟩:=x
 kernel_rfl
theorem ZLZ (k:Nat):Ctr Tryz.prog k 194 (mk Zpc ZF Zq3) :=
 ZD (fn:=Tryz.f194) (Zg (Za (ZHo k) Zd)) (by kernel_rfl) (by kernel_rfl) (ZQZ k)
noncomputable abbrev ZVd:Nat × Callee:=(194,mk Zpc ZF Zq3)
abbrev X2:List Kd:=[.view (.sl (.int .i64)),.clo 194 [.box [.view (.int .i64)]]]
noncomputable def Zre (k:Nat):=Wi k [ZVd]
def Yq:Nat → Ann:=fun id => bif Nat.beq id 2 then ⟨[7,8,1,0],[]⟩ else ⟨[],[]⟩
abbrev Wz:=Int × Int × List Int × Int
abbrev ZhF:=Wz → Option (Int × (Int × Unit) × Unit)
def ZI7:Wz → St
 | (v0,v1,v2,v3) => St.mk (Zw [(7,Zk v0),(8,Zk v1),(1,AV.clo 194 [AV.bx 0 0]),(0,YE v2)]) (Zu [(0,QZ [Zk v3])])
def Zai (k:Nat) (L1:ZhF):ZhF
 | (v0,v1,v2,v3) => bif decide (v1 < v0) then bif decide (0 ≤ v1 ∧ v1 < Int.ofNat v2.length) then (Zq3 k (v2.getD v1.toNat 0,(v3,()),())).bind fun y => bif y.1 then some (v1,(y.2.1.1,()),()) else L1 (v0,IntKind.i64.wrap (v1 + 1),v2,y.2.1.1) else none else some ((-1:Int),(v3,()),())
def Zng (k:Nat):ZhF:=Zn (fun L1 => Zai k L1) k
noncomputable def Zrf (k:Nat) (n:Nat) (v:Wz) :=
 Zs (Zre k) Yq [0] [1,0,1,0] [] (Wg Tryz.f241) (Wn (Zre k) Tryz.f241 X2 Zj [AV.bx (nat_lit 0) (nat_lit 0)] [[]]) n (ZI7 v)
def Zov (k:Nat) (L1:ZhF):List Int × ((Int × Unit) × Unit) × Unit → Option (Int × (Int × Unit) × Unit)
 | (a0,((a1,()),()),()) => L1 (Int.ofNat a0.length,(0:Int),a0,a1)
def ZfK (k:Nat):=Zov k (Zng k)
theorem ZAQ (k:Nat):∀ n,Zrf k n = Zn (fun L1 => Zai k L1) n :=
 Zh (fun v => by kernel_rfl) (fun n v => by
  obtain ⟨v0,v1,v2,v3⟩:=v
  kernel_rfl)
theorem ZI8 (k:Nat) (x:Kd.dens X2):ZC (Zre k) Yq Tryz.f241 X2 Zj x = ZfK k x:=by
 show _ = Zov k (Zng k) x
 rw [show Zng k = Zrf k k from (ZAQ k k).symm]
 obtain ⟨a0,⟨⟨⟨a1,⟨⟩⟩,⟨⟩⟩,⟨⟩⟩⟩:=x
 kernel_rfl
theorem ZDU (k:Nat):Ctr Tryz.prog k 241 (mk X2 Zj ZfK) :=
 ZD (fn:=Tryz.f241) (Zg (Za (ZLZ k) Zd)) (by kernel_rfl) (by kernel_rfl) (ZI8 k)
noncomputable abbrev ZMx:Nat × Callee:=(241,mk X2 Zj ZfK)
noncomputable def ZLP (k:Nat):=Wi k [ZMx]
def Zcc (k:Nat):List Int × ((Int × Unit) × Unit) × Unit → Option (Bool × (Int × Unit) × Unit)
 | (a0,((a1,()),()),()) => (ZfK k (a0,((a1,()),()),())).bind fun y => some (decide ((0:Int) ≤ y.1),(y.2.1.1,()),())
def ZfB (k:Nat):=Zcc k
theorem ZIq (k:Nat) (x:Kd.dens X2):ZC (ZLP k) nA Tryz.f193 X2 ZF x = ZfB k x:=by
 show _ = Zcc k x
 obtain ⟨a0,⟨⟨⟨a1,⟨⟩⟩,⟨⟩⟩,⟨⟩⟩⟩:=x
 kernel_rfl
theorem ZDF (k:Nat):Ctr Tryz.prog k 193 (mk X2 ZF ZfB) :=
 ZD (fn:=Tryz.f193) (Zg (Za (ZDU k) Zd)) (by kernel_rfl) (by kernel_rfl) (ZIq k)
noncomputable abbrev ZLQ:Nat × Callee:=(193,mk X2 ZF ZfB)
abbrev Z6:List Kd:=[.view (.sl (.int .i64)),.view (.int .i64)]
noncomputable def ZYp (k:Nat):=Wi k [ZUJ,ZLQ]
def ZlT (k:Nat):List Int × Int × Unit → Option (Int × Unit)
 | (a0,a1,()) => (Zv9 k (Int.ofNat a0.length,a1,())).bind fun y => bif !y.1 then some (1,()) else (ZfB k (a0,((a1,()),()),())).bind fun y => bif y.1 then some (12,()) else some (0,())
def Zv7 (k:Nat):=ZlT k
theorem ZWT (k:Nat) (x:Kd.dens Z6):ZC (ZYp k) nA Tryz.f151 Z6 Zj x = Zv7 k x:=by
 show _ = ZlT k x
 obtain ⟨a0,⟨a1,⟨⟩⟩⟩:=x
 kernel_rfl
theorem ZTn (k:Nat):Ctr Tryz.prog k 151 (mk Z6 Zj Zv7) :=
 ZD (fn:=Tryz.f151) (Zg (Za (ZHn k) (Za (ZDF k) Zd))) (by kernel_rfl) (by kernel_rfl) (ZWT k)
noncomputable abbrev ZYq:Nat × Callee:=(151,mk Z6 Zj Zv7)
abbrev Zpg:List Kd:=[.view (.int .i64),.box [.view (.int .i64),.view (.int .i64),.view (.int .i64),.view (.sl (.int .i64)),.view (.sl (.int .i64)),.view (.int .i64),.view (.sl (.int .i64)),.view (.int .i64)]]
def Zhd (k:Nat):Int × (Int × Int × Int × List Int × List Int × Int × List Int × Int × Unit) × Unit → Option (Bool × (Int × Int × Int × List Int × List Int × Int × List Int × Int × Unit) × Unit)
 | (a0,(a1,a2,a3,a4,a5,a6,a7,a8,()),()) => bif decide ((0:Int) ≤ 0 ∧ (0:Int) < Int.ofNat a4.length) then some (a0 != a4.getD 0 0,(a1,a2,a3,a4,a5,a6,a7,a8,()),()) else none
def Zq5 (k:Nat):=Zhd k
theorem ZQ3 (k:Nat) (x:Kd.dens Zpg):ZC (Z8 k) nA Tryz.f197 Zpg ZF x = Zq5 k x:=by
 show _ = Zhd k x
 obtain ⟨a0,⟨⟨a1,⟨a2,⟨a3,⟨a4,⟨a5,⟨a6,⟨a7,⟨a8,⟨⟩⟩⟩⟩⟩⟩⟩⟩⟩,⟨⟩⟩⟩:=x
 kernel_rfl
theorem ZL3 (k:Nat):Ctr Tryz.prog k 197 (mk Zpg ZF Zq5) :=
 ZD (fn:=Tryz.f197) (Zg Zd) (by kernel_rfl) (by kernel_rfl) (ZQ3 k)
noncomputable abbrev ZVg:Nat × Callee:=(197,mk Zpg ZF Zq5)
abbrev X3:List Kd:=[.view (.sl (.int .i64)),.clo 197 [.box [.view (.int .i64),.view (.int .i64),.view (.int .i64),.view (.sl (.int .i64)),.view (.sl (.int .i64)),.view (.int .i64),.view (.sl (.int .i64)),.view (.int .i64)]]]
noncomputable def Zrg (k:Nat):=Wi k [ZVg]
abbrev Zni:=Int × Int × List Int × Int × Int × Int × List Int × List Int × Int × List Int × Int
abbrev ZhG:=Zni → Option (Int × (Int × Int × Int × List Int × List Int × Int × List Int × Int × Unit) × Unit)
def ZI9:Zni → St
 | (v0,v1,v2,v3,v4,v5,v6,v7,v8,v9,v10) => St.mk (Zw [(7,Zk v0),(8,Zk v1),(1,AV.clo 197 [AV.bx 0 0]),(0,YE v2)]) (Zu [(0,QZ [Zk v3,Zk v4,Zk v5,YE v6,YE v7,Zk v8,YE v9,Zk v10])])
def Zaj (k:Nat) (L1:ZhG):ZhG
 | (v0,v1,v2,v3,v4,v5,v6,v7,v8,v9,v10) => bif decide (v1 < v0) then bif decide (0 ≤ v1 ∧ v1 < Int.ofNat v2.length) then (Zq5 k (v2.getD v1.toNat 0,(v3,v4,v5,v6,v7,v8,v9,v10,()),())).bind fun y => bif y.1 then some (v1,(y.2.1.1,y.2.1.2.1,y.2.1.2.2.1,y.2.1.2.2.2.1,y.2.1.2.2.2.2.1,y.2.1.2.2.2.2.2.1,y.2.1.2.2.2.2.2.2.1,y.2.1.2.2.2.2.2.2.2.1,()),()) else L1 (v0,IntKind.i64.wrap (v1 + 1),v2,y.2.1.1,y.2.1.2.1,y.2.1.2.2.1,y.2.1.2.2.2.1,y.2.1.2.2.2.2.1,y.2.1.2.2.2.2.2.1,y.2.1.2.2.2.2.2.2.1,y.2.1.2.2.2.2.2.2.2.1) else none else some ((-1:Int),(v3,v4,v5,v6,v7,v8,v9,v10,()),())
def Znh (k:Nat):ZhG:=Zn (fun L1 => Zaj k L1) k
noncomputable def Zrh (k:Nat) (n:Nat) (v:Zni) :=
 Zs (Zrg k) Yq [0] [1,0,1,0] [] (Wg Tryz.f241) (Wn (Zrg k) Tryz.f241 X3 Zj [AV.bx (nat_lit 0) (nat_lit 0)] [[]]) n (ZI9 v)
def Zow (k:Nat) (L1:ZhG):List Int × ((Int × Int × Int × List Int × List Int × Int × List Int × Int × Unit) × Unit) × Unit → Option (Int × (Int × Int × Int × List Int × List Int × Int × List Int × Int × Unit) × Unit)
 | (a0,((a1,a2,a3,a4,a5,a6,a7,a8,()),()),()) => L1 (Int.ofNat a0.length,(0:Int),a0,a1,a2,a3,a4,a5,a6,a7,a8)
def ZfL (k:Nat):=Zow k (Znh k)
theorem ZAR (k:Nat):∀ n,Zrh k n = Zn (fun L1 => Zaj k L1) n :=
 Zh (fun v => by kernel_rfl) (fun n v => by
  obtain ⟨v0,v1,v2,v3,v4,v5,v6,v7,v8,v9,v10⟩:=v
  kernel_rfl)
theorem ZJa (k:Nat) (x:Kd.dens X3):ZC (Zrg k) Yq Tryz.f241 X3 Zj x = ZfL k x:=by
 show _ = Zow k (Znh k) x
 rw [show Znh k = Zrh k k from (ZAR k k).symm]
 obtain ⟨a0,⟨⟨⟨a1,⟨a2,⟨a3,⟨a4,⟨a5,⟨a6,⟨a7,⟨a8,⟨⟩⟩⟩⟩⟩⟩⟩⟩⟩,⟨⟩⟩,⟨⟩⟩⟩:=x
 kernel_rfl
theorem ZDV (k:Nat):Ctr Tryz.prog k 241 (mk X3 Zj ZfL) :=
 ZD (fn:=Tryz.f241) (Zg (Za (ZL3 k) Zd)) (by kernel_rfl) (by kernel_rfl) (ZJa k)
noncomputable abbrev ZMy:Nat × Callee:=(241,mk X3 Zj ZfL)
noncomputable def ZLR (k:Nat):=Wi k [ZMy]
def Zcd (k:Nat):List Int × ((Int × Int × Int × List Int × List Int × Int × List Int × Int × Unit) × Unit) × Unit → Option (Bool × (Int × Int × Int × List Int × List Int × Int × List Int × Int × Unit) × Unit)
 | (a0,((a1,a2,a3,a4,a5,a6,a7,a8,()),()),()) => (ZfL k (a0,((a1,a2,a3,a4,a5,a6,a7,a8,()),()),())).bind fun y => some (decide ((0:Int) ≤ y.1),(y.2.1.1,y.2.1.2.1,y.2.1.2.2.1,y.2.1.2.2.2.1,y.2.1.2.2.2.2.1,y.2.1.2.2.2.2.2.1,y.2.1.2.2.2.2.2.2.1,y.2.1.2.2.2.2.2.2.2.1,()),())
def ZfC (k:Nat):=Zcd k
theorem ZIr (k:Nat) (x:Kd.dens X3):ZC (ZLR k) nA Tryz.f193 X3 ZF x = ZfC k x:=by
 show _ = Zcd k x
 obtain ⟨a0,⟨⟨⟨a1,⟨a2,⟨a3,⟨a4,⟨a5,⟨a6,⟨a7,⟨a8,⟨⟩⟩⟩⟩⟩⟩⟩⟩⟩,⟨⟩⟩,⟨⟩⟩⟩:=x
 kernel_rfl
theorem ZDG (k:Nat):Ctr Tryz.prog k 193 (mk X3 ZF ZfC) :=
 ZD (fn:=Tryz.f193) (Zg (Za (ZDV k) Zd)) (by kernel_rfl) (by kernel_rfl) (ZIr k)
noncomputable abbrev ZLS:Nat × Callee:=(193,mk X3 ZF ZfC)
abbrev ZpI:List Kd:=[.view (.int .u64)]
def ZDZ (k:Nat):Int × Unit → Option (Int × Unit):=fun x => tzF x
def ZYL:Go.Shelf.Ren:=⟨fun n => match n with | 29 => 242 | _ => 0,fun n => match n with | 0 => 0 | 3 => 3 | 4 => 4 | 5 => 5 | 22 => 124 | 25 => 62 | 54 => 301 | _ => 0,fun n => match n with | 1 => 4 | _ => 0⟩
set_option maxRecDepth 100000 in
theorem ZXE:Go.Proofs.Lays7.n29 Tryz.prog ZYL:=by
 constructor <;> first | kernel_rfl | (intro w; rfl)
set_option maxRecDepth 100000 in
theorem ZMC (k:Nat):Ctr Tryz.prog k 242 (mk ZpI Zj ZDZ):=ZXF ZXE (fn:=Tryz.f242) (by kernel_rfl) rfl (by kernel_rfl) (by kernel_rfl) (by kernel_rfl)
noncomputable abbrev ZVy:Nat × Callee:=(242,mk ZpI Zj ZDZ)
noncomputable def ZDK (k:Nat):=Wi k [ZVy]
def ZL0:Nat → Ann:=fun id => bif Nat.beq id 3 then ⟨[7,8,6,3],[]⟩ else ⟨[],[]⟩
abbrev Zpd:=Wz → Option (Int × Unit)
def ZQ0:Wz → St
 | (v0,v1,v2,v3) => St.mk (Zw [(7,Zk v0),(8,Zk v1),(6,YE v2),(3,Zk v3)]) (Zu [])
def Zc1 (k:Nat) (L1:Zpd):Zpd
 | (v0,v1,v2,v3) => bif decide (v1 < v0) then bif decide (0 ≤ v1 ∧ v1 < Int.ofNat v2.length) then L1 (v0,IntKind.i64.wrap (v1 + 1),v2,IntKind.i64.wrap (Int.ofNat (BitVec.ofInt 64 v3 ||| BitVec.ofInt 64 (v2.getD v1.toNat 0)).toNat)) else none else bif v3 == 0 then some (0,()) else (ZDZ k (IntKind.u64.wrap v3,())).bind fun y => some (y.1,())
def Zpe (k:Nat):Zpd:=Zn (fun L1 => Zc1 k L1) k
noncomputable def ZAt (k:Nat) (n:Nat) (v:Wz) :=
 Zs (ZDK k) ZL0 [] [1,1,0,1,0] [] (Wg Tryz.f195) (Wn (ZDK k) Tryz.f195 ZaK Zj [] []) n (ZQ0 v)
def Zhc (k:Nat) (L1:Zpd):List Int × Unit → Option (Int × Unit)
 | (a0,()) => L1 (Int.ofNat a0.length,(0:Int),a0,(0:Int))
def Zq4 (k:Nat):=Zhc k (Zpe k)
theorem ZIx (k:Nat):∀ n,ZAt k n = Zn (fun L1 => Zc1 k L1) n :=
 Zh (fun v => by kernel_rfl) (fun n v => by
  obtain ⟨v0,v1,v2,v3⟩:=v
  kernel_rfl)
theorem ZQ1 (k:Nat) (x:Kd.dens ZaK):ZC (ZDK k) ZL0 Tryz.f195 ZaK Zj x = Zq4 k x:=by
 show _ = Zhc k (Zpe k) x
 rw [show Zpe k = ZAt k k from (ZIx k k).symm]
 obtain ⟨a0,⟨⟩⟩:=x
 kernel_rfl
theorem ZL1 (k:Nat):Ctr Tryz.prog k 195 (mk ZaK Zj Zq4) :=
 ZD (fn:=Tryz.f195) (Zg (Za (ZMC k) Zd)) (by kernel_rfl) (by kernel_rfl) (ZQ1 k)
noncomputable abbrev ZVe:Nat × Callee:=(195,mk ZaK Zj Zq4)
abbrev YG:Kd:=.tup [.view Zjw,.view (.int .i64)]
def Zxx:Nat → Ann:=fun id => bif Nat.beq id 17 then ⟨[48,49,47,8,2],[.cell 8 0 ((Ty.int IntKind.i64))]⟩ else bif Nat.beq id 9 then ⟨[29,30,28,5,20,19,2],[]⟩ else bif Nat.beq id 5 then ⟨[19,20,4,2],[]⟩ else ⟨[],[]⟩
abbrev ZxB:=Int × Int × Int × Int × List Int × List Int × Int
abbrev Zph:=ZxB → Option (((List Int × Int × Unit) × Int × Unit) × Unit)
abbrev Zhf:=Int × Int × List Int × Int × List Int × Int
abbrev Zpi:=Zhf → Option (((List Int × Int × Unit) × Int × Unit) × Unit)
abbrev Zhe:=Wz → Option (((List Int × Int × Unit) × Int × Unit) × Unit)
def ZQ5:ZxB → St
 | (v0,v1,v2,v3,v4,v5,v6) => St.mk (Zw [(29,Zk v0),(30,Zk v1),(28,AV.own 8192),(5,AV.own 8193),(20,Zk v2),(19,Zk v3),(2,AV.bx 8194 0)]) (Zu [(8192,rsA v4 false),(8193,rsA v5 false),(8194,QZ [AV.val (PV.v (Value.slice none (0:Nat) (0:Nat))),Zk v6])])
def Zm5 (k:Nat) (L1:Zhe) (L2:Zph):Zph
 | (v0,v1,v2,v3,v4,v5,v6) => bif decide (v1 < v0) then bif decide (0 ≤ v1 ∧ v1 < Int.ofNat v4.length) then bif decide (v1.toNat < v4.length) then bif decide (0 ≤ IntKind.i64.wrap (v1 + 1) ∧ IntKind.i64.wrap (v1 + 1) < Int.ofNat v5.length) then bif decide ((IntKind.i64.wrap (v1 + 1)).toNat < v5.length) then bif decide (0 ≤ IntKind.i64.wrap (v1 + 1) ∧ IntKind.i64.wrap (v1 + 1) < Int.ofNat v5.length) then bif decide ((IntKind.i64.wrap (v1 + 1)).toNat < v5.length) then L2 (v0,IntKind.i64.wrap (v1 + 1),v2,v3,v4,v5.set (IntKind.i64.wrap (v1 + 1)).toNat (IntKind.i64.wrap (v5.getD (IntKind.i64.wrap (v1 + 1)).toNat 0 - v4.getD v1.toNat 0)),v6) else none else none else none else none else none else none else L1 (v3,IntKind.i64.wrap (v2 + 1),v5,v6)
def Zxz (k:Nat) (L1:Zhe):Zph:=Zn (fun L2 => Zm5 k L1 L2) k
noncomputable def Zke (k:Nat) (n1:Nat) (n:Nat) (v:ZxB):Option (((List Int × Int × Unit) × Int × Unit) × Unit) :=
 Zs (Z8 k) Zxx [] [1,1,1,0,1,0,0,1,1,0,0,1,1,0,1,0] [n1] (Wg Tryz.f171) (Wn (Z8 k) Tryz.f171 ZB YG [] []) n (ZQ5 v)
def ZQ6:Zhf → St
 | (v0,v1,v2,v3,v4,v5) => St.mk (Zw [(48,Zk v0),(49,Zk v1),(47,YE v2),(8,AV.bx 8192 0),(2,AV.bx 8194 0)]) (Zu [(8192,QZ [AV.own 8193,Zk v3]),(8193,rsA v4 false),(8194,QZ [AV.val (PV.v (Value.slice none (0:Nat) (0:Nat))),Zk v5])])
def Zu0 (k:Nat) (L3:Zpi):Zpi
 | (v0,v1,v2,v3,v4,v5) => bif decide (v1 < v0) then bif decide (0 ≤ v1 ∧ v1 < Int.ofNat v2.length) then bif decide (v4.length + [IntKind.i64.wrap ((0:Int) - v2.getD v1.toNat 0)].length < 2147483648) then L3 (v0,IntKind.i64.wrap (v1 + 1),v2,v3,v4 ++ [IntKind.i64.wrap ((0:Int) - v2.getD v1.toNat 0)],v5) else none else none else some (((v4,v3,()),0,()),())
def ZxA (k:Nat):Zpi:=Zn (fun L3 => Zu0 k L3) k
noncomputable def ZAv (k:Nat) (n:Nat) (v:Zhf) :=
 Zs (Z8 k) Zxx [] [1,1,1,1,1,0,1,0] [] (Wg Tryz.f171) (Wn (Z8 k) Tryz.f171 ZB YG [] []) n (ZQ6 v)
def ZQ4:Wz → St
 | (v0,v1,v2,v3) => St.mk (Zw [(19,Zk v0),(20,Zk v1),(4,AV.own 8192),(2,AV.bx 8193 0)]) (Zu [(8192,rsA v2 false),(8193,QZ [AV.val (PV.v (Value.slice none (0:Nat) (0:Nat))),Zk v3])])
def ZuZ (k:Nat) (L2:Zph) (L3:Zpi) (L1:Zhe):Zhe
 | (v0,v1,v2,v3) => bif decide (v1 < v0) then bif decide ((0:Nat) + v2.length < 2147483648) then bif decide (([] ++ v2).length + (1:Nat) < (2147483648:Nat)) then L2 (Int.ofNat v2.length,(0:Int),v1,v0,v2,[] ++ v2 ++ [(0:Int)],v3) else none else none else bif decide ((0:Int) ≤ 1 ∧ (1:Int) ≤ Int.ofNat v2.length ∧ Int.ofNat v2.length ≤ Int.ofNat v2.length) then L3 (Int.ofNat (List.drop 1 (List.take (Int.ofNat v2.length).toNat v2)).length,(0:Int),List.drop 1 (List.take (Int.ofNat v2.length).toNat v2),(0:Int),[],v3) else none
def Zxy (k:Nat):Zhe:=Zn (fun L1 => ZuZ k (Zxz k L1) (ZxA k) L1) k
noncomputable def ZfG (k:Nat) (n:Nat) (v:Wz) :=
 Zs (Z8 k) Zxx [] [1,1,1,0,1,0] [] (Wg Tryz.f171) (Wn (Z8 k) Tryz.f171 ZB YG [] []) n (ZQ4 v)
def ZuY (k:Nat) (L1:Zhe):Int × Unit → Option (((List Int × Int × Unit) × Int × Unit) × Unit)
 | (a0,()) => bif decide (a0 < 0) then some ((([],(0:Int),()),1,()),()) else bif decide ((4:Int) < a0) then some ((([],(0:Int),()),1,()),()) else L1 (a0,(0:Int),[(1:Int)],(0:Int))
def ZfF (k:Nat):=ZuY k (Zxy k)
theorem ZIA (k:Nat) (n1:Nat):∀ n,Zke k n1 n = Zn (fun L2 => Zm5 k (ZfG k n1) L2) n :=
 Zh (fun v => by kernel_rfl) (fun n v => by
  show Zke k n1 (n + 1) v = Zm5 k (ZfG k n1) (Zke k n1 n) v
  obtain ⟨v0,v1,v2,v3,v4,v5,v6⟩:=v
  kernel_rfl)
theorem ZIB (k:Nat):∀ n,ZAv k n = Zn (fun L3 => Zu0 k L3) n :=
 Zh (fun v => by kernel_rfl) (fun n v => by
  obtain ⟨v0,v1,v2,v3,v4,v5⟩:=v
  kernel_rfl)
theorem ZIz (k:Nat):∀ n,ZfG k n = Zn (fun L1 => ZuZ k (Zxz k L1) (ZxA k) L1) n :=
 Zh (fun v => by kernel_rfl) (fun n v => by
  rw [show (Zxz k (ZfG k n)) = Zke k n k from (ZIA k n k).symm,show (ZxA k) = ZAv k k from (ZIB k k).symm]
  obtain ⟨v0,v1,v2,v3⟩:=v
  kernel_rfl)
theorem ZQ7 (k:Nat) (x:Kd.dens ZB):ZC (Z8 k) Zxx Tryz.f171 ZB YG x = ZfF k x:=by
 show _ = ZuY k (Zxy k) x
 rw [show Zxy k = ZfG k k from (ZIz k k).symm]
 obtain ⟨a0,⟨⟩⟩:=x
 kernel_rfl
theorem Zq6 (k:Nat):Ctr Tryz.prog k 171 (mk ZB YG ZfF) :=
 ZD (fn:=Tryz.f171) (Zg Zd) (by kernel_rfl) (by kernel_rfl) (ZQ7 k)
noncomputable abbrev ZDL:Nat × Callee:=(171,mk ZB YG ZfF)
def ZhJ (k:Nat):Int × Unit → Option (Bool × Unit)
 | (a0,()) => bif decide (a0 ≤ -2147483648) then some (true,()) else some (decide (2147483648 ≤ a0),())
def Zjj (k:Nat):=ZhJ k
theorem ZRN (k:Nat) (x:Kd.dens ZB):ZC (Z8 k) nA Tryz.f220 ZB ZF x = Zjj k x:=by
 show _ = ZhJ k x
 obtain ⟨a0,⟨⟩⟩:=x
 kernel_rfl
theorem Zrp (k:Nat):Ctr Tryz.prog k 220 (mk ZB ZF Zjj) :=
 ZD (fn:=Tryz.f220) (Zg Zd) (by kernel_rfl) (by kernel_rfl) (ZRN k)
noncomputable abbrev ZD3:Nat × Callee:=(220,mk ZB ZF Zjj)
abbrev X4:List Kd:=[.view (.sl (.int .i64)),.fn 220]
noncomputable def Zri (k:Nat):=Wi k [ZD3]
abbrev KG:=Int × Int × List Int
abbrev WA:=KG → Option (Int × Unit)
def ZJb:KG → St
 | (v0,v1,v2) => St.mk (Zw [(7,Zk v0),(8,Zk v1),(1,AV.fn 220),(0,YE v2)]) (Zu [])
def Zak (k:Nat) (L1:WA):WA
 | (v0,v1,v2) => bif decide (v1 < v0) then bif decide (0 ≤ v1 ∧ v1 < Int.ofNat v2.length) then (Zjj k (v2.getD v1.toNat 0,())).bind fun y => bif y.1 then some (v1,()) else L1 (v0,IntKind.i64.wrap (v1 + 1),v2) else none else some ((-1:Int),())
def Znj (k:Nat):WA:=Zn (fun L1 => Zak k L1) k
noncomputable def Zrj (k:Nat) (n:Nat) (v:KG) :=
 Zs (Zri k) Yq [] [1,0,1,0] [] (Wg Tryz.f241) (Wn (Zri k) Tryz.f241 X4 Zj [] []) n (ZJb v)
def Zox (k:Nat) (L1:WA):List Int × Unit × Unit → Option (Int × Unit)
 | (a0,(),()) => L1 (Int.ofNat a0.length,(0:Int),a0)
def ZfM (k:Nat):=Zox k (Znj k)
theorem ZAS (k:Nat):∀ n,Zrj k n = Zn (fun L1 => Zak k L1) n :=
 Zh (fun v => by kernel_rfl) (fun n v => by
  obtain ⟨v0,v1,v2⟩:=v
  kernel_rfl)
theorem ZJc (k:Nat) (x:Kd.dens X4):ZC (Zri k) Yq Tryz.f241 X4 Zj x = ZfM k x:=by
 show _ = Zox k (Znj k) x
 rw [show Znj k = Zrj k k from (ZAS k k).symm]
 obtain ⟨a0,⟨⟨⟩,⟨⟩⟩⟩:=x
 kernel_rfl
theorem ZDW (k:Nat):Ctr Tryz.prog k 241 (mk X4 Zj ZfM) :=
 ZD (fn:=Tryz.f241) (Zg (Za (Zrp k) Zd)) (by kernel_rfl) (by kernel_rfl) (ZJc k)
noncomputable abbrev ZMz:Nat × Callee:=(241,mk X4 Zj ZfM)
noncomputable def ZLT (k:Nat):=Wi k [ZMz]
def Zce (k:Nat):List Int × Unit × Unit → Option (Bool × Unit)
 | (a0,(),()) => (ZfM k (a0,(),())).bind fun y => some (decide ((0:Int) ≤ y.1),())
def Zaf (k:Nat):=Zce k
theorem ZIs (k:Nat) (x:Kd.dens X4):ZC (ZLT k) nA Tryz.f193 X4 ZF x = Zaf k x:=by
 show _ = Zce k x
 obtain ⟨a0,⟨⟨⟩,⟨⟩⟩⟩:=x
 kernel_rfl
theorem Zjc (k:Nat):Ctr Tryz.prog k 193 (mk X4 ZF Zaf) :=
 ZD (fn:=Tryz.f193) (Zg (Za (ZDW k) Zd)) (by kernel_rfl) (by kernel_rfl) (ZIs k)
noncomputable abbrev Zq2:Nat × Callee:=(193,mk X4 ZF Zaf)
def Zh3 (k:Nat):Int × Unit → Option (Bool × Unit)
 | (a0,()) => bif decide (a0 < -2048) then some (true,()) else some (decide ((2047:Int) < a0),())
def ZrE (k:Nat):=Zh3 k
theorem ZSl (k:Nat) (x:Kd.dens ZB):ZC (Z8 k) nA Tryz.f257 ZB ZF x = ZrE k x:=by
 show _ = Zh3 k x
 obtain ⟨a0,⟨⟩⟩:=x
 kernel_rfl
theorem ZNf (k:Nat):Ctr Tryz.prog k 257 (mk ZB ZF ZrE) :=
 ZD (fn:=Tryz.f257) (Zg Zd) (by kernel_rfl) (by kernel_rfl) (ZSl k)
noncomputable abbrev ZV8:Nat × Callee:=(257,mk ZB ZF ZrE)
abbrev X6:List Kd:=[.view (.sl (.int .i64)),.fn 257]
noncomputable def Zrm (k:Nat):=Wi k [ZV8]
def ZJf:KG → St
 | (v0,v1,v2) => St.mk (Zw [(7,Zk v0),(8,Zk v1),(1,AV.fn 257),(0,YE v2)]) (Zu [])
def Zam (k:Nat) (L1:WA):WA
 | (v0,v1,v2) => bif decide (v1 < v0) then bif decide (0 ≤ v1 ∧ v1 < Int.ofNat v2.length) then (ZrE k (v2.getD v1.toNat 0,())).bind fun y => bif y.1 then some (v1,()) else L1 (v0,IntKind.i64.wrap (v1 + 1),v2) else none else some ((-1:Int),())
def Znl (k:Nat):WA:=Zn (fun L1 => Zam k L1) k
noncomputable def Zrn (k:Nat) (n:Nat) (v:KG) :=
 Zs (Zrm k) Yq [] [1,0,1,0] [] (Wg Tryz.f241) (Wn (Zrm k) Tryz.f241 X6 Zj [] []) n (ZJf v)
def Zoz (k:Nat) (L1:WA):List Int × Unit × Unit → Option (Int × Unit)
 | (a0,(),()) => L1 (Int.ofNat a0.length,(0:Int),a0)
def ZfO (k:Nat):=Zoz k (Znl k)
theorem ZAU (k:Nat):∀ n,Zrn k n = Zn (fun L1 => Zam k L1) n :=
 Zh (fun v => by kernel_rfl) (fun n v => by
  obtain ⟨v0,v1,v2⟩:=v
  kernel_rfl)
theorem ZJg (k:Nat) (x:Kd.dens X6):ZC (Zrm k) Yq Tryz.f241 X6 Zj x = ZfO k x:=by
 show _ = Zoz k (Znl k) x
 rw [show Znl k = Zrn k k from (ZAU k k).symm]
 obtain ⟨a0,⟨⟨⟩,⟨⟩⟩⟩:=x
 kernel_rfl
theorem ZDY (k:Nat):Ctr Tryz.prog k 241 (mk X6 Zj ZfO) :=
 ZD (fn:=Tryz.f241) (Zg (Za (ZNf k) Zd)) (by kernel_rfl) (by kernel_rfl) (ZJg k)
noncomputable abbrev ZMB:Nat × Callee:=(241,mk X6 Zj ZfO)
noncomputable def ZLW (k:Nat):=Wi k [ZMB]
def Zch (k:Nat):List Int × Unit × Unit → Option (Bool × Unit)
 | (a0,(),()) => (ZfO k (a0,(),())).bind fun y => some (decide ((0:Int) ≤ y.1),())
def ZfE (k:Nat):=Zch k
theorem ZIu (k:Nat) (x:Kd.dens X6):ZC (ZLW k) nA Tryz.f193 X6 ZF x = ZfE k x:=by
 show _ = Zch k x
 obtain ⟨a0,⟨⟨⟩,⟨⟩⟩⟩:=x
 kernel_rfl
theorem ZDI (k:Nat):Ctr Tryz.prog k 193 (mk X6 ZF ZfE) :=
 ZD (fn:=Tryz.f193) (Zg (Za (ZDY k) Zd)) (by kernel_rfl) (by kernel_rfl) (ZIu k)
noncomputable abbrev ZLX:Nat × Callee:=(193,mk X6 ZF ZfE)
abbrev ZpT:List Kd:=[.view Zjw]
noncomputable def ZVQ (k:Nat):=Wi k [ZLX]
def ZhV (k:Nat):(List Int × Int × Unit) × Unit → Option (Int × Unit)
 | ((a0,a1,()),()) => bif decide ((8:Int) < Int.ofNat a0.length) then some (2,()) else bif decide (a1 < 0) then some (2,()) else bif decide ((15:Int) < a1) then some (2,()) else (ZfE k (a0,(),())).bind fun y => bif y.1 then some (2,()) else some (0,())
def Znv (k:Nat):=ZhV k
theorem ZR7 (k:Nat) (x:Kd.dens ZpT):ZC (ZVQ k) nA Tryz.f219 ZpT Zj x = Znv k x:=by
 show _ = ZhV k x
 obtain ⟨⟨a0,⟨a1,⟨⟩⟩⟩,⟨⟩⟩:=x
 kernel_rfl
theorem ZA9 (k:Nat):Ctr Tryz.prog k 219 (mk ZpT Zj Znv) :=
 ZD (fn:=Tryz.f219) (Zg (Za (ZDI k) Zd)) (by kernel_rfl) (by kernel_rfl) (ZR7 k)
noncomputable abbrev ZMZ:Nat × Callee:=(219,mk ZpT Zj Znv)
abbrev Xj:List Kd:=[.view Zjw,.view (.sl (.int .i64))]
def ZM0:Nat → Ann:=fun id => bif Nat.beq id 3 then ⟨[10,11,9,5,1,2],[]⟩ else ⟨[],[]⟩
abbrev Zx3:=Int × Int × List Int × Int × List Int × List Int × Int
abbrev ZpU:=Zx3 → Option (Int × Unit)
def ZR8:Zx3 → St
 | (v0,v1,v2,v3,v4,v5,v6) => St.mk (Zw [(10,Zk v0),(11,Zk v1),(9,YE v2),(5,Zk v3),(1,YE v4),(2,AV.bx 8192 0)]) (Zu [(8192,QZ [YE v5,Zk v6])])
def Zdl (k:Nat) (L1:ZpU):ZpU
 | (v0,v1,v2,v3,v4,v5,v6) => bif decide (v1 < v0) then bif decide (0 ≤ v1 ∧ v1 < Int.ofNat v2.length) then bif decide (0 ≤ IntKind.i64.wrap (IntKind.i64.wrap (Int.ofNat v4.length - (1:Int)) - v1) ∧ IntKind.i64.wrap (IntKind.i64.wrap (Int.ofNat v4.length - (1:Int)) - v1) < Int.ofNat v4.length) then L1 (v0,IntKind.i64.wrap (v1 + 1),v2,IntKind.i64.wrap (v3 + IntKind.i64.wrap (v2.getD v1.toNat 0 * v4.getD (IntKind.i64.wrap (IntKind.i64.wrap (Int.ofNat v4.length - (1:Int)) - v1)).toNat 0)),v4,v5,v6) else none else none else bif decide (0 ≤ v6) then some (v3.fdiv ((2:Int) ^ min v6.toNat 64),()) else none
def ZpV (k:Nat):ZpU:=Zn (fun L1 => Zdl k L1) k
noncomputable def ZBa (k:Nat) (n:Nat) (v:Zx3) :=
 Zs (Z8 k) ZM0 [] [1,1,0,1,0] [] (Wg Tryz.f222) (Wn (Z8 k) Tryz.f222 Xj Zj [] []) n (ZR8 v)
def ZhW (k:Nat) (L1:ZpU):(List Int × Int × Unit) × List Int × Unit → Option (Int × Unit)
 | ((a0,a1,()),a2,()) => L1 (Int.ofNat a0.length,(0:Int),a0,(0:Int),a2,a0,a1)
def Znw (k:Nat):=ZhW k (ZpV k)
theorem ZJw (k:Nat):∀ n,ZBa k n = Zn (fun L1 => Zdl k L1) n :=
 Zh (fun v => by kernel_rfl) (fun n v => by
  obtain ⟨v0,v1,v2,v3,v4,v5,v6⟩:=v
  kernel_rfl)
theorem ZR9 (k:Nat) (x:Kd.dens Xj):ZC (Z8 k) ZM0 Tryz.f222 Xj Zj x = Znw k x:=by
 show _ = ZhW k (ZpV k) x
 rw [show ZpV k = ZBa k k from (ZJw k k).symm]
 obtain ⟨⟨a0,⟨a1,⟨⟩⟩⟩,⟨a2,⟨⟩⟩⟩:=x
 kernel_rfl
theorem ZBb (k:Nat):Ctr Tryz.prog k 222 (mk Xj Zj Znw) :=
 ZD (fn:=Tryz.f222) (Zg Zd) (by kernel_rfl) (by kernel_rfl) (ZR9 k)
noncomputable abbrev ZM1:Nat × Callee:=(222,mk Xj Zj Znw)
abbrev Q6:Kd:=.tup [.view (.sl (.int .i64)),.view (.int .i64)]
noncomputable def ZD0 (k:Nat):=Wi k [Zq2,ZD3,ZMZ,ZM1]
def ZMD:Nat → Ann:=fun id => bif Nat.beq id 9 then ⟨[7,1,2,6],[.slot 6 ((Ty.int IntKind.i64))]⟩ else ⟨[],[]⟩
abbrev ZxV:=Int × List Int × List Int × Int × List Int
abbrev ZpJ:=ZxV → Option ((List Int × Int × Unit) × Unit)
def ZRJ:ZxV → St
 | (v0,v1,v2,v3,v4) => St.mk (Zw [(7,Zk v0),(1,YE v1),(2,AV.bx 8192 0),(6,AV.own 8193)]) (Zu [(8192,QZ [YE v2,Zk v3]),(8193,rsA v4 false)])
def Zde (k:Nat) (L1:ZpJ):ZpJ
 | (v0,v1,v2,v3,v4) => bif decide (v0 < Int.ofNat v1.length) then bif decide (0 ≤ v0 ∧ v0 < Int.ofNat v1.length) then bif decide ((0:Int) ≤ 0 ∧ (0:Int) ≤ v0 ∧ v0 ≤ Int.ofNat v1.length) then (Znw k ((v2,v3,()),List.drop 0 (List.take v0.toNat v1),())).bind fun y => (Zjj k (IntKind.i64.wrap (v1.getD v0.toNat 0 - y.1),())).bind fun y_1 => bif y_1.1 then some (([],12,()),()) else bif decide (v4.length + [IntKind.i64.wrap (v1.getD v0.toNat 0 - y.1)].length < 2147483648) then L1 (IntKind.i64.wrap (v0 + 1),v1,v2,v3,v4 ++ [IntKind.i64.wrap (v1.getD v0.toNat 0 - y.1)]) else none else none else none else some ((v4,0,()),())
def ZpK (k:Nat):ZpJ:=Zn (fun L1 => Zde k L1) k
noncomputable def ZAV (k:Nat) (n:Nat) (v:ZxV) :=
 Zs (ZD0 k) ZMD [] [1,1,1,0,1,0] [] (Wg Tryz.f243) (Wn (ZD0 k) Tryz.f243 Xj Q6 [] []) n (ZRJ v)
def ZhH (k:Nat) (L1:ZpJ):(List Int × Int × Unit) × List Int × Unit → Option ((List Int × Int × Unit) × Unit)
 | ((a0,a1,()),a2,()) => (Znv k ((a0,a1,()),())).bind fun y => bif y.1 != 0 then some (([],2,()),()) else bif decide (Int.ofNat a2.length < Int.ofNat a0.length) then some (([],1,()),()) else (Zaf k (a2,(),())).bind fun y => bif y.1 then some (([],12,()),()) else L1 (Int.ofNat a0.length,a2,a0,a1,[])
def Znm (k:Nat):=ZhH k (ZpK k)
theorem ZJh (k:Nat):∀ n,ZAV k n = Zn (fun L1 => Zde k L1) n :=
 Zh (fun v => by kernel_rfl) (fun n v => by
  obtain ⟨v0,v1,v2,v3,v4⟩:=v
  kernel_rfl)
theorem ZRK (k:Nat) (x:Kd.dens Xj):ZC (ZD0 k) ZMD Tryz.f243 Xj Q6 x = Znm k x:=by
 show _ = ZhH k (ZpK k) x
 rw [show ZpK k = ZAV k k from (ZJh k k).symm]
 obtain ⟨⟨a0,⟨a1,⟨⟩⟩⟩,⟨a2,⟨⟩⟩⟩:=x
 kernel_rfl
theorem ZAW (k:Nat):Ctr Tryz.prog k 243 (mk Xj Q6 Znm) :=
 ZD (fn:=Tryz.f243) (Zg (Za (Zjc k) (Za (Zrp k) (Za (ZA9 k) (Za (ZBb k) Zd))))) (by kernel_rfl) (by kernel_rfl) (ZRK k)
noncomputable abbrev ZME:Nat × Callee:=(243,mk Xj Q6 Znm)
def ZhM (k:Nat):Int × Unit → Option (Bool × Unit)
 | (a0,()) => bif decide (a0 ≤ -2147483648) then some (true,()) else some (decide (2147483648 ≤ a0),())
def Zrs (k:Nat):=ZhM k
theorem ZRT (k:Nat) (x:Kd.dens ZB):ZC (Z8 k) nA Tryz.f247 ZB ZF x = Zrs k x:=by
 show _ = ZhM k x
 obtain ⟨a0,⟨⟩⟩:=x
 kernel_rfl
theorem ZMQ (k:Nat):Ctr Tryz.prog k 247 (mk ZB ZF Zrs) :=
 ZD (fn:=Tryz.f247) (Zg Zd) (by kernel_rfl) (by kernel_rfl) (ZRT k)
noncomputable abbrev ZVG:Nat × Callee:=(247,mk ZB ZF Zrs)
abbrev X5:List Kd:=[.view (.sl (.int .i64)),.fn 247]
noncomputable def Zrk (k:Nat):=Wi k [ZVG]
def ZJd:KG → St
 | (v0,v1,v2) => St.mk (Zw [(7,Zk v0),(8,Zk v1),(1,AV.fn 247),(0,YE v2)]) (Zu [])
def Zal (k:Nat) (L1:WA):WA
 | (v0,v1,v2) => bif decide (v1 < v0) then bif decide (0 ≤ v1 ∧ v1 < Int.ofNat v2.length) then (Zrs k (v2.getD v1.toNat 0,())).bind fun y => bif y.1 then some (v1,()) else L1 (v0,IntKind.i64.wrap (v1 + 1),v2) else none else some ((-1:Int),())
def Znk (k:Nat):WA:=Zn (fun L1 => Zal k L1) k
noncomputable def Zrl (k:Nat) (n:Nat) (v:KG) :=
 Zs (Zrk k) Yq [] [1,0,1,0] [] (Wg Tryz.f241) (Wn (Zrk k) Tryz.f241 X5 Zj [] []) n (ZJd v)
def Zoy (k:Nat) (L1:WA):List Int × Unit × Unit → Option (Int × Unit)
 | (a0,(),()) => L1 (Int.ofNat a0.length,(0:Int),a0)
def ZfN (k:Nat):=Zoy k (Znk k)
theorem ZAT (k:Nat):∀ n,Zrl k n = Zn (fun L1 => Zal k L1) n :=
 Zh (fun v => by kernel_rfl) (fun n v => by
  obtain ⟨v0,v1,v2⟩:=v
  kernel_rfl)
theorem ZJe (k:Nat) (x:Kd.dens X5):ZC (Zrk k) Yq Tryz.f241 X5 Zj x = ZfN k x:=by
 show _ = Zoy k (Znk k) x
 rw [show Znk k = Zrl k k from (ZAT k k).symm]
 obtain ⟨a0,⟨⟨⟩,⟨⟩⟩⟩:=x
 kernel_rfl
theorem ZDX (k:Nat):Ctr Tryz.prog k 241 (mk X5 Zj ZfN) :=
 ZD (fn:=Tryz.f241) (Zg (Za (ZMQ k) Zd)) (by kernel_rfl) (by kernel_rfl) (ZJe k)
noncomputable abbrev ZMA:Nat × Callee:=(241,mk X5 Zj ZfN)
noncomputable def ZLU (k:Nat):=Wi k [ZMA]
def Zcg (k:Nat):List Int × Unit × Unit → Option (Bool × Unit)
 | (a0,(),()) => (ZfN k (a0,(),())).bind fun y => some (decide ((0:Int) ≤ y.1),())
def ZfD (k:Nat):=Zcg k
theorem ZIt (k:Nat) (x:Kd.dens X5):ZC (ZLU k) nA Tryz.f193 X5 ZF x = ZfD k x:=by
 show _ = Zcg k x
 obtain ⟨a0,⟨⟨⟩,⟨⟩⟩⟩:=x
 kernel_rfl
theorem ZDH (k:Nat):Ctr Tryz.prog k 193 (mk X5 ZF ZfD) :=
 ZD (fn:=Tryz.f193) (Zg (Za (ZDX k) Zd)) (by kernel_rfl) (by kernel_rfl) (ZIt k)
noncomputable abbrev ZLV:Nat × Callee:=(193,mk X5 ZF ZfD)
def ZhL (k:Nat):Int × Int × Unit → Option (Bool × Unit)
 | (a0,a1,()) => bif decide (1 ≤ a0) then bif decide (a0 ≤ 512) then bif decide (0 ≤ a1) then some (decide (a1 ≤ if a0 < 8 then a0 else (8:Int)),()) else some (false,()) else some (false,()) else some (false,())
def Zns (k:Nat):=ZhL k
theorem ZRS (k:Nat) (x:Kd.dens ZaJ):ZC (Z8 k) nA Tryz.f216 ZaJ ZF x = Zns k x:=by
 show _ = ZhL k x
 obtain ⟨a0,⟨a1,⟨⟩⟩⟩:=x
 kernel_rfl
theorem ZA3 (k:Nat):Ctr Tryz.prog k 216 (mk ZaJ ZF Zns) :=
 ZD (fn:=Tryz.f216) (Zg Zd) (by kernel_rfl) (by kernel_rfl) (ZRS k)
noncomputable abbrev ZMP:Nat × Callee:=(216,mk ZaJ ZF Zns)
noncomputable def ZVk (k:Nat):=Wi k [ZLV,ZMP]
def Zhl (k:Nat):List Int × Int × Unit → Option (Int × Unit)
 | (a0,a1,()) => bif decide (a1 < 0) then some (1,()) else bif decide ((8:Int) < a1) then some (1,()) else (Zns k (IntKind.i64.wrap (Int.ofNat a0.length + a1),a1,())).bind fun y => bif !y.1 then some (1,()) else (ZfD k (a0,(),())).bind fun y => bif y.1 then some (12,()) else some (0,())
def Zm8 (k:Nat):=Zhl k
theorem ZRe (k:Nat) (x:Kd.dens Z6):ZC (ZVk k) nA Tryz.f201 Z6 Zj x = Zm8 k x:=by
 show _ = Zhl k x
 obtain ⟨a0,⟨a1,⟨⟩⟩⟩:=x
 kernel_rfl
theorem ZAx (k:Nat):Ctr Tryz.prog k 201 (mk Z6 Zj Zm8) :=
 ZD (fn:=Tryz.f201) (Zg (Za (ZDH k) (Za (ZA3 k) Zd))) (by kernel_rfl) (by kernel_rfl) (ZRe k)
noncomputable abbrev ZL8:Nat × Callee:=(201,mk Z6 Zj Zm8)
abbrev Zkj:List Kd:=[.view (.sl (.int .i64)),.view (.int .i64),.view (.int .i64)]
abbrev Zpq:Kd:=.view (.sl (.sl (.int .i64)))
def ZMa:Nat → Ann:=fun id => bif Nat.beq id 4 then ⟨[8,2,9,7],[]⟩ else ⟨[],[]⟩
abbrev ZxL:=Int × List Int × Int × List (List Int)
abbrev Zpo:=ZxL → Option (List (List Int) × Unit)
def ZRj:ZxL → St
 | (v0,v1,v2,v3) => St.mk (Zw [(8,AV.own 8192),(2,Zk v0),(9,YE v1),(7,Zk v2)]) (Zu [(8192,RS.live (Res.arr (Ty.int IntKind.i64).sl v3 false))])
def Zc4 (k:Nat) (L1:Zpo):Zpo
 | (v0,v1,v2,v3) => bif decide (0 ≤ v0) then bif decide (Int.ofNat v3.length < IntKind.i64.wrap ((1:Int) * (2:Int) ^ min v0.toNat 64)) then bif decide ((0:Int) ≤ 0 ∧ (0:Int) ≤ v2 ∧ v2 ≤ Int.ofNat v1.length) then bif decide (v3.length + [List.drop 0 (List.take v2.toNat v1)].length < 2147483648) then bif decide (0 ≤ v2 ∧ v2 ≤ Int.ofNat v1.length ∧ Int.ofNat v1.length ≤ Int.ofNat v1.length) then L1 (v0,List.drop v2.toNat (List.take (Int.ofNat v1.length).toNat v1),v2,v3 ++ [List.drop 0 (List.take v2.toNat v1)]) else none else none else none else some (v3,()) else none
def Zpp (k:Nat):Zpo:=Zn (fun L1 => Zc4 k L1) k
noncomputable def ZAz (k:Nat) (n:Nat) (v:ZxL) :=
 Zs (Z8 k) ZMa [] [1,1,1,0,1,0] [] (Wg Tryz.f203) (Wn (Z8 k) Tryz.f203 Zkj Zpq [] []) n (ZRj v)
def Zhp (k:Nat) (L1:Zpo):List Int × Int × Int × Unit → Option (List (List Int) × Unit)
 | (a0,a1,a2,()) => bif decide (0 ≤ a2) then bif decide ((0:Int) ≤ 0 ∧ (0:Int) ≤ IntKind.i64.wrap ((IntKind.i64.wrap (Int.ofNat a0.length + a1)).fdiv ((2:Int) ^ min a2.toNat 64) - a1) ∧ IntKind.i64.wrap ((IntKind.i64.wrap (Int.ofNat a0.length + a1)).fdiv ((2:Int) ^ min a2.toNat 64) - a1) ≤ Int.ofNat a0.length) then bif decide (0 ≤ IntKind.i64.wrap ((IntKind.i64.wrap (Int.ofNat a0.length + a1)).fdiv ((2:Int) ^ min a2.toNat 64) - a1) ∧ IntKind.i64.wrap ((IntKind.i64.wrap (Int.ofNat a0.length + a1)).fdiv ((2:Int) ^ min a2.toNat 64) - a1) ≤ Int.ofNat a0.length ∧ Int.ofNat a0.length ≤ Int.ofNat a0.length) then L1 (a2,List.drop (IntKind.i64.wrap ((IntKind.i64.wrap (Int.ofNat a0.length + a1)).fdiv ((2:Int) ^ min a2.toNat 64) - a1)).toNat (List.take (Int.ofNat a0.length).toNat a0),(IntKind.i64.wrap (Int.ofNat a0.length + a1)).fdiv ((2:Int) ^ min a2.toNat 64),[List.drop 0 (List.take (IntKind.i64.wrap ((IntKind.i64.wrap (Int.ofNat a0.length + a1)).fdiv ((2:Int) ^ min a2.toNat 64) - a1)).toNat a0)]) else none else none else none
def Zna (k:Nat):=Zhp k (Zpp k)
theorem ZIM (k:Nat):∀ n,ZAz k n = Zn (fun L1 => Zc4 k L1) n :=
 Zh (fun v => by kernel_rfl) (fun n v => by
  obtain ⟨v0,v1,v2,v3⟩:=v
  kernel_rfl)
theorem ZRk (k:Nat) (x:Kd.dens Zkj):ZC (Z8 k) ZMa Tryz.f203 Zkj Zpq x = Zna k x:=by
 show _ = Zhp k (Zpp k) x
 rw [show Zpp k = ZAz k k from (ZIM k k).symm]
 obtain ⟨a0,⟨a1,⟨a2,⟨⟩⟩⟩⟩:=x
 kernel_rfl
theorem ZAA (k:Nat):Ctr Tryz.prog k 203 (mk Zkj Zpq Zna) :=
 ZD (fn:=Tryz.f203) (Zg Zd) (by kernel_rfl) (by kernel_rfl) (ZRk k)
noncomputable abbrev ZMb:Nat × Callee:=(203,mk Zkj Zpq Zna)
def Zu6 (k:Nat):Int × Unit → Option (Int × Unit)
 | (a0,()) => some (IntKind.i64.wrap ((4:Int) + a0),())
def Zef (k:Nat):=Zu6 k
theorem ZRl (k:Nat) (x:Kd.dens ZB):ZC (Z8 k) nA Tryz.f204 ZB Zj x = Zef k x:=by
 show _ = Zu6 k x
 obtain ⟨a0,⟨⟩⟩:=x
 kernel_rfl
theorem ZAB (k:Nat):Ctr Tryz.prog k 204 (mk ZB Zj Zef) :=
 ZD (fn:=Tryz.f204) (Zg Zd) (by kernel_rfl) (by kernel_rfl) (ZRl k)
noncomputable abbrev ZVl:Nat × Callee:=(204,mk ZB Zj Zef)
abbrev ZhN:List Kd:=[.view (.int .i64),.view (.int .i64),.view (.int .i64)]
def ZhO (k:Nat):Int × Int × Int × Unit → Option (Bool × Unit)
 | (a0,a1,a2,()) => bif decide (0 ≤ a2) then bif IntKind.i64.wrap (Int.ofNat (BitVec.ofInt 64 a0 &&& BitVec.ofInt 64 (IntKind.i64.wrap (IntKind.i64.wrap ((1:Int) * (2:Int) ^ min a2.toNat 64) - (1:Int)))).toNat) == 0 then bif decide (0 ≤ a2) then some (decide (a1 ≤ a0.fdiv ((2:Int) ^ min a2.toNat 64)),()) else none else some (false,()) else none
def Zej (k:Nat):=ZhO k
theorem ZRU (k:Nat) (x:Kd.dens ZhN):ZC (Z8 k) nA Tryz.f217 ZhN ZF x = Zej k x:=by
 show _ = ZhO k x
 obtain ⟨a0,⟨a1,⟨a2,⟨⟩⟩⟩⟩:=x
 kernel_rfl
theorem ZA4 (k:Nat):Ctr Tryz.prog k 217 (mk ZhN ZF Zej) :=
 ZD (fn:=Tryz.f217) (Zg Zd) (by kernel_rfl) (by kernel_rfl) (ZRU k)
noncomputable abbrev ZVH:Nat × Callee:=(217,mk ZhN ZF Zej)
noncomputable def ZVm (k:Nat):=Wi k [ZVl]
def Zu8 (k:Nat):Int × Unit → Option (Int × Unit)
 | (a0,()) => (Zef k (a0,())).bind fun y => bif decide ((0:Int) ≤ y.1) then some (IntKind.i64.wrap (IntKind.i64.wrap ((1:Int) * (2:Int) ^ min (Int.toNat y.1) (64:Nat)) - (1:Int)),()) else none
def Zeh (k:Nat):=Zu8 k
theorem ZRm (k:Nat) (x:Kd.dens ZB):ZC (ZVm k) nA Tryz.f205 ZB Zj x = Zeh k x:=by
 show _ = Zu8 k x
 obtain ⟨a0,⟨⟩⟩:=x
 kernel_rfl
theorem ZMc (k:Nat):Ctr Tryz.prog k 205 (mk ZB Zj Zeh) :=
 ZD (fn:=Tryz.f205) (Zg (Za (ZAB k) Zd)) (by kernel_rfl) (by kernel_rfl) (ZRm k)
noncomputable abbrev ZYY:Nat × Callee:=(205,mk ZB Zj Zeh)
def Zhq (k:Nat):Int × Unit → Option ((Int × Int × Unit) × Unit)
 | (a0,()) => bif decide (a0 < -1099511627776) then some ((0,12,()),()) else bif decide ((1099511627776:Int) < a0) then some ((0,12,()),()) else some ((IntKind.i64.wrap (Int.ofNat (BitVec.ofInt 64 (IntKind.i64.wrap (a0 * (2:Int))) ^^^ BitVec.ofInt 64 (a0.fdiv (9223372036854775808:Int))).toNat),0,()),())
def ZfH (k:Nat):=Zhq k
theorem ZRn (k:Nat) (x:Kd.dens ZB):ZC (Z8 k) nA Tryz.f206 ZB Z9 x = ZfH k x:=by
 show _ = Zhq k x
 obtain ⟨a0,⟨⟩⟩:=x
 kernel_rfl
theorem ZMd (k:Nat):Ctr Tryz.prog k 206 (mk ZB Z9 ZfH) :=
 ZD (fn:=Tryz.f206) (Zg Zd) (by kernel_rfl) (by kernel_rfl) (ZRn k)
noncomputable abbrev ZYZ:Nat × Callee:=(206,mk ZB Z9 ZfH)
def Zyc (k:Nat):Int × Unit → Option (Int × Unit):=fun x => ZPE x
def ZXm:Go.Shelf.Ren:=⟨fun n => match n with | 129 => 270 | _ => 0,fun n => match n with | 0 => 0 | 3 => 3 | 4 => 4 | 5 => 5 | 9 => 9 | 46 => 62 | 53 => 124 | _ => 0,fun n => n⟩
set_option maxRecDepth 100000 in
theorem ZTF:Go.Proofs.Lays.n129 Tryz.prog ZXm:=by
 constructor <;> first | kernel_rfl | (intro w; rfl)
set_option maxRecDepth 100000 in
theorem ZNh (k:Nat):Ctr Tryz.prog k 270 (mk ZpI Zj Zyc):=ZKz ZTF (fn:=Tryz.f270) (by kernel_rfl) (by kernel_rfl) (by kernel_rfl) (by kernel_rfl)
noncomputable abbrev ZV9:Nat × Callee:=(270,mk ZpI Zj Zyc)
noncomputable def ZVW (k:Nat):=Wi k [ZV9]
def ZhX (k:Nat):Int × Unit → Option (Int × Unit)
 | (a0,()) => (Zyc k (IntKind.u64.wrap (IntKind.i64.wrap (Int.ofNat (BitVec.ofInt 64 a0 ^^^ BitVec.ofInt 64 (a0.fdiv (9223372036854775808:Int))).toNat)),())).bind fun y => some (IntKind.i64.wrap (y.1 + 1),())
def Zrz (k:Nat):=ZhX k
theorem ZSd (k:Nat) (x:Kd.dens ZB):ZC (ZVW k) nA Tryz.f267 ZB Zj x = Zrz k x:=by
 show _ = ZhX k x
 obtain ⟨a0,⟨⟩⟩:=x
 kernel_rfl
theorem ZM5 (k:Nat):Ctr Tryz.prog k 267 (mk ZB Zj Zrz) :=
 ZD (fn:=Tryz.f267) (Zg (Za (ZNh k) Zd)) (by kernel_rfl) (by kernel_rfl) (ZSd k)
noncomputable abbrev ZVX:Nat × Callee:=(267,mk ZB Zj Zrz)
def ZaI (k:Nat):Int × Unit → Option (Int × Unit):=match k with | 0 => Zeh 0 | n + 1 => Zeh (n + 1)
theorem Zu7:ZaI = Zeh:=by funext k; cases k <;> rfl
theorem Znd (k:Nat):Ctr Tryz.prog k 205 (mk ZB Zj ZaI):=by rw [Zu7]; exact ZMc k
def Zjg (k:Nat):Int × Unit → Option ((Int × Int × Unit) × Unit):=match k with | 0 => ZfH 0 | n + 1 => ZfH (n + 1)
theorem Zu9:Zjg = ZfH:=by funext k; cases k <;> rfl
theorem Zva (k:Nat):Ctr Tryz.prog k 206 (mk ZB Z9 Zjg):=by rw [Zu9]; exact ZMd k
abbrev ZhR:Kd:=.tup [.view ZQa,.view .bool]
noncomputable def Zjk (k:Nat):=Wi k [(205,mk ZB Zj ZaI),(206,mk ZB Z9 Zjg),ZVX]
noncomputable def ZxZ:Nat → Ann:=fun id => bif Nat.beq id 16 then ⟨[55,56,54,13,12,14,7,6,46,45,0,8,9,1,4],[]⟩ else bif Nat.beq id 12 then ⟨[45,46,0,8,7,6,9,1,4],[]⟩ else bif Nat.beq id 5 then ⟨[23,24,22,8,9,1,0,7,6,4],[]⟩ else ⟨[],[]⟩
abbrev Zx2:=Int × Int × Int × Int × Bool × Bool × Int × Int × List Int × Int × Int × List Int × Int × Int × Int × Int × Int × Int
abbrev ZpQ:=Zx2 → Option (((Int × Int × Int × Unit) × Bool × Unit) × Unit)
abbrev Zx1:=Int × Int × List Int × Bool × Int × Int × List Int × Int × Int × Int × Int × Int × Int
abbrev ZhP:=Zx1 → Option (((Int × Int × Int × Unit) × Bool × Unit) × Unit)
abbrev Zx0:=Int × Int × List Int × Int × Int × List Int × Bool × List Int × Int × Int × Int × Int × Int × Int
abbrev ZpP:=Zx0 → Option (((Int × Int × Int × Unit) × Bool × Unit) × Unit)
noncomputable def ZRX:Zx2 → St
 | (v0,v1,v2,v3,v4,v5,v6,v7,v8,v9,v10,v11,v12,v13,v14,v15,v16,v17) => St.mk (Zw [(55,Zk v0),(56,Zk v1),(54,AV.own 8192),(13,Zk v2),(12,Zk v3),(14,avB v4),(7,avB v5),(6,AV.bx 8193 0),(46,Zk v6),(45,Zk v7),(0,YE v8),(8,AV.own 8192),(9,Zk v9),(1,Zk v10),(4,AV.bx 8194 0)]) (Zu [(8192,rsA v11 false),(8193,QZ [Zk v12,Zk v13,Zk v14]),(8194,QZ [Zk v15,Zk v16,Zk v17])])
noncomputable def Zba (k:Nat) (L2:ZhP) (L3:ZpQ):ZpQ
 | (v0,v1,v2,v3,v4,v5,v6,v7,v8,v9,v10,v11,v12,v13,v14,v15,v16,v17) => bif decide (v1 < v0) then bif decide (0 ≤ v1 ∧ v1 < Int.ofNat v11.length) then bif decide (v1.toNat < v11.length) then bif decide (0 ≤ v3) then bif v4 then L3 (v0,IntKind.i64.wrap (v1 + 1),IntKind.i64.wrap (v2 + Int.fdiv (v11.getD v1.toNat 0) ((2:Int) ^ min v3.toNat 64)),v3,true,v5,v6,v7,v8,v9,v10,v11,v12,v13,v14,v15,v16,v17) else bif decide (0 ≤ v3) then L3 (v0,IntKind.i64.wrap (v1 + 1),IntKind.i64.wrap (v2 + Int.fdiv (v11.getD v1.toNat 0) ((2:Int) ^ min v3.toNat 64)),v3,decide ((65536:Int) < Int.fdiv (v11.getD v1.toNat 0) ((2:Int) ^ min v3.toNat 64)),v5,v6,v7,v8,v9,v10,v11,v12,v13,v14,v15,v16,v17) else none else none else none else none else bif !v4 then bif !v5 then L2 (v7,IntKind.i64.wrap (v6 + 1),v8,true,v9,v10,v11,v3,(0:Int),v2,v15,v16,v17) else bif decide (v2 < v14) then L2 (v7,IntKind.i64.wrap (v6 + 1),v8,true,v9,v10,v11,v3,(0:Int),v2,v15,v16,v17) else L2 (v7,IntKind.i64.wrap (v6 + 1),v8,v5,v9,v10,v11,v12,v13,v14,v15,v16,v17) else L2 (v7,IntKind.i64.wrap (v6 + 1),v8,v5,v9,v10,v11,v12,v13,v14,v15,v16,v17)
noncomputable def Zkp (k:Nat) (L2:ZhP):ZpQ:=Zn (fun L3 => Zba k L2 L3) k
noncomputable def Zkq (k:Nat) (n2:Nat) (n:Nat) (v:Zx2):Option (((Int × Int × Int × Unit) × Bool × Unit) × Unit) :=
 Zs (Zjk k) ZxZ [] [1,1,1,1,1,0,1,0,0,1,1,0,0,1,1,0,1,0] [n2] (Wg Tryz.f248) (Wn (Zjk k) Tryz.f248 Z6 ZhR [] []) n (ZRX v)
noncomputable def ZRW:Zx1 → St
 | (v0,v1,v2,v3,v4,v5,v6,v7,v8,v9,v10,v11,v12) => St.mk (Zw [(45,Zk v0),(46,Zk v1),(0,YE v2),(8,AV.own 8192),(7,avB v3),(6,AV.bx 8193 0),(9,Zk v4),(1,Zk v5),(4,AV.bx 8194 0)]) (Zu [(8192,rsA v6 false),(8193,QZ [Zk v7,Zk v8,Zk v9]),(8194,QZ [Zk v10,Zk v11,Zk v12])])
noncomputable def Zdi (k:Nat) (L3:ZpQ) (L2:ZhP):ZhP
 | (v0,v1,v2,v3,v4,v5,v6,v7,v8,v9,v10,v11,v12) => bif decide (v1 < v0) then L3 (Int.ofNat v6.length,(0:Int),IntKind.i64.wrap (IntKind.i64.wrap (v1 + 1) * Int.ofNat v2.length),v1,false,v3,v1,v0,v2,v4,v5,v6,v7,v8,v9,v10,v11,v12) else bif decide (v4 ≤ 31) then bif !v3 then (ZaI k (v5,())).bind fun y => some (((y.1,v4,IntKind.i64.wrap ((5:Int) + IntKind.i64.wrap (v4 * Int.ofNat v2.length)),()),true,()),()) else bif decide (IntKind.i64.wrap ((5:Int) + IntKind.i64.wrap (v4 * Int.ofNat v2.length)) < v9) then (ZaI k (v5,())).bind fun y => some (((y.1,v4,IntKind.i64.wrap ((5:Int) + IntKind.i64.wrap (v4 * Int.ofNat v2.length)),()),true,()),()) else some (((v7,v8,v9,()),v3,()),()) else some (((v7,v8,v9,()),v3,()),())
noncomputable def Zko (k:Nat):ZhP:=Zn (fun L2 => Zdi k (Zkp k L2) L2) k
noncomputable def ZfP (k:Nat) (n:Nat) (v:Zx1) :=
 Zs (Zjk k) ZxZ [] [1,1,1,1,1,0,1,0] [] (Wg Tryz.f248) (Wn (Zjk k) Tryz.f248 Z6 ZhR [] []) n (ZRW v)
noncomputable def ZRV:Zx0 → St
 | (v0,v1,v2,v3,v4,v5,v6,v7,v8,v9,v10,v11,v12,v13) => St.mk (Zw [(23,Zk v0),(24,Zk v1),(22,YE v2),(8,AV.own 8192),(9,Zk v3),(1,Zk v4),(0,YE v5),(7,avB v6),(6,AV.bx 8193 0),(4,AV.bx 8194 0)]) (Zu [(8192,rsA v7 false),(8193,QZ [Zk v8,Zk v9,Zk v10]),(8194,QZ [Zk v11,Zk v12,Zk v13])])
noncomputable def Zdh (k:Nat) (L2:ZhP) (L1:ZpP):ZpP
 | (v0,v1,v2,v3,v4,v5,v6,v7,v8,v9,v10,v11,v12,v13) => bif decide (v1 < v0) then bif decide (0 ≤ v1 ∧ v1 < Int.ofNat v2.length) then (Zjg k (v2.getD v1.toNat 0,())).bind fun y => bif decide (0 ≤ v1 ∧ v1 < Int.ofNat v7.length) then bif decide (v1.toNat < v7.length) then bif v2.getD v1.toNat 0 != (0:Int) then (Zrz k (v2.getD v1.toNat 0,())).bind fun y_1 => L1 (v0,IntKind.i64.wrap (v1 + 1),v2,if v3 < y_1.1 then y_1.1 else v3,v4,v5,v6,v7.set v1.toNat y.1.1,v8,v9,v10,v11,v12,v13) else L1 (v0,IntKind.i64.wrap (v1 + 1),v2,v3,v4,v5,v6,v7.set v1.toNat y.1.1,v8,v9,v10,v11,v12,v13) else none else none else none else (ZaI k (v4,())).bind fun y => L2 (y.1,(0:Int),v5,v6,v3,v4,v7,v8,v9,v10,v11,v12,v13)
noncomputable def ZpR (k:Nat):ZpP:=Zn (fun L1 => Zdh k (Zko k) L1) k
noncomputable def ZA5 (k:Nat) (n:Nat) (v:Zx0) :=
 Zs (Zjk k) ZxZ [] [1,1,1,1,0,1,0] [] (Wg Tryz.f248) (Wn (Zjk k) Tryz.f248 Z6 ZhR [] []) n (ZRV v)
noncomputable def ZhQ (k:Nat) (L1:ZpP):List Int × Int × Unit → Option (((Int × Int × Int × Unit) × Bool × Unit) × Unit)
 | (a0,a1,()) => bif decide ((0:Int) ≤ Int.ofNat a0.length ∧ Int.ofNat a0.length ≤ Int.ofNat a0.length ∧ Int.ofNat a0.length < (4294967296:Int)) then L1 (Int.ofNat a0.length,(0:Int),a0,(0:Int),a1,a0,false,List.replicate (Int.ofNat a0.length).toNat (0:Int),(0:Int),(0:Int),(0:Int),(0:Int),(0:Int),(0:Int)) else none
noncomputable def Zru (k:Nat):=ZhQ k (ZpR k)
theorem ZJq (k:Nat) (n2:Nat):∀ n,Zkq k n2 n = Zn (fun L3 => Zba k (ZfP k n2) L3) n :=
 Zh (fun v => by kernel_rfl) (fun n v => by
  show Zkq k n2 (n + 1) v = Zba k (ZfP k n2) (Zkq k n2 n) v
  obtain ⟨v0,v1,v2,v3,v4,v5,v6,v7,v8,v9,v10,v11,v12,v13,v14,v15,v16,v17⟩:=v
  kernel_rfl)
theorem ZJp (k:Nat):∀ n,ZfP k n = Zn (fun L2 => Zdi k (Zkp k L2) L2) n :=
 Zh (fun v => by kernel_rfl) (fun n v => by
  rw [show (Zkp k (ZfP k n)) = Zkq k n k from (ZJq k n k).symm]
  obtain ⟨v0,v1,v2,v3,v4,v5,v6,v7,v8,v9,v10,v11,v12⟩:=v
  kernel_rfl)
theorem ZJo (k:Nat):∀ n,ZA5 k n = Zn (fun L1 => Zdh k (Zko k) L1) n :=
 Zh (fun v => by kernel_rfl) (fun n v => by
  rw [show (Zko k) = ZfP k k from (ZJp k k).symm]
  obtain ⟨v0,v1,v2,v3,v4,v5,v6,v7,v8,v9,v10,v11,v12,v13⟩:=v
  kernel_rfl)
theorem ZRY (k:Nat) (x:Kd.dens Z6):ZC (Zjk k) ZxZ Tryz.f248 Z6 ZhR x = Zru k x:=by
 show _ = ZhQ k (ZpR k) x
 rw [show ZpR k = ZA5 k k from (ZJo k k).symm]
 obtain ⟨a0,⟨a1,⟨⟩⟩⟩:=x
 kernel_rfl
theorem ZMR (k:Nat):Ctr Tryz.prog k 248 (mk Z6 ZhR Zru) :=
 ZD (fn:=Tryz.f248) (Zg (Za (Znd k) (Za (Zva k) (Za (ZM5 k) Zd)))) (by kernel_rfl) (by kernel_rfl) (ZRY k)
noncomputable abbrev ZVI:Nat × Callee:=(248,mk Z6 ZhR Zru)
def Zeg (k:Nat):Int × Unit → Option (Int × Unit):=match k with | 0 => Zef 0 | n + 1 => Zef (n + 1)
theorem Zu5:Zeg = Zef:=by funext k; cases k <;> rfl
theorem Znb (k:Nat):Ctr Tryz.prog k 204 (mk ZB Zj Zeg):=by rw [Zu5]; exact ZAB k
def Zrt (k:Nat):Int × Int × Int × Unit → Option (Bool × Unit):=match k with | 0 => Zej 0 | n + 1 => Zej (n + 1)
theorem Zvk:Zrt = Zej:=by funext k; cases k <;> rfl
theorem ZJn (k:Nat):Ctr Tryz.prog k 217 (mk ZhN ZF Zrt):=by rw [Zvk]; exact ZA4 k
abbrev Zho:Kd:=.view ZXz
noncomputable def Zjf (k:Nat):=Wi k [ZMb,(204,mk ZB Zj Zeg),(217,mk ZhN ZF Zrt),ZVI]
noncomputable def ZxH:Nat → Ann:=fun id => bif Nat.beq id 11 then ⟨[37,38,36,7,5,8,6,0,1,4,9],[.cell 8 2 (((Ty.int IntKind.i64).pair ((Ty.int IntKind.i64).pair ((Ty.int IntKind.i64).pair Ty.unit))))]⟩ else bif Nat.beq id 7 then ⟨[7,6,0,1,5,4],[.cell 5 2 (((Ty.int IntKind.i64).pair ((Ty.int IntKind.i64).pair ((Ty.int IntKind.i64).pair Ty.unit))))]⟩ else bif Nat.beq id 3 then ⟨[6,0,1,5,4],[.cell 5 2 (((Ty.int IntKind.i64).pair ((Ty.int IntKind.i64).pair ((Ty.int IntKind.i64).pair Ty.unit))))]⟩ else ⟨[],[]⟩
abbrev ZxK:=Int × Int × List (List Int) × Int × Int × List Int × Int × Bool × Int × Int × Int × List (Int × Int × Int × Unit) × Int × Int × Int × List (Int × Int × Int × Unit) × Int × Int × Int
abbrev Zpm:=ZxK → Option ((Int × Int × List (Int × Int × Int × Unit) × Int × Unit) × Unit)
abbrev ZxJ:=Int × Int × List Int × Int × Int × Int × Int × List (Int × Int × Int × Unit) × Int × Int × Int
abbrev Zhm:=ZxJ → Option ((Int × Int × List (Int × Int × Int × Unit) × Int × Unit) × Unit)
abbrev ZxI:=Int × List Int × Int × Int × Int × Int × List (Int × Int × Int × Unit) × Int × Int × Int
abbrev Zcj:=ZxI → Option ((Int × Int × List (Int × Int × Int × Unit) × Int × Unit) × Unit)
noncomputable def ZRh:ZxK → St
 | (v0,v1,v2,v3,v4,v5,v6,v7,v8,v9,v10,v11,v12,v13,v14,v15,v16,v17,v18) => St.mk (Zw [(37,Zk v0),(38,Zk v1),(36,AV.val (PV.sl (Ty.int IntKind.i64).sl v2)),(7,Zk v3),(5,AV.bx 8192 0),(8,AV.bx 8194 0),(6,Zk v4),(0,YE v5),(1,Zk v6),(4,AV.bx 8196 0),(9,avB v7)]) (Zu [(8192,QZ [Zk v8,Zk v9,AV.own 8193,Zk v10]),(8193,RS.live (Res.arr ((Ty.int IntKind.i64).pair ((Ty.int IntKind.i64).pair ((Ty.int IntKind.i64).pair Ty.unit))) v11 false)),(8194,QZ [Zk v12,Zk v13,AV.own 8195,Zk v14]),(8195,RS.live (Res.arr ((Ty.int IntKind.i64).pair ((Ty.int IntKind.i64).pair ((Ty.int IntKind.i64).pair Ty.unit))) v15 false)),(8196,QZ [Zk v16,Zk v17,AV.val (PV.v (Value.slice none (0:Nat) (0:Nat))),Zk v18])])
noncomputable def Za8 (k:Nat) (L1:Zcj) (L2:Zhm) (L3:Zpm):Zpm
 | (v0,v1,v2,v3,v4,v5,v6,v7,v8,v9,v10,v11,v12,v13,v14,v15,v16,v17,v18) => bif decide (v1 < v0) then bif decide (0 ≤ v1 ∧ v1 < Int.ofNat v2.length) then (Zru k (v2.getD v1.toNat [],v3,())).bind fun y => bif !y.1.2.1 then bif y.1.2.1 then bif decide (v10 < 0) then L2 (IntKind.i64.wrap (v3 + 1),v4,v5,v6,v12,v13,v14,v15,v16,v17,v18) else bif decide (v14 < v10) then L2 (IntKind.i64.wrap (v3 + 1),v4,v5,v6,v12,v13,v14,v15,v16,v17,v18) else L2 (IntKind.i64.wrap (v3 + 1),v4,v5,v6,v8,v9,v10,v11,v16,v17,v18) else L2 (IntKind.i64.wrap (v3 + 1),v4,v5,v6,v8,v9,v10,v11,v16,v17,v18) else bif decide (v15.length + [(y.1.1.1,y.1.1.2.1,y.1.1.2.2.1,())].length < 2147483648) then (Zeg k (v3,())).bind fun y_1 => L3 (v0,IntKind.i64.wrap (v1 + 1),v2,v3,v4,v5,v6,y.1.2.1,v8,v9,v10,v11,v12,v13,IntKind.i64.wrap (v14 + IntKind.i64.wrap (y_1.1 + y.1.1.2.2.1)),v15 ++ [(y.1.1.1,y.1.1.2.1,y.1.1.2.2.1,())],v16,v17,v18) else none else none else bif v7 then bif decide (v10 < 0) then L2 (IntKind.i64.wrap (v3 + 1),v4,v5,v6,v12,v13,v14,v15,v16,v17,v18) else bif decide (v14 < v10) then L2 (IntKind.i64.wrap (v3 + 1),v4,v5,v6,v12,v13,v14,v15,v16,v17,v18) else L2 (IntKind.i64.wrap (v3 + 1),v4,v5,v6,v8,v9,v10,v11,v16,v17,v18) else L2 (IntKind.i64.wrap (v3 + 1),v4,v5,v6,v8,v9,v10,v11,v16,v17,v18)
noncomputable def Zck (k:Nat) (L1:Zcj) (L2:Zhm):Zpm:=Zn (fun L3 => Za8 k L1 L2 L3) k
noncomputable def Zki (k:Nat) (n1 n2:Nat) (n:Nat) (v:ZxK):Option ((Int × Int × List (Int × Int × Int × Unit) × Int × Unit) × Unit) :=
 Zs (Zjf k) ZxH [] [1,1,0,1,0,0,1,0,0,1,1,0,0,1,0,0,1,0,1,0] [n1,n2] (Wg Tryz.f202) (Wn (Zjf k) Tryz.f202 Z6 Zho [] []) n (ZRh v)
noncomputable def ZRg:ZxJ → St
 | (v0,v1,v2,v3,v4,v5,v6,v7,v8,v9,v10) => St.mk (Zw [(7,Zk v0),(6,Zk v1),(0,YE v2),(1,Zk v3),(5,AV.bx 8192 0),(4,AV.bx 8194 0)]) (Zu [(8192,QZ [Zk v4,Zk v5,AV.own 8193,Zk v6]),(8193,RS.live (Res.arr ((Ty.int IntKind.i64).pair ((Ty.int IntKind.i64).pair ((Ty.int IntKind.i64).pair Ty.unit))) v7 false)),(8194,QZ [Zk v8,Zk v9,AV.val (PV.v (Value.slice none (0:Nat) (0:Nat))),Zk v10])])
noncomputable def Y1 (k:Nat) (L3:Zpm) (L1:Zcj) (L2:Zhm):Zhm
 | (v0,v1,v2,v3,v4,v5,v6,v7,v8,v9,v10) => bif decide (v0 < 2) then (Zna k (v2,v3,v1,())).bind fun y => L3 (Int.ofNat (List.length y.1),(0:Int),y.1,v0,v1,v2,v3,true,v4,v5,v6,v7,v0,v1,(6:Int),[],v8,v9,v10) else L1 (IntKind.i64.wrap (v1 + 1),v2,v3,v4,v5,v6,v7,v8,v9,v10)
noncomputable def Zkh (k:Nat) (L1:Zcj):Zhm:=Zn (fun L2 => Y1 k (Zck k L1 L2) L1 L2) k
noncomputable def Zah (k:Nat) (n1:Nat) (n:Nat) (v:ZxJ):Option ((Int × Int × List (Int × Int × Int × Unit) × Int × Unit) × Unit) :=
 Zs (Zjf k) ZxH [] [1,1,0,1,0,0,1,0,0,1,1,0] [n1] (Wg Tryz.f202) (Wn (Zjf k) Tryz.f202 Z6 Zho [] []) n (ZRg v)
noncomputable def ZRf:ZxI → St
 | (v0,v1,v2,v3,v4,v5,v6,v7,v8,v9) => St.mk (Zw [(6,Zk v0),(0,YE v1),(1,Zk v2),(5,AV.bx 8192 0),(4,AV.bx 8194 0)]) (Zu [(8192,QZ [Zk v3,Zk v4,AV.own 8193,Zk v5]),(8193,RS.live (Res.arr ((Ty.int IntKind.i64).pair ((Ty.int IntKind.i64).pair ((Ty.int IntKind.i64).pair Ty.unit))) v6 false)),(8194,QZ [Zk v7,Zk v8,AV.val (PV.v (Value.slice none (0:Nat) (0:Nat))),Zk v9])])
noncomputable def Zc3 (k:Nat) (L2:Zhm) (L1:Zcj):Zcj
 | (v0,v1,v2,v3,v4,v5,v6,v7,v8,v9) => bif decide (v0 ≤ 4) then (Zrt k (IntKind.i64.wrap (Int.ofNat v1.length + v2),v2,v0,())).bind fun y => bif !y.1 then L1 (IntKind.i64.wrap (v0 + 1),v1,v2,v3,v4,v5,v6,v7,v8,v9) else L2 (0,v0,v1,v2,v3,v4,v5,v6,v7,v8,v9) else some ((v3,v4,v6,v5,()),())
noncomputable def Zpn (k:Nat):Zcj:=Zn (fun L1 => Zc3 k (Zkh k L1) L1) k
noncomputable def Yp (k:Nat) (n:Nat) (v:ZxI) :=
 Zs (Zjf k) ZxH [] [1,1,0,1,0] [] (Wg Tryz.f202) (Wn (Zjf k) Tryz.f202 Z6 Zho [] []) n (ZRf v)
noncomputable def Zhn (k:Nat) (L1:Zcj):List Int × Int × Unit → Option ((Int × Int × List (Int × Int × Int × Unit) × Int × Unit) × Unit)
 | (a0,a1,()) => L1 (0,a0,a1,(0:Int),(0:Int),(-1:Int),[],(0:Int),(0:Int),(0:Int))
noncomputable def Zm9 (k:Nat):=Zhn k (Zpn k)
theorem ZIL (k:Nat) (n1 n2:Nat):∀ n,Zki k n1 n2 n = Zn (fun L3 => Za8 k (Yp k n1) (Zah k n1 n2) L3) n :=
 Zh (fun v => by kernel_rfl) (fun n v => by
  show Zki k n1 n2 (n + 1) v = Za8 k (Yp k n1) (Zah k n1 n2) (Zki k n1 n2 n) v
  obtain ⟨v0,v1,v2,v3,v4,v5,v6,v7,v8,v9,v10,v11,v12,v13,v14,v15,v16,v17,v18⟩:=v
  kernel_rfl)
theorem ZIK (k:Nat) (n1:Nat):∀ n,Zah k n1 n = Zn (fun L2 => Y1 k (Zck k (Yp k n1) L2) (Yp k n1) L2) n :=
 Zh (fun v => by kernel_rfl) (fun n v => by
  show Zah k n1 (n + 1) v = Y1 k (Zck k (Yp k n1) (Zah k n1 n)) (Yp k n1) (Zah k n1 n) v
  rw [show (Zck k (Yp k n1) (Zah k n1 n)) = Zki k n1 n k from (ZIL k n1 n k).symm]
  obtain ⟨v0,v1,v2,v3,v4,v5,v6,v7,v8,v9,v10⟩:=v
  kernel_rfl)
theorem ZIJ (k:Nat):∀ n,Yp k n = Zn (fun L1 => Zc3 k (Zkh k L1) L1) n :=
 Zh (fun v => by kernel_rfl) (fun n v => by
  rw [show (Zkh k (Yp k n)) = Zah k n k from (ZIK k n k).symm]
  obtain ⟨v0,v1,v2,v3,v4,v5,v6,v7,v8,v9⟩:=v
  kernel_rfl)
theorem ZRi (k:Nat) (x:Kd.dens Z6):ZC (Zjf k) ZxH Tryz.f202 Z6 Zho x = Zm9 k x:=by
 show _ = Zhn k (Zpn k) x
 rw [show Zpn k = Yp k k from (ZIJ k k).symm]
 obtain ⟨a0,⟨a1,⟨⟩⟩⟩:=x
 kernel_rfl
theorem ZAy (k:Nat):Ctr Tryz.prog k 202 (mk Z6 Zho Zm9) :=
 ZD (fn:=Tryz.f202) (Zg (Za (ZAA k) (Za (Znb k) (Za (ZJn k) (Za (ZMR k) Zd))))) (by kernel_rfl) (by kernel_rfl) (ZRi k)
noncomputable abbrev ZL9:Nat × Callee:=(202,mk Z6 Zho Zm9)
noncomputable def ZVz (k:Nat):=Wi k [ZL8,ZL9]
noncomputable def ZhI (k:Nat):List Int × Int × Unit → Option ((Int × Int × Unit) × Unit)
 | (a0,a1,()) => (Zm8 k (a0,a1,())).bind fun y => bif y.1 != 0 then some ((0,y.1,()),()) else (Zm9 k (a0,a1,())).bind fun y => some ((y.1.2.2.2.1,0,()),())
noncomputable def Zro (k:Nat):=ZhI k
theorem ZRL (k:Nat) (x:Kd.dens Z6):ZC (ZVz k) nA Tryz.f244 Z6 Z9 x = Zro k x:=by
 show _ = ZhI k x
 obtain ⟨a0,⟨a1,⟨⟩⟩⟩:=x
 kernel_rfl
theorem ZMF (k:Nat):Ctr Tryz.prog k 244 (mk Z6 Z9 Zro) :=
 ZD (fn:=Tryz.f244) (Zg (Za (ZAx k) (Za (ZAy k) Zd))) (by kernel_rfl) (by kernel_rfl) (ZRL k)
noncomputable abbrev ZVA:Nat × Callee:=(244,mk Z6 Z9 Zro)
abbrev Zpj:List Kd:=[.view ZzJ,.view (.int .i64),.view Zjw,.view (.int .i64)]
abbrev ZxC:Kd:=.tup [.view ZzJ,.view .bool]
noncomputable def ZVh (k:Nat):=Wi k [ZME,ZVA]
noncomputable def Zhg (k:Nat):(Int × Int × Int × List Int × (List Int × Int × Unit) × List Int × Int × Unit) × Int × (List Int × Int × Unit) × Int × Unit → Option (((Int × Int × Int × List Int × (List Int × Int × Unit) × List Int × Int × Unit) × Bool × Unit) × Unit)
 | ((a0,a1,a2,a3,(a4,a5,()),a6,a7,()),a8,(a9,a10,()),a11,()) => (Znm k ((a9,a10,()),a3,())).bind fun y => bif y.1.2.1 != 0 then some (((a0,a1,a2,a3,(a4,a5,()),a6,a7,()),false,()),()) else (Zro k (y.1.1,Int.ofNat a9.length,())).bind fun y_1 => bif y_1.1.2.1 != 0 then some (((a0,a1,a2,a3,(a4,a5,()),a6,a7,()),false,()),()) else some (((a8,a1,a2,a3,(a9,a10,()),y.1.1,IntKind.i64.wrap (IntKind.i64.wrap (a11 + IntKind.i64.wrap (Int.ofNat a9.length * a2)) + y_1.1.1),()),true,()),())
noncomputable def Zjd (k:Nat):=Zhg k
theorem ZQ8 (k:Nat) (x:Kd.dens Zpj):ZC (ZVh k) nA Tryz.f198 Zpj ZxC x = Zjd k x:=by
 show _ = Zhg k x
 obtain ⟨⟨a0,⟨a1,⟨a2,⟨a3,⟨⟨a4,⟨a5,⟨⟩⟩⟩,⟨a6,⟨a7,⟨⟩⟩⟩⟩⟩⟩⟩⟩,⟨a8,⟨⟨a9,⟨a10,⟨⟩⟩⟩,⟨a11,⟨⟩⟩⟩⟩⟩:=x
 kernel_rfl
theorem ZL4 (k:Nat):Ctr Tryz.prog k 198 (mk Zpj ZxC Zjd) :=
 ZD (fn:=Tryz.f198) (Zg (Za (ZAW k) (Za (ZMF k) Zd))) (by kernel_rfl) (by kernel_rfl) (ZQ8 k)
noncomputable abbrev ZVi:Nat × Callee:=(198,mk Zpj ZxC Zjd)
abbrev ZpM:Kd:=.view Zjw
noncomputable def ZD4 (k:Nat):=Wi k [ZDL]
def ZMK:Nat → Ann:=fun id => bif Nat.beq id 4 then ⟨[19,20,18,3,2],[]⟩ else ⟨[],[]⟩
abbrev ZpL:=Zhf → Option ((List Int × Int × Unit) × Unit)
def ZRO:Zhf → St
 | (v0,v1,v2,v3,v4,v5) => St.mk (Zw [(19,Zk v0),(20,Zk v1),(18,YE v2),(3,AV.bx 8192 0),(2,AV.bx 8194 0)]) (Zu [(8192,QZ [AV.own 8193,Zk v3]),(8193,rsA v4 false),(8194,QZ [AV.val (PV.v (Value.slice none (0:Nat) (0:Nat))),Zk v5])])
def Zvh (k:Nat) (L1:ZpL):ZpL
 | (v0,v1,v2,v3,v4,v5) => bif decide (v1 < v0) then bif decide (0 ≤ v1 ∧ v1 < Int.ofNat v2.length) then bif decide (0 ≤ v1 ∧ v1 < Int.ofNat v4.length) then bif decide (v1.toNat < v4.length) then L1 (v0,IntKind.i64.wrap (v1 + 1),v2,v3,v4.set v1.toNat (IntKind.i64.wrap (v2.getD v1.toNat 0 * (16:Int))),v5) else none else none else none else some ((v4,v3,()),())
def ZxY (k:Nat):ZpL:=Zn (fun L1 => Zvh k L1) k
noncomputable def ZA0 (k:Nat) (n:Nat) (v:Zhf) :=
 Zs (ZD4 k) ZMK [] [1,1,1,0,1,0] [] (Wg Tryz.f245) (Wn (ZD4 k) Tryz.f245 ZB ZpM [] []) n (ZRO v)
def Zvg (k:Nat) (L1:ZpL):Int × Unit → Option ((List Int × Int × Unit) × Unit)
 | (a0,()) => bif decide (0 ≤ a0 ∧ a0 ≤ a0 ∧ a0 < 4294967296) then (ZfF k (if (4:Int) < a0 then (4:Int) else a0,())).bind fun y => L1 (Int.ofNat (List.length y.1.1.1),(0:Int),y.1.1.1,(4:Int),List.replicate a0.toNat (0:Int),(0:Int)) else none
def Zrq (k:Nat):=Zvg k (ZxY k)
theorem ZJj (k:Nat):∀ n,ZA0 k n = Zn (fun L1 => Zvh k L1) n :=
 Zh (fun v => by kernel_rfl) (fun n v => by
  obtain ⟨v0,v1,v2,v3,v4,v5⟩:=v
  kernel_rfl)
theorem ZRP (k:Nat) (x:Kd.dens ZB):ZC (ZD4 k) ZMK Tryz.f245 ZB ZpM x = Zrq k x:=by
 show _ = Zvg k (ZxY k) x
 rw [show ZxY k = ZA0 k k from (ZJj k k).symm]
 obtain ⟨a0,⟨⟩⟩:=x
 kernel_rfl
theorem ZML (k:Nat):Ctr Tryz.prog k 245 (mk ZB ZpM Zrq) :=
 ZD (fn:=Tryz.f245) (Zg (Za (Zq6 k) Zd)) (by kernel_rfl) (by kernel_rfl) (ZRP k)
noncomputable abbrev ZVE:Nat × Callee:=(245,mk ZB ZpM Zrq)
noncomputable def ZD5 (k:Nat):=Wi k [ZME]
def ZMM:Nat → Ann:=fun id => bif Nat.beq id 4 then ⟨[18,19,17,8,7],[]⟩ else ⟨[],[]⟩
abbrev ZpN:=ZeU → Option ((Int × Int × Unit) × Unit)
def ZRQ:ZeU → St
 | (v0,v1,v2,v3,v4) => St.mk (Zw [(18,Zk v0),(19,Zk v1),(17,YE v2),(8,Zk v3),(7,Zk v4)]) (Zu [])
def Zdg (k:Nat) (L1:ZpN):ZpN
 | (v0,v1,v2,v3,v4) => bif decide (v1 < v0) then bif decide (0 ≤ v1 ∧ v1 < Int.ofNat v2.length) then L1 (v0,IntKind.i64.wrap (v1 + 1),v2,IntKind.i64.wrap (v3 + if v2.getD v1.toNat 0 < IntKind.i64.wrap ((0:Int) - v2.getD v1.toNat 0) then IntKind.i64.wrap ((0:Int) - v2.getD v1.toNat 0) else v2.getD v1.toNat 0),v4) else none else some ((v3,v4,()),())
def ZpO (k:Nat):ZpN:=Zn (fun L1 => Zdg k L1) k
noncomputable def ZA1 (k:Nat) (n:Nat) (v:ZeU) :=
 Zs (ZD5 k) ZMM [] [1,1,1,0,1,0] [] (Wg Tryz.f246) (Wn (ZD5 k) Tryz.f246 Xj Z9 [] []) n (ZRQ v)
def ZhK (k:Nat) (L1:ZpN):(List Int × Int × Unit) × List Int × Unit → Option ((Int × Int × Unit) × Unit)
 | ((a0,a1,()),a2,()) => (Znm k ((a0,a1,()),a2,())).bind fun y => L1 (Int.ofNat (List.length y.1.1),(0:Int),y.1.1,(0:Int),y.1.2.1)
def Znq (k:Nat):=ZhK k (ZpO k)
theorem ZJl (k:Nat):∀ n,ZA1 k n = Zn (fun L1 => Zdg k L1) n :=
 Zh (fun v => by kernel_rfl) (fun n v => by
  obtain ⟨v0,v1,v2,v3,v4⟩:=v
  kernel_rfl)
theorem ZRR (k:Nat) (x:Kd.dens Xj):ZC (ZD5 k) ZMM Tryz.f246 Xj Z9 x = Znq k x:=by
 show _ = ZhK k (ZpO k) x
 rw [show ZpO k = ZA1 k k from (ZJl k k).symm]
 obtain ⟨⟨a0,⟨a1,⟨⟩⟩⟩,⟨a2,⟨⟩⟩⟩:=x
 kernel_rfl
theorem ZMN (k:Nat):Ctr Tryz.prog k 246 (mk Xj Z9 Znq) :=
 ZD (fn:=Tryz.f246) (Zg (Za (ZAW k) Zd)) (by kernel_rfl) (by kernel_rfl) (ZRR k)
noncomputable abbrev ZVF:Nat × Callee:=(246,mk Xj Z9 Znq)
abbrev ZGl:Kd:=.own (.int .i64) false
def Znr (k:Nat):List Int × Unit → Option (List Int × Unit):=fun x => Yg x
noncomputable def Zrr:Code:=ZLu Tryz.f221
theorem ZA2 (k:Nat):Ctr Tryz.prog k 221 (mk ZaK ZGl Znr) :=
 ZuM (C:=ZUD k) (A:=fun _ => ⟨[],[]⟩) (Zg Zd) ZjB (f:=221) (fn:=Tryz.f221) (o0:=ZnW (Zcy [0] Zrr) 0) (o1:=ZnW (Zcy [1,0,0] Zrr) 0) (o2:=ZnW (Zcy [1,0,0] Zrr) 1)
  (r0:=0) (r1:=1) (X:=Zcy [1,0,1,0] Zrr) (Y:=Zcy [1,1] Zrr) (T:=61) (E:=3) (U:=61) (t:=(.int .i64))
  (by kernel_rfl) (by kernel_rfl) (by kernel_rfl) (by kernel_rfl) (by kernel_rfl) (of_decide_eq_true (by kernel_rfl)) (by kernel_rfl) ⟨by kernel_rfl,by kernel_rfl,by kernel_rfl⟩ ⟨by kernel_rfl,by kernel_rfl,by kernel_rfl⟩ ⟨by kernel_rfl,by kernel_rfl,by kernel_rfl⟩ (fun xs => by kernel_rfl) (by kernel_rfl)
noncomputable abbrev ZMO:Nat × Callee:=(221,mk ZaK ZGl Znr)
noncomputable def Zje (k:Nat):=Wi k [Zq2,ZVE,ZVF,ZMO]
def ZxD:Nat → Ann:=fun id => bif Nat.beq id 15 then ⟨[57,56,6,11,0,9,7,50,49,10,1,4],[.seen 6 0]⟩ else bif Nat.beq id 12 then ⟨[49,50,10,6,0,9,7,1,4],[]⟩ else bif Nat.beq id 9 then ⟨[10,1,6,0,9,7,4],[]⟩ else ⟨[],[]⟩
abbrev ZxG:=Int × Int × Int × Int × List Int × Bool × Int × Int × Int × Int × Int × List Int × Int × Int
abbrev Zpk:=ZxG → Option (((List Int × Int × Unit) × Int × Unit) × Unit)
abbrev ZxF:=Int × Int × Int × List Int × Bool × Int × Int × List Int × Int × Int
abbrev Zhh:=ZxF → Option (((List Int × Int × Unit) × Int × Unit) × Unit)
abbrev ZxE:=Int × Int × List Int × Bool × Int × List Int × Int × Int
abbrev Zci:=ZxE → Option (((List Int × Int × Unit) × Int × Unit) × Unit)
def ZRb:ZxG → St
 | (v0,v1,v2,v3,v4,v5,v6,v7,v8,v9,v10,v11,v12,v13) => St.mk (Zw [(57,Zk v0),(56,AV.agg [Zk v1,Zk v2]),(6,AV.bx 8192 0),(11,Zk v3),(0,YE v4),(9,avB v5),(7,Zk v6),(50,Zk v7),(49,Zk v8),(10,Zk v9),(1,Zk v10),(4,AV.bx 8193 0)]) (Zu [(8192,QZ [YE v11,Zk v12]),(8193,QZ [AV.val (PV.v (Value.slice none (0:Nat) (0:Nat))),Zk v13])])
def KF (k:Nat) (L1:Zci) (L2:Zhh) (L3:Zpk):Zpk
 | (v0,v1,v2,v3,v4,v5,v6,v7,v8,v9,v10,v11,v12,v13) => bif decide (v0 < 2) then bif decide (0 ≤ v0 ∧ v0 < 2) then (Znr k (v11,())).bind fun y => bif decide (0 ≤ v3 ∧ v3 < Int.ofNat (List.length y.1)) then bif decide (v3.toNat < List.length y.1) then bif decide (0 ≤ v3 ∧ v3 < Int.ofNat (List.length y.1)) then bif decide (v3.toNat < List.length y.1) then (Znq k ((List.set y.1 v3.toNat (IntKind.i64.wrap (List.getD y.1 v3.toNat 0 + [v1,v2].getD v0.toNat (0:Int))),v12,()),v4,())).bind fun y_1 => bif y_1.1.2.1 == 0 then bif !v5 then L3 (IntKind.i64.wrap (v0 + 1),v1,v2,v3,v4,true,y_1.1.1,v7,v8,v9,v10,List.set y.1 v3.toNat (IntKind.i64.wrap (List.getD y.1 v3.toNat 0 + [v1,v2].getD v0.toNat (0:Int))),v12,v13) else bif decide (y_1.1.1 < v6) then L3 (IntKind.i64.wrap (v0 + 1),v1,v2,v3,v4,true,y_1.1.1,v7,v8,v9,v10,List.set y.1 v3.toNat (IntKind.i64.wrap (List.getD y.1 v3.toNat 0 + [v1,v2].getD v0.toNat (0:Int))),v12,v13) else L3 (IntKind.i64.wrap (v0 + 1),v1,v2,v3,v4,v5,v6,v7,v8,v9,v10,v11,v12,v13) else L3 (IntKind.i64.wrap (v0 + 1),v1,v2,v3,v4,v5,v6,v7,v8,v9,v10,v11,v12,v13) else none else none else none else none else none else L2 (v8,IntKind.i64.wrap (v7 + 1),v9,v4,v5,v6,v10,v11,v12,v13)
def Zhi (k:Nat) (L1:Zci) (L2:Zhh):Zpk:=Zn (fun L3 => KF k L1 L2 L3) k
noncomputable def Zkg (k:Nat) (n1 n2:Nat) (n:Nat) (v:ZxG):Option (((List Int × Int × Unit) × Int × Unit) × Unit) :=
 Zs (Zje k) ZxD [] [1,1,1,1,1,0,1,0,0,1,0,0,1,0,0,1,1,0,0,1,1,0] [n1,n2] (Wg Tryz.f199) (Wn (Zje k) Tryz.f199 Z6 YG [] []) n (ZRb v)
def ZRa:ZxF → St
 | (v0,v1,v2,v3,v4,v5,v6,v7,v8,v9) => St.mk (Zw [(49,Zk v0),(50,Zk v1),(10,Zk v2),(6,AV.bx 8192 0),(0,YE v3),(9,avB v4),(7,Zk v5),(1,Zk v6),(4,AV.bx 8193 0)]) (Zu [(8192,QZ [YE v7,Zk v8]),(8193,QZ [AV.val (PV.v (Value.slice none (0:Nat) (0:Nat))),Zk v9])])
def Za7 (k:Nat) (L3:Zpk) (L1:Zci) (L2:Zhh):Zhh
 | (v0,v1,v2,v3,v4,v5,v6,v7,v8,v9) => bif decide (v1 < v0) then L3 (0,v2,IntKind.i64.wrap ((0:Int) - v2),v1,v3,v4,v5,v1,v0,v2,v6,v7,v8,v9) else L1 (IntKind.i64.wrap (v2.tdiv (2:Int)),v6,v3,v4,v5,v7,v8,v9)
def Zkf (k:Nat) (L1:Zci):Zhh:=Zn (fun L2 => Za7 k (Zhi k L1 L2) L1 L2) k
noncomputable def Zag (k:Nat) (n1:Nat) (n:Nat) (v:ZxF):Option (((List Int × Int × Unit) × Int × Unit) × Unit) :=
 Zs (Zje k) ZxD [] [1,1,1,1,1,0,1,0,0,1,0,0,1,0] [n1] (Wg Tryz.f199) (Wn (Zje k) Tryz.f199 Z6 YG [] []) n (ZRa v)
def ZQ9:ZxE → St
 | (v0,v1,v2,v3,v4,v5,v6,v7) => St.mk (Zw [(10,Zk v0),(1,Zk v1),(6,AV.bx 8192 0),(0,YE v2),(9,avB v3),(7,Zk v4),(4,AV.bx 8193 0)]) (Zu [(8192,QZ [YE v5,Zk v6]),(8193,QZ [AV.val (PV.v (Value.slice none (0:Nat) (0:Nat))),Zk v7])])
def Zc2 (k:Nat) (L2:Zhh) (L1:Zci):Zci
 | (v0,v1,v2,v3,v4,v5,v6,v7) => bif decide ((0:Int) < v0) then L2 (v1,(0:Int),v0,v2,v3,v4,v1,v5,v6,v7) else some (((v5,v6,()),0,()),())
def Zpl (k:Nat):Zci:=Zn (fun L1 => Zc2 k (Zkf k L1) L1) k
noncomputable def Yo (k:Nat) (n:Nat) (v:ZxE) :=
 Zs (Zje k) ZxD [] [1,1,1,1,1,0,1,0] [] (Wg Tryz.f199) (Wn (Zje k) Tryz.f199 Z6 YG [] []) n (ZQ9 v)
def Zhj (k:Nat) (L1:Zci):List Int × Int × Unit → Option (((List Int × Int × Unit) × Int × Unit) × Unit)
 | (a0,a1,()) => bif decide (a1 < 0) then some ((([],(0:Int),()),1,()),()) else bif decide ((8:Int) < a1) then some ((([],(0:Int),()),1,()),()) else bif decide (Int.ofNat a0.length < a1) then some ((([],(0:Int),()),1,()),()) else (Zaf k (a0,(),())).bind fun y => bif y.1 then some ((([],(0:Int),()),12,()),()) else (Zrq k (a1,())).bind fun y => (Znq k ((y.1.1,y.1.2.1,()),a0,())).bind fun y_1 => L1 (8,a1,a0,y_1.1.2.1 == 0,y_1.1.1,y.1.1,y.1.2.1,(0:Int))
def Zq7 (k:Nat):=Zhj k (Zpl k)
theorem ZIG (k:Nat) (n1 n2:Nat):∀ n,Zkg k n1 n2 n = Zn (fun L3 => KF k (Yo k n1) (Zag k n1 n2) L3) n :=
 Zh (fun v => by kernel_rfl) (fun n v => by
  show Zkg k n1 n2 (n + 1) v = KF k (Yo k n1) (Zag k n1 n2) (Zkg k n1 n2 n) v
  obtain ⟨v0,v1,v2,v3,v4,v5,v6,v7,v8,v9,v10,v11,v12,v13⟩:=v
  kernel_rfl)
theorem ZIF (k:Nat) (n1:Nat):∀ n,Zag k n1 n = Zn (fun L2 => Za7 k (Zhi k (Yo k n1) L2) (Yo k n1) L2) n :=
 Zh (fun v => by kernel_rfl) (fun n v => by
  show Zag k n1 (n + 1) v = Za7 k (Zhi k (Yo k n1) (Zag k n1 n)) (Yo k n1) (Zag k n1 n) v
  rw [show (Zhi k (Yo k n1) (Zag k n1 n)) = Zkg k n1 n k from (ZIG k n1 n k).symm]
  obtain ⟨v0,v1,v2,v3,v4,v5,v6,v7,v8,v9⟩:=v
  kernel_rfl)
theorem ZIE (k:Nat):∀ n,Yo k n = Zn (fun L1 => Zc2 k (Zkf k L1) L1) n :=
 Zh (fun v => by kernel_rfl) (fun n v => by
  rw [show (Zkf k (Yo k n)) = Zag k n k from (ZIF k n k).symm]
  obtain ⟨v0,v1,v2,v3,v4,v5,v6,v7⟩:=v
  kernel_rfl)
theorem ZRc (k:Nat) (x:Kd.dens Z6):ZC (Zje k) ZxD Tryz.f199 Z6 YG x = Zq7 k x:=by
 show _ = Zhj k (Zpl k) x
 rw [show Zpl k = Yo k k from (ZIE k k).symm]
 obtain ⟨a0,⟨a1,⟨⟩⟩⟩:=x
 kernel_rfl
theorem ZL5 (k:Nat):Ctr Tryz.prog k 199 (mk Z6 YG Zq7) :=
 ZD (fn:=Tryz.f199) (Zg (Za (Zjc k) (Za (ZML k) (Za (ZMN k) (Za (ZA2 k) Zd))))) (by kernel_rfl) (by kernel_rfl) (ZRc k)
noncomputable abbrev ZVj:Nat × Callee:=(199,mk Z6 YG Zq7)
abbrev Zpf:List Kd:=[.view ZzJ,.view .bool,.box [.view (.int .i64),.view (.int .i64),.view (.int .i64),.view (.sl (.int .i64)),.view (.sl (.int .i64)),.view (.int .i64),.view (.sl (.int .i64)),.view (.int .i64)]]
def ZuX (k:Nat):(Int × Int × Int × List Int × (List Int × Int × Unit) × List Int × Int × Unit) × Bool × (Int × Int × Int × List Int × List Int × Int × List Int × Int × Unit) × Unit → Option (Unit × (Int × Int × Int × List Int × List Int × Int × List Int × Int × Unit) × Unit)
 | ((a0,a1,a2,a3,(a4,a5,()),a6,a7,()),a8,(a9,a10,a11,a12,a13,a14,a15,a16,()),()) => bif a8 then bif decide (a16 < 0) then some ((),(a0,a1,a2,a3,a4,a5,a6,a7,()),()) else bif decide (a7 < a16) then some ((),(a0,a1,a2,a3,a4,a5,a6,a7,()),()) else some ((),(a9,a10,a11,a12,a13,a14,a15,a16,()),()) else some ((),(a9,a10,a11,a12,a13,a14,a15,a16,()),())
def ZcL (k:Nat):=ZuX k
theorem ZQ2 (k:Nat) (x:Kd.dens Zpf):ZC (Z8 k) nA Tryz.f196 Zpf QG x = ZcL k x:=by
 show _ = ZuX k x
 obtain ⟨⟨a0,⟨a1,⟨a2,⟨a3,⟨⟨a4,⟨a5,⟨⟩⟩⟩,⟨a6,⟨a7,⟨⟩⟩⟩⟩⟩⟩⟩⟩,⟨a8,⟨⟨a9,⟨a10,⟨a11,⟨a12,⟨a13,⟨a14,⟨a15,⟨a16,⟨⟩⟩⟩⟩⟩⟩⟩⟩⟩,⟨⟩⟩⟩⟩:=x
 kernel_rfl
theorem ZL2 (k:Nat):Ctr Tryz.prog k 196 (mk Zpf QG ZcL) :=
 ZD (fn:=Tryz.f196) (Zg Zd) (by kernel_rfl) (by kernel_rfl) (ZQ2 k)
noncomputable abbrev ZVf:Nat × Callee:=(196,mk Zpf QG ZcL)
abbrev ZnG:Kd:=.view ZzJ
noncomputable def ZsW (k:Nat):=Wi k [ZLS,ZVe,ZDL,ZVi,ZVj,ZVf]
def ZHd:Nat → Ann:=fun id => bif Nat.beq id 21 then ⟨[82,81,11,6,10,12,9,4],[]⟩ else bif Nat.beq id 15 then ⟨[62,63,10,6,11,12,9,4],[]⟩ else bif Nat.beq id 4 then ⟨[28,29,27,6,5,4],[.cell 6 3 ((Ty.int IntKind.i64))]⟩ else ⟨[],[]⟩
abbrev ZFk:=Int × Int × Int × Int × Int × Int × Int × Int × List Int × List Int × Int × List Int × Int × Int × Int × Int × List Int × List Int × Int × List Int × Int × Int × Int × Int × Int × Int × List Int × Int × Int × Int × Int × Int
abbrev ZyY:=ZFk → Option ((Int × Int × Int × List Int × (List Int × Int × Unit) × List Int × Int × Unit) × Unit)
abbrev ZFj:=Int × Int × Int × Int × Int × Int × List Int × List Int × Int × List Int × Int × Int × Int × Int × List Int × List Int × Int × List Int × Int × Int × Int × Int × Int × Int × List Int × Int × Int × Int × Int × Int
abbrev ZyX:=ZFj → Option ((Int × Int × Int × List Int × (List Int × Int × Unit) × List Int × Int × Unit) × Unit)
abbrev ZFi:=Int × Int × List Int × Int × Int × Int × Int × Int × Int × List Int × Int × Int × Int × Int × Int
abbrev ZyW:=ZFi → Option ((Int × Int × Int × List Int × (List Int × Int × Unit) × List Int × Int × Unit) × Unit)
def ZWW:ZFk → St
 | (v0,v1,v2,v3,v4,v5,v6,v7,v8,v9,v10,v11,v12,v13,v14,v15,v16,v17,v18,v19,v20,v21,v22,v23,v24,v25,v26,v27,v28,v29,v30,v31) => St.mk (Zw [(82,Zk v0),(81,AV.agg [Zk v1,Zk v2,Zk v3]),(11,Zk v4),(6,AV.bx 8192 0),(10,AV.clo 196 [AV.bx 8193 0]),(12,AV.bx 8194 0),(9,AV.bx 8193 0),(4,AV.bx 8196 0)]) (Zu [(8192,QZ [Zk v5,Zk v6,Zk v7,YE v8,YE v9,Zk v10,YE v11,Zk v12]),(8193,QZ [Zk v13,Zk v14,Zk v15,YE v16,YE v17,Zk v18,YE v19,Zk v20]),(8194,QZ [Zk v21,Zk v22,Zk v23,AV.own 8195,AV.val (PV.v (Value.slice none (0:Nat) (0:Nat))),Zk v24,AV.val (PV.v (Value.slice none (0:Nat) (0:Nat))),Zk v25]),(8195,rsA v26 true),(8196,QZ [Zk v27,Zk v28,Zk v29,AV.val (PV.v (Value.slice none (0:Nat) (0:Nat))),AV.val (PV.v (Value.slice none (0:Nat) (0:Nat))),Zk v30,AV.val (PV.v (Value.slice none (0:Nat) (0:Nat))),Zk v31])])
noncomputable def ZdG (k:Nat) (L3:ZyY):ZyY
 | (v0,v1,v2,v3,v4,v5,v6,v7,v8,v9,v10,v11,v12,v13,v14,v15,v16,v17,v18,v19,v20,v21,v22,v23,v24,v25,v26,v27,v28,v29,v30,v31) => bif decide (v0 < 3) then bif decide (0 ≤ v0 ∧ v0 < 3) then bif decide ([v1,v2,v3].getD v0.toNat (0:Int) < v4) then (Zq7 k (v8,[v1,v2,v3].getD v0.toNat (0:Int),())).bind fun y => (Zjd k ((v5,v6,v7,v8,(v9,v10,()),v11,v12,()),IntKind.i64.wrap ((31:Int) + [v1,v2,v3].getD v0.toNat (0:Int)),(y.1.1.1,y.1.1.2.1,()),IntKind.i64.wrap ((9:Int) + IntKind.i64.wrap ((12:Int) * [v1,v2,v3].getD v0.toNat (0:Int))),())).bind fun y => (ZcL k ((y.1.1.1,y.1.1.2.1,y.1.1.2.2.1,y.1.1.2.2.2.1,(y.1.1.2.2.2.2.1.1,y.1.1.2.2.2.2.1.2.1,()),y.1.1.2.2.2.2.2.1,y.1.1.2.2.2.2.2.2.1,()),y.1.2.1,(v13,v14,v15,v16,v17,v18,v19,v20,()),())).bind fun y => L3 (IntKind.i64.wrap (v0 + 1),v1,v2,v3,v4,v5,v6,v7,v8,v9,v10,v11,v12,y.2.1.1,y.2.1.2.1,y.2.1.2.2.1,y.2.1.2.2.2.1,y.2.1.2.2.2.2.1,y.2.1.2.2.2.2.2.1,y.2.1.2.2.2.2.2.2.1,y.2.1.2.2.2.2.2.2.2.1,v21,v22,v23,v24,v25,v26,v27,v28,v29,v30,v31) else L3 (IntKind.i64.wrap (v0 + 1),v1,v2,v3,v4,v5,v6,v7,v8,v9,v10,v11,v12,v13,v14,v15,v16,v17,v18,v19,v20,v21,v22,v23,v24,v25,v26,v27,v28,v29,v30,v31) else none else (ZcL k (((1:Int),v22,v23,v26,([],v24,()),[],IntKind.i64.wrap (v4 * v7),()),true,(v13,v14,v15,v16,v17,v18,v19,v20,()),())).bind fun y => some ((y.2.1.1,y.2.1.2.1,y.2.1.2.2.1,y.2.1.2.2.2.1,(y.2.1.2.2.2.2.1,y.2.1.2.2.2.2.2.1,()),y.2.1.2.2.2.2.2.2.1,y.2.1.2.2.2.2.2.2.2.1,()),())
noncomputable def ZnF (k:Nat):ZyY:=Zn (fun L3 => ZdG k L3) k
noncomputable def ZHg (k:Nat) (n:Nat) (v:ZFk) :=
 Zs (ZsW k) ZHd [] [1,1,1,1,1,1,1,1,1,1,1,0,1,0] [] (Wg Tryz.f152) (Wn (ZsW k) Tryz.f152 Z6 ZnG [] []) n (ZWW v)
def ZWV:ZFj → St
 | (v0,v1,v2,v3,v4,v5,v6,v7,v8,v9,v10,v11,v12,v13,v14,v15,v16,v17,v18,v19,v20,v21,v22,v23,v24,v25,v26,v27,v28,v29) => St.mk (Zw [(62,Zk v0),(63,Zk v1),(10,AV.clo 196 [AV.bx 8192 0]),(6,AV.bx 8193 0),(11,Zk v2),(12,AV.bx 8194 0),(9,AV.bx 8192 0),(4,AV.bx 8196 0)]) (Zu [(8192,QZ [Zk v3,Zk v4,Zk v5,YE v6,YE v7,Zk v8,YE v9,Zk v10]),(8193,QZ [Zk v11,Zk v12,Zk v13,YE v14,YE v15,Zk v16,YE v17,Zk v18]),(8194,QZ [Zk v19,Zk v20,Zk v21,AV.own 8195,AV.val (PV.v (Value.slice none (0:Nat) (0:Nat))),Zk v22,AV.val (PV.v (Value.slice none (0:Nat) (0:Nat))),Zk v23]),(8195,rsA v24 true),(8196,QZ [Zk v25,Zk v26,Zk v27,AV.val (PV.v (Value.slice none (0:Nat) (0:Nat))),AV.val (PV.v (Value.slice none (0:Nat) (0:Nat))),Zk v28,AV.val (PV.v (Value.slice none (0:Nat) (0:Nat))),Zk v29])])
noncomputable def Zgk (k:Nat) (L3:ZyY) (L2:ZyX):ZyX
 | (v0,v1,v2,v3,v4,v5,v6,v7,v8,v9,v10,v11,v12,v13,v14,v15,v16,v17,v18,v19,v20,v21,v22,v23,v24,v25,v26,v27,v28,v29) => bif decide (v1 < v0) then (ZfF k (v1,())).bind fun y => (Zjd k ((v11,v12,v13,v14,(v15,v16,()),v17,v18,()),IntKind.i64.wrap ((8:Int) + v1),(y.1.1.1,y.1.1.2.1,()),0,())).bind fun y => (ZcL k ((y.1.1.1,y.1.1.2.1,y.1.1.2.2.1,y.1.1.2.2.2.1,(y.1.1.2.2.2.2.1.1,y.1.1.2.2.2.2.1.2.1,()),y.1.1.2.2.2.2.2.1,y.1.1.2.2.2.2.2.2.1,()),y.1.2.1,(v3,v4,v5,v6,v7,v8,v9,v10,()),())).bind fun y => L2 (v0,IntKind.i64.wrap (v1 + 1),v2,y.2.1.1,y.2.1.2.1,y.2.1.2.2.1,y.2.1.2.2.2.1,y.2.1.2.2.2.2.1,y.2.1.2.2.2.2.2.1,y.2.1.2.2.2.2.2.2.1,y.2.1.2.2.2.2.2.2.2.1,v11,v12,v13,v14,v15,v16,v17,v18,v19,v20,v21,v22,v23,v24,v25,v26,v27,v28,v29) else L3 (0,(2:Int),(4:Int),(8:Int),v2,v11,v12,v13,v14,v15,v16,v17,v18,v3,v4,v5,v6,v7,v8,v9,v10,v19,v20,v21,v22,v23,v24,v25,v26,v27,v28,v29)
noncomputable def ZnE (k:Nat):ZyX:=Zn (fun L2 => Zgk k (ZnF k) L2) k
noncomputable def ZHf (k:Nat) (n:Nat) (v:ZFj) :=
 Zs (ZsW k) ZHd [] [1,1,1,1,1,1,1,1,1,1,0,1,0] [] (Wg Tryz.f152) (Wn (ZsW k) Tryz.f152 Z6 ZnG [] []) n (ZWV v)
def ZWU:ZFi → St
 | (v0,v1,v2,v3,v4,v5,v6,v7,v8,v9,v10,v11,v12,v13,v14) => St.mk (Zw [(28,Zk v0),(29,Zk v1),(27,YE v2),(6,AV.bx 8192 0),(5,Zk v3),(4,AV.bx 8194 0)]) (Zu [(8192,QZ [Zk v4,Zk v5,Zk v6,AV.own 8193,AV.val (PV.v (Value.slice none (0:Nat) (0:Nat))),Zk v7,AV.val (PV.v (Value.slice none (0:Nat) (0:Nat))),Zk v8]),(8193,rsA v9 false),(8194,QZ [Zk v10,Zk v11,Zk v12,AV.val (PV.v (Value.slice none (0:Nat) (0:Nat))),AV.val (PV.v (Value.slice none (0:Nat) (0:Nat))),Zk v13,AV.val (PV.v (Value.slice none (0:Nat) (0:Nat))),Zk v14])])
def Zau (k:Nat) (L2:ZyX) (L1:ZyW):ZyW
 | (v0,v1,v2,v3,v4,v5,v6,v7,v8,v9,v10,v11,v12,v13,v14) => bif decide (v1 < v0) then bif decide (0 ≤ v1 ∧ v1 < Int.ofNat v2.length) then bif decide (0 ≤ v3) then bif decide (v9.length + [Int.fdiv (v2.getD v1.toNat 0) ((2:Int) ^ min v3.toNat 64)].length < 2147483648) then L1 (v0,IntKind.i64.wrap (v1 + 1),v2,v3,v4,v5,v6,v7,v8,v9 ++ [Int.fdiv (v2.getD v1.toNat 0) ((2:Int) ^ min v3.toNat 64)],v10,v11,v12,v13,v14) else none else none else none else (ZfC k (v9,((v4,v5,v6,v9,[],v7,[],v8,()),()),())).bind fun y => (ZcL k (((0:Int),v5,v6,v9,([],v7,()),[],v6,()),!y.1,(0,0,0,[],[],0,[],(-1:Int),()),())).bind fun y_1 => L2 (IntKind.i64.wrap ((if Int.ofNat v9.length < (4:Int) then Int.ofNat v9.length else (4:Int)) + (1:Int)),(0:Int),Int.ofNat v9.length,y_1.2.1.1,y_1.2.1.2.1,y_1.2.1.2.2.1,y_1.2.1.2.2.2.1,y_1.2.1.2.2.2.2.1,y_1.2.1.2.2.2.2.2.1,y_1.2.1.2.2.2.2.2.2.1,y_1.2.1.2.2.2.2.2.2.2.1,y.2.1.1,y.2.1.2.1,y.2.1.2.2.1,y.2.1.2.2.2.1,y.2.1.2.2.2.2.1,y.2.1.2.2.2.2.2.1,y.2.1.2.2.2.2.2.2.1,y.2.1.2.2.2.2.2.2.2.1,(0:Int),v5,v6,v7,v6,v9,v10,v11,v12,v13,v14)
noncomputable def ZyZ (k:Nat):ZyW:=Zn (fun L1 => Zau k (ZnE k) L1) k
noncomputable def ZHe (k:Nat) (n:Nat) (v:ZFi) :=
 Zs (ZsW k) ZHd [] [1,1,1,0,1,0] [] (Wg Tryz.f152) (Wn (ZsW k) Tryz.f152 Z6 ZnG [] []) n (ZWU v)
def ZlU (k:Nat) (L1:ZyW):List Int × Int × Unit → Option ((Int × Int × Int × List Int × (List Int × Int × Unit) × List Int × Int × Unit) × Unit)
 | (a0,a1,()) => (Zq4 k (a0,())).bind fun y => L1 (Int.ofNat a0.length,(0:Int),a0,y.1,(0:Int),y.1,IntKind.i64.wrap (a1 - y.1),(0:Int),(0:Int),[],(0:Int),(0:Int),(0:Int),(0:Int),(0:Int))
noncomputable def Zv8 (k:Nat):=ZlU k (ZyZ k)
theorem ZO6 (k:Nat):∀ n,ZHg k n = Zn (fun L3 => ZdG k L3) n :=
 Zh (fun v => by kernel_rfl) (fun n v => by
  obtain ⟨v0,v1,v2,v3,v4,v5,v6,v7,v8,v9,v10,v11,v12,v13,v14,v15,v16,v17,v18,v19,v20,v21,v22,v23,v24,v25,v26,v27,v28,v29,v30,v31⟩:=v
  kernel_rfl)
theorem ZO5 (k:Nat):∀ n,ZHf k n = Zn (fun L2 => Zgk k (ZnF k) L2) n :=
 Zh (fun v => by kernel_rfl) (fun n v => by
  rw [show (ZnF k) = ZHg k k from (ZO6 k k).symm]
  obtain ⟨v0,v1,v2,v3,v4,v5,v6,v7,v8,v9,v10,v11,v12,v13,v14,v15,v16,v17,v18,v19,v20,v21,v22,v23,v24,v25,v26,v27,v28,v29⟩:=v
  kernel_rfl)
theorem ZO4 (k:Nat):∀ n,ZHe k n = Zn (fun L1 => Zau k (ZnE k) L1) n :=
 Zh (fun v => by kernel_rfl) (fun n v => by
  rw [show (ZnE k) = ZHf k k from (ZO5 k k).symm]
  obtain ⟨v0,v1,v2,v3,v4,v5,v6,v7,v8,v9,v10,v11,v12,v13,v14⟩:=v
  kernel_rfl)
theorem ZWX (k:Nat) (x:Kd.dens Z6):ZC (ZsW k) ZHd Tryz.f152 Z6 ZnG x = Zv8 k x:=by
 show _ = ZlU k (ZyZ k) x
 rw [show ZyZ k = ZHe k k from (ZO4 k k).symm]
 obtain ⟨a0,⟨a1,⟨⟩⟩⟩:=x
 kernel_rfl
theorem ZTo (k:Nat):Ctr Tryz.prog k 152 (mk Z6 ZnG Zv8) :=
 ZD (fn:=Tryz.f152) (Zg (Za (ZDG k) (Za (ZL1 k) (Za (Zq6 k) (Za (ZL4 k) (Za (ZL5 k) (Za (ZL2 k) Zd))))))) (by kernel_rfl) (by kernel_rfl) (ZWX k)
noncomputable abbrev ZYr:Nat × Callee:=(152,mk Z6 ZnG Zv8)
def ZUF:Nat → Ann:=fun id => bif Nat.beq id 4 then ⟨[15,16,0],[]⟩ else ⟨[],[]⟩
abbrev Zy0:=ZeT → Option (Int × (List Int × Int × Unit) × Unit)
def ZWY:ZeT → St
 | (v0,v1,v2,v3) => St.mk (Zw [(15,Zk v0),(16,Zk v1),(0,AV.bx 0 0)]) (Zu [(0,QZ [AV.own 8192,Zk v2]),(8192,RS.live (Res.arr (Ty.int IntKind.u8) v3 false))])
def Zgl (k:Nat) (L1:Zy0):Zy0
 | (v0,v1,v2,v3) => bif decide (v1 < v0) then (Zjb k ((v3,v2,()),0,())).bind fun y => L1 (v0,IntKind.i64.wrap (v1 + 1),y.2.1.2.1,y.2.1.1) else (Zjb k ((v3,v2,()),1,())).bind fun y => some (0,(y.2.1.1,y.2.1.2.1,()),())
def Zy1 (k:Nat):Zy0:=Zn (fun L1 => Zgl k L1) k
noncomputable def ZHh (k:Nat) (n:Nat) (v:ZeT) :=
 Zs (Zv5 k) ZUF [0] [1,1,0,1,0] [] (Wg Tryz.f153) (Wn (Zv5 k) Tryz.f153 ZaS Zj [AV.bx (nat_lit 0) (nat_lit 0)] [[]]) n (ZWY v)
def ZlV (k:Nat) (L1:Zy0):(List Int × Int × Unit) × Int × Unit → Option (Int × (List Int × Int × Unit) × Unit)
 | ((a0,a1,()),a2,()) => bif decide (a2 < 0) then some (1,(a0,a1,()),()) else bif decide ((65536:Int) < a2) then some (1,(a0,a1,()),()) else L1 (a2,(0:Int),a1,a0)
def ZoC (k:Nat):=ZlV k (Zy1 k)
theorem ZO8 (k:Nat):∀ n,ZHh k n = Zn (fun L1 => Zgl k L1) n :=
 Zh (fun v => by kernel_rfl) (fun n v => by
  obtain ⟨v0,v1,v2,v3⟩:=v
  kernel_rfl)
theorem ZWZ (k:Nat) (x:Kd.dens ZaS):ZC (Zv5 k) ZUF Tryz.f153 ZaS Zj x = ZoC k x:=by
 show _ = ZlV k (Zy1 k) x
 rw [show Zy1 k = ZHh k k from (ZO8 k k).symm]
 obtain ⟨⟨a0,⟨a1,⟨⟩⟩⟩,⟨a2,⟨⟩⟩⟩:=x
 kernel_rfl
theorem ZHi (k:Nat):Ctr Tryz.prog k 153 (mk ZaS Zj ZoC) :=
 ZD (fn:=Tryz.f153) (Zg (Za (ZAo k) Zd)) (by kernel_rfl) (by kernel_rfl) (ZWZ k)
noncomputable abbrev ZUG:Nat × Callee:=(153,mk ZaS Zj ZoC)
def Zhk (k:Nat):(List Int × Int × Unit) × Int × Int × Unit → Option (Int × (List Int × Int × Unit) × Unit)
 | ((a0,a1,()),a2,a3,()) => (ZsS k (a3,())).bind fun y => bif y.1 then some (1,(a0,a1,()),()) else bif a3 == 0 then bif a2 != 0 then some (12,(a0,a1,()),()) else bif decide ((0:Int) < a3) then bif decide (0 ≤ IntKind.i64.wrap (a3 - 1)) then bif a2.fdiv ((2:Int) ^ min (IntKind.i64.wrap (a3 - 1)).toNat 64) != (0:Int) then bif decide (0 ≤ IntKind.i64.wrap (a3 - 1)) then bif a2.fdiv ((2:Int) ^ min (IntKind.i64.wrap (a3 - 1)).toNat 64) != (-1:Int) then some (12,(a0,a1,()),()) else (Zfd k ((a0,a1,()),IntKind.u64.wrap a2,a3,())).bind fun y => some (0,(y.2.1.1,y.2.1.2.1,()),()) else none else (Zfd k ((a0,a1,()),IntKind.u64.wrap a2,a3,())).bind fun y => some (0,(y.2.1.1,y.2.1.2.1,()),()) else none else (Zfd k ((a0,a1,()),IntKind.u64.wrap a2,a3,())).bind fun y => some (0,(y.2.1.1,y.2.1.2.1,()),()) else bif decide ((0:Int) < a3) then bif decide (0 ≤ IntKind.i64.wrap (a3 - 1)) then bif a2.fdiv ((2:Int) ^ min (IntKind.i64.wrap (a3 - 1)).toNat 64) != (0:Int) then bif decide (0 ≤ IntKind.i64.wrap (a3 - 1)) then bif a2.fdiv ((2:Int) ^ min (IntKind.i64.wrap (a3 - 1)).toNat 64) != (-1:Int) then some (12,(a0,a1,()),()) else (Zfd k ((a0,a1,()),IntKind.u64.wrap a2,a3,())).bind fun y => some (0,(y.2.1.1,y.2.1.2.1,()),()) else none else (Zfd k ((a0,a1,()),IntKind.u64.wrap a2,a3,())).bind fun y => some (0,(y.2.1.1,y.2.1.2.1,()),()) else none else (Zfd k ((a0,a1,()),IntKind.u64.wrap a2,a3,())).bind fun y => some (0,(y.2.1.1,y.2.1.2.1,()),())
def Zm7 (k:Nat):=Zhk k
theorem ZRd (k:Nat) (x:Kd.dens ZcO):ZC (ZUn k) nA Tryz.f200 ZcO Zj x = Zm7 k x:=by
 show _ = Zhk k x
 obtain ⟨⟨a0,⟨a1,⟨⟩⟩⟩,⟨a2,⟨a3,⟨⟩⟩⟩⟩:=x
 kernel_rfl
theorem ZAw (k:Nat):Ctr Tryz.prog k 200 (mk ZcO Zj Zm7) :=
 ZD (fn:=Tryz.f200) (Zg (Za (ZyP k) (Za (ZHa k) Zd))) (by kernel_rfl) (by kernel_rfl) (ZRd k)
noncomputable abbrev ZL7:Nat × Callee:=(200,mk ZcO Zj Zm7)
abbrev YM:List Kd:=[.box [.own (.int .u8) false,.view (.int .i64)],.view (.sl (.int .i64)),.view (.int .i64)]
noncomputable def ZO9 (k:Nat):=Wi k [ZL7]
def ZUH:Nat → Ann:=fun id => bif Nat.beq id 1 then ⟨[9,10,8,0,2],[]⟩ else ⟨[],[]⟩
abbrev Zgm:=Int × Int × List Int × Int × Int × List Int
abbrev Zy2:=Zgm → Option (Unit × (List Int × Int × Unit) × Unit)
def ZW0:Zgm → St
 | (v0,v1,v2,v3,v4,v5) => St.mk (Zw [(9,Zk v0),(10,Zk v1),(8,YE v2),(0,AV.bx 0 0),(2,Zk v3)]) (Zu [(0,QZ [AV.own 8192,Zk v4]),(8192,RS.live (Res.arr (Ty.int IntKind.u8) v5 false))])
def Zgn (k:Nat) (L1:Zy2):Zy2
 | (v0,v1,v2,v3,v4,v5) => bif decide (v1 < v0) then bif decide (0 ≤ v1 ∧ v1 < Int.ofNat v2.length) then (Zm7 k ((v5,v4,()),v2.getD v1.toNat 0,v3,())).bind fun y => L1 (v0,IntKind.i64.wrap (v1 + 1),v2,v3,y.2.1.2.1,y.2.1.1) else none else some ((),(v5,v4,()),())
def Zy3 (k:Nat):Zy2:=Zn (fun L1 => Zgn k L1) k
noncomputable def ZHj (k:Nat) (n:Nat) (v:Zgm) :=
 Zs (ZO9 k) ZUH [0] [1,0] [] (Wg Tryz.f154) (Wn (ZO9 k) Tryz.f154 YM QG [AV.bx (nat_lit 0) (nat_lit 0)] [[]]) n (ZW0 v)
def ZlW (k:Nat) (L1:Zy2):(List Int × Int × Unit) × List Int × Int × Unit → Option (Unit × (List Int × Int × Unit) × Unit)
 | ((a0,a1,()),a2,a3,()) => L1 (Int.ofNat a2.length,(0:Int),a2,a3,a1,a0)
def ZaM (k:Nat):=ZlW k (Zy3 k)
theorem ZPa (k:Nat):∀ n,ZHj k n = Zn (fun L1 => Zgn k L1) n :=
 Zh (fun v => by kernel_rfl) (fun n v => by
  obtain ⟨v0,v1,v2,v3,v4,v5⟩:=v
  kernel_rfl)
theorem ZW1 (k:Nat) (x:Kd.dens YM):ZC (ZO9 k) ZUH Tryz.f154 YM QG x = ZaM k x:=by
 show _ = ZlW k (Zy3 k) x
 rw [show Zy3 k = ZHj k k from (ZPa k k).symm]
 obtain ⟨⟨a0,⟨a1,⟨⟩⟩⟩,⟨a2,⟨a3,⟨⟩⟩⟩⟩:=x
 kernel_rfl
theorem ZTr (k:Nat):Ctr Tryz.prog k 154 (mk YM QG ZaM) :=
 ZD (fn:=Tryz.f154) (Zg (Za (ZAw k) Zd)) (by kernel_rfl) (by kernel_rfl) (ZW1 k)
noncomputable abbrev ZYs:Nat × Callee:=(154,mk YM QG ZaM)
noncomputable def ZBJ (k:Nat):=Wi k [ZOx,ZUG,ZL8,ZL9,ZMb,(204,mk ZB Zj Zeg),(205,mk ZB Zj ZaI),(206,mk ZB Z9 Zjg),ZL7]
noncomputable def ZPb:Nat → Ann:=fun id => bif Nat.beq id 17 then ⟨[69,70,68,11,8,0,41,40,39],[]⟩ else bif Nat.beq id 10 then ⟨[40,41,39,8,0],[]⟩ else ⟨[],[]⟩
abbrev ZFm:=Int × Int × List Int × Int × Int × List (List Int) × Int × List Int × Int × Int × Int × Int × Int × List (Int × Int × Int × Unit) × Int
abbrev Zy4:=ZFm → Option (Int × (List Int × Int × Unit) × Unit)
abbrev ZFl:=Int × Int × List (List Int) × Int × List Int × Int × Int × List (Int × Int × Int × Unit) × Int
abbrev ZnH:=ZFl → Option (Int × (List Int × Int × Unit) × Unit)
noncomputable def ZW3:ZFm → St
 | (v0,v1,v2,v3,v4,v5,v6,v7,v8,v9,v10,v11,v12,v13,v14) => St.mk (Zw [(69,Zk v0),(70,Zk v1),(68,YE v2),(11,AV.bx 8193 0),(8,AV.bx 8194 0),(0,AV.bx 0 0),(41,Zk v3),(40,Zk v4),(39,AV.val (PV.sl (Ty.int IntKind.i64).sl v5))]) (Zu [(0,QZ [AV.own 8192,Zk v6]),(8192,RS.live (Res.arr (Ty.int IntKind.u8) v7 false)),(8193,QZ [Zk v8,Zk v9,Zk v10]),(8194,QZ [Zk v11,Zk v12,AV.val (PV.sl ((Ty.int IntKind.i64).pair ((Ty.int IntKind.i64).pair ((Ty.int IntKind.i64).pair Ty.unit))) v13),Zk v14])])
noncomputable def Zav (k:Nat) (L1:ZnH) (L2:Zy4):Zy4
 | (v0,v1,v2,v3,v4,v5,v6,v7,v8,v9,v10,v11,v12,v13,v14) => bif decide (v1 < v0) then bif decide (0 ≤ v1 ∧ v1 < Int.ofNat v2.length) then (ZaI k (v11,())).bind fun y => bif v8 == y.1 then (Zm7 k ((v7,v6,()),v2.getD v1.toNat 0,v9,())).bind fun y => L2 (v0,IntKind.i64.wrap (v1 + 1),v2,v3,v4,v5,y.2.1.2.1,y.2.1.1,v8,v9,v10,v11,v12,v13,v14) else (Zjg k (v2.getD v1.toNat 0,())).bind fun y => bif decide (0 ≤ v8) then (ZoC k ((v7,v6,()),Int.fdiv y.1.1 ((2:Int) ^ min v8.toNat 64),())).bind fun y_1 => bif decide (0 ≤ v8) then (ZQ k ((y_1.2.1.1,y_1.2.1.2.1,()),IntKind.i64.wrap (Int.ofNat (BitVec.ofInt 64 y.1.1 &&& BitVec.ofInt 64 (IntKind.i64.wrap (IntKind.i64.wrap ((1:Int) * (2:Int) ^ min v8.toNat 64) - (1:Int)))).toNat),v8,())).bind fun y => L2 (v0,IntKind.i64.wrap (v1 + 1),v2,v3,v4,v5,y.2.1.2.1,y.2.1.1,v8,v9,v10,v11,v12,v13,v14) else none else none else none else L1 (v4,IntKind.i64.wrap (v3 + 1),v5,v6,v7,v11,v12,v13,v14)
noncomputable def ZnI (k:Nat) (L1:ZnH):Zy4:=Zn (fun L2 => Zav k L1 L2) k
noncomputable def Zp9 (k:Nat) (n1:Nat) (n:Nat) (v:ZFm):Option (Int × (List Int × Int × Unit) × Unit) :=
 Zs (ZBJ k) ZPb [0] [1,1,1,1,1,1,0,1,0,0,1,1,0,0,1,1,1,1,1,0] [n1] (Wg Tryz.f155) (Wn (ZBJ k) Tryz.f155 YM Zj [AV.bx (nat_lit 0) (nat_lit 0)] [[]]) n (ZW3 v)
noncomputable def ZW2:ZFl → St
 | (v0,v1,v2,v3,v4,v5,v6,v7,v8) => St.mk (Zw [(40,Zk v0),(41,Zk v1),(39,AV.val (PV.sl (Ty.int IntKind.i64).sl v2)),(8,AV.bx 8193 0),(0,AV.bx 0 0)]) (Zu [(0,QZ [AV.own 8192,Zk v3]),(8192,RS.live (Res.arr (Ty.int IntKind.u8) v4 false)),(8193,QZ [Zk v5,Zk v6,AV.val (PV.sl ((Ty.int IntKind.i64).pair ((Ty.int IntKind.i64).pair ((Ty.int IntKind.i64).pair Ty.unit))) v7),Zk v8])])
noncomputable def Zgp (k:Nat) (L2:Zy4) (L1:ZnH):ZnH
 | (v0,v1,v2,v3,v4,v5,v6,v7,v8) => bif decide (v1 < v0) then bif decide (0 ≤ v1 ∧ v1 < Int.ofNat v2.length) then bif decide (0 ≤ v1 ∧ v1 < Int.ofNat v7.length) then (Zeg k (v5,())).bind fun y => (ZQ k ((v4,v3,()),(v7.getD v1.toNat (0,0,0,())).1,y.1,())).bind fun y => (ZaI k (v5,())).bind fun y_1 => bif (v7.getD v1.toNat (0,0,0,())).1 == y_1.1 then (ZQ k ((y.2.1.1,y.2.1.2.1,()),(v7.getD v1.toNat (0,0,0,())).2.1,5,())).bind fun y => L2 (Int.ofNat (List.length (v2.getD v1.toNat [])),(0:Int),v2.getD v1.toNat [],v1,v0,v2,y.2.1.2.1,y.2.1.1,(v7.getD v1.toNat (0,0,0,())).1,(v7.getD v1.toNat (0,0,0,())).2.1,(v7.getD v1.toNat (0,0,0,())).2.2.1,v5,v6,v7,v8) else L2 (Int.ofNat (List.length (v2.getD v1.toNat [])),(0:Int),v2.getD v1.toNat [],v1,v0,v2,y.2.1.2.1,y.2.1.1,(v7.getD v1.toNat (0,0,0,())).1,(v7.getD v1.toNat (0,0,0,())).2.1,(v7.getD v1.toNat (0,0,0,())).2.2.1,v5,v6,v7,v8) else none else none else some (0,(v4,v3,()),())
noncomputable def Zy5 (k:Nat):ZnH:=Zn (fun L1 => Zgp k (ZnI k L1) L1) k
noncomputable def ZlX (k:Nat) (n:Nat) (v:ZFl) :=
 Zs (ZBJ k) ZPb [0] [1,1,1,1,1,1,0,1,0] [] (Wg Tryz.f155) (Wn (ZBJ k) Tryz.f155 YM Zj [AV.bx (nat_lit 0) (nat_lit 0)] [[]]) n (ZW2 v)
noncomputable def ZlY (k:Nat) (L1:ZnH):(List Int × Int × Unit) × List Int × Int × Unit → Option (Int × (List Int × Int × Unit) × Unit)
 | ((a0,a1,()),a2,a3,()) => (Zm8 k (a2,a3,())).bind fun y => bif y.1 != 0 then some (y.1,(a0,a1,()),()) else (Zm9 k (a2,a3,())).bind fun y => (ZQ k ((a0,a1,()),y.1.1,2,())).bind fun y_1 => (ZQ k ((y_1.2.1.1,y_1.2.1.2.1,()),y.1.2.1,4,())).bind fun y_2 => (Zna k (a2,a3,y.1.2.1,())).bind fun y_3 => L1 (Int.ofNat (List.length y_3.1),(0:Int),y_3.1,y_2.2.1.2.1,y_2.2.1.1,y.1.1,y.1.2.1,y.1.2.2.1,y.1.2.2.2.1)
noncomputable def ZiG (k:Nat):=ZlY k (Zy5 k)
theorem ZPd (k:Nat) (n1:Nat):∀ n,Zp9 k n1 n = Zn (fun L2 => Zav k (ZlX k n1) L2) n :=
 Zh (fun v => by kernel_rfl) (fun n v => by
  show Zp9 k n1 (n + 1) v = Zav k (ZlX k n1) (Zp9 k n1 n) v
  obtain ⟨v0,v1,v2,v3,v4,v5,v6,v7,v8,v9,v10,v11,v12,v13,v14⟩:=v
  kernel_rfl)
theorem ZPc (k:Nat):∀ n,ZlX k n = Zn (fun L1 => Zgp k (ZnI k L1) L1) n :=
 Zh (fun v => by kernel_rfl) (fun n v => by
  rw [show (ZnI k (ZlX k n)) = Zp9 k n k from (ZPd k n k).symm]
  obtain ⟨v0,v1,v2,v3,v4,v5,v6,v7,v8⟩:=v
  kernel_rfl)
theorem ZW4 (k:Nat) (x:Kd.dens YM):ZC (ZBJ k) ZPb Tryz.f155 YM Zj x = ZiG k x:=by
 show _ = ZlY k (Zy5 k) x
 rw [show Zy5 k = ZlX k k from (ZPc k k).symm]
 obtain ⟨⟨a0,⟨a1,⟨⟩⟩⟩,⟨a2,⟨a3,⟨⟩⟩⟩⟩:=x
 kernel_rfl
theorem ZTs (k:Nat):Ctr Tryz.prog k 155 (mk YM Zj ZiG) :=
 ZD (fn:=Tryz.f155) (Zg (Za (ZeR k) (Za (ZHi k) (Za (ZAx k) (Za (ZAy k) (Za (ZAA k) (Za (Znb k) (Za (Znd k) (Za (Zva k) (Za (ZAw k) Zd)))))))))) (by kernel_rfl) (by kernel_rfl) (ZW4 k)
noncomputable abbrev ZYt:Nat × Callee:=(155,mk YM Zj ZiG)
noncomputable def ZX7 (k:Nat):=Wi k [ZOx,ZYq,ZYr,ZUG,ZYs,ZYt]
noncomputable def ZBs (k:Nat):(List Int × Int × Unit) × List Int × Int × Unit → Option (Int × (List Int × Int × Unit) × Unit)
 | ((a0,a1,()),a2,a3,()) => (Zv7 k (a2,a3,())).bind fun y => bif y.1 != 0 then some (y.1,(a0,a1,()),()) else (Zv8 k (a2,a3,())).bind fun y => (ZQ k ((a0,a1,()),y.1.1,7,())).bind fun y_1 => bif decide ((0:Int) < y.1.2.1) then (ZQ k ((y_1.2.1.1,y_1.2.1.2.1,()),1,1,())).bind fun y_2 => (ZoC k ((y_2.2.1.1,y_2.2.1.2.1,()),IntKind.i64.wrap (y.1.2.1 - 1),())).bind fun y_3 => bif y.1.1 == 0 then bif decide ((0:Int) ≤ 0 ∧ (0:Int) ≤ 1 ∧ (1:Int) ≤ Int.ofNat (List.length y.1.2.2.2.1)) then (ZaM k ((y_3.2.1.1,y_3.2.1.2.1,()),List.drop 0 (List.take 1 y.1.2.2.2.1),y.1.2.2.1,())).bind fun y => some (0,(y.2.1.1,y.2.1.2.1,()),()) else none else bif y.1.1 == 1 then (ZaM k ((y_3.2.1.1,y_3.2.1.2.1,()),y.1.2.2.2.1,y.1.2.2.1,())).bind fun y => some (0,(y.2.1.1,y.2.1.2.1,()),()) else bif decide ((0:Int) ≤ 0 ∧ (0:Int) ≤ Int.ofNat (List.length y.1.2.2.2.2.1.1) ∧ Int.ofNat (List.length y.1.2.2.2.2.1.1) ≤ Int.ofNat (List.length y.1.2.2.2.1)) then (ZaM k ((y_3.2.1.1,y_3.2.1.2.1,()),List.drop 0 (List.take (Int.ofNat (List.length y.1.2.2.2.2.1.1)).toNat y.1.2.2.2.1),y.1.2.2.1,())).bind fun y_4 => bif decide ((31:Int) < y.1.1) then (ZQ k ((y_4.2.1.1,y_4.2.1.2.1,()),11,4,())).bind fun y_5 => (ZQ k ((y_5.2.1.1,y_5.2.1.2.1,()),y.1.2.2.2.2.1.2.1,5,())).bind fun y_6 => (ZaM k ((y_6.2.1.1,y_6.2.1.2.1,()),y.1.2.2.2.2.1.1,12,())).bind fun y_7 => (ZiG k ((y_7.2.1.1,y_7.2.1.2.1,()),y.1.2.2.2.2.2.1,Int.ofNat (List.length y.1.2.2.2.2.1.1),())).bind fun y => some (y.1,(y.2.1.1,y.2.1.2.1,()),()) else (ZiG k ((y_4.2.1.1,y_4.2.1.2.1,()),y.1.2.2.2.2.2.1,Int.ofNat (List.length y.1.2.2.2.2.1.1),())).bind fun y => some (y.1,(y.2.1.1,y.2.1.2.1,()),()) else none else (ZQ k ((y_1.2.1.1,y_1.2.1.2.1,()),0,1,())).bind fun y_2 => bif y.1.1 == 0 then bif decide ((0:Int) ≤ 0 ∧ (0:Int) ≤ 1 ∧ (1:Int) ≤ Int.ofNat (List.length y.1.2.2.2.1)) then (ZaM k ((y_2.2.1.1,y_2.2.1.2.1,()),List.drop 0 (List.take 1 y.1.2.2.2.1),y.1.2.2.1,())).bind fun y => some (0,(y.2.1.1,y.2.1.2.1,()),()) else none else bif y.1.1 == 1 then (ZaM k ((y_2.2.1.1,y_2.2.1.2.1,()),y.1.2.2.2.1,y.1.2.2.1,())).bind fun y => some (0,(y.2.1.1,y.2.1.2.1,()),()) else bif decide ((0:Int) ≤ 0 ∧ (0:Int) ≤ Int.ofNat (List.length y.1.2.2.2.2.1.1) ∧ Int.ofNat (List.length y.1.2.2.2.2.1.1) ≤ Int.ofNat (List.length y.1.2.2.2.1)) then (ZaM k ((y_2.2.1.1,y_2.2.1.2.1,()),List.drop 0 (List.take (Int.ofNat (List.length y.1.2.2.2.2.1.1)).toNat y.1.2.2.2.1),y.1.2.2.1,())).bind fun y_3 => bif decide ((31:Int) < y.1.1) then (ZQ k ((y_3.2.1.1,y_3.2.1.2.1,()),11,4,())).bind fun y_4 => (ZQ k ((y_4.2.1.1,y_4.2.1.2.1,()),y.1.2.2.2.2.1.2.1,5,())).bind fun y_5 => (ZaM k ((y_5.2.1.1,y_5.2.1.2.1,()),y.1.2.2.2.2.1.1,12,())).bind fun y_6 => (ZiG k ((y_6.2.1.1,y_6.2.1.2.1,()),y.1.2.2.2.2.2.1,Int.ofNat (List.length y.1.2.2.2.2.1.1),())).bind fun y => some (y.1,(y.2.1.1,y.2.1.2.1,()),()) else (ZiG k ((y_3.2.1.1,y_3.2.1.2.1,()),y.1.2.2.2.2.2.1,Int.ofNat (List.length y.1.2.2.2.2.1.1),())).bind fun y => some (y.1,(y.2.1.1,y.2.1.2.1,()),()) else none
noncomputable def Zv2 (k:Nat):=ZBs k
theorem ZWq (k:Nat) (x:Kd.dens YM):ZC (ZX7 k) nA Tryz.f98 YM Zj x = Zv2 k x:=by
 show _ = ZBs k x
 obtain ⟨⟨a0,⟨a1,⟨⟩⟩⟩,⟨a2,⟨a3,⟨⟩⟩⟩⟩:=x
 kernel_rfl
theorem ZTc (k:Nat):Ctr Tryz.prog k 98 (mk YM Zj Zv2) :=
 ZD (fn:=Tryz.f98) (Zg (Za (ZeR k) (Za (ZTn k) (Za (ZTo k) (Za (ZHi k) (Za (ZTr k) (Za (ZTs k) Zd))))))) (by kernel_rfl) (by kernel_rfl) (ZWq k)
noncomputable abbrev ZX8:Nat × Callee:=(98,mk YM Zj Zv2)
def ZlD (k:Nat):(List Int × Int × Unit) × Unit → Option (Int × (List Int × Int × Unit) × Unit)
 | ((a0,a1,()),()) => some (IntKind.i64.wrap (Int.ofNat (BitVec.ofInt 64 (IntKind.i64.wrap ((0:Int) - a1)) &&& BitVec.ofInt 64 (7:Int)).toNat),(a0,IntKind.i64.wrap (a1 + IntKind.i64.wrap (Int.ofNat (BitVec.ofInt 64 (IntKind.i64.wrap ((0:Int) - a1)) &&& BitVec.ofInt 64 (7:Int)).toNat)),()),())
def ZBt (k:Nat):=ZlD k
theorem ZWr (k:Nat) (x:Kd.dens ZeS):ZC (Z8 k) nA Tryz.f99 ZeS Zj x = ZBt k x:=by
 show _ = ZlD k x
 obtain ⟨⟨a0,⟨a1,⟨⟩⟩⟩,⟨⟩⟩:=x
 kernel_rfl
theorem ZTd (k:Nat):Ctr Tryz.prog k 99 (mk ZeS Zj ZBt) :=
 ZD (fn:=Tryz.f99) (Zg Zd) (by kernel_rfl) (by kernel_rfl) (ZWr k)
noncomputable abbrev ZX9:Nat × Callee:=(99,mk ZeS Zj ZBt)
def ZlE (k:Nat):List Int × Unit → Option (Int × Unit)
 | (a0,()) => (ZiE k (a0,16,32773,())).bind fun y => some (y.1,())
def Zv3 (k:Nat):=ZlE k
theorem ZWs (k:Nat) (x:Kd.dens WT):ZC (ZUo k) nA Tryz.f61 WT Zj x = Zv3 k x:=by
 show _ = ZlE k x
 obtain ⟨a0,⟨⟩⟩:=x
 kernel_rfl
theorem ZGY (k:Nat):Ctr Tryz.prog k 61 (mk WT Zj Zv3) :=
 ZD (fn:=Tryz.f61) (Zg (Za (ZHc k) Zd)) (by kernel_rfl) (by kernel_rfl) (ZWs k)
noncomputable abbrev ZUr:Nat × Callee:=(61,mk WT Zj Zv3)
abbrev Zno:Kd:=.tup [.own (.int .u8) false,.view (.int .i64)]
noncomputable def ZAX (k:Nat):=Wi k [ZUl,ZX2,ZUm,ZOx,ZX3,ZUp,ZX5,ZUq,ZX8,ZX9,ZUr]
def ZMG:Nat → Ann:=fun id => bif Nat.beq id 27 then ⟨[87,88,86,12,7],[]⟩ else bif Nat.beq id 20 then ⟨[61,62,60,12,10,11,2,8,7],[]⟩ else ⟨[],[]⟩
abbrev ZD2:=Int × Int × List Int × List (List Int) × Int × List Int
abbrev ZxX:=ZD2 → Option ((List Int × Int × Unit) × Unit)
abbrev ZD1:=Int × Int × List Int × Int × Int × Int × List (List Int) × Int × List Int × Int × Int × Int
abbrev ZxW:=ZD1 → Option ((List Int × Int × Unit) × Unit)
def ZVC:ZD2 → St
 | (v0,v1,v2,v3,v4,v5) => St.mk (Zw [(87,Zk v0),(88,Zk v1),(86,YE v2),(12,AV.bx 8192 0),(7,AV.val (PV.sl (Ty.int IntKind.i64).sl v3))]) (Zu [(8192,QZ [AV.own 8193,Zk v4]),(8193,RS.live (Res.arr (Ty.int IntKind.u8) v5 false))])
noncomputable def Zdf (k:Nat) (L2:ZxX):ZxX
 | (v0,v1,v2,v3,v4,v5) => bif decide (v1 < v0) then bif decide (0 ≤ v1 ∧ v1 < Int.ofNat v2.length) then bif decide (0 ≤ v1 ∧ v1 < Int.ofNat v3.length) then (Zv2 k ((v5,v4,()),v3.getD v1.toNat [],v2.getD v1.toNat 0,())).bind fun y => bif y.1 != 0 then some (([],y.1,()),()) else L2 (v0,IntKind.i64.wrap (v1 + 1),v2,v3,y.2.1.2.1,y.2.1.1) else none else none else (ZBt k ((v5,v4,()),())).bind fun y => (Zly k ((y.2.1.1,y.2.1.2.1,()),())).bind fun y => (Zv3 k (y.1,())).bind fun y_1 => (ZQ k ((y.2.1.1,y.2.1.2.1,()),y_1.1,16,())).bind fun y => (Zly k ((y.2.1.1,y.2.1.2.1,()),())).bind fun y => some ((y.1,0,()),())
noncomputable def Zji (k:Nat):ZxX:=Zn (fun L2 => Zdf k L2) k
noncomputable def ZGk (k:Nat) (n:Nat) (v:ZD2) :=
 Zs (ZAX k) ZMG [] [1,1,1,1,1,1,1,1,1,1,1,1,1,1,1,1,1,0,1,0] [] (Wg Tryz.f43) (Wn (ZAX k) Tryz.f43 Kh Zno [] []) n (ZVC v)
def ZVB:ZD1 → St
 | (v0,v1,v2,v3,v4,v5,v6,v7,v8,v9,v10,v11) => St.mk (Zw [(61,Zk v0),(62,Zk v1),(60,AV.val (PV.sl (Ty.int IntKind.u8) v2)),(12,AV.bx 8192 0),(10,Zk v3),(11,Zk v4),(2,AV.bx 8194 0),(8,Zk v5),(7,AV.val (PV.sl (Ty.int IntKind.i64).sl v6))]) (Zu [(8192,QZ [AV.own 8193,Zk v7]),(8193,RS.live (Res.arr (Ty.int IntKind.u8) v8 false)),(8194,QZ [Zk v9,Zk v10,Zk v11])])
def Zan (k:Nat) (L2:ZxX) (L1:ZxW):ZxW
 | (v0,v1,v2,v3,v4,v5,v6,v7,v8,v9,v10,v11) => bif decide (v1 < v0) then bif decide (0 ≤ v1 ∧ v1 < Int.ofNat v2.length) then (ZQ k ((v8,v7,()),IntKind.i64.wrap (v2.getD v1.toNat 0),8,())).bind fun y => L1 (v0,IntKind.i64.wrap (v1 + 1),v2,v3,v4,v5,v6,y.2.1.2.1,y.2.1.1,v9,v10,v11) else none else (ZQ k ((v8,v7,()),IntKind.i64.wrap (v3 - 1),IntKind.i64.wrap ((8:Int) * IntKind.i64.wrap (IntKind.i64.wrap (v4 - 6) + (1:Int))),())).bind fun y => (Zly k ((y.2.1.1,y.2.1.2.1,()),())).bind fun y => (Zv0 k (y.1,())).bind fun y_1 => (ZQ k ((y.2.1.1,y.2.1.2.1,()),y_1.1,8,())).bind fun y => (Zv1 k ((v9,v10,v11,()),v5,())).bind fun y_2 => L2 (Int.ofNat (List.length y_2.1),(0:Int),y_2.1,v6,y.2.1.2.1,y.2.1.1)
noncomputable def Znn (k:Nat):ZxW:=Zn (fun L1 => Zan k (Zji k) L1) k
noncomputable def ZGj (k:Nat) (n:Nat) (v:ZD1) :=
 Zs (ZAX k) ZMG [] [1,1,1,1,1,1,1,1,1,1,1,1,1,1,0,1,0] [] (Wg Tryz.f43) (Wn (ZAX k) Tryz.f43 Kh Zno [] []) n (ZVB v)
def Zkn (k:Nat) (L1:ZxW):(Int × Int × Int × Unit) × (Int × List (List Int) × Unit) × Unit → Option ((List Int × Int × Unit) × Unit)
 | ((a0,a1,a2,()),(a3,a4,()),()) => (ZiB k ((a0,a1,a2,()),(a3,a4,()),())).bind fun y => bif y.1 != 0 then some (([],y.1,()),()) else (ZBl k ((a3,a4,()),())).bind fun y => bif y.1.2.2.1 != 0 then some (([],y.1.2.2.1,()),()) else bif decide ((0:Int) ≤ 0 ∧ (0:Int) < Int.ofNat (List.length y.1.1)) then bif decide ((256:Int) < Int.ofNat (List.length (List.getD y.1.1 (0:Nat) []))) then (ZoA k ()).bind fun y_1 => (ZQ k ((y_1.1.1,y_1.1.2.1,()),16382,14,())).bind fun y_2 => (ZQ k ((y_2.2.1.1,y_2.2.1.2.1,()),7,6,())).bind fun y_3 => (ZQ k ((y_3.2.1.1,y_3.2.1.2.1,()),y.1.2.1,8,())).bind fun y_4 => (ZQ k ((y_4.2.1.1,y_4.2.1.2.1,()),0,4,())).bind fun y_5 => (ZsH k (a3,())).bind fun y_6 => bif y_6.1.2.1 != 0 then some (([],y_6.1.2.1,()),()) else L1 (Int.ofNat (List.length y_6.1.1),(0:Int),y_6.1.1,Int.ofNat (List.length (List.getD y.1.1 (0:Nat) [])),(7:Int),y.1.2.1,y.1.1,y_5.2.1.2.1,y_5.2.1.1,a0,a1,a2) else (ZoA k ()).bind fun y_1 => (ZQ k ((y_1.1.1,y_1.1.2.1,()),16382,14,())).bind fun y_2 => (ZQ k ((y_2.2.1.1,y_2.2.1.2.1,()),6,6,())).bind fun y_3 => (ZQ k ((y_3.2.1.1,y_3.2.1.2.1,()),y.1.2.1,8,())).bind fun y_4 => (ZQ k ((y_4.2.1.1,y_4.2.1.2.1,()),0,4,())).bind fun y_5 => (ZsH k (a3,())).bind fun y_6 => bif y_6.1.2.1 != 0 then some (([],y_6.1.2.1,()),()) else L1 (Int.ofNat (List.length y_6.1.1),(0:Int),y_6.1.1,Int.ofNat (List.length (List.getD y.1.1 (0:Nat) [])),(6:Int),y.1.2.1,y.1.1,y_5.2.1.2.1,y_5.2.1.1,a0,a1,a2) else none
noncomputable def Zvf (k:Nat):=Zkn k (Znn k)
theorem ZMI (k:Nat):∀ n,ZGk k n = Zn (fun L2 => Zdf k L2) n :=
 Zh (fun v => by kernel_rfl) (fun n v => by
  obtain ⟨v0,v1,v2,v3,v4,v5⟩:=v
  kernel_rfl)
theorem ZMH (k:Nat):∀ n,ZGj k n = Zn (fun L1 => Zan k (Zji k) L1) n :=
 Zh (fun v => by kernel_rfl) (fun n v => by
  rw [show (Zji k) = ZGk k k from (ZMI k k).symm]
  obtain ⟨v0,v1,v2,v3,v4,v5,v6,v7,v8,v9,v10,v11⟩:=v
  kernel_rfl)
theorem ZVD (k:Nat) (x:Kd.dens Kh):ZC (ZAX k) ZMG Tryz.f43 Kh Zno x = Zvf k x:=by
 show _ = Zkn k (Znn k) x
 rw [show Znn k = ZGj k k from (ZMH k k).symm]
 obtain ⟨⟨a0,⟨a1,⟨a2,⟨⟩⟩⟩⟩,⟨⟨a3,⟨a4,⟨⟩⟩⟩,⟨⟩⟩⟩:=x
 kernel_rfl
theorem ZRM (k:Nat):Ctr Tryz.prog k 43 (mk Kh Zno Zvf) :=
 ZD (fn:=Tryz.f43) (Zg (Za (ZGR k) (Za (ZTa k) (Za (ZGS k) (Za (ZeR k) (Za (ZTb k) (Za (ZGV k) (Za (ZGW k) (Za (ZGX k) (Za (ZTc k) (Za (ZTd k) (Za (ZGY k) Zd)))))))))))) (by kernel_rfl) (by kernel_rfl) (ZVD k)
noncomputable abbrev ZZe:Nat × Callee:=(43,mk Kh Zno Zvf)
abbrev Zyx:Kd:=.box [.view (.sl (.int .u8)),.view (.int .i64)]
noncomputable def ZYa (k:Nat):=Wi k [ZUE]
def ZdC (k:Nat):List Int × Unit → Option ((List Int × Int × Unit) × Unit)
 | (a0,()) => (ZiF k (a0,())).bind fun y => some ((y.1,0,()),())
def ZoB (k:Nat):=ZdC k
theorem ZWt (k:Nat) (x:Kd.dens WT):ZC (ZYa k) nA Tryz.f48 WT Zyx x = ZoB k x:=by
 show _ = ZdC k x
 obtain ⟨a0,⟨⟩⟩:=x
 kernel_rfl
theorem ZGZ (k:Nat):Ctr Tryz.prog k 48 (mk WT Zyx ZoB) :=
 ZD (fn:=Tryz.f48) (Zg (Za (ZyV k) Zd)) (by kernel_rfl) (by kernel_rfl) (ZWt k)
noncomputable abbrev ZYb:Nat × Callee:=(48,mk WT Zyx ZoB)
abbrev Xk:List Kd:=[.box [.view (.sl (.int .u8)),.view (.int .i64)]]
def ZBB (k:Nat):(List Int × Int × Unit) × Unit → Option (Int × (List Int × Int × Unit) × Unit)
 | ((a0,a1,()),()) => some (a1,(a0,a1,()),())
def Kz (k:Nat):=ZBB k
theorem ZWD (k:Nat) (x:Kd.dens Xk):ZC (Z8 k) nA Tryz.f50 Xk Zj x = Kz k x:=by
 show _ = ZBB k x
 obtain ⟨⟨a0,⟨a1,⟨⟩⟩⟩,⟨⟩⟩:=x
 kernel_rfl
theorem ZlK (k:Nat):Ctr Tryz.prog k 50 (mk Xk Zj Kz) :=
 ZD (fn:=Tryz.f50) (Zg Zd) (by kernel_rfl) (by kernel_rfl) (ZWD k)
noncomputable abbrev ZG3:Nat × Callee:=(50,mk Xk Zj Kz)
abbrev Zy6:List Kd:=[.box [.view (.sl (.int .u8)),.ref [.view (.sl (.int .u8)),.view (.int .i64)],.view (.int .i64)],.view .bool,.view (.int .i64)]
def ZlZ (k:Nat):(List Int × (List Int × Int × Unit) × Int × Unit) × Bool × Int × Unit → Option (Unit × (List Int × (List Int × Int × Unit) × Int × Unit) × Unit)
 | ((a0,(a1,a2,()),a3,()),a4,a5,()) => bif a3 == 0 then bif !a4 then some ((),(a0,(a1,a2,()),a5,()),()) else some ((),(a0,(a1,a2,()),a3,()),()) else some ((),(a0,(a1,a2,()),a3,()),())
def Wf (k:Nat):=ZlZ k
theorem ZW5 (k:Nat) (x:Kd.dens Zy6):ZC (Z8 k) nA Tryz.f118 Zy6 QG x = Wf k x:=by
 show _ = ZlZ k x
 obtain ⟨⟨a0,⟨⟨a1,⟨a2,⟨⟩⟩⟩,⟨a3,⟨⟩⟩⟩⟩,⟨a4,⟨a5,⟨⟩⟩⟩⟩:=x
 kernel_rfl
theorem Zqa (k:Nat):Ctr Tryz.prog k 118 (mk Zy6 QG Wf) :=
 ZD (fn:=Tryz.f118) (Zg Zd) (by kernel_rfl) (by kernel_rfl) (ZW5 k)
noncomputable abbrev ZHk:Nat × Callee:=(118,mk Zy6 QG Wf)
abbrev XA:List Kd:=[.box [.view (.sl (.int .u8)),.view (.int .i64)],.view (.int .i64)]
def Zl8 (k:Nat):(List Int × Int × Unit) × Int × Unit → Option (Int × (List Int × Int × Unit) × Unit)
 | ((a0,a1,()),a2,()) => bif decide (0 ≤ IntKind.i64.wrap (a2.tdiv (8:Int)) ∧ IntKind.i64.wrap (a2.tdiv (8:Int)) < Int.ofNat a0.length) then bif decide (0 ≤ IntKind.i64.wrap ((7:Int) - a2.tmod (8:Int))) then some (IntKind.i64.wrap (Int.ofNat (BitVec.ofInt 64 (IntKind.i64.wrap (Int.fdiv (a0.getD (IntKind.i64.wrap (a2.tdiv (8:Int))).toNat 0) ((2:Int) ^ min (IntKind.i64.wrap ((7:Int) - a2.tmod (8:Int))).toNat 8))) &&& BitVec.ofInt 64 (1:Int)).toNat),(a0,a1,()),()) else none else none
def ZsZ (k:Nat):=Zl8 k
theorem ZXe (k:Nat) (x:Kd.dens XA):ZC (Z8 k) nA Tryz.f126 XA Zj x = ZsZ k x:=by
 show _ = Zl8 k x
 obtain ⟨⟨a0,⟨a1,⟨⟩⟩⟩,⟨a2,⟨⟩⟩⟩:=x
 kernel_rfl
theorem Zzb (k:Nat):Ctr Tryz.prog k 126 (mk XA Zj ZsZ) :=
 ZD (fn:=Tryz.f126) (Zg Zd) (by kernel_rfl) (by kernel_rfl) (ZXe k)
noncomputable abbrev ZUM:Nat × Callee:=(126,mk XA Zj ZsZ)
def ZhS (k:Nat):(List Int × Int × Unit) × Unit → Option (Int × (List Int × Int × Unit) × Unit)
 | ((a0,a1,()),()) => some (IntKind.i64.wrap (IntKind.i64.wrap ((8:Int) * Int.ofNat a0.length) - a1),(a0,a1,()),())
def Zrv (k:Nat):=ZhS k
theorem ZRZ (k:Nat) (x:Kd.dens Xk):ZC (Z8 k) nA Tryz.f207 Xk Zj x = Zrv k x:=by
 show _ = ZhS k x
 obtain ⟨⟨a0,⟨a1,⟨⟩⟩⟩,⟨⟩⟩:=x
 kernel_rfl
theorem ZMT (k:Nat):Ctr Tryz.prog k 207 (mk Xk Zj Zrv) :=
 ZD (fn:=Tryz.f207) (Zg Zd) (by kernel_rfl) (by kernel_rfl) (ZRZ k)
noncomputable abbrev ZVJ:Nat × Callee:=(207,mk Xk Zj Zrv)
noncomputable def ZDN (k:Nat):=Wi k [ZUA,ZUM,ZVJ]
def ZMe:Nat → Ann:=fun id => bif Nat.beq id 7 then ⟨[19,20,6,0],[]⟩ else ⟨[],[]⟩
abbrev ZxN:=Int × Int × Int × List Int × Int
abbrev Zps:=ZxN → Option ((Int × Int × Unit) × (List Int × Int × Unit) × Unit)
def ZRo:ZxN → St
 | (v0,v1,v2,v3,v4) => St.mk (Zw [(19,Zk v0),(20,Zk v1),(6,Zk v2),(0,AV.bx 0 0)]) (Zu [(0,QZ [AV.val (PV.sl (Ty.int IntKind.u8) v3),Zk v4])])
def Zc7 (k:Nat) (L1:Zps):Zps
 | (v0,v1,v2,v3,v4) => bif decide (v1 < v0) then (ZsZ k ((v3,v4,()),v4,())).bind fun y => L1 (v0,IntKind.i64.wrap (v1 + 1),IntKind.i64.wrap (Int.ofNat (BitVec.ofInt 64 (IntKind.i64.wrap (v2 * (2:Int))) ||| BitVec.ofInt 64 y.1).toNat),y.2.1.1,IntKind.i64.wrap (y.2.1.2.1 + 1)) else some ((v2,0,()),(v3,v4,()),())
def Zpt (k:Nat):Zps:=Zn (fun L1 => Zc7 k L1) k
noncomputable def ZAC (k:Nat) (n:Nat) (v:ZxN) :=
 Zs (ZDN k) ZMe [0] [1,1,1,0,1,0] [] (Wg Tryz.f156) (Wn (ZDN k) Tryz.f156 XA Z9 [AV.bx (nat_lit 0) (nat_lit 0)] [[]]) n (ZRo v)
def Zhr (k:Nat) (L1:Zps):(List Int × Int × Unit) × Int × Unit → Option ((Int × Int × Unit) × (List Int × Int × Unit) × Unit)
 | ((a0,a1,()),a2,()) => (ZsS k (a2,())).bind fun y => bif y.1 then some ((0,1,()),(a0,a1,()),()) else (Zrv k ((a0,a1,()),())).bind fun y => bif decide (y.1 < a2) then some ((0,10,()),(y.2.1.1,y.2.1.2.1,()),()) else L1 (a2,(0:Int),(0:Int),y.2.1.1,y.2.1.2.1)
def Yj (k:Nat):=Zhr k (Zpt k)
theorem ZIQ (k:Nat):∀ n,ZAC k n = Zn (fun L1 => Zc7 k L1) n :=
 Zh (fun v => by kernel_rfl) (fun n v => by
  obtain ⟨v0,v1,v2,v3,v4⟩:=v
  kernel_rfl)
theorem ZRp (k:Nat) (x:Kd.dens XA):ZC (ZDN k) ZMe Tryz.f156 XA Z9 x = Yj k x:=by
 show _ = Zhr k (Zpt k) x
 rw [show Zpt k = ZAC k k from (ZIQ k k).symm]
 obtain ⟨⟨a0,⟨a1,⟨⟩⟩⟩,⟨a2,⟨⟩⟩⟩:=x
 kernel_rfl
theorem Zbl (k:Nat):Ctr Tryz.prog k 156 (mk XA Z9 Yj) :=
 ZD (fn:=Tryz.f156) (Zg (Za (ZyP k) (Za (Zzb k) (Za (ZMT k) Zd)))) (by kernel_rfl) (by kernel_rfl) (ZRp k)
noncomputable abbrev ZxO:Nat × Callee:=(156,mk XA Z9 Yj)
abbrev Zy7:List Kd:=[.box [.view (.sl (.int .u8)),.ref [.view (.sl (.int .u8)),.view (.int .i64)],.view (.int .i64)],.view (.int .i64)]
noncomputable def ZPe (k:Nat):=Wi k [ZxO]
def Zl0 (k:Nat):(List Int × (List Int × Int × Unit) × Int × Unit) × Int × Unit → Option (Int × (List Int × (List Int × Int × Unit) × Int × Unit) × Unit)
 | ((a0,(a1,a2,()),a3,()),a4,()) => bif a3 == 0 then (Yj k ((a1,a2,()),a4,())).bind fun y => some (y.1.1,(a0,(y.2.1.1,y.2.1.2.1,()),y.1.2.1,()),()) else some (0,(a0,(a1,a2,()),a3,()),())
def WH (k:Nat):=Zl0 k
theorem ZW6 (k:Nat) (x:Kd.dens Zy7):ZC (ZPe k) nA Tryz.f119 Zy7 Zj x = WH k x:=by
 show _ = Zl0 k x
 obtain ⟨⟨a0,⟨⟨a1,⟨a2,⟨⟩⟩⟩,⟨a3,⟨⟩⟩⟩⟩,⟨a4,⟨⟩⟩⟩:=x
 kernel_rfl
theorem Zqb (k:Nat):Ctr Tryz.prog k 119 (mk Zy7 Zj WH) :=
 ZD (fn:=Tryz.f119) (Zg (Za (Zbl k) Zd)) (by kernel_rfl) (by kernel_rfl) (ZW6 k)
noncomputable abbrev ZHl:Nat × Callee:=(119,mk Zy7 Zj WH)
abbrev ZyF:List Kd:=[.box [.view (.sl (.int .u8)),.ref [.view (.sl (.int .u8)),.view (.int .i64)],.view (.int .i64)],.view (.int .i64),.fn 96]
noncomputable def ZYg (k:Nat):=Wi k [ZG3,ZHk,ZHl,ZUp]
def ZlH (k:Nat):(List Int × (List Int × Int × Unit) × Int × Unit) × Int × Unit × Unit → Option (Unit × (List Int × (List Int × Int × Unit) × Int × Unit) × Unit)
 | ((a0,(a1,a2,()),a3,()),a4,(),()) => (Kz k ((a1,a2,()),())).bind fun y => (WH k ((a0,(y.2.1.1,y.2.1.2.1,()),a3,()),a4,())).bind fun y_1 => bif y_1.2.1.2.2.1 != 0 then (Wf k ((y_1.2.1.1,(y_1.2.1.2.1.1,y_1.2.1.2.1.2.1,()),y_1.2.1.2.2.1,()),true,16,())).bind fun y => some ((),(y.2.1.1,(y.2.1.2.1.1,y.2.1.2.1.2.1,()),y.2.1.2.2.1,()),()) else bif decide ((0:Int) ≤ 0 ∧ (0:Int) ≤ IntKind.i64.wrap (Int.tdiv y.1 (8:Int)) ∧ IntKind.i64.wrap (Int.tdiv y.1 (8:Int)) ≤ Int.ofNat (List.length y_1.2.1.1)) then (Zv0 k (List.drop 0 (List.take (IntKind.i64.wrap (Int.tdiv y.1 (8:Int))).toNat y_1.2.1.1),())).bind fun y => (Wf k ((y_1.2.1.1,(y_1.2.1.2.1.1,y_1.2.1.2.1.2.1,()),y_1.2.1.2.2.1,()),y_1.1 == y.1,16,())).bind fun y => some ((),(y.2.1.1,(y.2.1.2.1.1,y.2.1.2.1.2.1,()),y.2.1.2.2.1,()),()) else none
def ZiD (k:Nat):=ZlH k
theorem ZWz (k:Nat) (x:Kd.dens ZyF):ZC (ZYg k) nA Tryz.f60 ZyF QG x = ZiD k x:=by
 show _ = ZlH k x
 obtain ⟨⟨a0,⟨⟨a1,⟨a2,⟨⟩⟩⟩,⟨a3,⟨⟩⟩⟩⟩,⟨a4,⟨⟨⟩,⟨⟩⟩⟩⟩:=x
 kernel_rfl
theorem ZTh (k:Nat):Ctr Tryz.prog k 60 (mk ZyF QG ZiD) :=
 ZD (fn:=Tryz.f60) (Zg (Za (ZlK k) (Za (Zqa k) (Za (Zqb k) (Za (ZGV k) Zd))))) (by kernel_rfl) (by kernel_rfl) (ZWz k)
noncomputable abbrev ZYh:Nat × Callee:=(60,mk ZyF QG ZiD)
def Zl1 (k:Nat):(Int × Int × Int × Unit) × Int × Unit → Option (Bool × Unit)
 | ((a0,a1,a2,()),a3,()) => bif a0 == 1 then some (a3 == 0,()) else bif a3 == 1 then some (true,()) else bif decide (8 ≤ a3) then some (decide (a3 ≤ 10),()) else some (false,())
def ZsX (k:Nat):=Zl1 k
theorem ZW7 (k:Nat) (x:Kd.dens Zgb):ZC (Z8 k) nA Tryz.f120 Zgb ZF x = ZsX k x:=by
 show _ = Zl1 k x
 obtain ⟨⟨a0,⟨a1,⟨a2,⟨⟩⟩⟩⟩,⟨a3,⟨⟩⟩⟩:=x
 kernel_rfl
theorem ZTt (k:Nat):Ctr Tryz.prog k 120 (mk Zgb ZF ZsX) :=
 ZD (fn:=Tryz.f120) (Zg Zd) (by kernel_rfl) (by kernel_rfl) (ZW7 k)
noncomputable abbrev ZYu:Nat × Callee:=(120,mk Zgb ZF ZsX)
abbrev Zcn:List Kd:=[.view (.int .u8)]
def Zvu (k:Nat):Int × Unit → Option (Int × Unit)
 | (a0,()) => bif decide (0 ≤ a0 ∧ a0 < 256) then some (IntKind.i64.wrap (Int.ofNat ((ByteArray.mk (([0,1,2,2,3,3,3,3,4,4,4,4,4,4,4,4,5,5,5,5,5,5,5,5,5,5,5,5,5,5,5,5,6,6,6,6,6,6,6,6,6,6,6,6,6,6,6,6,6,6,6,6,6,6,6,6,6,6,6,6,6,6,6,6].append [7,7,7,7,7,7,7,7,7,7,7,7,7,7,7,7,7,7,7,7,7,7,7,7,7,7,7,7,7,7,7,7,7,7,7,7,7,7,7,7,7,7,7,7,7,7,7,7,7,7,7,7,7,7,7,7,7,7,7,7,7,7,7,7]).append ([8,8,8,8,8,8,8,8,8,8,8,8,8,8,8,8,8,8,8,8,8,8,8,8,8,8,8,8,8,8,8,8,8,8,8,8,8,8,8,8,8,8,8,8,8,8,8,8,8,8,8,8,8,8,8,8,8,8,8,8,8,8,8,8].append [8,8,8,8,8,8,8,8,8,8,8,8,8,8,8,8,8,8,8,8,8,8,8,8,8,8,8,8,8,8,8,8,8,8,8,8,8,8,8,8,8,8,8,8,8,8,8,8,8,8,8,8,8,8,8,8,8,8,8,8,8,8,8,8])).toArray).data.toList.getD a0.toNat 0).toNat),()) else none
def Zx6 (k:Nat):=Zvu k
theorem ZSe (k:Nat) (x:Kd.dens Zcn):ZC (Z8 k) nA Tryz.f251 Zcn Zj x = Zx6 k x:=by
 show _ = Zvu k x
 obtain ⟨a0,⟨⟩⟩:=x
 kernel_rfl
theorem ZM6 (k:Nat):Ctr Tryz.prog k 251 (mk Zcn Zj Zx6) :=
 ZD (fn:=Tryz.f251) (Zg Zd) (by kernel_rfl) (by kernel_rfl) (ZSe k)
noncomputable abbrev ZVY:Nat × Callee:=(251,mk Zcn Zj Zx6)
noncomputable def ZVK (k:Nat):=Wi k [ZVY]
def Zvm (k:Nat):Int × Unit → Option (Int × Unit)
 | (a0,()) => (Zx6 k (a0,())).bind fun y => some (IntKind.i64.wrap ((8:Int) - y.1),())
def Znt (k:Nat):=Zvm k
theorem ZR0 (k:Nat) (x:Kd.dens Zcn):ZC (ZVK k) nA Tryz.f213 Zcn Zj x = Znt k x:=by
 show _ = Zvm k x
 obtain ⟨a0,⟨⟩⟩:=x
 kernel_rfl
theorem ZMU (k:Nat):Ctr Tryz.prog k 213 (mk Zcn Zj Znt) :=
 ZD (fn:=Tryz.f213) (Zg (Za (ZM6 k) Zd)) (by kernel_rfl) (by kernel_rfl) (ZR0 k)
noncomputable abbrev ZVL:Nat × Callee:=(213,mk Zcn Zj Znt)
abbrev Zei:Kd:=.tup [.view (.int .i64),.view (.int .i64),.view (.int .i64)]
noncomputable def ZDO (k:Nat):=Wi k [ZUC,ZVL]
def ZMf:Nat → Ann:=fun id => bif Nat.beq id 10 then ⟨[8,5,0,6,7],[]⟩ else ⟨[],[]⟩
abbrev Zpu:=ZeU → Option ((Int × Int × Int × Unit) × Unit)
def ZRq:ZeU → St
 | (v0,v1,v2,v3,v4) => St.mk (Zw [(8,Zk v0),(5,Zk v1),(0,AV.val (PV.sl (Ty.int IntKind.u8) v2)),(6,Zk v3),(7,Zk v4)]) (Zu [])
def Zc8 (k:Nat) (L1:Zpu):Zpu
 | (v0,v1,v2,v3,v4) => bif decide (v0 < v1) then bif decide (v0 < Int.ofNat v2.length) then bif decide (0 ≤ v0 ∧ v0 < Int.ofNat v2.length) then bif Int.fdiv (v2.getD v0.toNat 0) (64:Int) != 2 then some ((0,0,2,()),()) else bif decide (0 ≤ v0 ∧ v0 < Int.ofNat v2.length) then L1 (IntKind.i64.wrap (v0 + 1),v1,v2,IntKind.i64.wrap (Int.ofNat (BitVec.ofInt 64 (IntKind.i64.wrap (v3 * (64:Int))) ||| BitVec.ofInt 64 (IntKind.i64.wrap (Int.ofNat (BitVec.ofInt 64 (IntKind.i64.wrap (v2.getD v0.toNat 0)) &&& BitVec.ofInt 64 (63:Int)).toNat))).toNat),IntKind.i64.wrap (Int.ofNat (BitVec.ofInt 64 (IntKind.i64.wrap (v4 * (64:Int))) ||| BitVec.ofInt 64 (IntKind.i64.wrap (Int.ofNat (BitVec.ofInt 64 (IntKind.i64.wrap (v2.getD v0.toNat 0)) &&& BitVec.ofInt 64 (63:Int)).toNat))).toNat)) else none else none else L1 (IntKind.i64.wrap (v0 + 1),v1,v2,IntKind.i64.wrap (Int.ofNat (BitVec.ofInt 64 (IntKind.i64.wrap (v3 * (64:Int))) ||| BitVec.ofInt 64 (0:Int)).toNat),IntKind.i64.wrap (Int.ofNat (BitVec.ofInt 64 (IntKind.i64.wrap (v4 * (64:Int))) ||| BitVec.ofInt 64 (63:Int)).toNat)) else (Zv6 k (IntKind.i64.wrap (v1 - 1),())).bind fun y => bif decide ((0:Int) ≤ y.1) then bif decide (v4 < IntKind.i64.wrap ((1:Int) * (2:Int) ^ min (Int.toNat y.1) (64:Nat))) then some ((0,0,2,()),()) else bif decide (Int.ofNat v2.length < v1) then some ((0,0,10,()),()) else some ((v3,v1,0,()),()) else none
def Zpv (k:Nat):Zpu:=Zn (fun L1 => Zc8 k L1) k
noncomputable def ZAD (k:Nat) (n:Nat) (v:ZeU) :=
 Zs (ZDO k) ZMf [] [1,1,1,1,1,0,1,0] [] (Wg Tryz.f164) (Wn (ZDO k) Tryz.f164 WT Zei [] []) n (ZRq v)
def Zhs (k:Nat) (L1:Zpu):List Int × Unit → Option ((Int × Int × Int × Unit) × Unit)
 | (a0,()) => bif Int.ofNat a0.length == (0:Int) then some ((0,0,10,()),()) else bif decide ((0:Int) ≤ 0 ∧ (0:Int) < Int.ofNat a0.length) then (Znt k (IntKind.u8.wrap (Int.ofNat (BitVec.ofInt 8 (255:Int) ^^^ BitVec.ofInt 8 (a0.getD 0 0)).toNat),())).bind fun y => bif y.1 == 0 then bif decide ((0:Int) ≤ 0 ∧ (0:Int) < Int.ofNat a0.length) then some ((IntKind.i64.wrap (a0.getD 0 0),1,0,()),()) else none else bif y.1 == 1 then some ((0,0,2,()),()) else bif decide ((7:Int) < y.1) then some ((0,0,2,()),()) else bif decide ((0:Int) ≤ 0 ∧ (0:Int) < Int.ofNat a0.length) then bif decide ((0:Int) ≤ y.1) then bif decide ((0:Int) ≤ 0 ∧ (0:Int) < Int.ofNat a0.length) then bif decide ((0:Int) ≤ y.1) then L1 (1,y.1,a0,IntKind.i64.wrap (Int.ofNat (BitVec.ofInt 64 (IntKind.i64.wrap (a0.getD 0 0)) &&& BitVec.ofInt 64 (Int.fdiv (127:Int) ((2:Int) ^ min (Int.toNat y.1) (64:Nat)))).toNat),IntKind.i64.wrap (Int.ofNat (BitVec.ofInt 64 (IntKind.i64.wrap (a0.getD 0 0)) &&& BitVec.ofInt 64 (Int.fdiv (127:Int) ((2:Int) ^ min (Int.toNat y.1) (64:Nat)))).toNat)) else none else none else none else none else none
def Zq9 (k:Nat):=Zhs k (Zpv k)
theorem ZIS (k:Nat):∀ n,ZAD k n = Zn (fun L1 => Zc8 k L1) n :=
 Zh (fun v => by kernel_rfl) (fun n v => by
  obtain ⟨v0,v1,v2,v3,v4⟩:=v
  kernel_rfl)
theorem ZRr (k:Nat) (x:Kd.dens WT):ZC (ZDO k) ZMf Tryz.f164 WT Zei x = Zq9 k x:=by
 show _ = Zhs k (Zpv k) x
 rw [show Zpv k = ZAD k k from (ZIS k k).symm]
 obtain ⟨a0,⟨⟩⟩:=x
 kernel_rfl
theorem ZMg (k:Nat):Ctr Tryz.prog k 164 (mk WT Zei Zq9) :=
 ZD (fn:=Tryz.f164) (Zg (Za (ZHb k) (Za (ZMU k) Zd))) (by kernel_rfl) (by kernel_rfl) (ZRr k)
noncomputable abbrev ZVo:Nat × Callee:=(164,mk WT Zei Zq9)
abbrev ZsY:List Kd:=[.box [.view (.sl (.int .u8)),.ref [.view (.sl (.int .u8)),.view (.int .i64)],.view (.int .i64)]]
noncomputable def ZPg (k:Nat):=Wi k [ZG3,ZHk,ZHl,ZVo]
def ZUI:Nat → Ann:=fun id => bif Nat.beq id 6 then ⟨[31,32,0,3],[]⟩ else ⟨[],[]⟩
abbrev ZFn:=Int × Int × Int × List Int × Int × List Int × Int
abbrev Zy8:=ZFn → Option (Int × (List Int × (List Int × Int × Unit) × Int × Unit) × Unit)
def ZW8:ZFn → St
 | (v0,v1,v2,v3,v4,v5,v6) => St.mk (Zw [(31,Zk v0),(32,Zk v1),(0,AV.bx 0 0),(3,Zk v2)]) (Zu [(0,QZ [AV.val (PV.sl (Ty.int IntKind.u8) v3),AV.bx 1 0,Zk v4]),(1,QZ [AV.val (PV.sl (Ty.int IntKind.u8) v5),Zk v6])])
def Zgq (k:Nat) (L1:Zy8):Zy8
 | (v0,v1,v2,v3,v4,v5,v6) => bif decide (v1 < v0) then (WH k ((v3,(v5,v6,()),v4,()),8,())).bind fun y => L1 (v0,IntKind.i64.wrap (v1 + 1),v2,y.2.1.1,y.2.1.2.2.1,y.2.1.2.1.1,y.2.1.2.1.2.1) else (Wf k ((v3,(v5,v6,()),v4,()),decide (v2 ≤ 2147483647),2,())).bind fun y => some (v2,(y.2.1.1,(y.2.1.2.1.1,y.2.1.2.1.2.1,()),y.2.1.2.2.1,()),())
def Zy9 (k:Nat):Zy8:=Zn (fun L1 => Zgq k L1) k
noncomputable def ZHm (k:Nat) (n:Nat) (v:ZFn) :=
 Zs (ZPg k) ZUI [0,1] [1,1,1,1,0,1,0] [] (Wg Tryz.f121) (Wn (ZPg k) Tryz.f121 ZsY Zj [AV.bx (nat_lit 0) (nat_lit 0)] [[1]]) n (ZW8 v)
def Zl3 (k:Nat) (L1:Zy8):(List Int × (List Int × Int × Unit) × Int × Unit) × Unit → Option (Int × (List Int × (List Int × Int × Unit) × Int × Unit) × Unit)
 | ((a0,(a1,a2,()),a3,()),()) => bif a3 != 0 then some (0,(a0,(a1,a2,()),a3,()),()) else (Kz k ((a1,a2,()),())).bind fun y => bif decide (0 ≤ IntKind.i64.wrap (Int.tdiv y.1 (8:Int)) ∧ IntKind.i64.wrap (Int.tdiv y.1 (8:Int)) ≤ Int.ofNat a0.length ∧ Int.ofNat a0.length ≤ Int.ofNat a0.length) then (Zq9 k (List.drop (IntKind.i64.wrap (Int.tdiv y.1 (8:Int))).toNat (List.take (Int.ofNat a0.length).toNat a0),())).bind fun y_1 => L1 (y_1.1.2.1,(0:Int),y_1.1.1,a0,y_1.1.2.2.1,y.2.1.1,y.2.1.2.1) else none
def Zl2 (k:Nat):=Zl3 k (Zy9 k)
theorem ZPh (k:Nat):∀ n,ZHm k n = Zn (fun L1 => Zgq k L1) n :=
 Zh (fun v => by kernel_rfl) (fun n v => by
  obtain ⟨v0,v1,v2,v3,v4,v5,v6⟩:=v
  kernel_rfl)
theorem ZW9 (k:Nat) (x:Kd.dens ZsY):ZC (ZPg k) ZUI Tryz.f121 ZsY Zj x = Zl2 k x:=by
 show _ = Zl3 k (Zy9 k) x
 rw [show Zy9 k = ZHm k k from (ZPh k k).symm]
 obtain ⟨⟨a0,⟨⟨a1,⟨a2,⟨⟩⟩⟩,⟨a3,⟨⟩⟩⟩⟩,⟨⟩⟩:=x
 kernel_rfl
theorem ZTu (k:Nat):Ctr Tryz.prog k 121 (mk ZsY Zj Zl2) :=
 ZD (fn:=Tryz.f121) (Zg (Za (ZlK k) (Za (Zqa k) (Za (Zqb k) (Za (ZMg k) Zd))))) (by kernel_rfl) (by kernel_rfl) (ZW9 k)
noncomputable abbrev ZYv:Nat × Callee:=(121,mk ZsY Zj Zl2)
abbrev Zyy:List Kd:=[.box [.view (.sl (.int .u8)),.ref [.view (.sl (.int .u8)),.view (.int .i64)],.view (.int .i64)],.view Zoc]
noncomputable def ZYc (k:Nat):=Wi k [ZYh,ZHk,ZHl,ZYu,ZYv]
def ZBv (k:Nat):(List Int × (List Int × Int × Unit) × Int × Unit) × (Int × Int × Int × Unit) × Unit → Option ((Int × Int × Int × Unit) × (List Int × (List Int × Int × Unit) × Int × Unit) × Unit)
 | ((a0,(a1,a2,()),a3,()),(a4,a5,a6,()),()) => (WH k ((a0,(a1,a2,()),a3,()),15,())).bind fun y => (Wf k ((y.2.1.1,(y.2.1.2.1.1,y.2.1.2.1.2.1,()),y.2.1.2.2.1,()),y.1 == 32764,11,())).bind fun y => (WH k ((y.2.1.1,(y.2.1.2.1.1,y.2.1.2.1.2.1,()),y.2.1.2.2.1,()),1,())).bind fun y => (Wf k ((y.2.1.1,(y.2.1.2.1.1,y.2.1.2.1.2.1,()),y.2.1.2.2.1,()),y.1 == 0,2,())).bind fun y => (WH k ((y.2.1.1,(y.2.1.2.1.1,y.2.1.2.1.2.1,()),y.2.1.2.2.1,()),4,())).bind fun y => bif y.1 == 6 then (Wf k ((y.2.1.1,(y.2.1.2.1.1,y.2.1.2.1.2.1,()),y.2.1.2.2.1,()),true,2,())).bind fun y_1 => (WH k ((y_1.2.1.1,(y_1.2.1.2.1.1,y_1.2.1.2.1.2.1,()),y_1.2.1.2.2.1,()),4,())).bind fun y_2 => (Wf k ((y_2.2.1.1,(y_2.2.1.2.1.1,y_2.2.1.2.1.2.1,()),y_2.2.1.2.2.1,()),y_2.1 == 0,2,())).bind fun y_3 => (WH k ((y_3.2.1.1,(y_3.2.1.2.1.1,y_3.2.1.2.1.2.1,()),y_3.2.1.2.2.1,()),4,())).bind fun y_4 => (ZsX k ((a4,a5,a6,()),y_4.1,())).bind fun y_5 => (Wf k ((y_4.2.1.1,(y_4.2.1.2.1.1,y_4.2.1.2.1.2.1,()),y_4.2.1.2.2.1,()),y_5.1,2,())).bind fun y_6 => (WH k ((y_6.2.1.1,(y_6.2.1.2.1.1,y_6.2.1.2.1.2.1,()),y_6.2.1.2.2.1,()),4,())).bind fun y_7 => (Wf k ((y_7.2.1.1,(y_7.2.1.2.1.1,y_7.2.1.2.1.2.1,()),y_7.2.1.2.2.1,()),y_7.1 == 0,2,())).bind fun y_8 => (Zl2 k ((y_8.2.1.1,(y_8.2.1.2.1.1,y_8.2.1.2.1.2.1,()),y_8.2.1.2.2.1,()),())).bind fun y_9 => bif y_9.2.1.2.2.1 == 0 then (WH k ((y_9.2.1.1,(y_9.2.1.2.1.1,y_9.2.1.2.1.2.1,()),y_9.2.1.2.2.1,()),IntKind.i64.wrap ((8:Int) * IntKind.i64.wrap (IntKind.i64.wrap (y.1 - 6) + (1:Int))),())).bind fun y => (Wf k ((y.2.1.1,(y.2.1.2.1.1,y.2.1.2.1.2.1,()),y.2.1.2.2.1,()),decide (IntKind.i64.wrap (y.1 + 1) ≤ (512:Int)),1,())).bind fun y_10 => (ZiD k ((y_10.2.1.1,(y_10.2.1.2.1.1,y_10.2.1.2.1.2.1,()),y_10.2.1.2.2.1,()),8,(),())).bind fun y_11 => some ((y_4.1,y_9.1,IntKind.i64.wrap (y.1 + 1),()),(y_11.2.1.1,(y_11.2.1.2.1.1,y_11.2.1.2.1.2.1,()),y_11.2.1.2.2.1,()),()) else (Wf k ((y_9.2.1.1,(y_9.2.1.2.1.1,y_9.2.1.2.1.2.1,()),y_9.2.1.2.2.1,()),decide ((0:Int) ≤ 512),1,())).bind fun y => (ZiD k ((y.2.1.1,(y.2.1.2.1.1,y.2.1.2.1.2.1,()),y.2.1.2.2.1,()),8,(),())).bind fun y => some ((y_4.1,y_9.1,0,()),(y.2.1.1,(y.2.1.2.1.1,y.2.1.2.1.2.1,()),y.2.1.2.2.1,()),()) else (Wf k ((y.2.1.1,(y.2.1.2.1.1,y.2.1.2.1.2.1,()),y.2.1.2.2.1,()),y.1 == 7,2,())).bind fun y_1 => (WH k ((y_1.2.1.1,(y_1.2.1.2.1.1,y_1.2.1.2.1.2.1,()),y_1.2.1.2.2.1,()),4,())).bind fun y_2 => (Wf k ((y_2.2.1.1,(y_2.2.1.2.1.1,y_2.2.1.2.1.2.1,()),y_2.2.1.2.2.1,()),y_2.1 == 0,2,())).bind fun y_3 => (WH k ((y_3.2.1.1,(y_3.2.1.2.1.1,y_3.2.1.2.1.2.1,()),y_3.2.1.2.2.1,()),4,())).bind fun y_4 => (ZsX k ((a4,a5,a6,()),y_4.1,())).bind fun y_5 => (Wf k ((y_4.2.1.1,(y_4.2.1.2.1.1,y_4.2.1.2.1.2.1,()),y_4.2.1.2.2.1,()),y_5.1,2,())).bind fun y_6 => (WH k ((y_6.2.1.1,(y_6.2.1.2.1.1,y_6.2.1.2.1.2.1,()),y_6.2.1.2.2.1,()),4,())).bind fun y_7 => (Wf k ((y_7.2.1.1,(y_7.2.1.2.1.1,y_7.2.1.2.1.2.1,()),y_7.2.1.2.2.1,()),y_7.1 == 0,2,())).bind fun y_8 => (Zl2 k ((y_8.2.1.1,(y_8.2.1.2.1.1,y_8.2.1.2.1.2.1,()),y_8.2.1.2.2.1,()),())).bind fun y_9 => bif y_9.2.1.2.2.1 == 0 then (WH k ((y_9.2.1.1,(y_9.2.1.2.1.1,y_9.2.1.2.1.2.1,()),y_9.2.1.2.2.1,()),IntKind.i64.wrap ((8:Int) * IntKind.i64.wrap (IntKind.i64.wrap (y.1 - 6) + (1:Int))),())).bind fun y => (Wf k ((y.2.1.1,(y.2.1.2.1.1,y.2.1.2.1.2.1,()),y.2.1.2.2.1,()),decide (IntKind.i64.wrap (y.1 + 1) ≤ (512:Int)),1,())).bind fun y_10 => (ZiD k ((y_10.2.1.1,(y_10.2.1.2.1.1,y_10.2.1.2.1.2.1,()),y_10.2.1.2.2.1,()),8,(),())).bind fun y_11 => some ((y_4.1,y_9.1,IntKind.i64.wrap (y.1 + 1),()),(y_11.2.1.1,(y_11.2.1.2.1.1,y_11.2.1.2.1.2.1,()),y_11.2.1.2.2.1,()),()) else (Wf k ((y_9.2.1.1,(y_9.2.1.2.1.1,y_9.2.1.2.1.2.1,()),y_9.2.1.2.2.1,()),decide ((0:Int) ≤ 512),1,())).bind fun y => (ZiD k ((y.2.1.1,(y.2.1.2.1.1,y.2.1.2.1.2.1,()),y.2.1.2.2.1,()),8,(),())).bind fun y => some ((y_4.1,y_9.1,0,()),(y.2.1.1,(y.2.1.2.1.1,y.2.1.2.1.2.1,()),y.2.1.2.2.1,()),())
def Zv4 (k:Nat):=ZBv k
theorem ZWu (k:Nat) (x:Kd.dens Zyy):ZC (ZYc k) nA Tryz.f56 Zyy Zei x = Zv4 k x:=by
 show _ = ZBv k x
 obtain ⟨⟨a0,⟨⟨a1,⟨a2,⟨⟩⟩⟩,⟨a3,⟨⟩⟩⟩⟩,⟨⟨a4,⟨a5,⟨a6,⟨⟩⟩⟩⟩,⟨⟩⟩⟩:=x
 kernel_rfl
theorem ZTe (k:Nat):Ctr Tryz.prog k 56 (mk Zyy Zei Zv4) :=
 ZD (fn:=Tryz.f56) (Zg (Za (ZTh k) (Za (Zqa k) (Za (Zqb k) (Za (ZTt k) (Za (ZTu k) Zd)))))) (by kernel_rfl) (by kernel_rfl) (ZWu k)
noncomputable abbrev ZYd:Nat × Callee:=(56,mk Zyy Zei Zv4)
abbrev Zpw:List Kd:=[.box [.ref [.view (.sl (.int .u8)),.view (.int .i64)],.view (.int .i64)],.view .bool]
def Zht (k:Nat):((List Int × Int × Unit) × Int × Unit) × Bool × Unit → Option (Unit × ((List Int × Int × Unit) × Int × Unit) × Unit)
 | (((a0,a1,()),a2,()),a3,()) => bif a2 == 0 then bif !a3 then some ((),((a0,a1,()),2,()),()) else some ((),((a0,a1,()),a2,()),()) else some ((),((a0,a1,()),a2,()),())
def Xi (k:Nat):=Zht k
theorem ZRs (k:Nat) (x:Kd.dens Zpw):ZC (Z8 k) nA Tryz.f165 Zpw QG x = Xi k x:=by
 show _ = Zht k x
 obtain ⟨⟨⟨a0,⟨a1,⟨⟩⟩⟩,⟨a2,⟨⟩⟩⟩,⟨a3,⟨⟩⟩⟩:=x
 kernel_rfl
theorem ZAE (k:Nat):Ctr Tryz.prog k 165 (mk Zpw QG Xi) :=
 ZD (fn:=Tryz.f165) (Zg Zd) (by kernel_rfl) (by kernel_rfl) (ZRs k)
noncomputable abbrev ZMh:Nat × Callee:=(165,mk Zpw QG Xi)
abbrev Zcl:List Kd:=[.box [.ref [.view (.sl (.int .u8)),.view (.int .i64)],.view (.int .i64)],.view (.int .i64)]
def Zhu (k:Nat):((List Int × Int × Unit) × Int × Unit) × Int × Unit → Option (Int × ((List Int × Int × Unit) × Int × Unit) × Unit)
 | (((a0,a1,()),a2,()),a3,()) => bif a2 == 0 then (Yj k ((a0,a1,()),a3,())).bind fun y => some (y.1.1,((y.2.1.1,y.2.1.2.1,()),y.1.2.1,()),()) else some (0,((a0,a1,()),a2,()),())
def Kc (k:Nat):=Zhu k
theorem ZRt (k:Nat) (x:Kd.dens Zcl):ZC (ZPe k) nA Tryz.f166 Zcl Zj x = Kc k x:=by
 show _ = Zhu k x
 obtain ⟨⟨⟨a0,⟨a1,⟨⟩⟩⟩,⟨a2,⟨⟩⟩⟩,⟨a3,⟨⟩⟩⟩:=x
 kernel_rfl
theorem ZAF (k:Nat):Ctr Tryz.prog k 166 (mk Zcl Zj Kc) :=
 ZD (fn:=Tryz.f166) (Zg (Za (Zbl k) Zd)) (by kernel_rfl) (by kernel_rfl) (ZRt k)
noncomputable abbrev ZMi:Nat × Callee:=(166,mk Zcl Zj Kc)
def Zhv (k:Nat):Int × Unit → Option (Bool × Unit)
 | (a0,()) => bif a0 == 0 then some (true,()) else bif a0 == 1 then some (true,()) else bif decide (8 ≤ a0) then bif decide (a0 ≤ 12) then some (true,()) else bif decide ((31:Int) < a0) then some (decide (a0 ≤ 39),()) else some (false,()) else bif decide ((31:Int) < a0) then some (decide (a0 ≤ 39),()) else some (false,())
def Zra (k:Nat):=Zhv k
theorem ZRu (k:Nat) (x:Kd.dens ZB):ZC (Z8 k) nA Tryz.f167 ZB ZF x = Zra k x:=by
 show _ = Zhv k x
 obtain ⟨a0,⟨⟩⟩:=x
 kernel_rfl
theorem ZMj (k:Nat):Ctr Tryz.prog k 167 (mk ZB ZF Zra) :=
 ZD (fn:=Tryz.f167) (Zg Zd) (by kernel_rfl) (by kernel_rfl) (ZRu k)
noncomputable abbrev ZVp:Nat × Callee:=(167,mk ZB ZF Zra)
noncomputable def Zne (k:Nat):=Wi k [ZUM]
def ZMk:Nat → Ann:=fun id => bif Nat.beq id 4 then ⟨[4,0],[]⟩ else ⟨[],[]⟩
abbrev ZxP:=Int × List Int × Int
abbrev Zpx:=ZxP → Option ((Int × Int × Unit) × (List Int × Int × Unit) × Unit)
def ZRv:ZxP → St
 | (v0,v1,v2) => St.mk (Zw [(4,Zk v0),(0,AV.bx 0 0)]) (Zu [(0,QZ [AV.val (PV.sl (Ty.int IntKind.u8) v1),Zk v2])])
def Zda (k:Nat) (L1:Zpx):Zpx
 | (v0,v1,v2) => bif decide (v0 < IntKind.i64.wrap ((8:Int) * Int.ofNat v1.length)) then (ZsZ k ((v1,v2,()),v0,())).bind fun y => bif y.1 == 1 then some ((IntKind.i64.wrap (v0 - y.2.1.2.1),0,()),(y.2.1.1,IntKind.i64.wrap (v0 + 1),()),()) else L1 (IntKind.i64.wrap (v0 + 1),y.2.1.1,y.2.1.2.1) else some ((0,10,()),(v1,v2,()),())
def Zpy (k:Nat):Zpx:=Zn (fun L1 => Zda k L1) k
noncomputable def ZAG (k:Nat) (n:Nat) (v:ZxP) :=
 Zs (Zne k) ZMk [0] [1,1,0,1,0] [] (Wg Tryz.f168) (Wn (Zne k) Tryz.f168 Xk Z9 [AV.bx (nat_lit 0) (nat_lit 0)] [[]]) n (ZRv v)
def Zhw (k:Nat) (L1:Zpx):(List Int × Int × Unit) × Unit → Option ((Int × Int × Unit) × (List Int × Int × Unit) × Unit)
 | ((a0,a1,()),()) => L1 (a1,a0,a1)
def Zjh (k:Nat):=Zhw k (Zpy k)
theorem ZIW (k:Nat):∀ n,ZAG k n = Zn (fun L1 => Zda k L1) n :=
 Zh (fun v => by kernel_rfl) (fun n v => by
  obtain ⟨v0,v1,v2⟩:=v
  kernel_rfl)
theorem ZRw (k:Nat) (x:Kd.dens Xk):ZC (Zne k) ZMk Tryz.f168 Xk Z9 x = Zjh k x:=by
 show _ = Zhw k (Zpy k) x
 rw [show Zpy k = ZAG k k from (ZIW k k).symm]
 obtain ⟨⟨a0,⟨a1,⟨⟩⟩⟩,⟨⟩⟩:=x
 kernel_rfl
theorem ZAH (k:Nat):Ctr Tryz.prog k 168 (mk Xk Z9 Zjh) :=
 ZD (fn:=Tryz.f168) (Zg (Za (Zzb k) Zd)) (by kernel_rfl) (by kernel_rfl) (ZRw k)
noncomputable abbrev ZMl:Nat × Callee:=(168,mk Xk Z9 Zjh)
noncomputable def ZYw (k:Nat):=Wi k [ZMh,ZMi,ZVp,ZMl]
def Zl5 (k:Nat):((List Int × Int × Unit) × Int × Unit) × Int × Unit → Option ((Int × Int × Unit) × ((List Int × Int × Unit) × Int × Unit) × Unit)
 | (((a0,a1,()),a2,()),a3,()) => (Kc k (((a0,a1,()),a2,()),1,())).bind fun y => (Xi k (((y.2.1.1.1,y.2.1.1.2.1,()),y.2.1.2.1,()),y.1 == 0,())).bind fun y => (Kc k (((y.2.1.1.1,y.2.1.1.2.1,()),y.2.1.2.1,()),6,())).bind fun y => (Zra k (y.1,())).bind fun y_1 => (Xi k (((y.2.1.1.1,y.2.1.1.2.1,()),y.2.1.2.1,()),y_1.1,())).bind fun y_2 => (Kc k (((y_2.2.1.1.1,y_2.2.1.1.2.1,()),y_2.2.1.2.1,()),1,())).bind fun y_3 => bif y_3.1 == 1 then bif y_3.2.1.2.1 == 0 then (Zjh k ((y_3.2.1.1.1,y_3.2.1.1.2.1,()),())).bind fun y_4 => (Xi k (((y_4.2.1.1,y_4.2.1.2.1,()),y_4.1.2.1,()),decide (IntKind.i64.wrap (y_4.1.1 + 1) < a3),())).bind fun y_5 => some ((y.1,IntKind.i64.wrap (y_4.1.1 + 1),()),((y_5.2.1.1.1,y_5.2.1.1.2.1,()),y_5.2.1.2.1,()),()) else (Xi k (((y_3.2.1.1.1,y_3.2.1.1.2.1,()),y_3.2.1.2.1,()),decide ((0:Int) < a3),())).bind fun y_4 => some ((y.1,0,()),((y_4.2.1.1.1,y_4.2.1.1.2.1,()),y_4.2.1.2.1,()),()) else (Xi k (((y_3.2.1.1.1,y_3.2.1.1.2.1,()),y_3.2.1.2.1,()),decide ((0:Int) < a3),())).bind fun y_4 => some ((y.1,0,()),((y_4.2.1.1.1,y_4.2.1.1.2.1,()),y_4.2.1.2.1,()),())
def ZBN (k:Nat):=Zl5 k
theorem ZXb (k:Nat) (x:Kd.dens Zcl):ZC (ZYw k) nA Tryz.f123 Zcl Z9 x = ZBN k x:=by
 show _ = Zl5 k x
 obtain ⟨⟨⟨a0,⟨a1,⟨⟩⟩⟩,⟨a2,⟨⟩⟩⟩,⟨a3,⟨⟩⟩⟩:=x
 kernel_rfl
theorem ZTv (k:Nat):Ctr Tryz.prog k 123 (mk Zcl Z9 ZBN) :=
 ZD (fn:=Tryz.f123) (Zg (Za (ZAE k) (Za (ZAF k) (Za (ZMj k) (Za (ZAH k) Zd))))) (by kernel_rfl) (by kernel_rfl) (ZXb k)
noncomputable abbrev ZYx:Nat × Callee:=(123,mk Zcl Z9 ZBN)
abbrev ZpW:List Kd:=[.view (.int .u32),.view (.int .u32)]
abbrev Zx7:Kd:=.tup [.view (.int .u32),.view (.int .u32)]
def Zvv (k:Nat):Int × Int × Unit → Option ((Int × Int × Unit) × Unit)
 | (a0,a1,()) => some ((IntKind.u32.wrap ((IntKind.u64.wrap (IntKind.u64.wrap a0 * IntKind.u64.wrap a1)).fdiv (4294967296:Int)),IntKind.u32.wrap (IntKind.u64.wrap (IntKind.u64.wrap a0 * IntKind.u64.wrap a1)),()),())
def ZD9 (k:Nat):=Zvv k
theorem ZSf (k:Nat) (x:Kd.dens ZpW):ZC (Z8 k) nA Tryz.f252 ZpW Zx7 x = ZD9 k x:=by
 show _ = Zvv k x
 obtain ⟨a0,⟨a1,⟨⟩⟩⟩:=x
 kernel_rfl
theorem ZM7 (k:Nat):Ctr Tryz.prog k 252 (mk ZpW Zx7 ZD9) :=
 ZD (fn:=Tryz.f252) (Zg Zd) (by kernel_rfl) (by kernel_rfl) (ZSf k)
noncomputable abbrev ZVZ:Nat × Callee:=(252,mk ZpW Zx7 ZD9)
abbrev Zco:List Kd:=[.view (.int .u64),.view (.int .u64)]
abbrev ZhZ:Kd:=.tup [.view (.int .u64),.view (.int .u64)]
def ZhY (k:Nat):Int × Int × Unit → Option ((Int × Int × Unit) × Unit)
 | (a0,a1,()) => some ((IntKind.u64.wrap (IntKind.u64.wrap (IntKind.u64.wrap (a0.fdiv (4294967296:Int) * a1.fdiv (4294967296:Int)) + (IntKind.u64.wrap (IntKind.u64.wrap (a0.fdiv (4294967296:Int) * IntKind.u64.wrap (Int.ofNat (BitVec.ofInt 64 a1 &&& BitVec.ofInt 64 (4294967295:Int)).toNat)) + (IntKind.u64.wrap (IntKind.u64.wrap (Int.ofNat (BitVec.ofInt 64 a0 &&& BitVec.ofInt 64 (4294967295:Int)).toNat) * IntKind.u64.wrap (Int.ofNat (BitVec.ofInt 64 a1 &&& BitVec.ofInt 64 (4294967295:Int)).toNat))).fdiv (4294967296:Int))).fdiv (4294967296:Int)) + (IntKind.u64.wrap (IntKind.u64.wrap (Int.ofNat (BitVec.ofInt 64 (IntKind.u64.wrap (IntKind.u64.wrap (a0.fdiv (4294967296:Int) * IntKind.u64.wrap (Int.ofNat (BitVec.ofInt 64 a1 &&& BitVec.ofInt 64 (4294967295:Int)).toNat)) + (IntKind.u64.wrap (IntKind.u64.wrap (Int.ofNat (BitVec.ofInt 64 a0 &&& BitVec.ofInt 64 (4294967295:Int)).toNat) * IntKind.u64.wrap (Int.ofNat (BitVec.ofInt 64 a1 &&& BitVec.ofInt 64 (4294967295:Int)).toNat))).fdiv (4294967296:Int))) &&& BitVec.ofInt 64 (4294967295:Int)).toNat) + IntKind.u64.wrap (IntKind.u64.wrap (Int.ofNat (BitVec.ofInt 64 a0 &&& BitVec.ofInt 64 (4294967295:Int)).toNat) * a1.fdiv (4294967296:Int)))).fdiv (4294967296:Int)),IntKind.u64.wrap (a0 * a1),()),())
def Zx8 (k:Nat):=ZhY k
theorem ZSg (k:Nat) (x:Kd.dens Zco):ZC (Z8 k) nA Tryz.f253 Zco ZhZ x = Zx8 k x:=by
 show _ = ZhY k x
 obtain ⟨a0,⟨a1,⟨⟩⟩⟩:=x
 kernel_rfl
theorem ZM8 (k:Nat):Ctr Tryz.prog k 253 (mk Zco ZhZ Zx8) :=
 ZD (fn:=Tryz.f253) (Zg Zd) (by kernel_rfl) (by kernel_rfl) (ZSg k)
noncomputable abbrev ZV0:Nat × Callee:=(253,mk Zco ZhZ Zx8)
noncomputable def ZVM (k:Nat):=Wi k [ZVZ,ZV0]
def Zvn (k:Nat):Int × Int × Unit → Option ((Int × Int × Unit) × Unit)
 | (a0,a1,()) => (Zx8 k (a0,a1,())).bind fun y => some ((y.1.1,y.1.2.1,()),())
def Zrw (k:Nat):=Zvn k
theorem ZR1 (k:Nat) (x:Kd.dens Zco):ZC (ZVM k) nA Tryz.f214 Zco ZhZ x = Zrw k x:=by
 show _ = Zvn k x
 obtain ⟨a0,⟨a1,⟨⟩⟩⟩:=x
 kernel_rfl
theorem ZMV (k:Nat):Ctr Tryz.prog k 214 (mk Zco ZhZ Zrw) :=
 ZD (fn:=Tryz.f214) (Zg (Za (ZM7 k) (Za (ZM8 k) Zd))) (by kernel_rfl) (by kernel_rfl) (ZR1 k)
noncomputable abbrev ZVN:Nat × Callee:=(214,mk Zco ZhZ Zrw)
noncomputable def ZDP (k:Nat):=Wi k [ZVN] (fun r => bif Nat.beq r 999999 then [1] else [])
def ZMm:Nat → Ann:=fun id => bif Nat.beq id 8 then ⟨[8,7],[]⟩ else ⟨[],[]⟩
abbrev ZxQ:=Int × List Int
abbrev Zpz:=ZxQ → Option (List Int × Unit)
def ZRx:ZxQ → St
 | (v0,v1) => St.mk (Zw [(8,Zk v0),(7,AV.own 8192)]) (Zu [(8192,rsA v1 false)])
def Zhy (k:Nat) (L1:Zpz):Zpz
 | (v0,v1) => bif decide (v0 < Int.ofNat v1.length) then bif decide (0 ≤ v0 ∧ v0 ≤ Int.ofNat v1.length ∧ Int.ofNat v1.length ≤ Int.ofNat v1.length) then bif decide ((0:Int) ≤ 0 ∧ (0:Int) ≤ v0 ∧ v0 ≤ Int.ofNat v1.length) then bif decide (v0.toNat ≤ (Int.ofNat v1.length).toNat ∧ (Int.ofNat v1.length).toNat ≤ v1.length) then bif decide ((0:Nat) ≤ v0.toNat ∧ v0.toNat ≤ v1.length) then L1 (IntKind.i64.wrap (v0 + Int.ofNat (min (List.drop 0 (List.take v0.toNat v1)).length ((Int.ofNat v1.length).toNat - v0.toNat))),List.take v0.toNat v1 ++ List.take ((Int.ofNat v1.length).toNat - v0.toNat) (List.drop 0 (List.take v0.toNat v1)) ++ List.drop (v0.toNat + min (List.drop 0 (List.take v0.toNat v1)).length ((Int.ofNat v1.length).toNat - v0.toNat)) v1) else none else none else none else none else some (v1,())
def ZpA (k:Nat):Zpz:=Zn (fun L1 => Zhy k L1) k
noncomputable def ZAI (k:Nat) (n:Nat) (v:ZxQ) :=
 Zs (ZDP k) ZMm [] [1,1,1,1,1,1,0,0] [] (Wg Tryz.f169) (Wn (ZDP k) Tryz.f169 Z6 Ki [] []) n (ZRx v)
def Zhx (k:Nat) (L1:Zpz):List Int × Int × Unit → Option (List Int × Unit)
 | (a0,a1,()) => bif decide (a1 < 0) then none else (Zrw k (IntKind.u64.wrap (Int.ofNat a0.length),IntKind.u64.wrap a1,())).bind fun y => bif decide ((0:Int) < y.1.1) then none else bif decide ((9223372036854775807:Int) < y.1.2.1) then none else bif decide (0 ≤ IntKind.i64.wrap y.1.2.1 ∧ IntKind.i64.wrap y.1.2.1 ≤ IntKind.i64.wrap y.1.2.1 ∧ IntKind.i64.wrap y.1.2.1 < 4294967296) then L1 (Int.ofNat (min a0.length ((List.replicate (IntKind.i64.wrap y.1.2.1).toNat (0:Int)).length - (0:Nat))),List.take 0 (List.replicate (IntKind.i64.wrap y.1.2.1).toNat (0:Int)) ++ List.take ((List.replicate (IntKind.i64.wrap y.1.2.1).toNat (0:Int)).length - (0:Nat)) a0 ++ List.drop ((0:Nat) + min a0.length ((List.replicate (IntKind.i64.wrap y.1.2.1).toNat (0:Int)).length - (0:Nat))) (List.replicate (IntKind.i64.wrap y.1.2.1).toNat (0:Int))) else none
def Zrb (k:Nat):=Zhx k (ZpA k)
theorem ZIY (k:Nat):∀ n,ZAI k n = Zn (fun L1 => Zhy k L1) n :=
 Zh (fun v => by kernel_rfl) (fun n v => by
  obtain ⟨v0,v1⟩:=v
  kernel_rfl)
theorem ZRy (k:Nat) (x:Kd.dens Z6):ZC (ZDP k) ZMm Tryz.f169 Z6 Ki x = Zrb k x:=by
 show _ = Zhx k (ZpA k) x
 rw [show ZpA k = ZAI k k from (ZIY k k).symm]
 obtain ⟨a0,⟨a1,⟨⟩⟩⟩:=x
 kernel_rfl
theorem ZMn (k:Nat):Ctr Tryz.prog k 169 (mk Z6 Ki Zrb) :=
 ZD (fn:=Tryz.f169) (Zg (Za (ZMV k) Zd)) (by kernel_rfl) (by kernel_rfl) (ZRy k)
noncomputable abbrev ZVq:Nat × Callee:=(169,mk Z6 Ki Zrb)
def ZhT (k:Nat):(List Int × Int × Unit) × Int × Unit → Option ((Int × Int × Unit) × (List Int × Int × Unit) × Unit)
 | ((a0,a1,()),a2,()) => (Yj k ((a0,a1,()),a2,())).bind fun y => bif y.1.2.1 == 0 then bif decide ((0:Int) < a2) then bif decide (0 ≤ IntKind.i64.wrap (a2 - 1)) then bif Int.fdiv y.1.1 ((2:Int) ^ min (IntKind.i64.wrap (a2 - 1)).toNat 64) == (1:Int) then bif decide (0 ≤ a2) then some ((IntKind.i64.wrap (y.1.1 - IntKind.i64.wrap ((1:Int) * (2:Int) ^ min a2.toNat 64)),y.1.2.1,()),(y.2.1.1,y.2.1.2.1,()),()) else none else some ((y.1.1,y.1.2.1,()),(y.2.1.1,y.2.1.2.1,()),()) else none else some ((y.1.1,y.1.2.1,()),(y.2.1.1,y.2.1.2.1,()),()) else some ((y.1.1,y.1.2.1,()),(y.2.1.1,y.2.1.2.1,()),())
def Znu (k:Nat):=ZhT k
theorem ZR2 (k:Nat) (x:Kd.dens XA):ZC (ZPe k) nA Tryz.f215 XA Z9 x = Znu k x:=by
 show _ = ZhT k x
 obtain ⟨⟨a0,⟨a1,⟨⟩⟩⟩,⟨a2,⟨⟩⟩⟩:=x
 kernel_rfl
theorem ZA6 (k:Nat):Ctr Tryz.prog k 215 (mk XA Z9 Znu) :=
 ZD (fn:=Tryz.f215) (Zg (Za (Zbl k) Zd)) (by kernel_rfl) (by kernel_rfl) (ZR2 k)
noncomputable abbrev ZVO:Nat × Callee:=(215,mk XA Z9 Znu)
abbrev Zkl:List Kd:=[.box [.ref [.view (.sl (.int .u8)),.view (.int .i64)],.view (.int .i64)],.view (.int .i64),.view (.int .i64)]
noncomputable def ZxR (k:Nat):=Wi k [ZVO]
def ZMo:Nat → Ann:=fun id => bif Nat.beq id 3 then ⟨[9,10,0,2,7],[.slot 7 ((Ty.int IntKind.i64))]⟩ else ⟨[],[]⟩
abbrev ZxS:=Int × Int × Int × Int × List Int × Int × List Int
abbrev ZpB:=ZxS → Option (List Int × ((List Int × Int × Unit) × Int × Unit) × Unit)
def ZRz:ZxS → St
 | (v0,v1,v2,v3,v4,v5,v6) => St.mk (Zw [(9,Zk v0),(10,Zk v1),(0,AV.bx 0 0),(2,Zk v2),(7,AV.own 8192)]) (Zu [(0,QZ [AV.bx 1 0,Zk v3]),(1,QZ [AV.val (PV.sl (Ty.int IntKind.u8) v4),Zk v5]),(8192,rsA v6 false)])
def Zdb (k:Nat) (L1:ZpB):ZpB
 | (v0,v1,v2,v3,v4,v5,v6) => bif decide (v1 < v0) then bif v3 == 0 then (Znu k ((v4,v5,()),v2,())).bind fun y => bif decide (v6.length + [y.1.1].length < 2147483648) then L1 (v0,IntKind.i64.wrap (v1 + 1),v2,y.1.2.1,y.2.1.1,y.2.1.2.1,v6 ++ [y.1.1]) else none else bif decide (v6.length + (1:Nat) < (2147483648:Nat)) then L1 (v0,IntKind.i64.wrap (v1 + 1),v2,v3,v4,v5,v6 ++ [(0:Int)]) else none else some (v6,((v4,v5,()),v3,()),())
def ZpC (k:Nat):ZpB:=Zn (fun L1 => Zdb k L1) k
noncomputable def ZAJ (k:Nat) (n:Nat) (v:ZxS) :=
 Zs (ZxR k) ZMo [0,1] [1,1,0,1,0] [] (Wg Tryz.f170) (Wn (ZxR k) Tryz.f170 Zkl Ki [AV.bx (nat_lit 0) (nat_lit 0)] [[1]]) n (ZRz v)
def Zhz (k:Nat) (L1:ZpB):((List Int × Int × Unit) × Int × Unit) × Int × Int × Unit → Option (List Int × ((List Int × Int × Unit) × Int × Unit) × Unit)
 | (((a0,a1,()),a2,()),a3,a4,()) => L1 (a3,(0:Int),a4,a2,a0,a1,[])
def Zbm (k:Nat):=Zhz k (ZpC k)
theorem ZI1 (k:Nat):∀ n,ZAJ k n = Zn (fun L1 => Zdb k L1) n :=
 Zh (fun v => by kernel_rfl) (fun n v => by
  obtain ⟨v0,v1,v2,v3,v4,v5,v6⟩:=v
  kernel_rfl)
theorem ZRA (k:Nat) (x:Kd.dens Zkl):ZC (ZxR k) ZMo Tryz.f170 Zkl Ki x = Zbm k x:=by
 show _ = Zhz k (ZpC k) x
 rw [show ZpC k = ZAJ k k from (ZI1 k k).symm]
 obtain ⟨⟨⟨a0,⟨a1,⟨⟩⟩⟩,⟨a2,⟨⟩⟩⟩,⟨a3,⟨a4,⟨⟩⟩⟩⟩:=x
 kernel_rfl
theorem ZMp (k:Nat):Ctr Tryz.prog k 170 (mk Zkl Ki Zbm) :=
 ZD (fn:=Tryz.f170) (Zg (Za (ZA6 k) Zd)) (by kernel_rfl) (by kernel_rfl) (ZRA k)
noncomputable abbrev ZVr:Nat × Callee:=(170,mk Zkl Ki Zbm)
def Zh4 (k:Nat):Int × Unit → Option ((Int × Int × Unit) × Unit)
 | (a0,()) => bif decide (a0 < 0) then some ((0,12,()),()) else bif decide ((2199023255552:Int) < a0) then some ((0,12,()),()) else some ((IntKind.i64.wrap (Int.ofNat (BitVec.ofInt 64 (a0.fdiv (2:Int)) ^^^ BitVec.ofInt 64 (IntKind.i64.wrap ((0:Int) - IntKind.i64.wrap (Int.ofNat (BitVec.ofInt 64 a0 &&& BitVec.ofInt 64 (1:Int)).toNat)))).toNat),0,()),())
def ZrG (k:Nat):=Zh4 k
theorem ZSn (k:Nat) (x:Kd.dens ZB):ZC (Z8 k) nA Tryz.f268 ZB Z9 x = ZrG k x:=by
 show _ = Zh4 k x
 obtain ⟨a0,⟨⟩⟩:=x
 kernel_rfl
theorem ZNi (k:Nat):Ctr Tryz.prog k 268 (mk ZB Z9 ZrG) :=
 ZD (fn:=Tryz.f268) (Zg Zd) (by kernel_rfl) (by kernel_rfl) (ZSn k)
noncomputable abbrev ZWa:Nat × Callee:=(268,mk ZB Z9 ZrG)
noncomputable def ZV5 (k:Nat):=Wi k [ZxO,ZMl,ZWa]
def Zh1 (k:Nat):(List Int × Int × Unit) × Int × Unit → Option ((Int × Int × Unit) × (List Int × Int × Unit) × Unit)
 | ((a0,a1,()),a2,()) => (Zjh k ((a0,a1,()),())).bind fun y => bif y.1.2.1 != 0 then some ((0,y.1.2.1,()),(y.2.1.1,y.2.1.2.1,()),()) else (Yj k ((y.2.1.1,y.2.1.2.1,()),a2,())).bind fun y_1 => bif y_1.1.2.1 != 0 then some ((0,y_1.1.2.1,()),(y_1.2.1.1,y_1.2.1.2.1,()),()) else bif decide (0 ≤ a2) then bif decide (4294967295 ≤ IntKind.i64.wrap (Int.ofNat (BitVec.ofInt 64 (IntKind.i64.wrap (y.1.1 * (2:Int) ^ min a2.toNat 64)) ||| BitVec.ofInt 64 y_1.1.1).toNat)) then some ((0,12,()),(y_1.2.1.1,y_1.2.1.2.1,()),()) else (ZrG k (IntKind.i64.wrap (Int.ofNat (BitVec.ofInt 64 (IntKind.i64.wrap (y.1.1 * (2:Int) ^ min a2.toNat 64)) ||| BitVec.ofInt 64 y_1.1.1).toNat),())).bind fun y => some ((y.1.1,y.1.2.1,()),(y_1.2.1.1,y_1.2.1.2.1,()),()) else none
def ZrC (k:Nat):=Zh1 k
theorem ZSj (k:Nat) (x:Kd.dens XA):ZC (ZV5 k) nA Tryz.f255 XA Z9 x = ZrC k x:=by
 show _ = Zh1 k x
 obtain ⟨⟨a0,⟨a1,⟨⟩⟩⟩,⟨a2,⟨⟩⟩⟩:=x
 kernel_rfl
theorem ZNd (k:Nat):Ctr Tryz.prog k 255 (mk XA Z9 ZrC) :=
 ZD (fn:=Tryz.f255) (Zg (Za (Zbl k) (Za (ZAH k) (Za (ZNi k) Zd)))) (by kernel_rfl) (by kernel_rfl) (ZSj k)
noncomputable abbrev ZV6:Nat × Callee:=(255,mk XA Z9 ZrC)
abbrev Zcp:List Kd:=[.box [.ref [.view (.sl (.int .u8)),.view (.int .i64)]],.box [.view (.int .i64)]]
noncomputable def ZV1 (k:Nat):=Wi k [ZV6]
def Zh0 (k:Nat):((List Int × Int × Unit) × Unit) × (Int × Unit) × Unit → Option ((Int × Int × Unit) × ((List Int × Int × Unit) × Unit) × (Int × Unit) × Unit)
 | (((a0,a1,()),()),(a2,()),()) => (ZrC k ((a0,a1,()),a2,())).bind fun y => some ((y.1.1,y.1.2.1,()),((y.2.1.1,y.2.1.2.1,()),()),(a2,()),())
def ZrA (k:Nat):=Zh0 k
theorem ZSh (k:Nat) (x:Kd.dens Zcp):ZC (ZV1 k) nA Tryz.f254 Zcp Z9 x = ZrA k x:=by
 show _ = Zh0 k x
 obtain ⟨⟨⟨a0,⟨a1,⟨⟩⟩⟩,⟨⟩⟩,⟨⟨a2,⟨⟩⟩,⟨⟩⟩⟩:=x
 kernel_rfl
theorem ZM9 (k:Nat):Ctr Tryz.prog k 254 (mk Zcp Z9 ZrA) :=
 ZD (fn:=Tryz.f254) (Zg (Za (ZNd k) Zd)) (by kernel_rfl) (by kernel_rfl) (ZSh k)
noncomputable abbrev ZV2:Nat × Callee:=(254,mk Zcp Z9 ZrA)
def Zh2 (k:Nat):((List Int × Int × Unit) × Unit) × (Int × Unit) × Unit → Option ((Int × Int × Unit) × ((List Int × Int × Unit) × Unit) × (Int × Unit) × Unit)
 | (((a0,a1,()),()),(a2,()),()) => (Znu k ((a0,a1,()),a2,())).bind fun y => some ((y.1.1,y.1.2.1,()),((y.2.1.1,y.2.1.2.1,()),()),(a2,()),())
def ZrD (k:Nat):=Zh2 k
theorem ZSk (k:Nat) (x:Kd.dens Zcp):ZC (ZxR k) nA Tryz.f256 Zcp Z9 x = ZrD k x:=by
 show _ = Zh2 k x
 obtain ⟨⟨⟨a0,⟨a1,⟨⟩⟩⟩,⟨⟩⟩,⟨⟨a2,⟨⟩⟩,⟨⟩⟩⟩:=x
 kernel_rfl
theorem ZNe (k:Nat):Ctr Tryz.prog k 256 (mk Zcp Z9 ZrD) :=
 ZD (fn:=Tryz.f256) (Zg (Za (ZA6 k) Zd)) (by kernel_rfl) (by kernel_rfl) (ZSk k)
noncomputable abbrev ZV7:Nat × Callee:=(256,mk Zcp Z9 ZrD)
abbrev W4:List Kd:=[.box [.view (.sl (.int .u8)),.view (.int .i64)],.view (.int .i64),.view (.int .i64)]
noncomputable def Zrx (k:Nat):=Wi k [(204,mk ZB Zj Zeg),(205,mk ZB Zj ZaI),ZxO,ZV2,ZV7]
noncomputable def ZD7:Nat → Ann:=fun id => bif Nat.beq id 12 then ⟨[40,41,10,13],[.slot 13 ((Ty.int IntKind.i64))]⟩ else ⟨[],[]⟩
abbrev Zcm:=Zgm → Option ((List Int × Int × Unit) × (List Int × Int × Unit) × Unit)
noncomputable def ZR3:Zgm → St
 | (v0,v1,v2,v3,v4,v5) => St.mk (Zw [(40,Zk v0),(41,Zk v1),(10,AV.clo 256 [AV.bx 8192 0,AV.bx 8193 0]),(13,AV.own 8194)]) (Zu [(0,QZ [AV.val (PV.sl (Ty.int IntKind.u8) v2),Zk v3]),(8192,QZ [AV.bx 0 0]),(8193,QZ [Zk v4]),(8194,rsA v5 false)])
noncomputable def Zdj (k:Nat) (L1:Zcm):Zcm
 | (v0,v1,v2,v3,v4,v5) => bif decide (v1 < v0) then (ZrD k (((v2,v3,()),()),(v4,()),())).bind fun y => bif y.1.2.1 != 0 then some (([],y.1.2.1,()),(y.2.1.1.1,y.2.1.1.2.1,()),()) else bif decide (v5.length + [y.1.1].length < 2147483648) then L1 (v0,IntKind.i64.wrap (v1 + 1),y.2.1.1.1,y.2.1.1.2.1,y.2.2.1.1,v5 ++ [y.1.1]) else none else some ((v5,0,()),(v2,v3,()),())
noncomputable def ZpS (k:Nat):Zcm:=Zn (fun L1 => Zdj k L1) k
noncomputable def ZA7 (k:Nat) (n:Nat) (v:Zgm) :=
 Zs (Zrx k) ZD7 [0] [1,1,1,1,1,1,0,1,0] [] (Wg Tryz.f218) (Wn (Zrx k) Tryz.f218 W4 Q6 [AV.bx (nat_lit 0) (nat_lit 0)] [[]]) n (ZR3 v)
noncomputable def ZR4:Zgm → St
 | (v0,v1,v2,v3,v4,v5) => St.mk (Zw [(40,Zk v0),(41,Zk v1),(10,AV.clo 254 [AV.bx 8192 0,AV.bx 8193 0]),(13,AV.own 8194)]) (Zu [(0,QZ [AV.val (PV.sl (Ty.int IntKind.u8) v2),Zk v3]),(8192,QZ [AV.bx 0 0]),(8193,QZ [Zk v4]),(8194,rsA v5 false)])
noncomputable def Zdk (k:Nat) (L2:Zcm):Zcm
 | (v0,v1,v2,v3,v4,v5) => bif decide (v1 < v0) then (ZrA k (((v2,v3,()),()),(v4,()),())).bind fun y => bif y.1.2.1 != 0 then some (([],y.1.2.1,()),(y.2.1.1.1,y.2.1.1.2.1,()),()) else bif decide (v5.length + [y.1.1].length < 2147483648) then L2 (v0,IntKind.i64.wrap (v1 + 1),y.2.1.1.1,y.2.1.1.2.1,y.2.2.1.1,v5 ++ [y.1.1]) else none else some ((v5,0,()),(v2,v3,()),())
noncomputable def Zkr (k:Nat):Zcm:=Zn (fun L2 => Zdk k L2) k
noncomputable def ZA8 (k:Nat) (n:Nat) (v:Zgm) :=
 Zs (Zrx k) ZD7 [0] [1,1,1,1,1,1,0,1,0] [] (Wg Tryz.f218) (Wn (Zrx k) Tryz.f218 W4 Q6 [AV.bx (nat_lit 0) (nat_lit 0)] [[]]) n (ZR4 v)
noncomputable def ZhU (k:Nat) (L1:Zcm) (L2:Zcm):(List Int × Int × Unit) × Int × Int × Unit → Option ((List Int × Int × Unit) × (List Int × Int × Unit) × Unit)
 | ((a0,a1,()),a2,a3,()) => (Zeg k (a2,())).bind fun y => (Yj k ((a0,a1,()),y.1,())).bind fun y => bif y.1.2.1 != 0 then some (([],y.1.2.1,()),(y.2.1.1,y.2.1.2.1,()),()) else (ZaI k (a2,())).bind fun y_1 => bif y.1.1 == y_1.1 then (Yj k ((y.2.1.1,y.2.1.2.1,()),5,())).bind fun y => bif y.1.2.1 != 0 then some (([],y.1.2.1,()),(y.2.1.1,y.2.1.2.1,()),()) else L1 (a3,(0:Int),y.2.1.1,y.2.1.2.1,y.1.1,[]) else L2 (a3,(0:Int),y.2.1.1,y.2.1.2.1,y.1.1,[])
noncomputable def Zjl (k:Nat):=ZhU k (ZpS k) (Zkr k)
theorem ZJt (k:Nat):∀ n,ZA7 k n = Zn (fun L1 => Zdj k L1) n :=
 Zh (fun v => by kernel_rfl) (fun n v => by
  obtain ⟨v0,v1,v2,v3,v4,v5⟩:=v
  kernel_rfl)
theorem ZJu (k:Nat):∀ n,ZA8 k n = Zn (fun L2 => Zdk k L2) n :=
 Zh (fun v => by kernel_rfl) (fun n v => by
  obtain ⟨v0,v1,v2,v3,v4,v5⟩:=v
  kernel_rfl)
theorem ZR5 (k:Nat) (x:Kd.dens W4):ZC (Zrx k) ZD7 Tryz.f218 W4 Q6 x = Zjl k x:=by
 show _ = ZhU k (ZpS k) (Zkr k) x
 rw [show ZpS k = ZA7 k k from (ZJt k k).symm,show Zkr k = ZA8 k k from (ZJu k k).symm]
 obtain ⟨⟨a0,⟨a1,⟨⟩⟩⟩,⟨a2,⟨a3,⟨⟩⟩⟩⟩:=x
 kernel_rfl
theorem ZMX (k:Nat):Ctr Tryz.prog k 218 (mk W4 Q6 Zjl) :=
 ZD (fn:=Tryz.f218) (Zg (Za (Znb k) (Za (Znd k) (Za (Zbl k) (Za (ZM9 k) (Za (ZNe k) Zd)))))) (by kernel_rfl) (by kernel_rfl) (ZR5 k)
noncomputable abbrev ZVP:Nat × Callee:=(218,mk W4 Q6 Zjl)
noncomputable def ZDQ (k:Nat):=Wi k [ZxO,ZMP,ZVH,ZVP]
def ZMq:Nat → Ann:=fun id => bif Nat.beq id 15 then ⟨[52,53,1,10,2,0,8,11],[.slot 11 ((Ty.int IntKind.i64))]⟩ else ⟨[],[]⟩
abbrev ZxT:=Int × Int × Int × Int × Int × Int × List Int × Int × List Int
abbrev ZpD:=ZxT → Option ((List Int × Int × Unit) × (List Int × Int × Unit) × Unit)
def ZRB:ZxT → St
 | (v0,v1,v2,v3,v4,v5,v6,v7,v8) => St.mk (Zw [(52,Zk v0),(53,Zk v1),(1,Zk v2),(10,Zk v3),(2,Zk v4),(0,AV.bx 0 0),(8,Zk v5),(11,AV.own 8192)]) (Zu [(0,QZ [AV.val (PV.sl (Ty.int IntKind.u8) v6),Zk v7]),(8192,rsA v8 false)])
noncomputable def Za9 (k:Nat) (L1:ZpD):ZpD
 | (v0,v1,v2,v3,v4,v5,v6,v7,v8) => bif decide (v1 < v0) then bif decide (0 ≤ v3) then bif v1 == 0 then (Zjl k ((v6,v7,()),v5,IntKind.i64.wrap (v2.fdiv ((2:Int) ^ min v3.toNat 64) - v4),())).bind fun y => bif y.1.2.1 != 0 then some (([],y.1.2.1,()),(y.2.1.1,y.2.1.2.1,()),()) else bif decide (v8.length + List.length y.1.1 < 2147483648) then L1 (v0,IntKind.i64.wrap (v1 + 1),v2,v3,v4,v5,y.2.1.1,y.2.1.2.1,v8 ++ y.1.1) else none else (Zjl k ((v6,v7,()),v5,v2.fdiv ((2:Int) ^ min v3.toNat 64),())).bind fun y => bif y.1.2.1 != 0 then some (([],y.1.2.1,()),(y.2.1.1,y.2.1.2.1,()),()) else bif decide (v8.length + List.length y.1.1 < 2147483648) then L1 (v0,IntKind.i64.wrap (v1 + 1),v2,v3,v4,v5,y.2.1.1,y.2.1.2.1,v8 ++ y.1.1) else none else none else some ((v8,0,()),(v6,v7,()),())
noncomputable def ZpE (k:Nat):ZpD:=Zn (fun L1 => Za9 k L1) k
noncomputable def ZAK (k:Nat) (n:Nat) (v:ZxT) :=
 Zs (ZDQ k) ZMq [0] [1,1,1,1,1,1,1,0,1,0] [] (Wg Tryz.f172) (Wn (ZDQ k) Tryz.f172 W4 Q6 [AV.bx (nat_lit 0) (nat_lit 0)] [[]]) n (ZRB v)
def ZhA (k:Nat) (L1:ZpD):(List Int × Int × Unit) × Int × Int × Unit → Option ((List Int × Int × Unit) × (List Int × Int × Unit) × Unit)
 | ((a0,a1,()),a2,a3,()) => (Zns k (a2,a3,())).bind fun y => bif !y.1 then some (([],1,()),(a0,a1,()),()) else (Yj k ((a0,a1,()),2,())).bind fun y => bif y.1.2.1 != 0 then some (([],y.1.2.1,()),(y.2.1.1,y.2.1.2.1,()),()) else bif decide ((1:Int) < y.1.1) then some (([],2,()),(y.2.1.1,y.2.1.2.1,()),()) else (Yj k ((y.2.1.1,y.2.1.2.1,()),4,())).bind fun y_1 => bif y_1.1.2.1 != 0 then some (([],y_1.1.2.1,()),(y_1.2.1.1,y_1.2.1.2.1,()),()) else (Zej k (a2,a3,y_1.1.1,())).bind fun y_2 => bif !y_2.1 then some (([],2,()),(y_1.2.1.1,y_1.2.1.2.1,()),()) else bif decide ((0:Int) ≤ y_1.1.1) then L1 (IntKind.i64.wrap ((1:Int) * (2:Int) ^ min (Int.toNat y_1.1.1) (64:Nat)),(0:Int),a2,y_1.1.1,a3,y.1.1,y_1.2.1.1,y_1.2.1.2.1,[]) else none
noncomputable def ZcM (k:Nat):=ZhA k (ZpE k)
theorem ZI2 (k:Nat):∀ n,ZAK k n = Zn (fun L1 => Za9 k L1) n :=
 Zh (fun v => by kernel_rfl) (fun n v => by
  obtain ⟨v0,v1,v2,v3,v4,v5,v6,v7,v8⟩:=v
  kernel_rfl)
theorem ZRC (k:Nat) (x:Kd.dens W4):ZC (ZDQ k) ZMq Tryz.f172 W4 Q6 x = ZcM k x:=by
 show _ = ZhA k (ZpE k) x
 rw [show ZpE k = ZAK k k from (ZI2 k k).symm]
 obtain ⟨⟨a0,⟨a1,⟨⟩⟩⟩,⟨a2,⟨a3,⟨⟩⟩⟩⟩:=x
 kernel_rfl
theorem ZMr (k:Nat):Ctr Tryz.prog k 172 (mk W4 Q6 ZcM) :=
 ZD (fn:=Tryz.f172) (Zg (Za (Zbl k) (Za (ZA3 k) (Za (ZA4 k) (Za (ZMX k) Zd))))) (by kernel_rfl) (by kernel_rfl) (ZRC k)
noncomputable abbrev ZVs:Nat × Callee:=(172,mk W4 Q6 ZcM)
abbrev Zkm:List Kd:=[.view Zjw,.view (.sl (.int .i64)),.view (.sl (.int .i64))]
noncomputable def ZDR (k:Nat):=Wi k [Zq2,ZD3,ZMO,ZMZ,ZM1]
def ZMs:Nat → Ann:=fun id => bif Nat.beq id 9 then ⟨[32,33,31,3,8],[.«show» 8]⟩ else ⟨[],[]⟩
abbrev ZxU:=Int × Int × List Int × List Int × Int × List Int
abbrev ZpF:=ZxU → Option ((List Int × Int × Unit) × Unit)
def ZRD:ZxU → St
 | (v0,v1,v2,v3,v4,v5) => St.mk (Zw [(32,Zk v0),(33,Zk v1),(31,YE v2),(3,AV.bx 8192 0),(8,AV.own 8193)]) (Zu [(8192,QZ [YE v3,Zk v4]),(8193,rsA v5 true)])
def Zdd (k:Nat) (L1:ZpF):ZpF
 | (v0,v1,v2,v3,v4,v5) => bif decide (v1 < v0) then bif decide (0 ≤ v1 ∧ v1 < Int.ofNat v2.length) then (Znw k ((v3,v4,()),v5,())).bind fun y => (Zjj k (IntKind.i64.wrap (v2.getD v1.toNat 0 + y.1),())).bind fun y_1 => bif y_1.1 then some (([],12,()),()) else bif decide (v5.length + [IntKind.i64.wrap (v2.getD v1.toNat 0 + y.1)].length < 2147483648) then L1 (v0,IntKind.i64.wrap (v1 + 1),v2,v3,v4,v5 ++ [IntKind.i64.wrap (v2.getD v1.toNat 0 + y.1)]) else none else none else some ((v5,0,()),())
def ZpG (k:Nat):ZpF:=Zn (fun L1 => Zdd k L1) k
noncomputable def ZAL (k:Nat) (n:Nat) (v:ZxU) :=
 Zs (ZDR k) ZMs [] [1,1,1,0,1,0] [] (Wg Tryz.f173) (Wn (ZDR k) Tryz.f173 Zkm Q6 [] []) n (ZRD v)
def ZhB (k:Nat) (L1:ZpF):(List Int × Int × Unit) × List Int × List Int × Unit → Option ((List Int × Int × Unit) × Unit)
 | ((a0,a1,()),a2,a3,()) => (Znv k ((a0,a1,()),())).bind fun y => bif y.1 != 0 then some (([],2,()),()) else bif Int.ofNat a2.length != Int.ofNat a0.length then some (([],1,()),()) else (Zaf k (a2,(),())).bind fun y => bif y.1 then some (([],12,()),()) else (Zaf k (a3,(),())).bind fun y => bif y.1 then some (([],12,()),()) else (Znr k (a2,())).bind fun y => L1 (Int.ofNat a3.length,(0:Int),a3,a0,a1,y.1)
def ZcN (k:Nat):=ZhB k (ZpG k)
theorem ZI5 (k:Nat):∀ n,ZAL k n = Zn (fun L1 => Zdd k L1) n :=
 Zh (fun v => by kernel_rfl) (fun n v => by
  obtain ⟨v0,v1,v2,v3,v4,v5⟩:=v
  kernel_rfl)
theorem ZRE (k:Nat) (x:Kd.dens Zkm):ZC (ZDR k) ZMs Tryz.f173 Zkm Q6 x = ZcN k x:=by
 show _ = ZhB k (ZpG k) x
 rw [show ZpG k = ZAL k k from (ZI5 k k).symm]
 obtain ⟨⟨a0,⟨a1,⟨⟩⟩⟩,⟨a2,⟨a3,⟨⟩⟩⟩⟩:=x
 kernel_rfl
theorem ZMt (k:Nat):Ctr Tryz.prog k 173 (mk Zkm Q6 ZcN) :=
 ZD (fn:=Tryz.f173) (Zg (Za (Zjc k) (Za (Zrp k) (Za (ZA2 k) (Za (ZA9 k) (Za (ZBb k) Zd)))))) (by kernel_rfl) (by kernel_rfl) (ZRE k)
noncomputable abbrev ZVt:Nat × Callee:=(173,mk Zkm Q6 ZcN)
abbrev Zza:List Kd:=[.box [.ref [.view (.sl (.int .u8)),.view (.int .i64)],.view (.int .i64)],.view (.int .i64),.view (.int .i64),.view (.int .i64)]
noncomputable def ZYy (k:Nat):=Wi k [ZDL,ZMh,ZMi,ZVq,ZVr,ZVs,ZVt]
noncomputable def Zl6 (k:Nat):((List Int × Int × Unit) × Int × Unit) × Int × Int × Int × Unit → Option (List Int × ((List Int × Int × Unit) × Int × Unit) × Unit)
 | (((a0,a1,()),a2,()),a3,a4,a5,()) => bif a3 == 0 then (Zbm k (((a0,a1,()),a2,()),1,a5,())).bind fun y => (Zrb k (y.1,a4,())).bind fun y_1 => some (y_1.1,((y.2.1.1.1,y.2.1.1.2.1,()),y.2.1.2.1,()),()) else bif a3 == 1 then (Zbm k (((a0,a1,()),a2,()),a4,a5,())).bind fun y => some (y.1,((y.2.1.1.1,y.2.1.1.2.1,()),y.2.1.2.1,()),()) else bif decide ((31:Int) < a3) then (Xi k (((a0,a1,()),a2,()),decide (IntKind.i64.wrap (a3 - 31) ≤ a4),())).bind fun y => bif y.2.1.2.1 != 0 then some ([],((y.2.1.1.1,y.2.1.1.2.1,()),y.2.1.2.1,()),()) else (Zbm k (((y.2.1.1.1,y.2.1.1.2.1,()),y.2.1.2.1,()),IntKind.i64.wrap (a3 - 31),a5,())).bind fun y => (ZfF k (if (4:Int) < IntKind.i64.wrap (a3 - 31) then (4:Int) else IntKind.i64.wrap (a3 - 31),())).bind fun y_1 => bif decide ((31:Int) < a3) then (Kc k (((y.2.1.1.1,y.2.1.1.2.1,()),y.2.1.2.1,()),4,())).bind fun y_2 => (Xi k (((y_2.2.1.1.1,y_2.2.1.1.2.1,()),y_2.2.1.2.1,()),y_2.1 == 11,())).bind fun y_3 => (Kc k (((y_3.2.1.1.1,y_3.2.1.1.2.1,()),y_3.2.1.2.1,()),5,())).bind fun y_4 => (Xi k (((y_4.2.1.1.1,y_4.2.1.1.2.1,()),y_4.2.1.2.1,()),decide (y_4.1 ≤ 15),())).bind fun y_5 => (Zbm k (((y_5.2.1.1.1,y_5.2.1.1.2.1,()),y_5.2.1.2.1,()),IntKind.i64.wrap (a3 - 31),12,())).bind fun y_6 => bif y_6.2.1.2.1 != 0 then some ([],((y_6.2.1.1.1,y_6.2.1.1.2.1,()),y_6.2.1.2.1,()),()) else (ZcM k ((y_6.2.1.1.1,y_6.2.1.1.2.1,()),a4,IntKind.i64.wrap (a3 - 31),())).bind fun y_7 => bif y_7.1.2.1 != 0 then some ([],((y_7.2.1.1,y_7.2.1.2.1,()),y_7.1.2.1,()),()) else (ZcN k ((y_6.1,y_4.1,()),y.1,y_7.1.1,())).bind fun y => some (y.1.1,((y_7.2.1.1,y_7.2.1.2.1,()),y.1.2.1,()),()) else bif y.2.1.2.1 != 0 then some ([],((y.2.1.1.1,y.2.1.1.2.1,()),y.2.1.2.1,()),()) else (ZcM k ((y.2.1.1.1,y.2.1.1.2.1,()),a4,IntKind.i64.wrap (a3 - 31),())).bind fun y_2 => bif y_2.1.2.1 != 0 then some ([],((y_2.2.1.1,y_2.2.1.2.1,()),y_2.1.2.1,()),()) else (ZcN k ((y_1.1.1.1,y_1.1.1.2.1,()),y.1,y_2.1.1,())).bind fun y => some (y.1.1,((y_2.2.1.1,y_2.2.1.2.1,()),y.1.2.1,()),()) else (Xi k (((a0,a1,()),a2,()),decide (IntKind.i64.wrap (a3 - 8) ≤ a4),())).bind fun y => bif y.2.1.2.1 != 0 then some ([],((y.2.1.1.1,y.2.1.1.2.1,()),y.2.1.2.1,()),()) else (Zbm k (((y.2.1.1.1,y.2.1.1.2.1,()),y.2.1.2.1,()),IntKind.i64.wrap (a3 - 8),a5,())).bind fun y => (ZfF k (if (4:Int) < IntKind.i64.wrap (a3 - 8) then (4:Int) else IntKind.i64.wrap (a3 - 8),())).bind fun y_1 => bif decide ((31:Int) < a3) then (Kc k (((y.2.1.1.1,y.2.1.1.2.1,()),y.2.1.2.1,()),4,())).bind fun y_2 => (Xi k (((y_2.2.1.1.1,y_2.2.1.1.2.1,()),y_2.2.1.2.1,()),y_2.1 == 11,())).bind fun y_3 => (Kc k (((y_3.2.1.1.1,y_3.2.1.1.2.1,()),y_3.2.1.2.1,()),5,())).bind fun y_4 => (Xi k (((y_4.2.1.1.1,y_4.2.1.1.2.1,()),y_4.2.1.2.1,()),decide (y_4.1 ≤ 15),())).bind fun y_5 => (Zbm k (((y_5.2.1.1.1,y_5.2.1.1.2.1,()),y_5.2.1.2.1,()),IntKind.i64.wrap (a3 - 8),12,())).bind fun y_6 => bif y_6.2.1.2.1 != 0 then some ([],((y_6.2.1.1.1,y_6.2.1.1.2.1,()),y_6.2.1.2.1,()),()) else (ZcM k ((y_6.2.1.1.1,y_6.2.1.1.2.1,()),a4,IntKind.i64.wrap (a3 - 8),())).bind fun y_7 => bif y_7.1.2.1 != 0 then some ([],((y_7.2.1.1,y_7.2.1.2.1,()),y_7.1.2.1,()),()) else (ZcN k ((y_6.1,y_4.1,()),y.1,y_7.1.1,())).bind fun y => some (y.1.1,((y_7.2.1.1,y_7.2.1.2.1,()),y.1.2.1,()),()) else bif y.2.1.2.1 != 0 then some ([],((y.2.1.1.1,y.2.1.1.2.1,()),y.2.1.2.1,()),()) else (ZcM k ((y.2.1.1.1,y.2.1.1.2.1,()),a4,IntKind.i64.wrap (a3 - 8),())).bind fun y_2 => bif y_2.1.2.1 != 0 then some ([],((y_2.2.1.1,y_2.2.1.2.1,()),y_2.1.2.1,()),()) else (ZcN k ((y_1.1.1.1,y_1.1.1.2.1,()),y.1,y_2.1.1,())).bind fun y => some (y.1.1,((y_2.2.1.1,y_2.2.1.2.1,()),y.1.2.1,()),())
noncomputable def ZBO (k:Nat):=Zl6 k
theorem ZXc (k:Nat) (x:Kd.dens Zza):ZC (ZYy k) nA Tryz.f124 Zza Ki x = ZBO k x:=by
 show _ = Zl6 k x
 obtain ⟨⟨⟨a0,⟨a1,⟨⟩⟩⟩,⟨a2,⟨⟩⟩⟩,⟨a3,⟨a4,⟨a5,⟨⟩⟩⟩⟩⟩:=x
 kernel_rfl
theorem ZTw (k:Nat):Ctr Tryz.prog k 124 (mk Zza Ki ZBO) :=
 ZD (fn:=Tryz.f124) (Zg (Za (Zq6 k) (Za (ZAE k) (Za (ZAF k) (Za (ZMn k) (Za (ZMp k) (Za (ZMr k) (Za (ZMt k) Zd)))))))) (by kernel_rfl) (by kernel_rfl) (ZXc k)
noncomputable abbrev ZYz:Nat × Callee:=(124,mk Zza Ki ZBO)
noncomputable def ZOF (k:Nat):=Wi k [ZUJ,ZYx,ZYz,ZUL]
def ZUs:Nat → Ann:=fun id => bif Nat.beq id 12 then ⟨[58,59,57,2,10,12],[.slot 12 ((Ty.int IntKind.i64))]⟩ else ⟨[],[]⟩
abbrev ZE9:=Int × Int × List Int × Int × Int × List Int × Int × List Int
abbrev ZyB:=ZE9 → Option ((List Int × Int × Unit) × (List Int × Int × Unit) × Unit)
def ZWv:ZE9 → St
 | (v0,v1,v2,v3,v4,v5,v6,v7) => St.mk (Zw [(58,Zk v0),(59,Zk v1),(57,YE v2),(2,Zk v3),(10,Zk v4),(12,AV.own 8192)]) (Zu [(0,QZ [AV.val (PV.sl (Ty.int IntKind.u8) v5),Zk v6]),(8192,rsA v7 false)])
def Zgc (k:Nat) (L1:ZyB):ZyB
 | (v0,v1,v2,v3,v4,v5,v6,v7) => bif decide (v1 < v0) then bif decide (0 ≤ v1 ∧ v1 < Int.ofNat v2.length) then (Zwa k (v2.getD v1.toNat 0,IntKind.i64.wrap (v3 - v4),())).bind fun y => bif !y.1 then some (([],12,()),(v5,v6,()),()) else bif decide (0 ≤ v4) then bif decide (v7.length + [IntKind.i64.wrap (v2.getD v1.toNat 0 * (2:Int) ^ min v4.toNat 64)].length < 2147483648) then L1 (v0,IntKind.i64.wrap (v1 + 1),v2,v3,v4,v5,v6,v7 ++ [IntKind.i64.wrap (v2.getD v1.toNat 0 * (2:Int) ^ min v4.toNat 64)]) else none else none else none else some ((v7,0,()),(v5,v6,()),())
def ZyC (k:Nat):ZyB:=Zn (fun L1 => Zgc k L1) k
noncomputable def ZG0 (k:Nat) (n:Nat) (v:ZE9) :=
 Zs (ZOF k) ZUs [0] [1,1,1,1,1,1,1,1,0,1,0] [] (Wg Tryz.f58) (Wn (ZOF k) Tryz.f58 W4 Q6 [AV.bx (nat_lit 0) (nat_lit 0)] [[]]) n (ZWv v)
noncomputable def ZlF (k:Nat) (L1:ZyB):(List Int × Int × Unit) × Int × Int × Unit → Option ((List Int × Int × Unit) × (List Int × Int × Unit) × Unit)
 | ((a0,a1,()),a2,a3,()) => (Zv9 k (a2,a3,())).bind fun y => bif !y.1 then some (([],1,()),(a0,a1,()),()) else (ZBN k (((a0,a1,()),0,()),a3,())).bind fun y => bif y.2.1.2.1 != 0 then some (([],y.2.1.2.1,()),(y.2.1.1.1,y.2.1.1.2.1,()),()) else (ZBO k (((y.2.1.1.1,y.2.1.1.2.1,()),y.2.1.2.1,()),y.1.1,a2,IntKind.i64.wrap (a3 - y.1.2.1),())).bind fun y_1 => bif y_1.2.1.2.1 != 0 then some (([],y_1.2.1.2.1,()),(y_1.2.1.1.1,y_1.2.1.1.2.1,()),()) else L1 (Int.ofNat (List.length y_1.1),(0:Int),y_1.1,a3,y.1.2.1,y_1.2.1.1.1,y_1.2.1.1.2.1,[])
noncomputable def ZBy (k:Nat):=ZlF k (ZyC k)
theorem ZOG (k:Nat):∀ n,ZG0 k n = Zn (fun L1 => Zgc k L1) n :=
 Zh (fun v => by kernel_rfl) (fun n v => by
  obtain ⟨v0,v1,v2,v3,v4,v5,v6,v7⟩:=v
  kernel_rfl)
theorem ZWw (k:Nat) (x:Kd.dens W4):ZC (ZOF k) ZUs Tryz.f58 W4 Q6 x = ZBy k x:=by
 show _ = ZlF k (ZyC k) x
 rw [show ZyC k = ZG0 k k from (ZOG k k).symm]
 obtain ⟨⟨a0,⟨a1,⟨⟩⟩⟩,⟨a2,⟨a3,⟨⟩⟩⟩⟩:=x
 kernel_rfl
theorem ZTf (k:Nat):Ctr Tryz.prog k 58 (mk W4 Q6 ZBy) :=
 ZD (fn:=Tryz.f58) (Zg (Za (ZHn k) (Za (ZTv k) (Za (ZTw k) (Za (ZHo k) Zd))))) (by kernel_rfl) (by kernel_rfl) (ZWw k)
noncomputable abbrev ZYe:Nat × Callee:=(58,mk W4 Q6 ZBy)
def ZUt:Nat → Ann:=fun id => bif Nat.beq id 5 then ⟨[4,3,0],[]⟩ else ⟨[],[]⟩
abbrev ZyD:=Wz → Option (Int × (List Int × Int × Unit) × Unit)
def ZWx:Wz → St
 | (v0,v1,v2,v3) => St.mk (Zw [(4,Zk v0),(3,Zk v1),(0,AV.bx 0 0)]) (Zu [(0,QZ [AV.val (PV.sl (Ty.int IntKind.u8) v2),Zk v3])])
def Zgd (k:Nat) (L1:ZyD):ZyD
 | (v0,v1,v2,v3) => bif decide (v0 < v1) then (ZsZ k ((v2,v3,()),v0,())).bind fun y => bif y.1 == 1 then some (2,(y.2.1.1,y.2.1.2.1,()),()) else L1 (IntKind.i64.wrap (v0 + 1),v1,y.2.1.1,y.2.1.2.1) else some (0,(v2,v1,()),())
def ZyE (k:Nat):ZyD:=Zn (fun L1 => Zgd k L1) k
noncomputable def ZG1 (k:Nat) (n:Nat) (v:Wz) :=
 Zs (Zne k) ZUt [0] [1,1,1,0,1,0] [] (Wg Tryz.f59) (Wn (Zne k) Tryz.f59 Xk Zj [AV.bx (nat_lit 0) (nat_lit 0)] [[]]) n (ZWx v)
def ZlG (k:Nat) (L1:ZyD):(List Int × Int × Unit) × Unit → Option (Int × (List Int × Int × Unit) × Unit)
 | ((a0,a1,()),()) => L1 (a1,IntKind.i64.wrap (Int.ofNat (BitVec.ofInt 64 (IntKind.i64.wrap (a1 + 7)) &&& ~~~BitVec.ofInt 64 (7:Int)).toNat),a0,a1)
def ZBz (k:Nat):=ZlG k (ZyE k)
theorem ZOI (k:Nat):∀ n,ZG1 k n = Zn (fun L1 => Zgd k L1) n :=
 Zh (fun v => by kernel_rfl) (fun n v => by
  obtain ⟨v0,v1,v2,v3⟩:=v
  kernel_rfl)
theorem ZWy (k:Nat) (x:Kd.dens Xk):ZC (Zne k) ZUt Tryz.f59 Xk Zj x = ZBz k x:=by
 show _ = ZlG k (ZyE k) x
 rw [show ZyE k = ZG1 k k from (ZOI k k).symm]
 obtain ⟨⟨a0,⟨a1,⟨⟩⟩⟩,⟨⟩⟩:=x
 kernel_rfl
theorem ZTg (k:Nat):Ctr Tryz.prog k 59 (mk Xk Zj ZBz) :=
 ZD (fn:=Tryz.f59) (Zg (Za (Zzb k) Zd)) (by kernel_rfl) (by kernel_rfl) (ZWy k)
noncomputable abbrev ZYf:Nat × Callee:=(59,mk Xk Zj ZBz)
abbrev Zkd:List Kd:=[.box [.view (.sl (.int .u8)),.ref [.view (.sl (.int .u8)),.view (.int .i64)],.view (.int .i64)],.view (.int .i64),.fn 61]
noncomputable def ZQX (k:Nat):=Wi k [ZG3,ZHk,ZHl,ZUr]
def Zee (k:Nat):(List Int × (List Int × Int × Unit) × Int × Unit) × Int × Unit × Unit → Option (Unit × (List Int × (List Int × Int × Unit) × Int × Unit) × Unit)
 | ((a0,(a1,a2,()),a3,()),a4,(),()) => (Kz k ((a1,a2,()),())).bind fun y => (WH k ((a0,(y.2.1.1,y.2.1.2.1,()),a3,()),a4,())).bind fun y_1 => bif y_1.2.1.2.2.1 != 0 then (Wf k ((y_1.2.1.1,(y_1.2.1.2.1.1,y_1.2.1.2.1.2.1,()),y_1.2.1.2.2.1,()),true,16,())).bind fun y => some ((),(y.2.1.1,(y.2.1.2.1.1,y.2.1.2.1.2.1,()),y.2.1.2.2.1,()),()) else bif decide ((0:Int) ≤ 0 ∧ (0:Int) ≤ IntKind.i64.wrap (Int.tdiv y.1 (8:Int)) ∧ IntKind.i64.wrap (Int.tdiv y.1 (8:Int)) ≤ Int.ofNat (List.length y_1.2.1.1)) then (Zv3 k (List.drop 0 (List.take (IntKind.i64.wrap (Int.tdiv y.1 (8:Int))).toNat y_1.2.1.1),())).bind fun y => (Wf k ((y_1.2.1.1,(y_1.2.1.2.1.1,y_1.2.1.2.1.2.1,()),y_1.2.1.2.2.1,()),y_1.1 == y.1,16,())).bind fun y => some ((),(y.2.1.1,(y.2.1.2.1.1,y.2.1.2.1.2.1,()),y.2.1.2.2.1,()),()) else none
def Zkc (k:Nat):=Zee k
theorem ZLY (k:Nat) (x:Kd.dens Zkd):ZC (ZQX k) nA Tryz.f60 Zkd QG x = Zkc k x:=by
 show _ = Zee k x
 obtain ⟨⟨a0,⟨⟨a1,⟨a2,⟨⟩⟩⟩,⟨a3,⟨⟩⟩⟩⟩,⟨a4,⟨⟨⟩,⟨⟩⟩⟩⟩:=x
 kernel_rfl
theorem ZIv (k:Nat):Ctr Tryz.prog k 60 (mk Zkd QG Zkc) :=
 ZD (fn:=Tryz.f60) (Zg (Za (ZlK k) (Za (Zqa k) (Za (Zqb k) (Za (ZGY k) Zd))))) (by kernel_rfl) (by kernel_rfl) (ZLY k)
noncomputable abbrev ZQY:Nat × Callee:=(60,mk Zkd QG Zkc)
abbrev ZsL:List Kd:=[.view (.sl (.int .i64)),.view (.sl (.int .i64)),.view (.int .i64)]
noncomputable def ZOL (k:Nat):=Wi k [ZUx,ZUN]
def ZUu:Nat → Ann:=fun id => bif Nat.beq id 7 then ⟨[36,37,35,1,2,8,9],[]⟩ else ⟨[],[]⟩
abbrev ZFa:=Int × Int × List Int × List Int × Int × List Int × List Int
abbrev ZyG:=ZFa → Option ((List (Nat × Nat) × Int × Unit) × Unit)
def ZWA:ZFa → St
 | (v0,v1,v2,v3,v4,v5,v6) => St.mk (Zw [(36,Zk v0),(37,Zk v1),(35,YE v2),(1,YE v3),(2,Zk v4),(8,AV.own 8192),(9,AV.own 8193)]) (Zu [(8192,rsA v5 false),(8193,rsA v6 false)])
def ZdD (k:Nat) (L1:ZyG):ZyG
 | (v0,v1,v2,v3,v4,v5,v6) => bif decide (v1 < v0) then bif decide (0 ≤ v1 ∧ v1 < Int.ofNat v2.length) then bif decide (0 ≤ v1 ∧ v1 < Int.ofNat v3.length) then bif decide ((if v3.getD v1.toNat 0 < v2.getD v1.toNat 0 then v3.getD v1.toNat 0 else v2.getD v1.toNat 0) < -67108864) then some (([],12,()),()) else bif decide ((67108864:Int) < if v2.getD v1.toNat 0 < v3.getD v1.toNat 0 then v3.getD v1.toNat 0 else v2.getD v1.toNat 0) then some (([],12,()),()) else bif v4 == 0 then bif decide (0 ≤ v1 ∧ v1 < Int.ofNat v5.length) then bif decide (v1.toNat < v5.length) then bif decide (0 ≤ v1 ∧ v1 < Int.ofNat v6.length) then bif decide (v1.toNat < v6.length) then L1 (v0,IntKind.i64.wrap (v1 + 1),v2,v3,v4,v5.set v1.toNat (v2.getD v1.toNat 0),v6.set v1.toNat (v3.getD v1.toNat 0)) else none else none else none else none else bif v4 == 8 then bif decide (0 ≤ v1 ∧ v1 < Int.ofNat v5.length) then bif decide (v1.toNat < v5.length) then bif decide (0 ≤ v1 ∧ v1 < Int.ofNat v6.length) then bif decide (v1.toNat < v6.length) then L1 (v0,IntKind.i64.wrap (v1 + 1),v2,v3,v4,v5.set v1.toNat (v2.getD v1.toNat 0),v6.set v1.toNat (IntKind.i64.wrap (v2.getD v1.toNat 0 - v3.getD v1.toNat 0))) else none else none else none else none else bif v4 == 9 then bif decide (0 ≤ v1 ∧ v1 < Int.ofNat v5.length) then bif decide (v1.toNat < v5.length) then bif decide (0 ≤ v1 ∧ v1 < Int.ofNat v6.length) then bif decide (v1.toNat < v6.length) then L1 (v0,IntKind.i64.wrap (v1 + 1),v2,v3,v4,v5.set v1.toNat (IntKind.i64.wrap (v2.getD v1.toNat 0 + v3.getD v1.toNat 0)),v6.set v1.toNat (v3.getD v1.toNat 0)) else none else none else none else none else bif v4 == 10 then bif decide (0 ≤ v1 ∧ v1 < Int.ofNat v5.length) then bif decide (v1.toNat < v5.length) then bif decide (0 ≤ v1 ∧ v1 < Int.ofNat v6.length) then bif decide (v1.toNat < v6.length) then L1 (v0,IntKind.i64.wrap (v1 + 1),v2,v3,v4,v5.set v1.toNat ((IntKind.i64.wrap (IntKind.i64.wrap (Int.ofNat (BitVec.ofInt 64 (IntKind.i64.wrap (v2.getD v1.toNat 0 * (2:Int))) ||| BitVec.ofInt 64 (IntKind.i64.wrap (Int.ofNat (BitVec.ofInt 64 (v3.getD v1.toNat 0) &&& BitVec.ofInt 64 (1:Int)).toNat))).toNat) + v3.getD v1.toNat 0)).fdiv (2:Int)),v6.set v1.toNat ((IntKind.i64.wrap (IntKind.i64.wrap (Int.ofNat (BitVec.ofInt 64 (IntKind.i64.wrap (v2.getD v1.toNat 0 * (2:Int))) ||| BitVec.ofInt 64 (IntKind.i64.wrap (Int.ofNat (BitVec.ofInt 64 (v3.getD v1.toNat 0) &&& BitVec.ofInt 64 (1:Int)).toNat))).toNat) - v3.getD v1.toNat 0)).fdiv (2:Int))) else none else none else none else none else L1 (v0,IntKind.i64.wrap (v1 + 1),v2,v3,v4,v5,v6) else none else none else (ZsN k (v5,v6,())).bind fun y => some ((y.1.1,y.1.2.1,()),())
def ZyH (k:Nat):ZyG:=Zn (fun L1 => ZdD k L1) k
noncomputable def ZG2 (k:Nat) (n:Nat) (v:ZFa) :=
 Zs (ZOL k) ZUu [] [1,1,1,0,1,0] [] (Wg Tryz.f62) (Wn (ZOL k) Tryz.f62 ZsL Zgf [] []) n (ZWA v)
def ZlI (k:Nat) (L1:ZyG):List Int × List Int × Int × Unit → Option ((List (Nat × Nat) × Int × Unit) × Unit)
 | (a0,a1,a2,()) => (Zwb k (a2,())).bind fun y => bif !y.1 then some (([],1,()),()) else bif Int.ofNat a0.length != Int.ofNat a1.length then some (([],1,()),()) else bif decide ((8192:Int) < Int.ofNat a0.length) then some (([],14,()),()) else bif decide ((0:Int) ≤ Int.ofNat a0.length ∧ Int.ofNat a0.length ≤ Int.ofNat a0.length ∧ Int.ofNat a0.length < (4294967296:Int)) then bif decide ((0:Int) ≤ Int.ofNat a0.length ∧ Int.ofNat a0.length ≤ Int.ofNat a0.length ∧ Int.ofNat a0.length < (4294967296:Int)) then L1 (Int.ofNat a0.length,(0:Int),a0,a1,a2,List.replicate (Int.ofNat a0.length).toNat (0:Int),List.replicate (Int.ofNat a0.length).toNat (0:Int)) else none else none
def ZsK (k:Nat):=ZlI k (ZyH k)
theorem ZOM (k:Nat):∀ n,ZG2 k n = Zn (fun L1 => ZdD k L1) n :=
 Zh (fun v => by kernel_rfl) (fun n v => by
  obtain ⟨v0,v1,v2,v3,v4,v5,v6⟩:=v
  kernel_rfl)
theorem ZWB (k:Nat) (x:Kd.dens ZsL):ZC (ZOL k) ZUu Tryz.f62 ZsL Zgf x = ZsK k x:=by
 show _ = ZlI k (ZyH k) x
 rw [show ZyH k = ZG2 k k from (ZOM k k).symm]
 obtain ⟨a0,⟨a1,⟨a2,⟨⟩⟩⟩⟩:=x
 kernel_rfl
theorem ZTi (k:Nat):Ctr Tryz.prog k 62 (mk ZsL Zgf ZsK) :=
 ZD (fn:=Tryz.f62) (Zg (Za (ZG6 k) (Za (ZHp k) Zd))) (by kernel_rfl) (by kernel_rfl) (ZWB k)
noncomputable abbrev ZYi:Nat × Callee:=(62,mk ZsL Zgf ZsK)
noncomputable def ZYj (k:Nat):=Wi k [ZOY]
def ZlJ (k:Nat):List (Nat × Nat) × Unit → Option ((List Int × List Int × Int × Unit) × Unit)
 | (a0,()) => (ZsP k (a0,0,())).bind fun y => some ((y.1.1,y.1.2.1,y.1.2.2.1,()),())
def ZsM (k:Nat):=ZlJ k
theorem ZWC (k:Nat) (x:Kd.dens W3):ZC (ZYj k) nA Tryz.f63 W3 Zjq x = ZsM k x:=by
 show _ = ZlJ k x
 obtain ⟨a0,⟨⟩⟩:=x
 kernel_rfl
theorem ZTj (k:Nat):Ctr Tryz.prog k 63 (mk W3 Zjq ZsM) :=
 ZD (fn:=Tryz.f63) (Zg (Za (ZyO k) Zd)) (by kernel_rfl) (by kernel_rfl) (ZWC k)
noncomputable abbrev ZYk:Nat × Callee:=(63,mk W3 Zjq ZsM)
abbrev ZrB:List Kd:=[.view Zoc,.view (.sl (.int .u8))]
abbrev Zyb:Kd:=.tup [.view ZnK,.view (.int .i64),.view (.int .i64)]
noncomputable def ZNa (k:Nat):=Wi k [ZGi,ZUl,ZUq,ZYb,ZYd,ZYe,ZYf,ZQY,ZYi,ZYk,ZG3]
def ZUj:Nat → Ann:=fun id => bif Nat.beq id 10 then ⟨[55,56,54,8,11,4,12,2,9],[.cell 12 1 ((Ty.int IntKind.i64).sl)]⟩ else ⟨[],[]⟩
abbrev ZEa:=Int × Int × List Int × Int × Int × List Int × Int × List Int × Int × Int × Int × List (List Int) × Int × Int × Int
abbrev Zx9:=ZEa → Option (((Int × List (List Int) × Unit) × Int × Int × Unit) × Unit)
def ZV3:ZEa → St
 | (v0,v1,v2,v3,v4,v5,v6,v7,v8,v9,v10,v11,v12,v13,v14) => St.mk (Zw [(55,Zk v0),(56,Zk v1),(54,YE v2),(8,AV.bx 8192 0),(11,Zk v3),(4,AV.bx 8194 0),(12,AV.bx 8195 0),(2,AV.bx 8197 0),(9,Zk v4)]) (Zu [(8192,QZ [AV.val (PV.sl (Ty.int IntKind.u8) v5),AV.bx 8193 0,Zk v6]),(8193,QZ [AV.val (PV.sl (Ty.int IntKind.u8) v7),Zk v8]),(8194,QZ [Zk v9,AV.val (PV.v (Value.slice none (0:Nat) (0:Nat)))]),(8195,QZ [Zk v10,AV.own 8196]),(8196,RS.live (Res.arr (Ty.int IntKind.i64).sl v11 false)),(8197,QZ [Zk v12,Zk v13,Zk v14])])
noncomputable def ZfQ (k:Nat) (L1:Zx9):Zx9
 | (v0,v1,v2,v3,v4,v5,v6,v7,v8,v9,v10,v11,v12,v13,v14) => bif decide (v1 < v0) then bif decide (0 ≤ v1 ∧ v1 < Int.ofNat v2.length) then (ZBy k ((v7,v8,()),v3,v2.getD v1.toNat 0,())).bind fun y => bif y.1.2.1 != 0 then some ((((0:Int),[],()),0,y.1.2.1,()),()) else bif decide (v11.length + [y.1.1].length < 2147483648) then L1 (v0,IntKind.i64.wrap (v1 + 1),v2,v3,v4,v5,v6,y.2.1.1,y.2.1.2.1,v9,v10,v11 ++ [y.1.1],v12,v13,v14) else none else none else (ZBz k ((v7,v8,()),())).bind fun y => (Zkc k ((v5,(y.2.1.1,y.2.1.2.1,()),y.1,()),16,(),())).bind fun y => bif y.2.1.2.2.1 != 0 then some ((((0:Int),[],()),0,y.2.1.2.2.1,()),()) else bif decide ((1:Int) < v12) then bif v4 == 1 then bif decide ((0:Int) ≤ 0 ∧ (0:Int) < Int.ofNat v11.length) then bif decide ((0:Nat) < v11.length) then bif decide ((0:Int) ≤ 1 ∧ (1:Int) < Int.ofNat v11.length) then bif decide ((1:Nat) < v11.length) then (ZsK k (v11.getD 0 [],v11.getD 1 [],0,())).bind fun y_1 => bif y_1.1.2.1 != 0 then some ((((0:Int),[],()),0,y_1.1.2.1,()),()) else (ZsM k (y_1.1.1,())).bind fun y_2 => bif y_2.1.2.2.1 != 0 then some ((((0:Int),[],()),0,y_2.1.2.2.1,()),()) else (ZiB k ((v12,v13,v14,()),(v10,[y_2.1.1,y_2.1.2.1],()),())).bind fun y_3 => bif y_3.1 != 0 then some ((((0:Int),[],()),0,y_3.1,()),()) else (Kz k ((y.2.1.2.1.1,y.2.1.2.1.2.1,()),())).bind fun y => some (((v10,[y_2.1.1,y_2.1.2.1],()),IntKind.i64.wrap (Int.tdiv y.1 (8:Int)),0,()),()) else none else none else none else none else bif decide ((0:Int) ≤ 0 ∧ (0:Int) < Int.ofNat v11.length) then bif decide ((0:Nat) < v11.length) then bif decide ((0:Int) ≤ 1 ∧ (1:Int) < Int.ofNat v11.length) then bif decide ((1:Nat) < v11.length) then (ZsK k (v11.getD 0 [],v11.getD 1 [],v4,())).bind fun y_1 => bif y_1.1.2.1 != 0 then some ((((0:Int),[],()),0,y_1.1.2.1,()),()) else (ZsM k (y_1.1.1,())).bind fun y_2 => bif y_2.1.2.2.1 != 0 then some ((((0:Int),[],()),0,y_2.1.2.2.1,()),()) else (ZiB k ((v12,v13,v14,()),(v10,[y_2.1.1,y_2.1.2.1],()),())).bind fun y_3 => bif y_3.1 != 0 then some ((((0:Int),[],()),0,y_3.1,()),()) else (Kz k ((y.2.1.2.1.1,y.2.1.2.1.2.1,()),())).bind fun y => some (((v10,[y_2.1.1,y_2.1.2.1],()),IntKind.i64.wrap (Int.tdiv y.1 (8:Int)),0,()),()) else none else none else none else none else (ZiB k ((v12,v13,v14,()),(v10,v11,()),())).bind fun y_1 => bif y_1.1 != 0 then some ((((0:Int),[],()),0,y_1.1,()),()) else (Kz k ((y.2.1.2.1.1,y.2.1.2.1.2.1,()),())).bind fun y => some (((v10,v11,()),IntKind.i64.wrap (Int.tdiv y.1 (8:Int)),0,()),())
noncomputable def Zya (k:Nat):Zx9:=Zn (fun L1 => ZfQ k L1) k
noncomputable def ZGm (k:Nat) (n:Nat) (v:ZEa) :=
 Zs (ZNa k) ZUj [] [1,1,1,1,1,1,0,1,0] [] (Wg Tryz.f27) (Wn (ZNa k) Tryz.f27 ZrB Zyb [] []) n (ZV3 v)
def Zks (k:Nat) (L1:Zx9):(Int × Int × Int × Unit) × List Int × Unit → Option (((Int × List (List Int) × Unit) × Int × Int × Unit) × Unit)
 | ((a0,a1,a2,()),a3,()) => (Zkk k ((a0,a1,a2,()),())).bind fun y => bif y.1 != 0 then some ((((0:Int),[],()),0,y.1,()),()) else (ZoB k (a3,())).bind fun y => (Zv4 k ((a3,(y.1.1,y.1.2.1,()),0,()),(a0,a1,a2,()),())).bind fun y => bif y.2.1.2.2.1 != 0 then some ((((0:Int),[],()),0,y.2.1.2.2.1,()),()) else (Zv1 k ((a0,a1,a2,()),y.1.1,())).bind fun y_1 => L1 (Int.ofNat (List.length y_1.1),(0:Int),y_1.1,y.1.2.2.1,y.1.1,y.2.1.1,y.2.1.2.2.1,y.2.1.2.1.1,y.2.1.2.1.2.1,(0:Int),y.1.2.1,[],a0,a1,a2)
noncomputable def ZBc (k:Nat):=Zks k (Zya k)
theorem ZNb (k:Nat):∀ n,ZGm k n = Zn (fun L1 => ZfQ k L1) n :=
 Zh (fun v => by kernel_rfl) (fun n v => by
  obtain ⟨v0,v1,v2,v3,v4,v5,v6,v7,v8,v9,v10,v11,v12,v13,v14⟩:=v
  kernel_rfl)
theorem ZV4 (k:Nat) (x:Kd.dens ZrB):ZC (ZNa k) ZUj Tryz.f27 ZrB Zyb x = ZBc k x:=by
 show _ = Zks k (Zya k) x
 rw [show Zya k = ZGm k k from (ZNb k k).symm]
 obtain ⟨⟨a0,⟨a1,⟨a2,⟨⟩⟩⟩⟩,⟨a3,⟨⟩⟩⟩:=x
 kernel_rfl
theorem ZSi (k:Nat):Ctr Tryz.prog k 27 (mk ZrB Zyb ZBc) :=
 ZD (fn:=Tryz.f27) (Zg (Za (Zpr k) (Za (ZGR k) (Za (ZGX k) (Za (ZGZ k) (Za (ZTe k) (Za (ZTf k) (Za (ZTg k) (Za (ZIv k) (Za (ZTi k) (Za (ZTj k) (Za (ZlK k) Zd)))))))))))) (by kernel_rfl) (by kernel_rfl) (ZV4 k)
noncomputable abbrev ZX0:Nat × Callee:=(27,mk ZrB Zyb ZBc)
def ZUv:Nat → Ann:=fun id => bif Nat.beq id 4 then ⟨[5,0,1],[]⟩ else ⟨[],[]⟩
abbrev ZFb:=Int × List Int × List Int
abbrev ZyI:=ZFb → Option (Bool × Unit)
def ZWE:ZFb → St
 | (v0,v1,v2) => St.mk (Zw [(5,Zk v0),(0,YE v1),(1,YE v2)]) (Zu [])
def Zge (k:Nat) (L1:ZyI):ZyI
 | (v0,v1,v2) => bif decide (v0 < Int.ofNat v1.length) then bif decide (0 ≤ v0 ∧ v0 < Int.ofNat v1.length) then bif decide (0 ≤ v0 ∧ v0 < Int.ofNat v2.length) then bif v1.getD v0.toNat 0 != v2.getD v0.toNat 0 then some (false,()) else L1 (IntKind.i64.wrap (v0 + 1),v1,v2) else none else none else some (true,())
def ZyJ (k:Nat):ZyI:=Zn (fun L1 => Zge k L1) k
noncomputable def ZG4 (k:Nat) (n:Nat) (v:ZFb) :=
 Zs (Z8 k) ZUv [] [1,1,0,1,0] [] (Wg Tryz.f117) (Wn (Z8 k) Tryz.f117 ZcP ZF [] []) n (ZWE v)
def ZlL (k:Nat) (L1:ZyI):List Int × List Int × Unit → Option (Bool × Unit)
 | (a0,a1,()) => bif Int.ofNat a0.length != Int.ofNat a1.length then some (false,()) else L1 (0,a0,a1)
def ZBC (k:Nat):=ZlL k (ZyJ k)
theorem ZOP (k:Nat):∀ n,ZG4 k n = Zn (fun L1 => Zge k L1) n :=
 Zh (fun v => by kernel_rfl) (fun n v => by
  obtain ⟨v0,v1,v2⟩:=v
  kernel_rfl)
theorem ZWF (k:Nat) (x:Kd.dens ZcP):ZC (Z8 k) ZUv Tryz.f117 ZcP ZF x = ZBC k x:=by
 show _ = ZlL k (ZyJ k) x
 rw [show ZyJ k = ZG4 k k from (ZOP k k).symm]
 obtain ⟨a0,⟨a1,⟨⟩⟩⟩:=x
 kernel_rfl
theorem ZTk (k:Nat):Ctr Tryz.prog k 117 (mk ZcP ZF ZBC) :=
 ZD (fn:=Tryz.f117) (Zg Zd) (by kernel_rfl) (by kernel_rfl) (ZWF k)
noncomputable abbrev ZYl:Nat × Callee:=(117,mk ZcP ZF ZBC)
abbrev Znz:List Kd:=[.view ZnK,.view ZnK]
noncomputable def ZOb (k:Nat):=Wi k [ZYl]
def ZUk:Nat → Ann:=fun id => bif Nat.beq id 4 then ⟨[5,2,3],[]⟩ else ⟨[],[]⟩
abbrev ZES:=Int × Int × List (List Int) × Int × List (List Int)
abbrev Zyo:=ZES → Option (Bool × Unit)
def ZWb:ZES → St
 | (v0,v1,v2,v3,v4) => St.mk (Zw [(5,Zk v0),(2,AV.bx 8192 0),(3,AV.bx 8193 0)]) (Zu [(8192,QZ [Zk v1,AV.val (PV.sl (Ty.int IntKind.i64).sl v2)]),(8193,QZ [Zk v3,AV.val (PV.sl (Ty.int IntKind.i64).sl v4)])])
def Zf4 (k:Nat) (L1:Zyo):Zyo
 | (v0,v1,v2,v3,v4) => bif decide (v0 < Int.ofNat v2.length) then bif decide (0 ≤ v0 ∧ v0 < Int.ofNat v2.length) then bif decide (0 ≤ v0 ∧ v0 < Int.ofNat v4.length) then (ZBC k (v2.getD v0.toNat [],v4.getD v0.toNat [],())).bind fun y => bif !y.1 then some (false,()) else L1 (IntKind.i64.wrap (v0 + 1),v1,v2,v3,v4) else none else none else some (true,())
def Zyp (k:Nat):Zyo:=Zn (fun L1 => Zf4 k L1) k
noncomputable def ZGG (k:Nat) (n:Nat) (v:ZES) :=
 Zs (ZOb k) ZUk [] [1,1,0,1,0] [] (Wg Tryz.f55) (Wn (ZOb k) Tryz.f55 Znz ZF [] []) n (ZWb v)
def Zlh (k:Nat) (L1:Zyo):(Int × List (List Int) × Unit) × (Int × List (List Int) × Unit) × Unit → Option (Bool × Unit)
 | ((a0,a1,()),(a2,a3,()),()) => bif a0 != a2 then some (false,()) else bif Int.ofNat a1.length != Int.ofNat a3.length then some (false,()) else L1 (0,a0,a1,a2,a3)
def ZvT (k:Nat):=Zlh k (Zyp k)
theorem ZOc (k:Nat):∀ n,ZGG k n = Zn (fun L1 => Zf4 k L1) n :=
 Zh (fun v => by kernel_rfl) (fun n v => by
  obtain ⟨v0,v1,v2,v3,v4⟩:=v
  kernel_rfl)
theorem ZWc (k:Nat) (x:Kd.dens Znz):ZC (ZOb k) ZUk Tryz.f55 Znz ZF x = ZvT k x:=by
 show _ = Zlh k (Zyp k) x
 rw [show Zyp k = ZGG k k from (ZOc k k).symm]
 obtain ⟨⟨a0,⟨a1,⟨⟩⟩⟩,⟨⟨a2,⟨a3,⟨⟩⟩⟩,⟨⟩⟩⟩:=x
 kernel_rfl
theorem ZSY (k:Nat):Ctr Tryz.prog k 55 (mk Znz ZF ZvT) :=
 ZD (fn:=Tryz.f55) (Zg (Za (ZTk k) Zd)) (by kernel_rfl) (by kernel_rfl) (ZWc k)
noncomputable abbrev ZZf:Nat × Callee:=(55,mk Znz ZF ZvT)
end Go.Sh
