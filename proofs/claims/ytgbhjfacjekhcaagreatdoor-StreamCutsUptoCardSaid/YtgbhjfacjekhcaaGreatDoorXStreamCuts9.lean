/-
  What the row needs, part 9.
-/
import Derived.Test.YtgbhjfacjekhcaaGreatDoorXStreamCuts8
import Derived.Test.YtgbhjfacjekhcaaGreatDoorProg
set_option linter.unusedSimpArgs false
set_option linter.unusedVariables false
set_option linter.unusedSectionVars false
namespace Go.Sh
open Go Go.Proofs
def deBruijnT:List Int:=[0,1,56,2,57,49,28,3,61,58,42,50,38,29,17,4,62,47,59,36,45,43,51,22,53,39,33,30,24,18,12,5,63,55,48,27,60,41,37,16,46,35,44,21,52,32,23,11,54,26,40,15,34,20,31,10,25,14,19,9,13,8,7,6]
instance frameGl:Gl:=⟨fun g => bif Nat.beq g 4 then (.u8,deBruijnT) else (.u8,[])⟩
abbrev Znp:Ty:=.pair (.int .i64) (.pair (.int .i64) (.pair (.int .i64) .unit))
abbrev Zm0:Ty:=.pair (.int .i64) (.pair (.sl (.sl (.int .i64))) .unit)
abbrev ZiO:Ty:=.pair (.sl (.int .i64)) (.pair (.int .i64) .unit)
abbrev ZyN:Ty:=.pair (.int .i64) (.pair (.int .i64) (.pair (.int .i64) (.pair (.sl (.int .i64)) (.pair ZiO (.pair (.sl (.int .i64)) (.pair (.int .i64) .unit))))))
abbrev ZOQ:Ty:=.pair (.int .i64) (.pair (.int .i64) (.pair (.int .i64) .unit))
abbrev ZWb:Ty:=.pair (.int .i64) (.pair (.int .i64) (.pair (.sl ZOQ) (.pair (.int .i64) .unit)))
theorem ZiU:Tryz.prog.follows .mixedOrders = true:=by kernel_rfl
abbrev Zl (v:Int):AV:=AV.val (PV.v (Value.int IntKind.i64 v))
abbrev Yh (v:List Int):AV:=AV.val (PV.sl (Ty.int IntKind.i64) v)
abbrev avB (v:Bool):AV:=AV.val (PV.v (Value.bool v))
noncomputable abbrev Q6 (f:Func):Code:=f.body.getD .skip
noncomputable def Wd (k:Nat) (l:List (Nat × Callee)) (live:Nat → List Nat:=fun _ => []):Ctx:={ P:=Tryz.prog,Φ:=phi l,k:=k,live:=live }
def nA:Nat → Ann:=fun _ => ⟨[],[]⟩
noncomputable abbrev ZA (C:Ctx) (A:Nat → Ann) (fn:Func) (pk:List Kd) (rk:Kd) (x:Kd.dens pk):=ZEG C A fn.ntmps (Q6 fn) fn.results.toList pk rk (Wu pk x) (ZKi pk rk)
noncomputable abbrev We (C:Ctx) (fn:Func) (pk:List Kd) (rk:Kd) (a:List AV) (b:List (List Nat)):=Kr C fn.results.toList pk a b rk (ZKi pk rk)
noncomputable def ZXw (fn:Func):Bool:=fn.body.isSome && (!(fn.name == "runtime.NumGoroutine") && X6 Tryz.prog fn.ntmps (Q6 fn))
abbrev QQ (l:List AV):RS:=RS.live (Res.box l)
abbrev rsA (v:List Int) (b:Bool):RS:=RS.live (Res.arr (Ty.int IntKind.i64) v b)
theorem ZB {l:List (Nat × Callee)} {live:Nat → List Nat} {A:Nat → Ann} {f k:Nat} {fn:Func} {pk:List Kd} {rk:Kd} {F:Nat → Kd.dens pk → Option (Ans pk rk)} (hC:∀ f cal,phi l f = some cal → Ctr Tryz.prog k f cal)
  (hf:Tryz.prog.funcs[f]? = some fn) (hq:ZXw fn = true)
  (h:∀ x,ZA (Wd k l live) A fn pk rk x = F k x):Ctr Tryz.prog k f (mk pk rk F) :=
 have hq1:(fn.body.isSome && (!(fn.name == "runtime.NumGoroutine") && X6 Tryz.prog fn.ntmps (Q6 fn))) = true:=hq
 have hq2:=Bool.and_eq_true_iff.1 hq1
 have hq3:=Bool.and_eq_true_iff.1 hq2.2
 have hb:fn.body = some (Q6 fn):=by
  cases e:fn.body with
  | none => rw [e] at hq2; exact absurd hq2.1 (by simp)
  | some c => show some c = some (fn.body.getD .skip); rw [e]; rfl
 ZSh (C:=Wd k l live) hC ZiU hf hb (by simpa using hq3.1) hq3.2 (fun x y e => (h x).trans e)
abbrev ZwM:List Kd:=[.view Znp]
abbrev Zi:Kd:=.view (.int .i64)
noncomputable def Z4 (k:Nat):=Wd k []
def Zcr (k:Nat):(Int × Int × Int × Unit) × Unit → Option (Int × Unit)
 | ((a0,a1,a2,()),()) => bif decide (a0 < 1) then some (2,()) else bif decide ((2:Int) < a0) then some (2,()) else bif decide (a1 < 4) then some (2,()) else bif decide ((24:Int) < a1) then some (2,()) else bif decide (a2 < 1) then some (2,()) else bif decide ((655350:Int) < a2) then some (2,()) else some (0,())
def ZjD (k:Nat):=Zcr k
theorem ZT0 (k:Nat) (x:Kd.dens ZwM):ZA (Z4 k) nA Tryz.f36 ZwM Zi x = ZjD k x:=by
 show _ = Zcr k x
 obtain ⟨⟨a0,⟨a1,⟨a2,⟨⟩⟩⟩⟩,⟨⟩⟩:=x
 kernel_rfl
theorem Zox (k:Nat):Ctr Tryz.prog k 36 (mk ZwM Zi ZjD) :=
 ZB (fn:=Tryz.f36) (Zf Zd) (by kernel_rfl) (by kernel_rfl) (ZT0 k)
noncomputable abbrev ZE9:Nat × Callee:=(36,mk ZwM Zi ZjD)
abbrev YS:List Kd:=[.view Znp,.view Zm0]
noncomputable def ZrZ (k:Nat):=Wd k [ZE9]
def ZFD:Nat → Ann:=fun id => bif Nat.beq id 17 then ⟨[68,69,67,2,63,62,61],[]⟩ else bif Nat.beq id 14 then ⟨[62,63,61,2],[]⟩ else bif Nat.beq id 8 then ⟨[42,43,41,6,3,2],[]⟩ else ⟨[],[]⟩
abbrev ZDW:=Int × Int × List Int × Int × Int × List (List Int) × Int × Int × Int
abbrev Zxs:=ZDW → Option (Int × Unit)
abbrev ZDV:=Int × Int × List (List Int) × Int × Int × Int
abbrev ZmQ:=ZDV → Option (Int × Unit)
abbrev ZDU:=Int × Int × List (List Int) × Int × Int × List (List Int) × Int × Int × Int
abbrev Zxr:=ZDU → Option (Int × Unit)
def ZUS:ZDW → St
 | (v0,v1,v2,v3,v4,v5,v6,v7,v8) => St.mk (Zv [(68,Zl v0),(69,Zl v1),(67,Yh v2),(2,AV.bx 8192 0),(63,Zl v3),(62,Zl v4),(61,AV.val (PV.sl (Ty.int IntKind.i64).sl v5))]) (Zu [(8192,QQ [Zl v6,Zl v7,Zl v8])])
def ZcX (k:Nat) (L2:ZmQ) (L3:Zxs):Zxs
 | (v0,v1,v2,v3,v4,v5,v6,v7,v8) => bif decide (v1 < v0) then bif decide (0 ≤ v1 ∧ v1 < Int.ofNat v2.length) then bif decide (0 ≤ IntKind.i64.wrap (v7 - 1)) then bif Int.fdiv (v2.getD v1.toNat 0) ((2:Int) ^ min (IntKind.i64.wrap (v7 - 1)).toNat 64) != (0:Int) then bif Int.fdiv (v2.getD v1.toNat 0) ((2:Int) ^ min (IntKind.i64.wrap (v7 - 1)).toNat 64) != (-1:Int) then some (12,()) else L3 (v0,IntKind.i64.wrap (v1 + 1),v2,v3,v4,v5,v6,v7,v8) else L3 (v0,IntKind.i64.wrap (v1 + 1),v2,v3,v4,v5,v6,v7,v8) else none else none else L2 (v4,IntKind.i64.wrap (v3 + 1),v5,v6,v7,v8)
def Zr1 (k:Nat) (L2:ZmQ):Zxs:=Zn (fun L3 => ZcX k L2 L3) k
noncomputable def Zpg (k:Nat) (n2:Nat) (n:Nat) (v:ZDW):Option (Int × Unit) :=
 Zs (ZrZ k) ZFD [] [1,1,1,1,1,0,1,0,0,1,1,0,0,1,1,0] [n2] (Q6 Tryz.f64) (We (ZrZ k) Tryz.f64 YS Zi [] []) n (ZUS v)
def ZUR:ZDV → St
 | (v0,v1,v2,v3,v4,v5) => St.mk (Zv [(62,Zl v0),(63,Zl v1),(61,AV.val (PV.sl (Ty.int IntKind.i64).sl v2)),(2,AV.bx 8192 0)]) (Zu [(8192,QQ [Zl v3,Zl v4,Zl v5])])
def ZcW (k:Nat) (L3:Zxs) (L2:ZmQ):ZmQ
 | (v0,v1,v2,v3,v4,v5) => bif decide (v1 < v0) then bif decide (0 ≤ v1 ∧ v1 < Int.ofNat v2.length) then L3 (Int.ofNat (List.length (v2.getD v1.toNat [])),(0:Int),v2.getD v1.toNat [],v1,v0,v2,v3,v4,v5) else none else some (0,())
def Zfo (k:Nat):ZmQ:=Zn (fun L2 => ZcW k (Zr1 k L2) L2) k
noncomputable def ZkK (k:Nat) (n:Nat) (v:ZDV) :=
 Zs (ZrZ k) ZFD [] [1,1,1,1,1,0,1,0] [] (Q6 Tryz.f64) (We (ZrZ k) Tryz.f64 YS Zi [] []) n (ZUR v)
def ZUQ:ZDU → St
 | (v0,v1,v2,v3,v4,v5,v6,v7,v8) => St.mk (Zv [(42,Zl v0),(43,Zl v1),(41,AV.val (PV.sl (Ty.int IntKind.i64).sl v2)),(6,Zl v3),(3,AV.bx 8192 0),(2,AV.bx 8193 0)]) (Zu [(8192,QQ [Zl v4,AV.val (PV.sl (Ty.int IntKind.i64).sl v5)]),(8193,QQ [Zl v6,Zl v7,Zl v8])])
def ZcV (k:Nat) (L2:ZmQ) (L1:Zxr):Zxr
 | (v0,v1,v2,v3,v4,v5,v6,v7,v8) => bif decide (v1 < v0) then bif decide (0 ≤ v1 ∧ v1 < Int.ofNat v2.length) then bif Int.ofNat (List.length (v2.getD v1.toNat [])) != v3 then some (1,()) else bif decide (v3 < 1) then some (1,()) else bif decide ((512:Int) < v3) then some (1,()) else L1 (v0,IntKind.i64.wrap (v1 + 1),v2,v3,v4,v5,v6,v7,v8) else none else L2 (Int.ofNat v5.length,(0:Int),v5,v6,v7,v8)
def Zr0 (k:Nat):Zxr:=Zn (fun L1 => ZcV k (Zfo k) L1) k
noncomputable def ZFE (k:Nat) (n:Nat) (v:ZDU) :=
 Zs (ZrZ k) ZFD [] [1,1,1,1,0,1,0] [] (Q6 Tryz.f64) (We (ZrZ k) Tryz.f64 YS Zi [] []) n (ZUQ v)
def ZkL (k:Nat) (L1:Zxr):(Int × Int × Int × Unit) × (Int × List (List Int) × Unit) × Unit → Option (Int × Unit)
 | ((a0,a1,a2,()),(a3,a4,()),()) => (ZjD k ((a0,a1,a2,()),())).bind fun y => bif y.1 != 0 then some (y.1,()) else bif decide (a3 < 0) then some (1,()) else bif decide ((2147483647:Int) < a3) then some (1,()) else bif Int.ofNat a4.length != a0 then some (1,()) else bif decide ((0:Int) ≤ 0 ∧ (0:Int) < Int.ofNat a4.length) then L1 (Int.ofNat a4.length,(0:Int),a4,Int.ofNat (List.length (a4.getD 0 [])),a3,a4,a0,a1,a2) else none
def ZhY (k:Nat):=ZkL k (Zr0 k)
theorem ZNc (k:Nat) (n2:Nat):∀ n,Zpg k n2 n = Zn (fun L3 => ZcX k (ZkK k n2) L3) n :=
 Zh (fun v => by kernel_rfl) (fun n v => by
  show Zpg k n2 (n + 1) v = ZcX k (ZkK k n2) (Zpg k n2 n) v
  obtain ⟨v0,v1,v2,v3,v4,v5,v6,v7,v8⟩:=v
  kernel_rfl)
theorem ZNb (k:Nat):∀ n,ZkK k n = Zn (fun L2 => ZcW k (Zr1 k L2) L2) n :=
 Zh (fun v => by kernel_rfl) (fun n v => by
  rw [show (Zr1 k (ZkK k n)) = Zpg k n k from (ZNc k n k).symm]
  obtain ⟨v0,v1,v2,v3,v4,v5⟩:=v
  kernel_rfl)
theorem ZNa (k:Nat):∀ n,ZFE k n = Zn (fun L1 => ZcV k (Zfo k) L1) n :=
 Zh (fun v => by kernel_rfl) (fun n v => by
  rw [show (Zfo k) = ZkK k k from (ZNb k k).symm]
  obtain ⟨v0,v1,v2,v3,v4,v5,v6,v7,v8⟩:=v
  kernel_rfl)
theorem ZUT (k:Nat) (x:Kd.dens YS):ZA (ZrZ k) ZFD Tryz.f64 YS Zi x = ZhY k x:=by
 show _ = ZkL k (Zr0 k) x
 rw [show Zr0 k = ZFE k k from (ZNa k k).symm]
 obtain ⟨⟨a0,⟨a1,⟨a2,⟨⟩⟩⟩⟩,⟨⟨a3,⟨a4,⟨⟩⟩⟩,⟨⟩⟩⟩:=x
 kernel_rfl
theorem ZFF (k:Nat):Ctr Tryz.prog k 64 (mk YS Zi ZhY) :=
 ZB (fn:=Tryz.f64) (Zf (Za (Zox k) Zd)) (by kernel_rfl) (by kernel_rfl) (ZUT k)
noncomputable abbrev ZSX:Nat × Callee:=(64,mk YS Zi ZhY)
abbrev Zcb:List Kd:=[.view (.sl (.int .i64)),.view (.sl (.int .i64))]
abbrev Zfv:Kd:=.tup [.view (.sl (.cx .f64)),.view (.int .i64)]
def ZS8:Nat → Ann:=fun id => bif Nat.beq id 7 then ⟨[21,22,20,1,6],[.slot 6 ((Ty.cx FloatKind.f64))]⟩ else ⟨[],[]⟩
abbrev ZD3:=Int × Int × List Int × List Int × List (Nat × Nat)
abbrev ZxL:=ZD3 → Option ((List (Nat × Nat) × Int × Unit) × Unit)
def ZVj:ZD3 → St
 | (v0,v1,v2,v3,v4) => St.mk (Zv [(21,Zl v0),(22,Zl v1),(20,Yh v2),(1,Yh v3),(6,AV.own 8192)]) (Zu [(8192,RS.live (Res.arr (Ty.cx FloatKind.f64) v4 false))])
def K1 (k:Nat) (L1:ZxL):ZxL
 | (v0,v1,v2,v3,v4) => bif decide (v1 < v0) then bif decide (0 ≤ v1 ∧ v1 < Int.ofNat v2.length) then bif decide (0 ≤ v1 ∧ v1 < Int.ofNat v3.length) then bif decide (v2.getD v1.toNat 0 < (-16777216:Int)) then some (([],12,()),()) else bif decide ((16777216:Int) < v2.getD v1.toNat 0) then some (([],12,()),()) else bif decide (v3.getD v1.toNat 0 < (-16777216:Int)) then some (([],12,()),()) else bif decide ((16777216:Int) < v3.getD v1.toNat 0) then some (([],12,()),()) else bif decide (v4.length + [(FloatKind.f64.nearest (v2.getD v1.toNat 0),FloatKind.f64.nearest (v3.getD v1.toNat 0))].length < 2147483648) then L1 (v0,IntKind.i64.wrap (v1 + 1),v2,v3,v4 ++ [(FloatKind.f64.nearest (v2.getD v1.toNat 0),FloatKind.f64.nearest (v3.getD v1.toNat 0))]) else none else none else none else some ((v4,0,()),())
def Zsa (k:Nat):ZxL:=Zn (fun L1 => K1 k L1) k
noncomputable def ZFT (k:Nat) (n:Nat) (v:ZD3) :=
 Zs (Z4 k) ZS8 [] [1,1,1,0,1,0] [] (Q6 Tryz.f129) (We (Z4 k) Tryz.f129 Zcb Zfv [] []) n (ZVj v)
def ZcZ (k:Nat) (L1:ZxL):List Int × List Int × Unit → Option ((List (Nat × Nat) × Int × Unit) × Unit)
 | (a0,a1,()) => bif Int.ofNat a0.length != Int.ofNat a1.length then some (([],1,()),()) else bif decide ((8192:Int) < Int.ofNat a0.length) then some (([],14,()),()) else L1 (Int.ofNat a0.length,(0:Int),a0,a1,[])
def Zr9 (k:Nat):=ZcZ k (Zsa k)
theorem ZNy (k:Nat):∀ n,ZFT k n = Zn (fun L1 => K1 k L1) n :=
 Zh (fun v => by kernel_rfl) (fun n v => by
  obtain ⟨v0,v1,v2,v3,v4⟩:=v
  kernel_rfl)
theorem ZVk (k:Nat) (x:Kd.dens Zcb):ZA (Z4 k) ZS8 Tryz.f129 Zcb Zfv x = Zr9 k x:=by
 show _ = ZcZ k (Zsa k) x
 rw [show Zsa k = ZFT k k from (ZNy k k).symm]
 obtain ⟨a0,⟨a1,⟨⟩⟩⟩:=x
 kernel_rfl
theorem ZFU (k:Nat):Ctr Tryz.prog k 129 (mk Zcb Zfv Zr9) :=
 ZB (fn:=Tryz.f129) (Zf Zd) (by kernel_rfl) (by kernel_rfl) (ZVk k)
noncomputable abbrev ZS9:Nat × Callee:=(129,mk Zcb Zfv Zr9)
abbrev Zz:List Kd:=[.view (.int .i64)]
abbrev ZE:Kd:=.view .bool
def ZAT (k:Nat):Int × Unit → Option (Bool × Unit)
 | (a0,()) => bif a0 == 0 then some (true,()) else bif decide (8 ≤ a0) then some (decide (a0 ≤ 10),()) else some (false,())
def Zvj (k:Nat):=ZAT k
theorem ZVS (k:Nat) (x:Kd.dens Zz):ZA (Z4 k) nA Tryz.f128 Zz ZE x = Zvj k x:=by
 show _ = ZAT k x
 obtain ⟨a0,⟨⟩⟩:=x
 kernel_rfl
theorem ZGd (k:Nat):Ctr Tryz.prog k 128 (mk Zz ZE Zvj) :=
 ZB (fn:=Tryz.f128) (Zf Zd) (by kernel_rfl) (by kernel_rfl) (ZVS k)
noncomputable abbrev ZTp:Nat × Callee:=(128,mk Zz ZE Zvj)
abbrev Qu:List Kd:=[.view (.fl .f64)]
abbrev QX:Kd:=.view (.fl .f64)
def ZgT (k:Nat):Nat × Unit → Option (Nat × Unit)
 | (a0,()) => some ((IntKind.u64.wrap (Int.ofNat (BitVec.ofInt 64 (Int.ofNat a0) &&& ~~~BitVec.ofInt 64 (9223372036854775808:Int)).toNat)).toNat,())
def ZeY (k:Nat):=ZgT k
theorem ZQo (k:Nat) (x:Kd.dens Qu):ZA (Z4 k) nA Tryz.f225 Qu QX x = ZeY k x:=by
 show _ = ZgT k x
 obtain ⟨a0,⟨⟩⟩:=x
 kernel_rfl
theorem Zql (k:Nat):Ctr Tryz.prog k 225 (mk Qu QX ZeY) :=
 ZB (fn:=Tryz.f225) (Zf Zd) (by kernel_rfl) (by kernel_rfl) (ZQo k)
noncomputable abbrev ZCN:Nat × Callee:=(225,mk Qu QX ZeY)
abbrev Zo3:List Kd:=[.view (.fl .f64),.view (.fl .f64)]
def ZuF (k:Nat):Nat × Nat × Unit → Option (Nat × Unit)
 | (a0,a1,()) => some ((IntKind.u64.wrap (Int.ofNat (BitVec.ofInt 64 (IntKind.u64.wrap (Int.ofNat (BitVec.ofInt 64 (Int.ofNat a0) &&& ~~~BitVec.ofInt 64 (9223372036854775808:Int)).toNat)) ||| BitVec.ofInt 64 (IntKind.u64.wrap (Int.ofNat (BitVec.ofInt 64 (Int.ofNat a1) &&& BitVec.ofInt 64 (9223372036854775808:Int)).toNat))).toNat)).toNat,())
def ZqO (k:Nat):=ZuF k
theorem ZQ2 (k:Nat) (x:Kd.dens Zo3):ZA (Z4 k) nA Tryz.f269 Zo3 QX x = ZqO k x:=by
 show _ = ZuF k x
 obtain ⟨a0,⟨a1,⟨⟩⟩⟩:=x
 kernel_rfl
theorem ZAj (k:Nat):Ctr Tryz.prog k 269 (mk Zo3 QX ZqO) :=
 ZB (fn:=Tryz.f269) (Zf Zd) (by kernel_rfl) (by kernel_rfl) (ZQ2 k)
noncomputable abbrev ZLV:Nat × Callee:=(269,mk Zo3 QX ZqO)
noncomputable def ZUu (k:Nat):=Wd k [ZCN,ZLV]
def Zuz (k:Nat):Nat × Unit → Option (Nat × Unit)
 | (a0,()) => (ZeY k (a0,())).bind fun y => bif FloatKind.f64.format.order y.1 (4607182418800017408:Nat) == some Ordering.lt then (ZqO k (0,a0,())).bind fun y => some (y.1,()) else bif decide (IntKind.u64.wrap (IntKind.u64.wrap (Int.ofNat (BitVec.ofInt 64 ((Int.ofNat a0).fdiv (4503599627370496:Int)) &&& BitVec.ofInt 64 (2047:Int)).toNat) - 1023) < (52:Int)) then bif decide (0 ≤ IntKind.u64.wrap ((52:Int) - IntKind.u64.wrap (IntKind.u64.wrap (Int.ofNat (BitVec.ofInt 64 ((Int.ofNat a0).fdiv (4503599627370496:Int)) &&& BitVec.ofInt 64 (2047:Int)).toNat) - 1023))) then some ((IntKind.u64.wrap (Int.ofNat (BitVec.ofInt 64 (Int.ofNat a0) &&& ~~~BitVec.ofInt 64 (IntKind.u64.wrap (IntKind.u64.wrap ((1:Int) * (2:Int) ^ min (IntKind.u64.wrap ((52:Int) - IntKind.u64.wrap (IntKind.u64.wrap (Int.ofNat (BitVec.ofInt 64 ((Int.ofNat a0).fdiv (4503599627370496:Int)) &&& BitVec.ofInt 64 (2047:Int)).toNat) - 1023))).toNat 64) - (1:Int)))).toNat)).toNat,()) else none else some ((Int.ofNat a0).toNat,())
def ZC3 (k:Nat):=Zuz k
theorem ZQR (k:Nat) (x:Kd.dens Qu):ZA (ZUu k) nA Tryz.f259 Qu QX x = ZC3 k x:=by
 show _ = Zuz k x
 obtain ⟨a0,⟨⟩⟩:=x
 kernel_rfl
theorem ZLG (k:Nat):Ctr Tryz.prog k 259 (mk Qu QX ZC3) :=
 ZB (fn:=Tryz.f259) (Zf (Za (Zql k) (Za (ZAj k) Zd))) (by kernel_rfl) (by kernel_rfl) (ZQR k)
noncomputable abbrev ZUv:Nat × Callee:=(259,mk Qu QX ZC3)
noncomputable def ZT7 (k:Nat):=Wd k [ZUv]
def ZgR (k:Nat):Nat × Unit → Option (Nat × Unit)
 | (a0,()) => (WK Ieee.Toward.zero a0).bind fun y => some (y,())
def ZeX (k:Nat):=ZgR k
theorem ZQm (k:Nat) (x:Kd.dens Qu):ZA (ZT7 k) nA Tryz.f223 Qu QX x = ZeX k x:=by
 show _ = ZgR k x
 obtain ⟨a0,⟨⟩⟩:=x
 kernel_rfl
theorem ZzS (k:Nat):Ctr Tryz.prog k 223 (mk Qu QX ZeX) :=
 ZB (fn:=Tryz.f223) (Zf (Za (ZLG k) Zd)) (by kernel_rfl) (by kernel_rfl) (ZQm k)
noncomputable abbrev ZK8:Nat × Callee:=(223,mk Qu QX ZeX)
abbrev ZoN:List Kd:=[.view (.fl .f64),.view (.int .i64)]
noncomputable def ZT8 (k:Nat):=Wd k [ZCN]
def ZgS (k:Nat):Nat × Int × Unit → Option (Bool × Unit)
 | (a0,a1,()) => bif a1 == 0 then (ZeY k (a0,())).bind fun y => some (FloatKind.f64.format.order y.1 (9218868437227405311:Nat) == some Ordering.gt,()) else bif decide (a1 < 0) then some (FloatKind.f64.format.order (a0 ^^^ (9223372036854775808:Nat)) (9218868437227405311:Nat) == some Ordering.gt,()) else some (FloatKind.f64.format.order a0 (9218868437227405311:Nat) == some Ordering.gt,())
def Zmu (k:Nat):=ZgS k
theorem ZQn (k:Nat) (x:Kd.dens ZoN):ZA (ZT8 k) nA Tryz.f224 ZoN ZE x = Zmu k x:=by
 show _ = ZgS k x
 obtain ⟨a0,⟨a1,⟨⟩⟩⟩:=x
 kernel_rfl
theorem ZzU (k:Nat):Ctr Tryz.prog k 224 (mk ZoN ZE Zmu) :=
 ZB (fn:=Tryz.f224) (Zf (Za (Zql k) Zd)) (by kernel_rfl) (by kernel_rfl) (ZQn k)
noncomputable abbrev ZK9:Nat × Callee:=(224,mk ZoN ZE Zmu)
abbrev WR:List Kd:=[.view (.sl (.cx .f64))]
noncomputable def Ziq (k:Nat):=Wd k [ZK8,ZK9,ZCN]
def Zwt:Nat → Ann:=fun id => bif Nat.beq id 14 then ⟨[37,38,36],[]⟩ else bif Nat.beq id 7 then ⟨[23,22,14,13,12,0],[]⟩ else bif Nat.beq id 4 then ⟨[13,14,12,0],[]⟩ else ⟨[],[]⟩
abbrev Zwv:=Int × Nat × Nat × Int × Int × List (Nat × Nat) × List (Nat × Nat)
abbrev Zoe:=Zwv → Option (Int × Unit)
abbrev Zww:=Int × Int × List (Nat × Nat)
abbrev Zof:=Zww → Option (Int × Unit)
abbrev Zwu:=Int × Int × List (Nat × Nat) × List (Nat × Nat)
abbrev Zgl:=Zwu → Option (Int × Unit)
def ZPy:Zwv → St
 | (v0,v1,v2,v3,v4,v5,v6) => St.mk (Zv [(23,Zl v0),(22,AV.agg [AV.val (PV.v (Value.float FloatKind.f64 v1)),AV.val (PV.v (Value.float FloatKind.f64 v2))]),(14,Zl v3),(13,Zl v4),(12,AV.val (PV.sl (Ty.cx FloatKind.f64) v5)),(0,AV.val (PV.sl (Ty.cx FloatKind.f64) v6))]) (Zu [])
def Kf (k:Nat) (L1:Zgl) (L2:Zoe):Zoe
 | (v0,v1,v2,v3,v4,v5,v6) => bif decide (v0 < 2) then bif decide (0 ≤ v0 ∧ v0 < 2) then (ZeX k ([v1,v2].getD v0.toNat 0,())).bind fun y => bif FloatKind.f64.format.order y.1 ([v1,v2].getD v0.toNat 0) != some Ordering.eq then some (2,()) else (Zmu k ([v1,v2].getD v0.toNat 0,0,())).bind fun y => bif y.1 then some (2,()) else L2 (IntKind.i64.wrap (v0 + 1),v1,v2,v3,v4,v5,v6) else none else L1 (v4,IntKind.i64.wrap (v3 + 1),v5,v6)
def Zjs (k:Nat) (L1:Zgl):Zoe:=Zn (fun L2 => Kf k L1 L2) k
noncomputable def Zju (k:Nat) (n1:Nat) (n:Nat) (v:Zwv):Option (Int × Unit) :=
 Zs (Ziq k) Zwt [] [1,1,0,1,0,0,1,1,0,0,1,1,0] [n1] (Q6 Tryz.f174) (We (Ziq k) Tryz.f174 WR Zi [] []) n (ZPy v)
def ZPz:Zww → St
 | (v0,v1,v2) => St.mk (Zv [(37,Zl v0),(38,Zl v1),(36,AV.val (PV.sl (Ty.cx FloatKind.f64) v2))]) (Zu [])
def Zcm (k:Nat) (L3:Zof):Zof
 | (v0,v1,v2) => bif decide (v1 < v0) then bif decide (0 ≤ v1 ∧ v1 < Int.ofNat v2.length) then (ZeY k ((v2.getD v1.toNat ((0:Nat),(0:Nat))).1,())).bind fun y => (ZeY k ((v2.getD v1.toNat ((0:Nat),(0:Nat))).2,())).bind fun y_1 => (ZBg FloatKind.f64 y.1 y_1.1).bind fun y => bif FloatKind.f64.format.order y (4715268809856909312:Nat) == some Ordering.gt then some (12,()) else L3 (v0,IntKind.i64.wrap (v1 + 1),v2) else none else some (0,())
def Zjt (k:Nat):Zof:=Zn (fun L3 => Zcm k L3) k
noncomputable def Zzt (k:Nat) (n:Nat) (v:Zww) :=
 Zs (Ziq k) Zwt [] [1,1,1,0,1,0] [] (Q6 Tryz.f174) (We (Ziq k) Tryz.f174 WR Zi [] []) n (ZPz v)
def ZPx:Zwu → St
 | (v0,v1,v2,v3) => St.mk (Zv [(13,Zl v0),(14,Zl v1),(12,AV.val (PV.sl (Ty.cx FloatKind.f64) v2)),(0,AV.val (PV.sl (Ty.cx FloatKind.f64) v3))]) (Zu [])
def Zcl (k:Nat) (L2:Zoe) (L3:Zof) (L1:Zgl):Zgl
 | (v0,v1,v2,v3) => bif decide (v1 < v0) then bif decide (0 ≤ v1 ∧ v1 < Int.ofNat v2.length) then L2 (0,(v2.getD v1.toNat ((0:Nat),(0:Nat))).1,(v2.getD v1.toNat ((0:Nat),(0:Nat))).2,v1,v0,v2,v3) else none else L3 (Int.ofNat v3.length,(0:Int),v3)
def Zog (k:Nat):Zgl:=Zn (fun L1 => Zcl k (Zjs k L1) (Zjt k) L1) k
noncomputable def ZeP (k:Nat) (n:Nat) (v:Zwu) :=
 Zs (Ziq k) Zwt [] [1,1,0,1,0] [] (Q6 Tryz.f174) (We (Ziq k) Tryz.f174 WR Zi [] []) n (ZPx v)
def Zgm (k:Nat) (L1:Zgl):List (Nat × Nat) × Unit → Option (Int × Unit)
 | (a0,()) => bif decide ((8192:Int) < Int.ofNat a0.length) then some (14,()) else L1 (Int.ofNat a0.length,(0:Int),a0,a0)
def Zp8 (k:Nat):=Zgm k (Zog k)
theorem ZHb (k:Nat) (n1:Nat):∀ n,Zju k n1 n = Zn (fun L2 => Kf k (ZeP k n1) L2) n :=
 Zh (fun v => by kernel_rfl) (fun n v => by
  show Zju k n1 (n + 1) v = Kf k (ZeP k n1) (Zju k n1 n) v
  obtain ⟨v0,v1,v2,v3,v4,v5,v6⟩:=v
  kernel_rfl)
theorem ZHc (k:Nat):∀ n,Zzt k n = Zn (fun L3 => Zcm k L3) n :=
 Zh (fun v => by kernel_rfl) (fun n v => by
  obtain ⟨v0,v1,v2⟩:=v
  kernel_rfl)
theorem ZHa (k:Nat):∀ n,ZeP k n = Zn (fun L1 => Zcl k (Zjs k L1) (Zjt k) L1) n :=
 Zh (fun v => by kernel_rfl) (fun n v => by
  rw [show (Zjs k (ZeP k n)) = Zju k n k from (ZHb k n k).symm,show (Zjt k) = Zzt k k from (ZHc k k).symm]
  obtain ⟨v0,v1,v2,v3⟩:=v
  kernel_rfl)
theorem ZPA (k:Nat) (x:Kd.dens WR):ZA (Ziq k) Zwt Tryz.f174 WR Zi x = Zp8 k x:=by
 show _ = Zgm k (Zog k) x
 rw [show Zog k = ZeP k k from (ZHa k k).symm]
 obtain ⟨a0,⟨⟩⟩:=x
 kernel_rfl
theorem ZKp (k:Nat):Ctr Tryz.prog k 174 (mk WR Zi Zp8) :=
 ZB (fn:=Tryz.f174) (Zf (Za (ZzS k) (Za (ZzU k) (Za (Zql k) Zd)))) (by kernel_rfl) (by kernel_rfl) (ZPA k)
noncomputable abbrev ZTK:Nat × Callee:=(174,mk WR Zi Zp8)
abbrev Zoh:List Kd:=[.view (.cx .f64)]
def Zgn (k:Nat):(Nat × Nat) × Unit → Option (Nat × Unit)
 | (a0,()) => (cMulBits a0.1 a0.2 (4607182418800017408:Nat) (4607182418800017408:Nat)).bind fun y => some (y.1,())
def Zir (k:Nat):=Zgn k
theorem ZPB (k:Nat) (x:Kd.dens Zoh):ZA (Z4 k) nA Tryz.f175 Zoh QX x = Zir k x:=by
 show _ = Zgn k x
 obtain ⟨a0,⟨⟩⟩:=x
 kernel_rfl
theorem ZKq (k:Nat):Ctr Tryz.prog k 175 (mk Zoh QX Zir) :=
 ZB (fn:=Tryz.f175) (Zf Zd) (by kernel_rfl) (by kernel_rfl) (ZPB k)
noncomputable abbrev ZTL:Nat × Callee:=(175,mk Zoh QX Zir)
def ZuA (k:Nat):Nat × Unit → Option (Bool × Unit)
 | (a0,()) => some (FloatKind.f64.format.order a0 a0 != some Ordering.eq,())
def Zw4 (k:Nat):=ZuA k
theorem ZQS (k:Nat) (x:Kd.dens Qu):ZA (Z4 k) nA Tryz.f262 Qu ZE x = Zw4 k x:=by
 show _ = ZuA k x
 obtain ⟨a0,⟨⟩⟩:=x
 kernel_rfl
theorem ZLH (k:Nat):Ctr Tryz.prog k 262 (mk Qu ZE Zw4) :=
 ZB (fn:=Tryz.f262) (Zf Zd) (by kernel_rfl) (by kernel_rfl) (ZQS k)
noncomputable abbrev ZUw:Nat × Callee:=(262,mk Qu ZE Zw4)
abbrev Zw5:Kd:=.tup [.view (.fl .f64),.view (.fl .f64)]
noncomputable def ZUx (k:Nat):=Wd k [ZK8,ZLV]
def ZuB (k:Nat):Nat × Unit → Option ((Nat × Nat × Unit) × Unit)
 | (a0,()) => (ZeX k (a0,())).bind fun y => (floatBits BinOp.sub FloatKind.f64 a0 y.1).bind fun y_1 => (ZqO k (y_1,a0,())).bind fun y_2 => some ((y.1,y_2.1,()),())
def ZqH (k:Nat):=ZuB k
theorem ZQT (k:Nat) (x:Kd.dens Qu):ZA (ZUx k) nA Tryz.f263 Qu Zw5 x = ZqH k x:=by
 show _ = ZuB k x
 obtain ⟨a0,⟨⟩⟩:=x
 kernel_rfl
theorem ZLI (k:Nat):Ctr Tryz.prog k 263 (mk Qu Zw5 ZqH) :=
 ZB (fn:=Tryz.f263) (Zf (Za (ZzS k) (Za (ZAj k) Zd))) (by kernel_rfl) (by kernel_rfl) (ZQT k)
noncomputable abbrev ZUy:Nat × Callee:=(263,mk Qu Zw5 ZqH)
noncomputable def ZT9 (k:Nat):=Wd k [ZK9,ZUw,ZUy]
def Zul (k:Nat):Nat × Unit → Option (Nat × Unit)
 | (a0,()) => bif FloatKind.f64.format.order a0 (0:Nat) == some Ordering.eq then some (a0,()) else (Zw4 k (a0,())).bind fun y => bif y.1 then some (a0,()) else (Zmu k (a0,0,())).bind fun y => bif y.1 then some (a0,()) else bif FloatKind.f64.format.order a0 (0:Nat) == some Ordering.lt then (ZqH k (a0 ^^^ (9223372036854775808:Nat),())).bind fun y => bif FloatKind.f64.format.order y.1.2.1 (0:Nat) != some Ordering.eq then (floatBits BinOp.add FloatKind.f64 y.1.1 (4607182418800017408:Nat)).bind fun y => some (y ^^^ (9223372036854775808:Nat),()) else some (y.1.1 ^^^ (9223372036854775808:Nat),()) else (ZqH k (a0,())).bind fun y => some (y.1.1,())
def ZCO (k:Nat):=Zul k
theorem ZQp (k:Nat) (x:Kd.dens Qu):ZA (ZT9 k) nA Tryz.f227 Qu QX x = ZCO k x:=by
 show _ = Zul k x
 obtain ⟨a0,⟨⟩⟩:=x
 kernel_rfl
theorem ZLa (k:Nat):Ctr Tryz.prog k 227 (mk Qu QX ZCO) :=
 ZB (fn:=Tryz.f227) (Zf (Za (ZzU k) (Za (ZLH k) (Za (ZLI k) Zd)))) (by kernel_rfl) (by kernel_rfl) (ZQp k)
noncomputable abbrev ZUa:Nat × Callee:=(227,mk Qu QX ZCO)
noncomputable def ZTM (k:Nat):=Wd k [ZUa]
def Zgo (k:Nat):Nat × Unit → Option (Nat × Unit)
 | (a0,()) => (WK Ieee.Toward.down a0).bind fun y => some (y,())
def Zqa (k:Nat):=Zgo k
theorem ZPC (k:Nat) (x:Kd.dens Qu):ZA (ZTM k) nA Tryz.f176 Qu QX x = Zqa k x:=by
 show _ = Zgo k x
 obtain ⟨a0,⟨⟩⟩:=x
 kernel_rfl
theorem ZKr (k:Nat):Ctr Tryz.prog k 176 (mk Qu QX Zqa) :=
 ZB (fn:=Tryz.f176) (Zf (Za (ZLa k) Zd)) (by kernel_rfl) (by kernel_rfl) (ZPC k)
noncomputable abbrev ZTN:Nat × Callee:=(176,mk Qu QX Zqa)
abbrev Zsc:List Kd:=[.view (.sl (.cx .f64)),.view (.int .i64)]
abbrev ZiH:Kd:=.tup [.view (.sl (.int .i64)),.view (.sl (.int .i64)),.view (.int .i64)]
noncomputable def ZND (k:Nat):=Wd k [ZTp,ZTK,ZTL,ZTN]
def ZTb:Nat → Ann:=fun id => bif Nat.beq id 8 then ⟨[23,24,22,1,8,9],[.slot 8 ((Ty.int IntKind.i64)),.slot 9 ((Ty.int IntKind.i64))]⟩ else ⟨[],[]⟩
abbrev ZD6:=Int × Int × List (Nat × Nat) × Int × List Int × List Int
abbrev ZxN:=ZD6 → Option ((List Int × List Int × Int × Unit) × Unit)
def ZVn:ZD6 → St
 | (v0,v1,v2,v3,v4,v5) => St.mk (Zv [(23,Zl v0),(24,Zl v1),(22,AV.val (PV.sl (Ty.cx FloatKind.f64) v2)),(1,Zl v3),(8,AV.own 8192),(9,AV.own 8193)]) (Zu [(8192,rsA v4 false),(8193,rsA v5 false)])
def Zfw (k:Nat) (L1:ZxN):ZxN
 | (v0,v1,v2,v3,v4,v5) => bif decide (v1 < v0) then bif decide (0 ≤ v1 ∧ v1 < Int.ofNat v2.length) then bif v3 == 8 then (Zir k (((v2.getD v1.toNat ((0:Nat),(0:Nat))).1,(v2.getD v1.toNat ((0:Nat),(0:Nat))).2),())).bind fun y => (floatToIntVal FloatKind.f64 (v2.getD v1.toNat ((0:Nat),(0:Nat))).1 IntKind.i64).bind fun y_1 => bif decide (v4.length + [y_1].length < 2147483648) then (floatToIntVal FloatKind.f64 y.1 IntKind.i64).bind fun y => bif decide (v5.length + [y].length < 2147483648) then L1 (v0,IntKind.i64.wrap (v1 + 1),v2,v3,v4 ++ [y_1],v5 ++ [y]) else none else none else bif v3 == 9 then (Zir k (((v2.getD v1.toNat ((0:Nat),(0:Nat))).1,(v2.getD v1.toNat ((0:Nat),(0:Nat))).2),())).bind fun y => (floatToIntVal FloatKind.f64 y.1 IntKind.i64).bind fun y => bif decide (v4.length + [y].length < 2147483648) then (floatToIntVal FloatKind.f64 (v2.getD v1.toNat ((0:Nat),(0:Nat))).2 IntKind.i64).bind fun y_1 => bif decide (v5.length + [y_1].length < 2147483648) then L1 (v0,IntKind.i64.wrap (v1 + 1),v2,v3,v4 ++ [y],v5 ++ [y_1]) else none else none else bif v3 == 10 then (floatBits BinOp.add FloatKind.f64 (v2.getD v1.toNat ((0:Nat),(0:Nat))).1 (v2.getD v1.toNat ((0:Nat),(0:Nat))).2).bind fun y => (floatBits BinOp.quo FloatKind.f64 y (4611686018427387904:Nat)).bind fun y => (Zqa k (y,())).bind fun y => (Zir k (((v2.getD v1.toNat ((0:Nat),(0:Nat))).1,(v2.getD v1.toNat ((0:Nat),(0:Nat))).2),())).bind fun y_1 => (floatToIntVal FloatKind.f64 y.1 IntKind.i64).bind fun y => bif decide (v4.length + [y].length < 2147483648) then (floatToIntVal FloatKind.f64 y_1.1 IntKind.i64).bind fun y_2 => bif decide (v5.length + [y_2].length < 2147483648) then L1 (v0,IntKind.i64.wrap (v1 + 1),v2,v3,v4 ++ [y],v5 ++ [y_2]) else none else none else (floatToIntVal FloatKind.f64 (v2.getD v1.toNat ((0:Nat),(0:Nat))).1 IntKind.i64).bind fun y => bif decide (v4.length + [y].length < 2147483648) then (floatToIntVal FloatKind.f64 (v2.getD v1.toNat ((0:Nat),(0:Nat))).2 IntKind.i64).bind fun y_1 => bif decide (v5.length + [y_1].length < 2147483648) then L1 (v0,IntKind.i64.wrap (v1 + 1),v2,v3,v4 ++ [y],v5 ++ [y_1]) else none else none else none else some ((v4,v5,0,()),())
def ZxO (k:Nat):ZxN:=Zn (fun L1 => Zfw k L1) k
noncomputable def ZFW (k:Nat) (n:Nat) (v:ZD6) :=
 Zs (ZND k) ZTb [] [1,1,1,1,0,1,0] [] (Q6 Tryz.f130) (We (ZND k) Tryz.f130 Zsc ZiH [] []) n (ZVn v)
def Zk6 (k:Nat) (L1:ZxN):List (Nat × Nat) × Int × Unit → Option ((List Int × List Int × Int × Unit) × Unit)
 | (a0,a1,()) => (Zvj k (a1,())).bind fun y => bif !y.1 then some (([],[],1,()),()) else (Zp8 k (a0,())).bind fun y => bif y.1 != 0 then some (([],[],y.1,()),()) else L1 (Int.ofNat a0.length,(0:Int),a0,a1,[],[])
def Zsb (k:Nat):=Zk6 k (ZxO k)
theorem ZNE (k:Nat):∀ n,ZFW k n = Zn (fun L1 => Zfw k L1) n :=
 Zh (fun v => by kernel_rfl) (fun n v => by
  obtain ⟨v0,v1,v2,v3,v4,v5⟩:=v
  kernel_rfl)
theorem ZVo (k:Nat) (x:Kd.dens Zsc):ZA (ZND k) ZTb Tryz.f130 Zsc ZiH x = Zsb k x:=by
 show _ = Zk6 k (ZxO k) x
 rw [show ZxO k = ZFW k k from (ZNE k k).symm]
 obtain ⟨a0,⟨a1,⟨⟩⟩⟩:=x
 kernel_rfl
theorem ZxP (k:Nat):Ctr Tryz.prog k 130 (mk Zsc ZiH Zsb) :=
 ZB (fn:=Tryz.f130) (Zf (Za (ZGd k) (Za (ZKp k) (Za (ZKq k) (Za (ZKr k) Zd))))) (by kernel_rfl) (by kernel_rfl) (ZVo k)
noncomputable abbrev ZNF:Nat × Callee:=(130,mk Zsc ZiH Zsb)
abbrev Zag:List Kd:=[.view (.sl (.int .i64))]
def ZTq:Nat → Ann:=fun id => bif Nat.beq id 3 then ⟨[8,9,7,3,4],[]⟩ else ⟨[],[]⟩
abbrev Zd6:=Int × Int × List Int × Int × Int
abbrev Zyd:=Zd6 → Option (Int × Unit)
def ZVT:Zd6 → St
 | (v0,v1,v2,v3,v4) => St.mk (Zv [(8,Zl v0),(9,Zl v1),(7,Yh v2),(3,Zl v3),(4,Zl v4)]) (Zu [])
def ZfG (k:Nat) (L1:Zyd):Zyd
 | (v0,v1,v2,v3,v4) => bif decide (v1 < v0) then bif decide (0 ≤ v1 ∧ v1 < Int.ofNat v2.length) then L1 (v0,IntKind.i64.wrap (v1 + 1),v2,IntKind.i64.wrap (v3 + if IntKind.i64.wrap (v2.getD v1.toNat 0 - v4) < IntKind.i64.wrap (v4 - v2.getD v1.toNat 0) then IntKind.i64.wrap (v4 - v2.getD v1.toNat 0) else IntKind.i64.wrap (v2.getD v1.toNat 0 - v4)),v2.getD v1.toNat 0) else none else some (v3,())
def Zye (k:Nat):Zyd:=Zn (fun L1 => ZfG k L1) k
noncomputable def ZGe (k:Nat) (n:Nat) (v:Zd6) :=
 Zs (Z4 k) ZTq [] [1,1,0,1,0] [] (Q6 Tryz.f191) (We (Z4 k) Tryz.f191 Zag Zi [] []) n (ZVT v)
def Zlt (k:Nat) (L1:Zyd):List Int × Unit → Option (Int × Unit)
 | (a0,()) => L1 (Int.ofNat a0.length,(0:Int),a0,(0:Int),(0:Int))
def Zvk (k:Nat):=Zlt k (Zye k)
theorem ZN2 (k:Nat):∀ n,ZGe k n = Zn (fun L1 => ZfG k L1) n :=
 Zh (fun v => by kernel_rfl) (fun n v => by
  obtain ⟨v0,v1,v2,v3,v4⟩:=v
  kernel_rfl)
theorem ZVU (k:Nat) (x:Kd.dens Zag):ZA (Z4 k) ZTq Tryz.f191 Zag Zi x = Zvk k x:=by
 show _ = Zlt k (Zye k) x
 rw [show Zye k = ZGe k k from (ZN2 k k).symm]
 obtain ⟨a0,⟨⟩⟩:=x
 kernel_rfl
theorem ZSd (k:Nat):Ctr Tryz.prog k 191 (mk Zag Zi Zvk) :=
 ZB (fn:=Tryz.f191) (Zf Zd) (by kernel_rfl) (by kernel_rfl) (ZVU k)
noncomputable abbrev ZXc:Nat × Callee:=(191,mk Zag Zi Zvk)
abbrev Z5:Kd:=.tup [.view (.int .i64),.view (.int .i64)]
noncomputable def ZNA (k:Nat):=Wd k [ZNF,ZXc]
def ZTa:Nat → Ann:=fun id => bif Nat.beq id 3 then ⟨[13,12,0,5,4],[]⟩ else ⟨[],[]⟩
abbrev ZD5:=Int × Int × Int × Int × Int × List (Nat × Nat) × Int × Int
abbrev ZxM:=ZD5 → Option ((Int × Int × Unit) × Unit)
def ZVl:ZD5 → St
 | (v0,v1,v2,v3,v4,v5,v6,v7) => St.mk (Zv [(13,Zl v0),(12,AV.agg [Zl v1,Zl v2,Zl v3,Zl v4]),(0,AV.val (PV.sl (Ty.cx FloatKind.f64) v5)),(5,Zl v6),(4,Zl v7)]) (Zu [])
def Zc0 (k:Nat) (L1:ZxM):ZxM
 | (v0,v1,v2,v3,v4,v5,v6,v7) => bif decide (v0 < 4) then bif decide (0 ≤ v0 ∧ v0 < 4) then (Zsb k (v5,[v1,v2,v3,v4].getD v0.toNat (0:Int),())).bind fun y => bif y.1.2.2.1 != 0 then some ((0,y.1.2.2.1,()),()) else (Zvk k (y.1.1,())).bind fun y_1 => (Zvk k (y.1.2.1,())).bind fun y => bif decide (v6 < 0) then L1 (IntKind.i64.wrap (v0 + 1),v1,v2,v3,v4,v5,IntKind.i64.wrap (y_1.1 + y.1),[v1,v2,v3,v4].getD v0.toNat (0:Int)) else bif decide (IntKind.i64.wrap (y_1.1 + y.1) < v6) then L1 (IntKind.i64.wrap (v0 + 1),v1,v2,v3,v4,v5,IntKind.i64.wrap (y_1.1 + y.1),[v1,v2,v3,v4].getD v0.toNat (0:Int)) else L1 (IntKind.i64.wrap (v0 + 1),v1,v2,v3,v4,v5,v6,v7) else none else some ((v7,0,()),())
def ZD4 (k:Nat):ZxM:=Zn (fun L1 => Zc0 k L1) k
noncomputable def ZFV (k:Nat) (n:Nat) (v:ZD5) :=
 Zs (ZNA k) ZTa [] [1,1,0,1,0] [] (Q6 Tryz.f147) (We (ZNA k) Tryz.f147 WR Z5 [] []) n (ZVl v)
def ZAH (k:Nat) (L1:ZxM):List (Nat × Nat) × Unit → Option ((Int × Int × Unit) × Unit)
 | (a0,()) => L1 (0,(0:Int),(8:Int),(9:Int),(10:Int),a0,(-1:Int),(0:Int))
def ZAG (k:Nat):=ZAH k (ZD4 k)
theorem ZNB (k:Nat):∀ n,ZFV k n = Zn (fun L1 => Zc0 k L1) n :=
 Zh (fun v => by kernel_rfl) (fun n v => by
  obtain ⟨v0,v1,v2,v3,v4,v5,v6,v7⟩:=v
  kernel_rfl)
theorem ZVm (k:Nat) (x:Kd.dens WR):ZA (ZNA k) ZTa Tryz.f147 WR Z5 x = ZAG k x:=by
 show _ = ZAH k (ZD4 k) x
 rw [show ZD4 k = ZFV k k from (ZNB k k).symm]
 obtain ⟨a0,⟨⟩⟩:=x
 kernel_rfl
theorem ZR2 (k:Nat):Ctr Tryz.prog k 147 (mk WR Z5 ZAG) :=
 ZB (fn:=Tryz.f147) (Zf (Za (ZxP k) (Za (ZSd k) Zd))) (by kernel_rfl) (by kernel_rfl) (ZVm k)
noncomputable abbrev ZWY:Nat × Callee:=(147,mk WR Z5 ZAG)
abbrev Zxt:List Kd:=[.view Zm0]
abbrev ZDX:Kd:=.tup [.view (.sl (.sl (.int .i64))),.view (.int .i64),.view (.int .i64)]
noncomputable def ZWD (k:Nat):=Wd k [ZS9,ZWY,ZNF]
def ZkM (k:Nat):(Int × List (List Int) × Unit) × Unit → Option ((List (List Int) × Int × Int × Unit) × Unit)
 | ((a0,a1,()),()) => bif Int.ofNat a1.length == (1:Int) then some ((a1,0,0,()),()) else bif decide ((0:Int) ≤ 0 ∧ (0:Int) < Int.ofNat a1.length) then bif decide ((0:Int) ≤ 1 ∧ (1:Int) < Int.ofNat a1.length) then (Zr9 k (a1.getD 0 [],a1.getD 1 [],())).bind fun y => bif y.1.2.1 != 0 then some (([],0,y.1.2.1,()),()) else (ZAG k (y.1.1,())).bind fun y_1 => bif y_1.1.2.1 != 0 then some (([],0,y_1.1.2.1,()),()) else (Zsb k (y.1.1,y_1.1.1,())).bind fun y => bif y_1.1.1 == 0 then some (([y.1.1,y.1.2.1],1,y.1.2.2.1,()),()) else some (([y.1.1,y.1.2.1],y_1.1.1,y.1.2.2.1,()),()) else none else none
def ZAo (k:Nat):=ZkM k
theorem ZUU (k:Nat) (x:Kd.dens Zxt):ZA (ZWD k) nA Tryz.f92 Zxt ZDX x = ZAo k x:=by
 show _ = ZkM k x
 obtain ⟨⟨a0,⟨a1,⟨⟩⟩⟩,⟨⟩⟩:=x
 kernel_rfl
theorem ZRQ (k:Nat):Ctr Tryz.prog k 92 (mk Zxt ZDX ZAo) :=
 ZB (fn:=Tryz.f92) (Zf (Za (ZFU k) (Za (ZR2 k) (Za (ZxP k) Zd)))) (by kernel_rfl) (by kernel_rfl) (ZUU k)
noncomputable abbrev ZWE:Nat × Callee:=(92,mk Zxt ZDX ZAo)
abbrev Zxu:List Kd:=[]
abbrev ZDY:Kd:=.box [.own (.int .u8) false,.view (.int .i64)]
def ZAp (k:Nat):Unit → Option ((List Int × Int × Unit) × Unit)
 | () => some (([],0,()),())
def ZnK (k:Nat):=ZAp k
theorem ZUV (k:Nat) (x:Kd.dens Zxu):ZA (Z4 k) nA Tryz.f93 Zxu ZDY x = ZnK k x:=by
 show _ = ZAp k x
 obtain ⟨⟩:=x
 kernel_rfl
theorem ZFG (k:Nat):Ctr Tryz.prog k 93 (mk Zxu ZDY ZnK) :=
 ZB (fn:=Tryz.f93) (Zf Zd) (by kernel_rfl) (by kernel_rfl) (ZUV k)
noncomputable abbrev ZSY:Nat × Callee:=(93,mk Zxu ZDY ZnK)
def Zk7 (k:Nat):Int × Unit → Option (Bool × Unit)
 | (a0,()) => bif decide (a0 < 0) then some (true,()) else some (decide ((32:Int) < a0),())
def Zse (k:Nat):=Zk7 k
theorem ZVp (k:Nat) (x:Kd.dens Zz):ZA (Z4 k) nA Tryz.f148 Zz ZE x = Zse k x:=by
 show _ = Zk7 k x
 obtain ⟨a0,⟨⟩⟩:=x
 kernel_rfl
theorem ZxQ (k:Nat):Ctr Tryz.prog k 148 (mk Zz ZE Zse) :=
 ZB (fn:=Tryz.f148) (Zf Zd) (by kernel_rfl) (by kernel_rfl) (ZVp k)
noncomputable abbrev ZTc:Nat × Callee:=(148,mk Zz ZE Zse)
abbrev Zaq:List Kd:=[.box [.own (.int .u8) false,.view (.int .i64)],.view (.int .i64)]
abbrev QC:Kd:=.tup []
def Zgp (k:Nat):(List Int × Int × Unit) × Int × Unit → Option (Unit × (List Int × Int × Unit) × Unit)
 | ((a0,a1,()),a2,()) => bif a1.tmod (8:Int) == 0 then bif decide (a0.length + (1:Nat) < (2147483648:Nat)) then bif decide (0 ≤ IntKind.i64.wrap (a1.tdiv (8:Int)) ∧ IntKind.i64.wrap (a1.tdiv (8:Int)) < Int.ofNat (a0 ++ [(0:Int)]).length) then bif decide ((IntKind.i64.wrap (a1.tdiv (8:Int))).toNat < (a0 ++ [(0:Int)]).length) then bif decide (0 ≤ IntKind.i64.wrap ((7:Int) - a1.tmod (8:Int))) then bif decide (0 ≤ IntKind.i64.wrap (a1.tdiv (8:Int)) ∧ IntKind.i64.wrap (a1.tdiv (8:Int)) < Int.ofNat (a0 ++ [(0:Int)]).length) then bif decide ((IntKind.i64.wrap (a1.tdiv (8:Int))).toNat < (a0 ++ [(0:Int)]).length) then some ((),((a0 ++ [(0:Int)]).set (IntKind.i64.wrap (a1.tdiv (8:Int))).toNat (IntKind.u8.wrap (Int.ofNat (BitVec.ofInt 8 ((a0 ++ [(0:Int)]).getD (IntKind.i64.wrap (a1.tdiv (8:Int))).toNat 0) ||| BitVec.ofInt 8 (IntKind.u8.wrap (IntKind.i64.wrap (a2 * (2:Int) ^ min (IntKind.i64.wrap ((7:Int) - a1.tmod (8:Int))).toNat 64)))).toNat)),IntKind.i64.wrap (a1 + 1),()),()) else none else none else none else none else none else none else bif decide (0 ≤ IntKind.i64.wrap (a1.tdiv (8:Int)) ∧ IntKind.i64.wrap (a1.tdiv (8:Int)) < Int.ofNat a0.length) then bif decide ((IntKind.i64.wrap (a1.tdiv (8:Int))).toNat < a0.length) then bif decide (0 ≤ IntKind.i64.wrap ((7:Int) - a1.tmod (8:Int))) then bif decide (0 ≤ IntKind.i64.wrap (a1.tdiv (8:Int)) ∧ IntKind.i64.wrap (a1.tdiv (8:Int)) < Int.ofNat a0.length) then bif decide ((IntKind.i64.wrap (a1.tdiv (8:Int))).toNat < a0.length) then some ((),(a0.set (IntKind.i64.wrap (a1.tdiv (8:Int))).toNat (IntKind.u8.wrap (Int.ofNat (BitVec.ofInt 8 (a0.getD (IntKind.i64.wrap (a1.tdiv (8:Int))).toNat 0) ||| BitVec.ofInt 8 (IntKind.u8.wrap (IntKind.i64.wrap (a2 * (2:Int) ^ min (IntKind.i64.wrap ((7:Int) - a1.tmod (8:Int))).toNat 64)))).toNat)),IntKind.i64.wrap (a1 + 1),()),()) else none else none else none else none else none
def Zis (k:Nat):=Zgp k
theorem ZPD (k:Nat) (x:Kd.dens Zaq):ZA (Z4 k) nA Tryz.f192 Zaq QC x = Zis k x:=by
 show _ = Zgp k x
 obtain ⟨⟨a0,⟨a1,⟨⟩⟩⟩,⟨a2,⟨⟩⟩⟩:=x
 kernel_rfl
theorem Zzu (k:Nat):Ctr Tryz.prog k 192 (mk Zaq QC Zis) :=
 ZB (fn:=Tryz.f192) (Zf Zd) (by kernel_rfl) (by kernel_rfl) (ZPD k)
noncomputable abbrev ZTO:Nat × Callee:=(192,mk Zaq QC Zis)
abbrev Zsg:List Kd:=[.box [.own (.int .u8) false,.view (.int .i64)],.view (.int .u64),.view (.int .i64)]
noncomputable def Zvd (k:Nat):=Wd k [ZTO]
def ZTd:Nat → Ann:=fun id => bif Nat.beq id 1 then ⟨[6,0,1],[]⟩ else ⟨[],[]⟩
abbrev Zd5:=Int × Int × Int × List Int
abbrev ZxR:=Zd5 → Option (Unit × (List Int × Int × Unit) × Unit)
def ZVq:Zd5 → St
 | (v0,v1,v2,v3) => St.mk (Zv [(6,Zl v0),(0,AV.bx 0 0),(1,AV.val (PV.v (Value.int IntKind.u64 v1)))]) (Zu [(0,QQ [AV.own 8192,Zl v2]),(8192,RS.live (Res.arr (Ty.int IntKind.u8) v3 false))])
def Zfx (k:Nat) (L1:ZxR):ZxR
 | (v0,v1,v2,v3) => bif decide (0 ≤ v0) then bif decide (0 ≤ v0) then (Zis k ((v3,v2,()),IntKind.i64.wrap (IntKind.u64.wrap (Int.ofNat (BitVec.ofInt 64 (v1.fdiv ((2:Int) ^ min v0.toNat 64)) &&& BitVec.ofInt 64 (1:Int)).toNat)),())).bind fun y => L1 (IntKind.i64.wrap (v0 - 1),v1,y.2.1.2.1,y.2.1.1) else none else some ((),(v3,v2,()),())
def ZxS (k:Nat):ZxR:=Zn (fun L1 => Zfx k L1) k
noncomputable def ZFX (k:Nat) (n:Nat) (v:Zd5) :=
 Zs (Zvd k) ZTd [0] [1,0] [] (Q6 Tryz.f149) (We (Zvd k) Tryz.f149 Zsg QC [AV.bx (nat_lit 0) (nat_lit 0)] [[]]) n (ZVq v)
def Zk8 (k:Nat) (L1:ZxR):(List Int × Int × Unit) × Int × Int × Unit → Option (Unit × (List Int × Int × Unit) × Unit)
 | ((a0,a1,()),a2,a3,()) => L1 (IntKind.i64.wrap (a3 - 1),a2,a1,a0)
def Zes (k:Nat):=Zk8 k (ZxS k)
theorem ZNG (k:Nat):∀ n,ZFX k n = Zn (fun L1 => Zfx k L1) n :=
 Zh (fun v => by kernel_rfl) (fun n v => by
  obtain ⟨v0,v1,v2,v3⟩:=v
  kernel_rfl)
theorem ZVr (k:Nat) (x:Kd.dens Zsg):ZA (Zvd k) ZTd Tryz.f149 Zsg QC x = Zes k x:=by
 show _ = Zk8 k (ZxS k) x
 rw [show ZxS k = ZFX k k from (ZNG k k).symm]
 obtain ⟨⟨a0,⟨a1,⟨⟩⟩⟩,⟨a2,⟨a3,⟨⟩⟩⟩⟩:=x
 kernel_rfl
theorem ZFY (k:Nat):Ctr Tryz.prog k 149 (mk Zsg QC Zes) :=
 ZB (fn:=Tryz.f149) (Zf (Za (Zzu k) Zd)) (by kernel_rfl) (by kernel_rfl) (ZVr k)
noncomputable abbrev ZWZ:Nat × Callee:=(149,mk Zsg QC Zes)
abbrev Zca:List Kd:=[.box [.own (.int .u8) false,.view (.int .i64)],.view (.int .i64),.view (.int .i64)]
noncomputable def ZSZ (k:Nat):=Wd k [ZTc,ZWZ]
def ZkN (k:Nat):(List Int × Int × Unit) × Int × Int × Unit → Option (Int × (List Int × Int × Unit) × Unit)
 | ((a0,a1,()),a2,a3,()) => (Zse k (a3,())).bind fun y => bif y.1 then some (1,(a0,a1,()),()) else bif decide (a2 < 0) then some (12,(a0,a1,()),()) else bif decide (0 ≤ a3) then bif a2.fdiv ((2:Int) ^ min a3.toNat 64) != (0:Int) then some (12,(a0,a1,()),()) else (Zes k ((a0,a1,()),IntKind.u64.wrap a2,a3,())).bind fun y => some (0,(y.2.1.1,y.2.1.2.1,()),()) else none
def ZP (k:Nat):=ZkN k
theorem ZUW (k:Nat) (x:Kd.dens Zca):ZA (ZSZ k) nA Tryz.f94 Zca Zi x = ZP k x:=by
 show _ = ZkN k x
 obtain ⟨⟨a0,⟨a1,⟨⟩⟩⟩,⟨a2,⟨a3,⟨⟩⟩⟩⟩:=x
 kernel_rfl
theorem Zd3 (k:Nat):Ctr Tryz.prog k 94 (mk Zca Zi ZP) :=
 ZB (fn:=Tryz.f94) (Zf (Za (ZxQ k) (Za (ZFY k) Zd))) (by kernel_rfl) (by kernel_rfl) (ZUW k)
noncomputable abbrev ZNe:Nat × Callee:=(94,mk Zca Zi ZP)
def Zk9 (k:Nat):Int × Unit → Option (Int × Unit)
 | (a0,()) => bif a0 == 1 then some (7,()) else some (IntKind.i64.wrap (IntKind.i64.wrap ((5:Int) * a0) + 1),())
def Zve (k:Nat):=Zk9 k
theorem ZVs (k:Nat) (x:Kd.dens Zz):ZA (Z4 k) nA Tryz.f150 Zz Zi x = Zve k x:=by
 show _ = Zk9 k x
 obtain ⟨a0,⟨⟩⟩:=x
 kernel_rfl
theorem ZFZ (k:Nat):Ctr Tryz.prog k 150 (mk Zz Zi Zve) :=
 ZB (fn:=Tryz.f150) (Zf Zd) (by kernel_rfl) (by kernel_rfl) (ZVs k)
noncomputable abbrev ZTe:Nat × Callee:=(150,mk Zz Zi Zve)
abbrev Zr4:Kd:=.tup [.view (.sl (.int .u8)),.view (.int .i64)]
noncomputable def ZAr (k:Nat):=Wd k [ZTe]
def ZNf:Nat → Ann:=fun id => bif Nat.beq id 10 then ⟨[6,5,0,4],[]⟩ else bif Nat.beq id 6 then ⟨[0,4],[]⟩ else ⟨[],[]⟩
abbrev Zxw:=Zd5 → Option ((List Int × Int × Unit) × Unit)
abbrev ZDZ:=Int × Int
abbrev Zxv:=ZDZ → Option ((List Int × Int × Unit) × Unit)
def ZUY:Zd5 → St
 | (v0,v1,v2,v3) => St.mk (Zv [(6,Zl v0),(5,AV.own 8192),(0,Zl v1),(4,Zl v2)]) (Zu [(8192,RS.live (Res.arr (Ty.int IntKind.u8) v3 false))])
def Zfq (k:Nat) (L2:Zxw):Zxw
 | (v0,v1,v2,v3) => bif decide ((0:Int) < v0) then bif decide (0 ≤ v0 ∧ v0 < Int.ofNat v3.length) then bif decide (v0.toNat < v3.length) then L2 (IntKind.i64.wrap (v0 - 1),v1.fdiv (64:Int),v2,v3.set v0.toNat (IntKind.u8.wrap (Int.ofNat (BitVec.ofInt 8 (128:Int) ||| BitVec.ofInt 8 (IntKind.u8.wrap (IntKind.i64.wrap (Int.ofNat (BitVec.ofInt 64 v1 &&& BitVec.ofInt 64 (63:Int)).toNat)))).toNat))) else none else none else bif decide (0 ≤ v2) then bif decide ((0:Int) ≤ 0 ∧ (0:Int) < Int.ofNat v3.length) then bif decide ((0:Nat) < v3.length) then some ((v3.set (0:Nat) (IntKind.u8.wrap (Int.ofNat (BitVec.ofInt 8 (IntKind.u8.wrap (Int.fdiv (65280:Int) ((2:Int) ^ min v2.toNat 64))) ||| BitVec.ofInt 8 (IntKind.u8.wrap v1)).toNat)),0,()),()) else none else none else none
def Zr3 (k:Nat):Zxw:=Zn (fun L2 => Zfq k L2) k
noncomputable def ZFI (k:Nat) (n:Nat) (v:Zd5) :=
 Zs (ZAr k) ZNf [] [1,1,1,1,1,1,0,1,0] [] (Q6 Tryz.f95) (We (ZAr k) Tryz.f95 Zz Zr4 [] []) n (ZUY v)
def ZUX:ZDZ → St
 | (v0,v1) => St.mk (Zv [(0,Zl v0),(4,Zl v1)]) (Zu [])
def Zfp (k:Nat) (L2:Zxw) (L1:Zxv):Zxv
 | (v0,v1) => (Zve k (v1,())).bind fun y => bif decide ((0:Int) ≤ y.1) then bif decide ((0:Int) < v0.fdiv ((2:Int) ^ min (Int.toNat y.1) (64:Nat))) then L1 (v0,IntKind.i64.wrap (v1 + 1)) else bif decide (0 ≤ v1 ∧ v1 ≤ v1 ∧ v1 < 4294967296) then L2 (IntKind.i64.wrap (v1 - 1),v0,v1,List.replicate v1.toNat (0:Int)) else none else none
def Zxx (k:Nat):Zxv:=Zn (fun L1 => Zfp k (Zr3 k) L1) k
noncomputable def ZFH (k:Nat) (n:Nat) (v:ZDZ) :=
 Zs (ZAr k) ZNf [] [1,1,1,1,0,0] [] (Q6 Tryz.f95) (We (ZAr k) Tryz.f95 Zz Zr4 [] []) n (ZUX v)
def ZkO (k:Nat) (L1:Zxv):Int × Unit → Option ((List Int × Int × Unit) × Unit)
 | (a0,()) => bif decide (a0 < 0) then some (([],12,()),()) else bif decide ((68719476735:Int) < a0) then some (([],12,()),()) else bif decide (a0 < 128) then some (([IntKind.u8.wrap a0],0,()),()) else L1 (a0,(2:Int))
def Zr2 (k:Nat):=ZkO k (Zxx k)
theorem ZNh (k:Nat):∀ n,ZFI k n = Zn (fun L2 => Zfq k L2) n :=
 Zh (fun v => by kernel_rfl) (fun n v => by
  obtain ⟨v0,v1,v2,v3⟩:=v
  kernel_rfl)
theorem ZNg (k:Nat):∀ n,ZFH k n = Zn (fun L1 => Zfp k (Zr3 k) L1) n :=
 Zh (fun v => by kernel_rfl) (fun n v => by
  rw [show (Zr3 k) = ZFI k k from (ZNh k k).symm]
  obtain ⟨v0,v1⟩:=v
  kernel_rfl)
theorem ZUZ (k:Nat) (x:Kd.dens Zz):ZA (ZAr k) ZNf Tryz.f95 Zz Zr4 x = Zr2 k x:=by
 show _ = ZkO k (Zxx k) x
 rw [show Zxx k = ZFH k k from (ZNg k k).symm]
 obtain ⟨a0,⟨⟩⟩:=x
 kernel_rfl
theorem ZRR (k:Nat):Ctr Tryz.prog k 95 (mk Zz Zr4 Zr2) :=
 ZB (fn:=Tryz.f95) (Zf (Za (ZFZ k) Zd)) (by kernel_rfl) (by kernel_rfl) (ZUZ k)
noncomputable abbrev ZWF:Nat × Callee:=(95,mk Zz Zr4 Zr2)
abbrev ZmS:List Kd:=[.view (.sl (.int .u8)),.view (.int .i64),.view (.int .u64)]
def ZNH:Nat → Ann:=fun id => bif Nat.beq id 7 then ⟨[24,7,1,2,13,12,11],[]⟩ else bif Nat.beq id 3 then ⟨[12,13,11,7,1,2],[]⟩ else ⟨[],[]⟩
abbrev ZD8:=Int × Int × Int × Int × Int × Int × List Int
abbrev ZxT:=ZD8 → Option (Int × Unit)
abbrev ZD7:=Int × Int × List Int × Int × Int × Int
abbrev ZmR:=ZD7 → Option (Int × Unit)
def ZVu:ZD8 → St
 | (v0,v1,v2,v3,v4,v5,v6) => St.mk (Zv [(24,Zl v0),(7,AV.val (PV.v (Value.int IntKind.u64 v1))),(1,Zl v2),(2,AV.val (PV.v (Value.int IntKind.u64 v3))),(13,Zl v4),(12,Zl v5),(11,AV.val (PV.sl (Ty.int IntKind.u8) v6))]) (Zu [])
def Zc1 (k:Nat) (L1:ZmR) (L2:ZxT):ZxT
 | (v0,v1,v2,v3,v4,v5,v6) => bif decide (v0 < 8) then bif decide (0 ≤ IntKind.i64.wrap (v2 - 1)) then bif decide (0 ≤ v2) then L2 (IntKind.i64.wrap (v0 + 1),IntKind.u64.wrap (Int.ofNat (BitVec.ofInt 64 (IntKind.u64.wrap (Int.ofNat (BitVec.ofInt 64 (IntKind.u64.wrap (v1 * (2:Int))) &&& BitVec.ofInt 64 (IntKind.u64.wrap (IntKind.u64.wrap ((1:Int) * (2:Int) ^ min v2.toNat 64) - (1:Int)))).toNat)) ^^^ BitVec.ofInt 64 (IntKind.u64.wrap (IntKind.u64.wrap (Int.ofNat (BitVec.ofInt 64 (v1.fdiv ((2:Int) ^ min (IntKind.i64.wrap (v2 - 1)).toNat 64)) &&& BitVec.ofInt 64 (1:Int)).toNat) * v3))).toNat),v2,v3,v4,v5,v6) else none else none else L1 (v5,IntKind.i64.wrap (v4 + 1),v6,v1,v2,v3)
def ZxV (k:Nat) (L1:ZmR):ZxT:=Zn (fun L2 => Zc1 k L1 L2) k
noncomputable def Zph (k:Nat) (n1:Nat) (n:Nat) (v:ZD8):Option (Int × Unit) :=
 Zs (Z4 k) ZNH [] [1,1,0,1,0,0,1,1,0,0,1,1,1,0] [n1] (Q6 Tryz.f127) (We (Z4 k) Tryz.f127 ZmS Zi [] []) n (ZVu v)
def ZVt:ZD7 → St
 | (v0,v1,v2,v3,v4,v5) => St.mk (Zv [(12,Zl v0),(13,Zl v1),(11,AV.val (PV.sl (Ty.int IntKind.u8) v2)),(7,AV.val (PV.v (Value.int IntKind.u64 v3))),(1,Zl v4),(2,AV.val (PV.v (Value.int IntKind.u64 v5)))]) (Zu [])
def Zfy (k:Nat) (L2:ZxT) (L1:ZmR):ZmR
 | (v0,v1,v2,v3,v4,v5) => bif decide (v1 < v0) then bif decide (0 ≤ v1 ∧ v1 < Int.ofNat v2.length) then bif decide (0 ≤ IntKind.i64.wrap (v4 - 8)) then L2 (0,IntKind.u64.wrap (Int.ofNat (BitVec.ofInt 64 v3 ^^^ BitVec.ofInt 64 (IntKind.u64.wrap (IntKind.u64.wrap (v2.getD v1.toNat 0) * (2:Int) ^ min (IntKind.i64.wrap (v4 - 8)).toNat 64))).toNat),v4,v5,v1,v0,v2) else none else none else some (IntKind.i64.wrap v3,())
def ZxU (k:Nat):ZmR:=Zn (fun L1 => Zfy k (ZxV k L1) L1) k
noncomputable def Zla (k:Nat) (n:Nat) (v:ZD7) :=
 Zs (Z4 k) ZNH [] [1,1,0,1,0] [] (Q6 Tryz.f127) (We (Z4 k) Tryz.f127 ZmS Zi [] []) n (ZVt v)
def Zlb (k:Nat) (L1:ZmR):List Int × Int × Int × Unit → Option (Int × Unit)
 | (a0,a1,a2,()) => L1 (Int.ofNat a0.length,(0:Int),a0,(0:Int),a1,a2)
def Zh1 (k:Nat):=Zlb k (ZxU k)
theorem ZNJ (k:Nat) (n1:Nat):∀ n,Zph k n1 n = Zn (fun L2 => Zc1 k (Zla k n1) L2) n :=
 Zh (fun v => by kernel_rfl) (fun n v => by
  show Zph k n1 (n + 1) v = Zc1 k (Zla k n1) (Zph k n1 n) v
  obtain ⟨v0,v1,v2,v3,v4,v5,v6⟩:=v
  kernel_rfl)
theorem ZNI (k:Nat):∀ n,Zla k n = Zn (fun L1 => Zfy k (ZxV k L1) L1) n :=
 Zh (fun v => by kernel_rfl) (fun n v => by
  rw [show (ZxV k (Zla k n)) = Zph k n k from (ZNJ k n k).symm]
  obtain ⟨v0,v1,v2,v3,v4,v5⟩:=v
  kernel_rfl)
theorem ZVv (k:Nat) (x:Kd.dens ZmS):ZA (Z4 k) ZNH Tryz.f127 ZmS Zi x = Zh1 k x:=by
 show _ = Zlb k (ZxU k) x
 rw [show ZxU k = Zla k k from (ZNI k k).symm]
 obtain ⟨a0,⟨a1,⟨a2,⟨⟩⟩⟩⟩:=x
 kernel_rfl
theorem ZF0 (k:Nat):Ctr Tryz.prog k 127 (mk ZmS Zi Zh1) :=
 ZB (fn:=Tryz.f127) (Zf Zd) (by kernel_rfl) (by kernel_rfl) (ZVv k)
noncomputable abbrev ZW0:Nat × Callee:=(127,mk ZmS Zi Zh1)
abbrev WJ:List Kd:=[.view (.sl (.int .u8))]
noncomputable def ZS0 (k:Nat):=Wd k [ZW0]
def ZkP (k:Nat):List Int × Unit → Option (Int × Unit)
 | (a0,()) => (Zh1 k (a0,8,7,())).bind fun y => some (y.1,())
def Zu8 (k:Nat):=ZkP k
theorem ZU0 (k:Nat) (x:Kd.dens WJ):ZA (ZS0 k) nA Tryz.f96 WJ Zi x = Zu8 k x:=by
 show _ = ZkP k x
 obtain ⟨a0,⟨⟩⟩:=x
 kernel_rfl
theorem ZFJ (k:Nat):Ctr Tryz.prog k 96 (mk WJ Zi Zu8) :=
 ZB (fn:=Tryz.f96) (Zf (Za (ZF0 k) Zd)) (by kernel_rfl) (by kernel_rfl) (ZU0 k)
noncomputable abbrev ZS1:Nat × Callee:=(96,mk WJ Zi Zu8)
abbrev ZiI:Kd:=.own (.int .u8) false
def Zlc (k:Nat):List Int × Unit → Option (List Int × Unit):=fun x => YN x
noncomputable def ZTf (k:Nat):Ctx:={ P:=Tryz.prog,Φ:=phi [],k:=k,live:=fun _ => [] }
noncomputable def ZAK:Code:=ZKa Tryz.f74
theorem ZxW (k:Nat):Ctr Tryz.prog k 74 (mk WJ ZiI Zlc) :=
 ZtV (C:=ZTf k) (A:=fun _ => ⟨[],[]⟩) (Zf Zd) ZiU (f:=74) (fn:=Tryz.f74) (o0:=Zm9 (ZbV [0] ZAK) 0) (o1:=Zm9 (ZbV [1,0,0] ZAK) 0) (o2:=Zm9 (ZbV [1,0,0] ZAK) 1)
  (r0:=0) (r1:=1) (X:=ZbV [1,0,1,0] ZAK) (Y:=ZbV [1,1] ZAK) (T:=46) (E:=5) (U:=46) (t:=(.int .u8))
  (by kernel_rfl) (by kernel_rfl) (by kernel_rfl) (by kernel_rfl) (by kernel_rfl) (of_decide_eq_true (by kernel_rfl)) (by kernel_rfl) ⟨by kernel_rfl,by kernel_rfl,by kernel_rfl⟩ ⟨by kernel_rfl,by kernel_rfl,by kernel_rfl⟩ ⟨by kernel_rfl,by kernel_rfl,by kernel_rfl⟩ (fun xs => by kernel_rfl) (by kernel_rfl)
noncomputable abbrev ZTg:Nat × Callee:=(74,mk WJ ZiI Zlc)
abbrev Zd4:List Kd:=[.box [.own (.int .u8) false,.view (.int .i64)]]
noncomputable def ZWG (k:Nat):=Wd k [ZTg] (fun r => bif Nat.beq r 999998 then [74] else [])
def ZkR (k:Nat):(List Int × Int × Unit) × Unit → Option (List Int × (List Int × Int × Unit) × Unit)
 | ((a0,a1,()),()) => (Zlc k (a0,())).bind fun y => some (y.1,(a0,a1,()),())
def ZkQ (k:Nat):=ZkR k
theorem ZU1 (k:Nat) (x:Kd.dens Zd4):ZA (ZWG k) nA Tryz.f97 Zd4 ZiI x = ZkQ k x:=by
 show _ = ZkR k x
 obtain ⟨⟨a0,⟨a1,⟨⟩⟩⟩,⟨⟩⟩:=x
 kernel_rfl
theorem ZFK (k:Nat):Ctr Tryz.prog k 97 (mk Zd4 ZiI ZkQ) :=
 ZB (fn:=Tryz.f97) (Zf (Za (ZxW k) Zd)) (by kernel_rfl) (by kernel_rfl) (ZU1 k)
noncomputable abbrev ZWH:Nat × Callee:=(97,mk Zd4 ZiI ZkQ)
abbrev Zfr:List Kd:=[.view Znp,.view (.int .i64)]
abbrev YT:Kd:=.view (.sl (.int .i64))
noncomputable def ZWI (k:Nat):=Wd k [] (fun r => bif Nat.beq r 999999 then [1] else [])
def ZkT (k:Nat):(Int × Int × Int × Unit) × Int × Unit → Option (List Int × Unit)
 | ((a0,a1,a2,()),a3,()) => bif decide ((0:Int) ≤ 0 ∧ (0:Int) ≤ a0 ∧ a0 ≤ Int.ofNat [a1,a1].length) then bif a3 == 8 then bif decide ((0:Nat) ≤ a0.toNat ∧ a0.toNat ≤ [a1,a1].length ∧ (0:Int) ≤ 1 ∧ (1:Nat) < a0.toNat - (0:Nat)) then bif decide ((0:Nat) ≤ a0.toNat ∧ a0.toNat ≤ [a1,a1].length ∧ (0:Int) ≤ 1 ∧ (1:Nat) < a0.toNat - (0:Nat)) then bif decide ((0:Nat) ≤ a0.toNat ∧ a0.toNat ≤ ([a1,a1].set (1:Nat) (IntKind.i64.wrap ([a1,a1].getD 1 0 + (1:Int)))).length) then some (List.drop 0 (List.take a0.toNat ([a1,a1].set (1:Nat) (IntKind.i64.wrap ([a1,a1].getD 1 0 + (1:Int))))),()) else none else none else none else bif a3 == 10 then bif decide ((0:Nat) ≤ a0.toNat ∧ a0.toNat ≤ [a1,a1].length ∧ (0:Int) ≤ 1 ∧ (1:Nat) < a0.toNat - (0:Nat)) then bif decide ((0:Nat) ≤ a0.toNat ∧ a0.toNat ≤ [a1,a1].length ∧ (0:Int) ≤ 1 ∧ (1:Nat) < a0.toNat - (0:Nat)) then bif decide ((0:Nat) ≤ a0.toNat ∧ a0.toNat ≤ ([a1,a1].set (1:Nat) (IntKind.i64.wrap ([a1,a1].getD 1 0 + (1:Int)))).length) then some (List.drop 0 (List.take a0.toNat ([a1,a1].set (1:Nat) (IntKind.i64.wrap ([a1,a1].getD 1 0 + (1:Int))))),()) else none else none else none else bif a3 == 9 then bif decide ((0:Nat) ≤ a0.toNat ∧ a0.toNat ≤ [a1,a1].length ∧ (0:Int) ≤ 0 ∧ (0:Nat) < a0.toNat - (0:Nat)) then bif decide ((0:Nat) ≤ a0.toNat ∧ a0.toNat ≤ [a1,a1].length ∧ (0:Int) ≤ 0 ∧ (0:Nat) < a0.toNat - (0:Nat)) then bif decide ((0:Nat) ≤ a0.toNat ∧ a0.toNat ≤ ([a1,a1].set (0:Nat) (IntKind.i64.wrap ([a1,a1].getD 0 0 + (1:Int)))).length) then some (List.drop 0 (List.take a0.toNat ([a1,a1].set (0:Nat) (IntKind.i64.wrap ([a1,a1].getD 0 0 + (1:Int))))),()) else none else none else none else bif decide ((0:Nat) ≤ a0.toNat ∧ a0.toNat ≤ [a1,a1].length) then some (List.drop 0 (List.take a0.toNat [a1,a1]),()) else none else none
def Zu9 (k:Nat):=ZkT k
theorem ZU2 (k:Nat) (x:Kd.dens Zfr):ZA (ZWI k) nA Tryz.f57 Zfr YT x = Zu9 k x:=by
 show _ = ZkT k x
 obtain ⟨⟨a0,⟨a1,⟨a2,⟨⟩⟩⟩⟩,⟨a3,⟨⟩⟩⟩:=x
 kernel_rfl
theorem ZFL (k:Nat):Ctr Tryz.prog k 57 (mk Zfr YT Zu9) :=
 ZB (fn:=Tryz.f57) (Zf Zd) (by kernel_rfl) (by kernel_rfl) (ZU2 k)
noncomputable abbrev ZS2:Nat × Callee:=(57,mk Zfr YT Zu9)
abbrev Zaf:List Kd:=[.view (.int .i64),.view (.int .i64)]
def Zlo (k:Nat):Int × Int × Unit → Option (Bool × Unit)
 | (a0,a1,()) => bif decide (1 ≤ a0) then bif decide (a0 ≤ 512) then bif decide (4 ≤ a1) then some (decide (a1 ≤ 25),()) else some (false,()) else some (false,()) else some (false,())
def Zvh (k:Nat):=Zlo k
theorem ZVN (k:Nat) (x:Kd.dens Zaf):ZA (Z4 k) nA Tryz.f122 Zaf ZE x = Zvh k x:=by
 show _ = Zlo k x
 obtain ⟨a0,⟨a1,⟨⟩⟩⟩:=x
 kernel_rfl
theorem ZGb (k:Nat):Ctr Tryz.prog k 122 (mk Zaf ZE Zvh) :=
 ZB (fn:=Tryz.f122) (Zf Zd) (by kernel_rfl) (by kernel_rfl) (ZVN k)
noncomputable abbrev ZTl:Nat × Callee:=(122,mk Zaf ZE Zvh)
def Zlr (k:Nat):Int × Int × Unit → Option (Bool × Unit)
 | (a0,a1,()) => bif decide (0 ≤ IntKind.i64.wrap (a1 - 1)) then bif a0.fdiv ((2:Int) ^ min (IntKind.i64.wrap (a1 - 1)).toNat 64) == (0:Int) then some (true,()) else bif decide (0 ≤ IntKind.i64.wrap (a1 - 1)) then some (a0.fdiv ((2:Int) ^ min (IntKind.i64.wrap (a1 - 1)).toNat 64) == (-1:Int),()) else none else none
def Zvi (k:Nat):=Zlr k
theorem ZVQ (k:Nat) (x:Kd.dens Zaf):ZA (Z4 k) nA Tryz.f125 Zaf ZE x = Zvi k x:=by
 show _ = Zlr k x
 obtain ⟨a0,⟨a1,⟨⟩⟩⟩:=x
 kernel_rfl
theorem ZGc (k:Nat):Ctr Tryz.prog k 125 (mk Zaf ZE Zvi) :=
 ZB (fn:=Tryz.f125) (Zf Zd) (by kernel_rfl) (by kernel_rfl) (ZVQ k)
noncomputable abbrev ZTn:Nat × Callee:=(125,mk Zaf ZE Zvi)
abbrev Zoi:List Kd:=[.view (.int .i64),.box [.view (.int .i64)]]
noncomputable def ZTP (k:Nat):=Wd k [ZTn]
def Zgq (k:Nat):Int × (Int × Unit) × Unit → Option (Bool × (Int × Unit) × Unit)
 | (a0,(a1,()),()) => (Zvi k (a0,a1,())).bind fun y => some (!y.1,(a1,()),())
def Zqc (k:Nat):=Zgq k
theorem ZPG (k:Nat) (x:Kd.dens Zoi):ZA (ZTP k) nA Tryz.f194 Zoi ZE x = Zqc k x:=by
 show _ = Zgq k x
 obtain ⟨a0,⟨⟨a1,⟨⟩⟩,⟨⟩⟩⟩:=x
 kernel_rfl
theorem ZKD (k:Nat):Ctr Tryz.prog k 194 (mk Zoi ZE Zqc) :=
 ZB (fn:=Tryz.f194) (Zf (Za (ZGc k) Zd)) (by kernel_rfl) (by kernel_rfl) (ZPG k)
noncomputable abbrev ZTQ:Nat × Callee:=(194,mk Zoi ZE Zqc)
abbrev XH:List Kd:=[.view (.sl (.int .i64)),.clo 194 [.box [.view (.int .i64)]]]
noncomputable def Zqn (k:Nat):=Wd k [ZTQ]
def X2:Nat → Ann:=fun id => bif Nat.beq id 2 then ⟨[7,8,1,0],[]⟩ else ⟨[],[]⟩
abbrev Wr:=Int × Int × List Int × Int
abbrev ZgU:=Wr → Option (Int × (Int × Unit) × Unit)
def ZHV:Wr → St
 | (v0,v1,v2,v3) => St.mk (Zv [(7,Zl v0),(8,Zl v1),(1,AV.clo 194 [AV.bx 0 0]),(0,Yh v2)]) (Zu [(0,QQ [Zl v3])])
def KQ (k:Nat) (L1:ZgU):ZgU
 | (v0,v1,v2,v3) => bif decide (v1 < v0) then bif decide (0 ≤ v1 ∧ v1 < Int.ofNat v2.length) then (Zqc k (v2.getD v1.toNat 0,(v3,()),())).bind fun y => bif y.1 then some (v1,(y.2.1.1,()),()) else L1 (v0,IntKind.i64.wrap (v1 + 1),v2,y.2.1.1) else none else some ((-1:Int),(v3,()),())
def Zmv (k:Nat):ZgU:=Zn (fun L1 => KQ k L1) k
noncomputable def Zqo (k:Nat) (n:Nat) (v:Wr) :=
 Zs (Zqn k) X2 [0] [1,0,1,0] [] (Q6 Tryz.f241) (We (Zqn k) Tryz.f241 XH Zi [AV.bx (nat_lit 0) (nat_lit 0)] [[]]) n (ZHV v)
def ZnF (k:Nat) (L1:ZgU):List Int × ((Int × Unit) × Unit) × Unit → Option (Int × (Int × Unit) × Unit)
 | (a0,((a1,()),()),()) => L1 (Int.ofNat a0.length,(0:Int),a0,a1)
def ZeZ (k:Nat):=ZnF k (Zmv k)
theorem ZzW (k:Nat):∀ n,Zqo k n = Zn (fun L1 => KQ k L1) n :=
 Zh (fun v => by kernel_rfl) (fun n v => by
  obtain ⟨v0,v1,v2,v3⟩:=v
  kernel_rfl)
theorem ZHW (k:Nat) (x:Kd.dens XH):ZA (Zqn k) X2 Tryz.f241 XH Zi x = ZeZ k x:=by
 show _ = ZnF k (Zmv k) x
 rw [show Zmv k = Zqo k k from (ZzW k k).symm]
 obtain ⟨a0,⟨⟨⟨a1,⟨⟩⟩,⟨⟩⟩,⟨⟩⟩⟩:=x
 kernel_rfl
theorem ZCP (k:Nat):Ctr Tryz.prog k 241 (mk XH Zi ZeZ) :=
 ZB (fn:=Tryz.f241) (Zf (Za (ZKD k) Zd)) (by kernel_rfl) (by kernel_rfl) (ZHW k)
noncomputable abbrev ZLb:Nat × Callee:=(241,mk XH Zi ZeZ)
noncomputable def ZKt (k:Nat):=Wd k [ZLb]
def Zbz (k:Nat):List Int × ((Int × Unit) × Unit) × Unit → Option (Bool × (Int × Unit) × Unit)
 | (a0,((a1,()),()),()) => (ZeZ k (a0,((a1,()),()),())).bind fun y => some (decide ((0:Int) ≤ y.1),(y.2.1.1,()),())
def ZeQ (k:Nat):=Zbz k
theorem ZHe (k:Nat) (x:Kd.dens XH):ZA (ZKt k) nA Tryz.f193 XH ZE x = ZeQ k x:=by
 show _ = Zbz k x
 obtain ⟨a0,⟨⟨⟨a1,⟨⟩⟩,⟨⟩⟩,⟨⟩⟩⟩:=x
 kernel_rfl
theorem ZCA (k:Nat):Ctr Tryz.prog k 193 (mk XH ZE ZeQ) :=
 ZB (fn:=Tryz.f193) (Zf (Za (ZCP k) Zd)) (by kernel_rfl) (by kernel_rfl) (ZHe k)
noncomputable abbrev ZKu:Nat × Callee:=(193,mk XH ZE ZeQ)
abbrev Z3:List Kd:=[.view (.sl (.int .i64)),.view (.int .i64)]
noncomputable def ZW1 (k:Nat):=Wd k [ZTl,ZKu]
def Zld (k:Nat):List Int × Int × Unit → Option (Int × Unit)
 | (a0,a1,()) => (Zvh k (Int.ofNat a0.length,a1,())).bind fun y => bif !y.1 then some (1,()) else (ZeQ k (a0,((a1,()),()),())).bind fun y => bif y.1 then some (12,()) else some (0,())
def Zvf (k:Nat):=Zld k
theorem ZVw (k:Nat) (x:Kd.dens Z3):ZA (ZW1 k) nA Tryz.f151 Z3 Zi x = Zvf k x:=by
 show _ = Zld k x
 obtain ⟨a0,⟨a1,⟨⟩⟩⟩:=x
 kernel_rfl
theorem ZR3 (k:Nat):Ctr Tryz.prog k 151 (mk Z3 Zi Zvf) :=
 ZB (fn:=Tryz.f151) (Zf (Za (ZGb k) (Za (ZCA k) Zd))) (by kernel_rfl) (by kernel_rfl) (ZVw k)
noncomputable abbrev ZW2:Nat × Callee:=(151,mk Z3 Zi Zvf)
abbrev Zom:List Kd:=[.view (.int .i64),.box [.view (.int .i64),.view (.int .i64),.view (.int .i64),.view (.sl (.int .i64)),.view (.sl (.int .i64)),.view (.int .i64),.view (.sl (.int .i64)),.view (.int .i64)]]
def Zgs (k:Nat):Int × (Int × Int × Int × List Int × List Int × Int × List Int × Int × Unit) × Unit → Option (Bool × (Int × Int × Int × List Int × List Int × Int × List Int × Int × Unit) × Unit)
 | (a0,(a1,a2,a3,a4,a5,a6,a7,a8,()),()) => bif decide ((0:Int) ≤ 0 ∧ (0:Int) < Int.ofNat a4.length) then some (a0 != a4.getD 0 0,(a1,a2,a3,a4,a5,a6,a7,a8,()),()) else none
def Zqf (k:Nat):=Zgs k
theorem ZPK (k:Nat) (x:Kd.dens Zom):ZA (Z4 k) nA Tryz.f197 Zom ZE x = Zqf k x:=by
 show _ = Zgs k x
 obtain ⟨a0,⟨⟨a1,⟨a2,⟨a3,⟨a4,⟨a5,⟨a6,⟨a7,⟨a8,⟨⟩⟩⟩⟩⟩⟩⟩⟩⟩,⟨⟩⟩⟩:=x
 kernel_rfl
theorem ZKH (k:Nat):Ctr Tryz.prog k 197 (mk Zom ZE Zqf) :=
 ZB (fn:=Tryz.f197) (Zf Zd) (by kernel_rfl) (by kernel_rfl) (ZPK k)
noncomputable abbrev ZTT:Nat × Callee:=(197,mk Zom ZE Zqf)
abbrev XI:List Kd:=[.view (.sl (.int .i64)),.clo 197 [.box [.view (.int .i64),.view (.int .i64),.view (.int .i64),.view (.sl (.int .i64)),.view (.sl (.int .i64)),.view (.int .i64),.view (.sl (.int .i64)),.view (.int .i64)]]]
noncomputable def Zqp (k:Nat):=Wd k [ZTT]
abbrev Zmx:=Int × Int × List Int × Int × Int × Int × List Int × List Int × Int × List Int × Int
abbrev ZgV:=Zmx → Option (Int × (Int × Int × Int × List Int × List Int × Int × List Int × Int × Unit) × Unit)
def ZHX:Zmx → St
 | (v0,v1,v2,v3,v4,v5,v6,v7,v8,v9,v10) => St.mk (Zv [(7,Zl v0),(8,Zl v1),(1,AV.clo 197 [AV.bx 0 0]),(0,Yh v2)]) (Zu [(0,QQ [Zl v3,Zl v4,Zl v5,Yh v6,Yh v7,Zl v8,Yh v9,Zl v10])])
def KR (k:Nat) (L1:ZgV):ZgV
 | (v0,v1,v2,v3,v4,v5,v6,v7,v8,v9,v10) => bif decide (v1 < v0) then bif decide (0 ≤ v1 ∧ v1 < Int.ofNat v2.length) then (Zqf k (v2.getD v1.toNat 0,(v3,v4,v5,v6,v7,v8,v9,v10,()),())).bind fun y => bif y.1 then some (v1,(y.2.1.1,y.2.1.2.1,y.2.1.2.2.1,y.2.1.2.2.2.1,y.2.1.2.2.2.2.1,y.2.1.2.2.2.2.2.1,y.2.1.2.2.2.2.2.2.1,y.2.1.2.2.2.2.2.2.2.1,()),()) else L1 (v0,IntKind.i64.wrap (v1 + 1),v2,y.2.1.1,y.2.1.2.1,y.2.1.2.2.1,y.2.1.2.2.2.1,y.2.1.2.2.2.2.1,y.2.1.2.2.2.2.2.1,y.2.1.2.2.2.2.2.2.1,y.2.1.2.2.2.2.2.2.2.1) else none else some ((-1:Int),(v3,v4,v5,v6,v7,v8,v9,v10,()),())
def Zmw (k:Nat):ZgV:=Zn (fun L1 => KR k L1) k
noncomputable def Zqq (k:Nat) (n:Nat) (v:Zmx) :=
 Zs (Zqp k) X2 [0] [1,0,1,0] [] (Q6 Tryz.f241) (We (Zqp k) Tryz.f241 XI Zi [AV.bx (nat_lit 0) (nat_lit 0)] [[]]) n (ZHX v)
def ZnG (k:Nat) (L1:ZgV):List Int × ((Int × Int × Int × List Int × List Int × Int × List Int × Int × Unit) × Unit) × Unit → Option (Int × (Int × Int × Int × List Int × List Int × Int × List Int × Int × Unit) × Unit)
 | (a0,((a1,a2,a3,a4,a5,a6,a7,a8,()),()),()) => L1 (Int.ofNat a0.length,(0:Int),a0,a1,a2,a3,a4,a5,a6,a7,a8)
def Ze0 (k:Nat):=ZnG k (Zmw k)
theorem ZzX (k:Nat):∀ n,Zqq k n = Zn (fun L1 => KR k L1) n :=
 Zh (fun v => by kernel_rfl) (fun n v => by
  obtain ⟨v0,v1,v2,v3,v4,v5,v6,v7,v8,v9,v10⟩:=v
  kernel_rfl)
theorem ZHY (k:Nat) (x:Kd.dens XI):ZA (Zqp k) X2 Tryz.f241 XI Zi x = Ze0 k x:=by
 show _ = ZnG k (Zmw k) x
 rw [show Zmw k = Zqq k k from (ZzX k k).symm]
 obtain ⟨a0,⟨⟨⟨a1,⟨a2,⟨a3,⟨a4,⟨a5,⟨a6,⟨a7,⟨a8,⟨⟩⟩⟩⟩⟩⟩⟩⟩⟩,⟨⟩⟩,⟨⟩⟩⟩:=x
 kernel_rfl
theorem ZCQ (k:Nat):Ctr Tryz.prog k 241 (mk XI Zi Ze0) :=
 ZB (fn:=Tryz.f241) (Zf (Za (ZKH k) Zd)) (by kernel_rfl) (by kernel_rfl) (ZHY k)
noncomputable abbrev ZLc:Nat × Callee:=(241,mk XI Zi Ze0)
noncomputable def ZKv (k:Nat):=Wd k [ZLc]
def ZbA (k:Nat):List Int × ((Int × Int × Int × List Int × List Int × Int × List Int × Int × Unit) × Unit) × Unit → Option (Bool × (Int × Int × Int × List Int × List Int × Int × List Int × Int × Unit) × Unit)
 | (a0,((a1,a2,a3,a4,a5,a6,a7,a8,()),()),()) => (Ze0 k (a0,((a1,a2,a3,a4,a5,a6,a7,a8,()),()),())).bind fun y => some (decide ((0:Int) ≤ y.1),(y.2.1.1,y.2.1.2.1,y.2.1.2.2.1,y.2.1.2.2.2.1,y.2.1.2.2.2.2.1,y.2.1.2.2.2.2.2.1,y.2.1.2.2.2.2.2.2.1,y.2.1.2.2.2.2.2.2.2.1,()),())
def ZeR (k:Nat):=ZbA k
theorem ZHf (k:Nat) (x:Kd.dens XI):ZA (ZKv k) nA Tryz.f193 XI ZE x = ZeR k x:=by
 show _ = ZbA k x
 obtain ⟨a0,⟨⟨⟨a1,⟨a2,⟨a3,⟨a4,⟨a5,⟨a6,⟨a7,⟨a8,⟨⟩⟩⟩⟩⟩⟩⟩⟩⟩,⟨⟩⟩,⟨⟩⟩⟩:=x
 kernel_rfl
theorem ZCB (k:Nat):Ctr Tryz.prog k 193 (mk XI ZE ZeR) :=
 ZB (fn:=Tryz.f193) (Zf (Za (ZCQ k) Zd)) (by kernel_rfl) (by kernel_rfl) (ZHf k)
noncomputable abbrev ZKw:Nat × Callee:=(193,mk XI ZE ZeR)
abbrev ZoO:List Kd:=[.view (.int .u64)]
def ZCU (k:Nat):Int × Unit → Option (Int × Unit):=fun x => tzF x
def ZXl:Go.Shelf.Ren:=⟨fun n => match n with | 29 => 242 | _ => 0,fun n => match n with | 0 => 0 | 3 => 3 | 4 => 4 | 5 => 5 | 22 => 124 | 25 => 62 | 54 => 301 | _ => 0,fun n => match n with | 1 => 4 | _ => 0⟩
set_option maxRecDepth 100000 in
theorem ZWg:Go.Proofs.Lays7.n29 Tryz.prog ZXl:=by
 constructor <;> first | kernel_rfl | (intro w; rfl)
set_option maxRecDepth 100000 in
theorem ZLg (k:Nat):Ctr Tryz.prog k 242 (mk ZoO Zi ZCU):=ZWh ZWg (fn:=Tryz.f242) (by kernel_rfl) rfl (by kernel_rfl) (by kernel_rfl) (by kernel_rfl)
noncomputable abbrev ZUb:Nat × Callee:=(242,mk ZoO Zi ZCU)
noncomputable def ZCF (k:Nat):=Wd k [ZUb]
def ZKE:Nat → Ann:=fun id => bif Nat.beq id 3 then ⟨[7,8,6,3],[]⟩ else ⟨[],[]⟩
abbrev Zoj:=Wr → Option (Int × Unit)
def ZPH:Wr → St
 | (v0,v1,v2,v3) => St.mk (Zv [(7,Zl v0),(8,Zl v1),(6,Yh v2),(3,Zl v3)]) (Zu [])
def Zcn (k:Nat) (L1:Zoj):Zoj
 | (v0,v1,v2,v3) => bif decide (v1 < v0) then bif decide (0 ≤ v1 ∧ v1 < Int.ofNat v2.length) then L1 (v0,IntKind.i64.wrap (v1 + 1),v2,IntKind.i64.wrap (Int.ofNat (BitVec.ofInt 64 v3 ||| BitVec.ofInt 64 (v2.getD v1.toNat 0)).toNat)) else none else bif v3 == 0 then some (0,()) else (ZCU k (IntKind.u64.wrap v3,())).bind fun y => some (y.1,())
def Zok (k:Nat):Zoj:=Zn (fun L1 => Zcn k L1) k
noncomputable def Zzz (k:Nat) (n:Nat) (v:Wr) :=
 Zs (ZCF k) ZKE [] [1,1,0,1,0] [] (Q6 Tryz.f195) (We (ZCF k) Tryz.f195 Zag Zi [] []) n (ZPH v)
def Zgr (k:Nat) (L1:Zoj):List Int × Unit → Option (Int × Unit)
 | (a0,()) => L1 (Int.ofNat a0.length,(0:Int),a0,(0:Int))
def Zqd (k:Nat):=Zgr k (Zok k)
theorem ZHl (k:Nat):∀ n,Zzz k n = Zn (fun L1 => Zcn k L1) n :=
 Zh (fun v => by kernel_rfl) (fun n v => by
  obtain ⟨v0,v1,v2,v3⟩:=v
  kernel_rfl)
theorem ZPI (k:Nat) (x:Kd.dens Zag):ZA (ZCF k) ZKE Tryz.f195 Zag Zi x = Zqd k x:=by
 show _ = Zgr k (Zok k) x
 rw [show Zok k = Zzz k k from (ZHl k k).symm]
 obtain ⟨a0,⟨⟩⟩:=x
 kernel_rfl
theorem ZKF (k:Nat):Ctr Tryz.prog k 195 (mk Zag Zi Zqd) :=
 ZB (fn:=Tryz.f195) (Zf (Za (ZLg k) Zd)) (by kernel_rfl) (by kernel_rfl) (ZPI k)
noncomputable abbrev ZTR:Nat × Callee:=(195,mk Zag Zi Zqd)
abbrev Yj:Kd:=.tup [.view ZiO,.view (.int .i64)]
def Zwx:Nat → Ann:=fun id => bif Nat.beq id 17 then ⟨[48,49,47,8,2],[.cell 8 0 ((Ty.int IntKind.i64))]⟩ else bif Nat.beq id 9 then ⟨[29,30,28,5,20,19,2],[]⟩ else bif Nat.beq id 5 then ⟨[19,20,4,2],[]⟩ else ⟨[],[]⟩
abbrev ZwB:=Int × Int × Int × Int × List Int × List Int × Int
abbrev Zon:=ZwB → Option (((List Int × Int × Unit) × Int × Unit) × Unit)
abbrev Zgu:=Int × Int × List Int × Int × List Int × Int
abbrev Zoo:=Zgu → Option (((List Int × Int × Unit) × Int × Unit) × Unit)
abbrev Zgt:=Wr → Option (((List Int × Int × Unit) × Int × Unit) × Unit)
def ZPM:ZwB → St
 | (v0,v1,v2,v3,v4,v5,v6) => St.mk (Zv [(29,Zl v0),(30,Zl v1),(28,AV.own 8192),(5,AV.own 8193),(20,Zl v2),(19,Zl v3),(2,AV.bx 8194 0)]) (Zu [(8192,rsA v4 false),(8193,rsA v5 false),(8194,QQ [AV.val (PV.v (Value.slice none (0:Nat) (0:Nat))),Zl v6])])
def Zmk (k:Nat) (L1:Zgt) (L2:Zon):Zon
 | (v0,v1,v2,v3,v4,v5,v6) => bif decide (v1 < v0) then bif decide (0 ≤ v1 ∧ v1 < Int.ofNat v4.length) then bif decide (v1.toNat < v4.length) then bif decide (0 ≤ IntKind.i64.wrap (v1 + 1) ∧ IntKind.i64.wrap (v1 + 1) < Int.ofNat v5.length) then bif decide ((IntKind.i64.wrap (v1 + 1)).toNat < v5.length) then bif decide (0 ≤ IntKind.i64.wrap (v1 + 1) ∧ IntKind.i64.wrap (v1 + 1) < Int.ofNat v5.length) then bif decide ((IntKind.i64.wrap (v1 + 1)).toNat < v5.length) then L2 (v0,IntKind.i64.wrap (v1 + 1),v2,v3,v4,v5.set (IntKind.i64.wrap (v1 + 1)).toNat (IntKind.i64.wrap (v5.getD (IntKind.i64.wrap (v1 + 1)).toNat 0 - v4.getD v1.toNat 0)),v6) else none else none else none else none else none else none else L1 (v3,IntKind.i64.wrap (v2 + 1),v5,v6)
def Zwz (k:Nat) (L1:Zgt):Zon:=Zn (fun L2 => Zmk k L1 L2) k
noncomputable def Zjx (k:Nat) (n1:Nat) (n:Nat) (v:ZwB):Option (((List Int × Int × Unit) × Int × Unit) × Unit) :=
 Zs (Z4 k) Zwx [] [1,1,1,0,1,0,0,1,1,0,0,1,1,0,1,0] [n1] (Q6 Tryz.f171) (We (Z4 k) Tryz.f171 Zz Yj [] []) n (ZPM v)
def ZPN:Zgu → St
 | (v0,v1,v2,v3,v4,v5) => St.mk (Zv [(48,Zl v0),(49,Zl v1),(47,Yh v2),(8,AV.bx 8192 0),(2,AV.bx 8194 0)]) (Zu [(8192,QQ [AV.own 8193,Zl v3]),(8193,rsA v4 false),(8194,QQ [AV.val (PV.v (Value.slice none (0:Nat) (0:Nat))),Zl v5])])
def Zt8 (k:Nat) (L3:Zoo):Zoo
 | (v0,v1,v2,v3,v4,v5) => bif decide (v1 < v0) then bif decide (0 ≤ v1 ∧ v1 < Int.ofNat v2.length) then bif decide (v4.length + [IntKind.i64.wrap ((0:Int) - v2.getD v1.toNat 0)].length < 2147483648) then L3 (v0,IntKind.i64.wrap (v1 + 1),v2,v3,v4 ++ [IntKind.i64.wrap ((0:Int) - v2.getD v1.toNat 0)],v5) else none else none else some (((v4,v3,()),0,()),())
def ZwA (k:Nat):Zoo:=Zn (fun L3 => Zt8 k L3) k
noncomputable def ZzA (k:Nat) (n:Nat) (v:Zgu) :=
 Zs (Z4 k) Zwx [] [1,1,1,1,1,0,1,0] [] (Q6 Tryz.f171) (We (Z4 k) Tryz.f171 Zz Yj [] []) n (ZPN v)
def ZPL:Wr → St
 | (v0,v1,v2,v3) => St.mk (Zv [(19,Zl v0),(20,Zl v1),(4,AV.own 8192),(2,AV.bx 8193 0)]) (Zu [(8192,rsA v2 false),(8193,QQ [AV.val (PV.v (Value.slice none (0:Nat) (0:Nat))),Zl v3])])
def Zt7 (k:Nat) (L2:Zon) (L3:Zoo) (L1:Zgt):Zgt
 | (v0,v1,v2,v3) => bif decide (v1 < v0) then bif decide ((0:Nat) + v2.length < 2147483648) then bif decide (([] ++ v2).length + (1:Nat) < (2147483648:Nat)) then L2 (Int.ofNat v2.length,(0:Int),v1,v0,v2,[] ++ v2 ++ [(0:Int)],v3) else none else none else bif decide ((0:Int) ≤ 1 ∧ (1:Int) ≤ Int.ofNat v2.length ∧ Int.ofNat v2.length ≤ Int.ofNat v2.length) then L3 (Int.ofNat (List.drop 1 (List.take (Int.ofNat v2.length).toNat v2)).length,(0:Int),List.drop 1 (List.take (Int.ofNat v2.length).toNat v2),(0:Int),[],v3) else none
def Zwy (k:Nat):Zgt:=Zn (fun L1 => Zt7 k (Zwz k L1) (ZwA k) L1) k
noncomputable def ZeV (k:Nat) (n:Nat) (v:Wr) :=
 Zs (Z4 k) Zwx [] [1,1,1,0,1,0] [] (Q6 Tryz.f171) (We (Z4 k) Tryz.f171 Zz Yj [] []) n (ZPL v)
def Zt6 (k:Nat) (L1:Zgt):Int × Unit → Option (((List Int × Int × Unit) × Int × Unit) × Unit)
 | (a0,()) => bif decide (a0 < 0) then some ((([],(0:Int),()),1,()),()) else bif decide ((4:Int) < a0) then some ((([],(0:Int),()),1,()),()) else L1 (a0,(0:Int),[(1:Int)],(0:Int))
def ZeU (k:Nat):=Zt6 k (Zwy k)
theorem ZHo (k:Nat) (n1:Nat):∀ n,Zjx k n1 n = Zn (fun L2 => Zmk k (ZeV k n1) L2) n :=
 Zh (fun v => by kernel_rfl) (fun n v => by
  show Zjx k n1 (n + 1) v = Zmk k (ZeV k n1) (Zjx k n1 n) v
  obtain ⟨v0,v1,v2,v3,v4,v5,v6⟩:=v
  kernel_rfl)
theorem ZHp (k:Nat):∀ n,ZzA k n = Zn (fun L3 => Zt8 k L3) n :=
 Zh (fun v => by kernel_rfl) (fun n v => by
  obtain ⟨v0,v1,v2,v3,v4,v5⟩:=v
  kernel_rfl)
theorem ZHn (k:Nat):∀ n,ZeV k n = Zn (fun L1 => Zt7 k (Zwz k L1) (ZwA k) L1) n :=
 Zh (fun v => by kernel_rfl) (fun n v => by
  rw [show (Zwz k (ZeV k n)) = Zjx k n k from (ZHo k n k).symm,show (ZwA k) = ZzA k k from (ZHp k k).symm]
  obtain ⟨v0,v1,v2,v3⟩:=v
  kernel_rfl)
theorem ZPO (k:Nat) (x:Kd.dens Zz):ZA (Z4 k) Zwx Tryz.f171 Zz Yj x = ZeU k x:=by
 show _ = Zt6 k (Zwy k) x
 rw [show Zwy k = ZeV k k from (ZHn k k).symm]
 obtain ⟨a0,⟨⟩⟩:=x
 kernel_rfl
theorem Zqg (k:Nat):Ctr Tryz.prog k 171 (mk Zz Yj ZeU) :=
 ZB (fn:=Tryz.f171) (Zf Zd) (by kernel_rfl) (by kernel_rfl) (ZPO k)
noncomputable abbrev ZCG:Nat × Callee:=(171,mk Zz Yj ZeU)
def ZgY (k:Nat):Int × Unit → Option (Bool × Unit)
 | (a0,()) => bif decide (a0 ≤ -2147483648) then some (true,()) else some (decide (2147483648 ≤ a0),())
def ZiA (k:Nat):=ZgY k
theorem ZQu (k:Nat) (x:Kd.dens Zz):ZA (Z4 k) nA Tryz.f220 Zz ZE x = ZiA k x:=by
 show _ = ZgY k x
 obtain ⟨a0,⟨⟩⟩:=x
 kernel_rfl
theorem Zqy (k:Nat):Ctr Tryz.prog k 220 (mk Zz ZE ZiA) :=
 ZB (fn:=Tryz.f220) (Zf Zd) (by kernel_rfl) (by kernel_rfl) (ZQu k)
noncomputable abbrev ZCY:Nat × Callee:=(220,mk Zz ZE ZiA)
abbrev XJ:List Kd:=[.view (.sl (.int .i64)),.fn 220]
noncomputable def Zqr (k:Nat):=Wd k [ZCY]
abbrev Kh:=Int × Int × List Int
abbrev Ws:=Kh → Option (Int × Unit)
def ZHZ:Kh → St
 | (v0,v1,v2) => St.mk (Zv [(7,Zl v0),(8,Zl v1),(1,AV.fn 220),(0,Yh v2)]) (Zu [])
def KS (k:Nat) (L1:Ws):Ws
 | (v0,v1,v2) => bif decide (v1 < v0) then bif decide (0 ≤ v1 ∧ v1 < Int.ofNat v2.length) then (ZiA k (v2.getD v1.toNat 0,())).bind fun y => bif y.1 then some (v1,()) else L1 (v0,IntKind.i64.wrap (v1 + 1),v2) else none else some ((-1:Int),())
def Zmy (k:Nat):Ws:=Zn (fun L1 => KS k L1) k
noncomputable def Zqs (k:Nat) (n:Nat) (v:Kh) :=
 Zs (Zqr k) X2 [] [1,0,1,0] [] (Q6 Tryz.f241) (We (Zqr k) Tryz.f241 XJ Zi [] []) n (ZHZ v)
def ZnH (k:Nat) (L1:Ws):List Int × Unit × Unit → Option (Int × Unit)
 | (a0,(),()) => L1 (Int.ofNat a0.length,(0:Int),a0)
def Ze1 (k:Nat):=ZnH k (Zmy k)
theorem ZzY (k:Nat):∀ n,Zqs k n = Zn (fun L1 => KS k L1) n :=
 Zh (fun v => by kernel_rfl) (fun n v => by
  obtain ⟨v0,v1,v2⟩:=v
  kernel_rfl)
theorem ZH0 (k:Nat) (x:Kd.dens XJ):ZA (Zqr k) X2 Tryz.f241 XJ Zi x = Ze1 k x:=by
 show _ = ZnH k (Zmy k) x
 rw [show Zmy k = Zqs k k from (ZzY k k).symm]
 obtain ⟨a0,⟨⟨⟩,⟨⟩⟩⟩:=x
 kernel_rfl
theorem ZCR (k:Nat):Ctr Tryz.prog k 241 (mk XJ Zi Ze1) :=
 ZB (fn:=Tryz.f241) (Zf (Za (Zqy k) Zd)) (by kernel_rfl) (by kernel_rfl) (ZH0 k)
noncomputable abbrev ZLd:Nat × Callee:=(241,mk XJ Zi Ze1)
noncomputable def ZKx (k:Nat):=Wd k [ZLd]
def ZbB (k:Nat):List Int × Unit × Unit → Option (Bool × Unit)
 | (a0,(),()) => (Ze1 k (a0,(),())).bind fun y => some (decide ((0:Int) ≤ y.1),())
def KN (k:Nat):=ZbB k
theorem ZHg (k:Nat) (x:Kd.dens XJ):ZA (ZKx k) nA Tryz.f193 XJ ZE x = KN k x:=by
 show _ = ZbB k x
 obtain ⟨a0,⟨⟨⟩,⟨⟩⟩⟩:=x
 kernel_rfl
theorem Zit (k:Nat):Ctr Tryz.prog k 193 (mk XJ ZE KN) :=
 ZB (fn:=Tryz.f193) (Zf (Za (ZCR k) Zd)) (by kernel_rfl) (by kernel_rfl) (ZHg k)
noncomputable abbrev Zqb:Nat × Callee:=(193,mk XJ ZE KN)
def Zhi (k:Nat):Int × Unit → Option (Bool × Unit)
 | (a0,()) => bif decide (a0 < -2048) then some (true,()) else some (decide ((2047:Int) < a0),())
def ZqN (k:Nat):=Zhi k
theorem ZQ1 (k:Nat) (x:Kd.dens Zz):ZA (Z4 k) nA Tryz.f257 Zz ZE x = ZqN k x:=by
 show _ = Zhi k x
 obtain ⟨a0,⟨⟩⟩:=x
 kernel_rfl
theorem ZLU (k:Nat):Ctr Tryz.prog k 257 (mk Zz ZE ZqN) :=
 ZB (fn:=Tryz.f257) (Zf Zd) (by kernel_rfl) (by kernel_rfl) (ZQ1 k)
noncomputable abbrev ZUL:Nat × Callee:=(257,mk Zz ZE ZqN)
abbrev XL:List Kd:=[.view (.sl (.int .i64)),.fn 257]
noncomputable def Zqv (k:Nat):=Wd k [ZUL]
def ZH3:Kh → St
 | (v0,v1,v2) => St.mk (Zv [(7,Zl v0),(8,Zl v1),(1,AV.fn 257),(0,Yh v2)]) (Zu [])
def KU (k:Nat) (L1:Ws):Ws
 | (v0,v1,v2) => bif decide (v1 < v0) then bif decide (0 ≤ v1 ∧ v1 < Int.ofNat v2.length) then (ZqN k (v2.getD v1.toNat 0,())).bind fun y => bif y.1 then some (v1,()) else L1 (v0,IntKind.i64.wrap (v1 + 1),v2) else none else some ((-1:Int),())
def ZmA (k:Nat):Ws:=Zn (fun L1 => KU k L1) k
noncomputable def Zqw (k:Nat) (n:Nat) (v:Kh) :=
 Zs (Zqv k) X2 [] [1,0,1,0] [] (Q6 Tryz.f241) (We (Zqv k) Tryz.f241 XL Zi [] []) n (ZH3 v)
def ZnJ (k:Nat) (L1:Ws):List Int × Unit × Unit → Option (Int × Unit)
 | (a0,(),()) => L1 (Int.ofNat a0.length,(0:Int),a0)
def Ze3 (k:Nat):=ZnJ k (ZmA k)
theorem Zz0 (k:Nat):∀ n,Zqw k n = Zn (fun L1 => KU k L1) n :=
 Zh (fun v => by kernel_rfl) (fun n v => by
  obtain ⟨v0,v1,v2⟩:=v
  kernel_rfl)
theorem ZH4 (k:Nat) (x:Kd.dens XL):ZA (Zqv k) X2 Tryz.f241 XL Zi x = Ze3 k x:=by
 show _ = ZnJ k (ZmA k) x
 rw [show ZmA k = Zqw k k from (Zz0 k k).symm]
 obtain ⟨a0,⟨⟨⟩,⟨⟩⟩⟩:=x
 kernel_rfl
theorem ZCT (k:Nat):Ctr Tryz.prog k 241 (mk XL Zi Ze3) :=
 ZB (fn:=Tryz.f241) (Zf (Za (ZLU k) Zd)) (by kernel_rfl) (by kernel_rfl) (ZH4 k)
noncomputable abbrev ZLf:Nat × Callee:=(241,mk XL Zi Ze3)
noncomputable def ZKA (k:Nat):=Wd k [ZLf]
def ZbE (k:Nat):List Int × Unit × Unit → Option (Bool × Unit)
 | (a0,(),()) => (Ze3 k (a0,(),())).bind fun y => some (decide ((0:Int) ≤ y.1),())
def ZeT (k:Nat):=ZbE k
theorem ZHi (k:Nat) (x:Kd.dens XL):ZA (ZKA k) nA Tryz.f193 XL ZE x = ZeT k x:=by
 show _ = ZbE k x
 obtain ⟨a0,⟨⟨⟩,⟨⟩⟩⟩:=x
 kernel_rfl
theorem ZCD (k:Nat):Ctr Tryz.prog k 193 (mk XL ZE ZeT) :=
 ZB (fn:=Tryz.f193) (Zf (Za (ZCT k) Zd)) (by kernel_rfl) (by kernel_rfl) (ZHi k)
noncomputable abbrev ZKB:Nat × Callee:=(193,mk XL ZE ZeT)
abbrev ZoZ:List Kd:=[.view ZiO]
noncomputable def ZUt (k:Nat):=Wd k [ZKB]
def Zha (k:Nat):(List Int × Int × Unit) × Unit → Option (Int × Unit)
 | ((a0,a1,()),()) => bif decide ((8:Int) < Int.ofNat a0.length) then some (2,()) else bif decide (a1 < 0) then some (2,()) else bif decide ((15:Int) < a1) then some (2,()) else (ZeT k (a0,(),())).bind fun y => bif y.1 then some (2,()) else some (0,())
def ZmK (k:Nat):=Zha k
theorem ZQO (k:Nat) (x:Kd.dens ZoZ):ZA (ZUt k) nA Tryz.f219 ZoZ Zi x = ZmK k x:=by
 show _ = Zha k x
 obtain ⟨⟨a0,⟨a1,⟨⟩⟩⟩,⟨⟩⟩:=x
 kernel_rfl
theorem ZAf (k:Nat):Ctr Tryz.prog k 219 (mk ZoZ Zi ZmK) :=
 ZB (fn:=Tryz.f219) (Zf (Za (ZCD k) Zd)) (by kernel_rfl) (by kernel_rfl) (ZQO k)
noncomputable abbrev ZLD:Nat × Callee:=(219,mk ZoZ Zi ZmK)
abbrev W8:List Kd:=[.view ZiO,.view (.sl (.int .i64))]
def ZLE:Nat → Ann:=fun id => bif Nat.beq id 3 then ⟨[10,11,9,5,1,2],[]⟩ else ⟨[],[]⟩
abbrev Zw3:=Int × Int × List Int × Int × List Int × List Int × Int
abbrev Zo0:=Zw3 → Option (Int × Unit)
def ZQP:Zw3 → St
 | (v0,v1,v2,v3,v4,v5,v6) => St.mk (Zv [(10,Zl v0),(11,Zl v1),(9,Yh v2),(5,Zl v3),(1,Yh v4),(2,AV.bx 8192 0)]) (Zu [(8192,QQ [Yh v5,Zl v6])])
def ZcG (k:Nat) (L1:Zo0):Zo0
 | (v0,v1,v2,v3,v4,v5,v6) => bif decide (v1 < v0) then bif decide (0 ≤ v1 ∧ v1 < Int.ofNat v2.length) then bif decide (0 ≤ IntKind.i64.wrap (IntKind.i64.wrap (Int.ofNat v4.length - (1:Int)) - v1) ∧ IntKind.i64.wrap (IntKind.i64.wrap (Int.ofNat v4.length - (1:Int)) - v1) < Int.ofNat v4.length) then L1 (v0,IntKind.i64.wrap (v1 + 1),v2,IntKind.i64.wrap (v3 + IntKind.i64.wrap (v2.getD v1.toNat 0 * v4.getD (IntKind.i64.wrap (IntKind.i64.wrap (Int.ofNat v4.length - (1:Int)) - v1)).toNat 0)),v4,v5,v6) else none else none else bif decide (0 ≤ v6) then some (v3.fdiv ((2:Int) ^ min v6.toNat 64),()) else none
def Zo1 (k:Nat):Zo0:=Zn (fun L1 => ZcG k L1) k
noncomputable def ZAg (k:Nat) (n:Nat) (v:Zw3) :=
 Zs (Z4 k) ZLE [] [1,1,0,1,0] [] (Q6 Tryz.f222) (We (Z4 k) Tryz.f222 W8 Zi [] []) n (ZQP v)
def Zhb (k:Nat) (L1:Zo0):(List Int × Int × Unit) × List Int × Unit → Option (Int × Unit)
 | ((a0,a1,()),a2,()) => L1 (Int.ofNat a0.length,(0:Int),a0,(0:Int),a2,a0,a1)
def ZmL (k:Nat):=Zhb k (Zo1 k)
theorem ZIk (k:Nat):∀ n,ZAg k n = Zn (fun L1 => ZcG k L1) n :=
 Zh (fun v => by kernel_rfl) (fun n v => by
  obtain ⟨v0,v1,v2,v3,v4,v5,v6⟩:=v
  kernel_rfl)
theorem ZQQ (k:Nat) (x:Kd.dens W8):ZA (Z4 k) ZLE Tryz.f222 W8 Zi x = ZmL k x:=by
 show _ = Zhb k (Zo1 k) x
 rw [show Zo1 k = ZAg k k from (ZIk k k).symm]
 obtain ⟨⟨a0,⟨a1,⟨⟩⟩⟩,⟨a2,⟨⟩⟩⟩:=x
 kernel_rfl
theorem ZAh (k:Nat):Ctr Tryz.prog k 222 (mk W8 Zi ZmL) :=
 ZB (fn:=Tryz.f222) (Zf Zd) (by kernel_rfl) (by kernel_rfl) (ZQQ k)
noncomputable abbrev ZLF:Nat × Callee:=(222,mk W8 Zi ZmL)
abbrev QY:Kd:=.tup [.view (.sl (.int .i64)),.view (.int .i64)]
noncomputable def ZCV (k:Nat):=Wd k [Zqb,ZCY,ZLD,ZLF]
def ZLh:Nat → Ann:=fun id => bif Nat.beq id 9 then ⟨[7,1,2,6],[.slot 6 ((Ty.int IntKind.i64))]⟩ else ⟨[],[]⟩
abbrev ZwV:=Int × List Int × List Int × Int × List Int
abbrev ZoP:=ZwV → Option ((List Int × Int × Unit) × Unit)
def ZQq:ZwV → St
 | (v0,v1,v2,v3,v4) => St.mk (Zv [(7,Zl v0),(1,Yh v1),(2,AV.bx 8192 0),(6,AV.own 8193)]) (Zu [(8192,QQ [Yh v2,Zl v3]),(8193,rsA v4 false)])
def Zcz (k:Nat) (L1:ZoP):ZoP
 | (v0,v1,v2,v3,v4) => bif decide (v0 < Int.ofNat v1.length) then bif decide (0 ≤ v0 ∧ v0 < Int.ofNat v1.length) then bif decide ((0:Int) ≤ 0 ∧ (0:Int) ≤ v0 ∧ v0 ≤ Int.ofNat v1.length) then (ZmL k ((v2,v3,()),List.drop 0 (List.take v0.toNat v1),())).bind fun y => (ZiA k (IntKind.i64.wrap (v1.getD v0.toNat 0 - y.1),())).bind fun y_1 => bif y_1.1 then some (([],12,()),()) else bif decide (v4.length + [IntKind.i64.wrap (v1.getD v0.toNat 0 - y.1)].length < 2147483648) then L1 (IntKind.i64.wrap (v0 + 1),v1,v2,v3,v4 ++ [IntKind.i64.wrap (v1.getD v0.toNat 0 - y.1)]) else none else none else none else some ((v4,0,()),())
def ZoQ (k:Nat):ZoP:=Zn (fun L1 => Zcz k L1) k
noncomputable def Zz1 (k:Nat) (n:Nat) (v:ZwV) :=
 Zs (ZCV k) ZLh [] [1,1,1,0,1,0] [] (Q6 Tryz.f243) (We (ZCV k) Tryz.f243 W8 QY [] []) n (ZQq v)
def ZgW (k:Nat) (L1:ZoP):(List Int × Int × Unit) × List Int × Unit → Option ((List Int × Int × Unit) × Unit)
 | ((a0,a1,()),a2,()) => (ZmK k ((a0,a1,()),())).bind fun y => bif y.1 != 0 then some (([],2,()),()) else bif decide (Int.ofNat a2.length < Int.ofNat a0.length) then some (([],1,()),()) else (KN k (a2,(),())).bind fun y => bif y.1 then some (([],12,()),()) else L1 (Int.ofNat a0.length,a2,a0,a1,[])
def ZmB (k:Nat):=ZgW k (ZoQ k)
theorem ZH5 (k:Nat):∀ n,Zz1 k n = Zn (fun L1 => Zcz k L1) n :=
 Zh (fun v => by kernel_rfl) (fun n v => by
  obtain ⟨v0,v1,v2,v3,v4⟩:=v
  kernel_rfl)
theorem ZQr (k:Nat) (x:Kd.dens W8):ZA (ZCV k) ZLh Tryz.f243 W8 QY x = ZmB k x:=by
 show _ = ZgW k (ZoQ k) x
 rw [show ZoQ k = Zz1 k k from (ZH5 k k).symm]
 obtain ⟨⟨a0,⟨a1,⟨⟩⟩⟩,⟨a2,⟨⟩⟩⟩:=x
 kernel_rfl
theorem Zz2 (k:Nat):Ctr Tryz.prog k 243 (mk W8 QY ZmB) :=
 ZB (fn:=Tryz.f243) (Zf (Za (Zit k) (Za (Zqy k) (Za (ZAf k) (Za (ZAh k) Zd))))) (by kernel_rfl) (by kernel_rfl) (ZQr k)
noncomputable abbrev ZLi:Nat × Callee:=(243,mk W8 QY ZmB)
def Zg1 (k:Nat):Int × Unit → Option (Bool × Unit)
 | (a0,()) => bif decide (a0 ≤ -2147483648) then some (true,()) else some (decide (2147483648 ≤ a0),())
def ZqB (k:Nat):=Zg1 k
theorem ZQA (k:Nat) (x:Kd.dens Zz):ZA (Z4 k) nA Tryz.f247 Zz ZE x = ZqB k x:=by
 show _ = Zg1 k x
 obtain ⟨a0,⟨⟩⟩:=x
 kernel_rfl
theorem ZLu (k:Nat):Ctr Tryz.prog k 247 (mk Zz ZE ZqB) :=
 ZB (fn:=Tryz.f247) (Zf Zd) (by kernel_rfl) (by kernel_rfl) (ZQA k)
noncomputable abbrev ZUj:Nat × Callee:=(247,mk Zz ZE ZqB)
abbrev XK:List Kd:=[.view (.sl (.int .i64)),.fn 247]
noncomputable def Zqt (k:Nat):=Wd k [ZUj]
def ZH1:Kh → St
 | (v0,v1,v2) => St.mk (Zv [(7,Zl v0),(8,Zl v1),(1,AV.fn 247),(0,Yh v2)]) (Zu [])
def KT (k:Nat) (L1:Ws):Ws
 | (v0,v1,v2) => bif decide (v1 < v0) then bif decide (0 ≤ v1 ∧ v1 < Int.ofNat v2.length) then (ZqB k (v2.getD v1.toNat 0,())).bind fun y => bif y.1 then some (v1,()) else L1 (v0,IntKind.i64.wrap (v1 + 1),v2) else none else some ((-1:Int),())
def Zmz (k:Nat):Ws:=Zn (fun L1 => KT k L1) k
noncomputable def Zqu (k:Nat) (n:Nat) (v:Kh) :=
 Zs (Zqt k) X2 [] [1,0,1,0] [] (Q6 Tryz.f241) (We (Zqt k) Tryz.f241 XK Zi [] []) n (ZH1 v)
def ZnI (k:Nat) (L1:Ws):List Int × Unit × Unit → Option (Int × Unit)
 | (a0,(),()) => L1 (Int.ofNat a0.length,(0:Int),a0)
def Ze2 (k:Nat):=ZnI k (Zmz k)
theorem ZzZ (k:Nat):∀ n,Zqu k n = Zn (fun L1 => KT k L1) n :=
 Zh (fun v => by kernel_rfl) (fun n v => by
  obtain ⟨v0,v1,v2⟩:=v
  kernel_rfl)
theorem ZH2 (k:Nat) (x:Kd.dens XK):ZA (Zqt k) X2 Tryz.f241 XK Zi x = Ze2 k x:=by
 show _ = ZnI k (Zmz k) x
 rw [show Zmz k = Zqu k k from (ZzZ k k).symm]
 obtain ⟨a0,⟨⟨⟩,⟨⟩⟩⟩:=x
 kernel_rfl
theorem ZCS (k:Nat):Ctr Tryz.prog k 241 (mk XK Zi Ze2) :=
 ZB (fn:=Tryz.f241) (Zf (Za (ZLu k) Zd)) (by kernel_rfl) (by kernel_rfl) (ZH2 k)
noncomputable abbrev ZLe:Nat × Callee:=(241,mk XK Zi Ze2)
noncomputable def ZKy (k:Nat):=Wd k [ZLe]
def ZbD (k:Nat):List Int × Unit × Unit → Option (Bool × Unit)
 | (a0,(),()) => (Ze2 k (a0,(),())).bind fun y => some (decide ((0:Int) ≤ y.1),())
def ZeS (k:Nat):=ZbD k
theorem ZHh (k:Nat) (x:Kd.dens XK):ZA (ZKy k) nA Tryz.f193 XK ZE x = ZeS k x:=by
 show _ = ZbD k x
 obtain ⟨a0,⟨⟨⟩,⟨⟩⟩⟩:=x
 kernel_rfl
theorem ZCC (k:Nat):Ctr Tryz.prog k 193 (mk XK ZE ZeS) :=
 ZB (fn:=Tryz.f193) (Zf (Za (ZCS k) Zd)) (by kernel_rfl) (by kernel_rfl) (ZHh k)
noncomputable abbrev ZKz:Nat × Callee:=(193,mk XK ZE ZeS)
def Zg0 (k:Nat):Int × Int × Unit → Option (Bool × Unit)
 | (a0,a1,()) => bif decide (1 ≤ a0) then bif decide (a0 ≤ 512) then bif decide (0 ≤ a1) then some (decide (a1 ≤ if a0 < 8 then a0 else (8:Int)),()) else some (false,()) else some (false,()) else some (false,())
def ZmH (k:Nat):=Zg0 k
theorem ZQz (k:Nat) (x:Kd.dens Zaf):ZA (Z4 k) nA Tryz.f216 Zaf ZE x = ZmH k x:=by
 show _ = Zg0 k x
 obtain ⟨a0,⟨a1,⟨⟩⟩⟩:=x
 kernel_rfl
theorem Zz9 (k:Nat):Ctr Tryz.prog k 216 (mk Zaf ZE ZmH) :=
 ZB (fn:=Tryz.f216) (Zf Zd) (by kernel_rfl) (by kernel_rfl) (ZQz k)
noncomputable abbrev ZLt:Nat × Callee:=(216,mk Zaf ZE ZmH)
noncomputable def ZTX (k:Nat):=Wd k [ZKz,ZLt]
def ZgA (k:Nat):List Int × Int × Unit → Option (Int × Unit)
 | (a0,a1,()) => bif decide (a1 < 0) then some (1,()) else bif decide ((8:Int) < a1) then some (1,()) else (ZmH k (IntKind.i64.wrap (Int.ofNat a0.length + a1),a1,())).bind fun y => bif !y.1 then some (1,()) else (ZeS k (a0,(),())).bind fun y => bif y.1 then some (12,()) else some (0,())
def Zmn (k:Nat):=ZgA k
theorem ZPV (k:Nat) (x:Kd.dens Z3):ZA (ZTX k) nA Tryz.f201 Z3 Zi x = Zmn k x:=by
 show _ = ZgA k x
 obtain ⟨a0,⟨a1,⟨⟩⟩⟩:=x
 kernel_rfl
theorem ZzC (k:Nat):Ctr Tryz.prog k 201 (mk Z3 Zi Zmn) :=
 ZB (fn:=Tryz.f201) (Zf (Za (ZCC k) (Za (Zz9 k) Zd))) (by kernel_rfl) (by kernel_rfl) (ZPV k)
noncomputable abbrev ZKM:Nat × Callee:=(201,mk Z3 Zi Zmn)
abbrev ZjC:List Kd:=[.view (.sl (.int .i64)),.view (.int .i64),.view (.int .i64)]
abbrev Zow:Kd:=.view (.sl (.sl (.int .i64)))
def ZKO:Nat → Ann:=fun id => bif Nat.beq id 4 then ⟨[8,2,9,7],[]⟩ else ⟨[],[]⟩
abbrev ZwL:=Int × List Int × Int × List (List Int)
abbrev Zou:=ZwL → Option (List (List Int) × Unit)
def ZP0:ZwL → St
 | (v0,v1,v2,v3) => St.mk (Zv [(8,AV.own 8192),(2,Zl v0),(9,Yh v1),(7,Zl v2)]) (Zu [(8192,RS.live (Res.arr (Ty.int IntKind.i64).sl v3 false))])
def Zcp (k:Nat) (L1:Zou):Zou
 | (v0,v1,v2,v3) => bif decide (0 ≤ v0) then bif decide (Int.ofNat v3.length < IntKind.i64.wrap ((1:Int) * (2:Int) ^ min v0.toNat 64)) then bif decide ((0:Int) ≤ 0 ∧ (0:Int) ≤ v2 ∧ v2 ≤ Int.ofNat v1.length) then bif decide (v3.length + [List.drop 0 (List.take v2.toNat v1)].length < 2147483648) then bif decide (0 ≤ v2 ∧ v2 ≤ Int.ofNat v1.length ∧ Int.ofNat v1.length ≤ Int.ofNat v1.length) then L1 (v0,List.drop v2.toNat (List.take (Int.ofNat v1.length).toNat v1),v2,v3 ++ [List.drop 0 (List.take v2.toNat v1)]) else none else none else none else some (v3,()) else none
def Zov (k:Nat):Zou:=Zn (fun L1 => Zcp k L1) k
noncomputable def ZzE (k:Nat) (n:Nat) (v:ZwL) :=
 Zs (Z4 k) ZKO [] [1,1,1,0,1,0] [] (Q6 Tryz.f203) (We (Z4 k) Tryz.f203 ZjC Zow [] []) n (ZP0 v)
def ZgE (k:Nat) (L1:Zou):List Int × Int × Int × Unit → Option (List (List Int) × Unit)
 | (a0,a1,a2,()) => bif decide (0 ≤ a2) then bif decide ((0:Int) ≤ 0 ∧ (0:Int) ≤ IntKind.i64.wrap ((IntKind.i64.wrap (Int.ofNat a0.length + a1)).fdiv ((2:Int) ^ min a2.toNat 64) - a1) ∧ IntKind.i64.wrap ((IntKind.i64.wrap (Int.ofNat a0.length + a1)).fdiv ((2:Int) ^ min a2.toNat 64) - a1) ≤ Int.ofNat a0.length) then bif decide (0 ≤ IntKind.i64.wrap ((IntKind.i64.wrap (Int.ofNat a0.length + a1)).fdiv ((2:Int) ^ min a2.toNat 64) - a1) ∧ IntKind.i64.wrap ((IntKind.i64.wrap (Int.ofNat a0.length + a1)).fdiv ((2:Int) ^ min a2.toNat 64) - a1) ≤ Int.ofNat a0.length ∧ Int.ofNat a0.length ≤ Int.ofNat a0.length) then L1 (a2,List.drop (IntKind.i64.wrap ((IntKind.i64.wrap (Int.ofNat a0.length + a1)).fdiv ((2:Int) ^ min a2.toNat 64) - a1)).toNat (List.take (Int.ofNat a0.length).toNat a0),(IntKind.i64.wrap (Int.ofNat a0.length + a1)).fdiv ((2:Int) ^ min a2.toNat 64),[List.drop 0 (List.take (IntKind.i64.wrap ((IntKind.i64.wrap (Int.ofNat a0.length + a1)).fdiv ((2:Int) ^ min a2.toNat 64) - a1)).toNat a0)]) else none else none else none
def Zmp (k:Nat):=ZgE k (Zov k)
theorem ZHA (k:Nat):∀ n,ZzE k n = Zn (fun L1 => Zcp k L1) n :=
 Zh (fun v => by kernel_rfl) (fun n v => by
  obtain ⟨v0,v1,v2,v3⟩:=v
  kernel_rfl)
theorem ZP1 (k:Nat) (x:Kd.dens ZjC):ZA (Z4 k) ZKO Tryz.f203 ZjC Zow x = Zmp k x:=by
 show _ = ZgE k (Zov k) x
 rw [show Zov k = ZzE k k from (ZHA k k).symm]
 obtain ⟨a0,⟨a1,⟨a2,⟨⟩⟩⟩⟩:=x
 kernel_rfl
theorem ZzF (k:Nat):Ctr Tryz.prog k 203 (mk ZjC Zow Zmp) :=
 ZB (fn:=Tryz.f203) (Zf Zd) (by kernel_rfl) (by kernel_rfl) (ZP1 k)
noncomputable abbrev ZKP:Nat × Callee:=(203,mk ZjC Zow Zmp)
def Zue (k:Nat):Int × Unit → Option (Int × Unit)
 | (a0,()) => some (IntKind.i64.wrap ((4:Int) + a0),())
def Zdv (k:Nat):=Zue k
theorem ZP2 (k:Nat) (x:Kd.dens Zz):ZA (Z4 k) nA Tryz.f204 Zz Zi x = Zdv k x:=by
 show _ = Zue k x
 obtain ⟨a0,⟨⟩⟩:=x
 kernel_rfl
theorem ZzG (k:Nat):Ctr Tryz.prog k 204 (mk Zz Zi Zdv) :=
 ZB (fn:=Tryz.f204) (Zf Zd) (by kernel_rfl) (by kernel_rfl) (ZP2 k)
noncomputable abbrev ZTY:Nat × Callee:=(204,mk Zz Zi Zdv)
abbrev Zg2:List Kd:=[.view (.int .i64),.view (.int .i64),.view (.int .i64)]
def Zg3 (k:Nat):Int × Int × Int × Unit → Option (Bool × Unit)
 | (a0,a1,a2,()) => bif decide (0 ≤ a2) then bif IntKind.i64.wrap (Int.ofNat (BitVec.ofInt 64 a0 &&& BitVec.ofInt 64 (IntKind.i64.wrap (IntKind.i64.wrap ((1:Int) * (2:Int) ^ min a2.toNat 64) - (1:Int)))).toNat) == 0 then bif decide (0 ≤ a2) then some (decide (a1 ≤ a0.fdiv ((2:Int) ^ min a2.toNat 64)),()) else none else some (false,()) else none
def Zdz (k:Nat):=Zg3 k
theorem ZQB (k:Nat) (x:Kd.dens Zg2):ZA (Z4 k) nA Tryz.f217 Zg2 ZE x = Zdz k x:=by
 show _ = Zg3 k x
 obtain ⟨a0,⟨a1,⟨a2,⟨⟩⟩⟩⟩:=x
 kernel_rfl
theorem ZAa (k:Nat):Ctr Tryz.prog k 217 (mk Zg2 ZE Zdz) :=
 ZB (fn:=Tryz.f217) (Zf Zd) (by kernel_rfl) (by kernel_rfl) (ZQB k)
noncomputable abbrev ZUk:Nat × Callee:=(217,mk Zg2 ZE Zdz)
noncomputable def ZTZ (k:Nat):=Wd k [ZTY]
def Zug (k:Nat):Int × Unit → Option (Int × Unit)
 | (a0,()) => (Zdv k (a0,())).bind fun y => bif decide ((0:Int) ≤ y.1) then some (IntKind.i64.wrap (IntKind.i64.wrap ((1:Int) * (2:Int) ^ min (Int.toNat y.1) (64:Nat)) - (1:Int)),()) else none
def Zdx (k:Nat):=Zug k
theorem ZP3 (k:Nat) (x:Kd.dens Zz):ZA (ZTZ k) nA Tryz.f205 Zz Zi x = Zdx k x:=by
 show _ = Zug k x
 obtain ⟨a0,⟨⟩⟩:=x
 kernel_rfl
theorem ZKQ (k:Nat):Ctr Tryz.prog k 205 (mk Zz Zi Zdx) :=
 ZB (fn:=Tryz.f205) (Zf (Za (ZzG k) Zd)) (by kernel_rfl) (by kernel_rfl) (ZP3 k)
noncomputable abbrev ZXx:Nat × Callee:=(205,mk Zz Zi Zdx)
def ZgF (k:Nat):Int × Unit → Option ((Int × Int × Unit) × Unit)
 | (a0,()) => bif decide (a0 < -1099511627776) then some ((0,12,()),()) else bif decide ((1099511627776:Int) < a0) then some ((0,12,()),()) else some ((IntKind.i64.wrap (Int.ofNat (BitVec.ofInt 64 (IntKind.i64.wrap (a0 * (2:Int))) ^^^ BitVec.ofInt 64 (a0.fdiv (9223372036854775808:Int))).toNat),0,()),())
def ZeW (k:Nat):=ZgF k
theorem ZP4 (k:Nat) (x:Kd.dens Zz):ZA (Z4 k) nA Tryz.f206 Zz Z5 x = ZeW k x:=by
 show _ = ZgF k x
 obtain ⟨a0,⟨⟩⟩:=x
 kernel_rfl
theorem ZKR (k:Nat):Ctr Tryz.prog k 206 (mk Zz Z5 ZeW) :=
 ZB (fn:=Tryz.f206) (Zf Zd) (by kernel_rfl) (by kernel_rfl) (ZP4 k)
noncomputable abbrev ZXy:Nat × Callee:=(206,mk Zz Z5 ZeW)
def Zxc (k:Nat):Int × Unit → Option (Int × Unit):=fun x => ZOn x
def ZVZ:Go.Shelf.Ren:=⟨fun n => match n with | 129 => 270 | _ => 0,fun n => match n with | 0 => 0 | 3 => 3 | 4 => 4 | 5 => 5 | 9 => 9 | 46 => 62 | 53 => 124 | _ => 0,fun n => n⟩
set_option maxRecDepth 100000 in
theorem ZSl:Go.Proofs.Lays.n129 Tryz.prog ZVZ:=by
 constructor <;> first | kernel_rfl | (intro w; rfl)
set_option maxRecDepth 100000 in
theorem ZLW (k:Nat):Ctr Tryz.prog k 270 (mk ZoO Zi Zxc):=ZJi ZSl (fn:=Tryz.f270) (by kernel_rfl) (by kernel_rfl) (by kernel_rfl) (by kernel_rfl)
noncomputable abbrev ZUM:Nat × Callee:=(270,mk ZoO Zi Zxc)
noncomputable def ZUz (k:Nat):=Wd k [ZUM]
def Zhc (k:Nat):Int × Unit → Option (Int × Unit)
 | (a0,()) => (Zxc k (IntKind.u64.wrap (IntKind.i64.wrap (Int.ofNat (BitVec.ofInt 64 a0 ^^^ BitVec.ofInt 64 (a0.fdiv (9223372036854775808:Int))).toNat)),())).bind fun y => some (IntKind.i64.wrap (y.1 + 1),())
def ZqI (k:Nat):=Zhc k
theorem ZQU (k:Nat) (x:Kd.dens Zz):ZA (ZUz k) nA Tryz.f267 Zz Zi x = ZqI k x:=by
 show _ = Zhc k x
 obtain ⟨a0,⟨⟩⟩:=x
 kernel_rfl
theorem ZLJ (k:Nat):Ctr Tryz.prog k 267 (mk Zz Zi ZqI) :=
 ZB (fn:=Tryz.f267) (Zf (Za (ZLW k) Zd)) (by kernel_rfl) (by kernel_rfl) (ZQU k)
noncomputable abbrev ZUA:Nat × Callee:=(267,mk Zz Zi ZqI)
def Zae (k:Nat):Int × Unit → Option (Int × Unit):=match k with | 0 => Zdx 0 | n + 1 => Zdx (n + 1)
theorem Zuf:Zae = Zdx:=by funext k; cases k <;> rfl
theorem Zms (k:Nat):Ctr Tryz.prog k 205 (mk Zz Zi Zae):=by rw [Zuf]; exact ZKQ k
def Zix (k:Nat):Int × Unit → Option ((Int × Int × Unit) × Unit):=match k with | 0 => ZeW 0 | n + 1 => ZeW (n + 1)
theorem Zuh:Zix = ZeW:=by funext k; cases k <;> rfl
theorem Zui (k:Nat):Ctr Tryz.prog k 206 (mk Zz Z5 Zix):=by rw [Zuh]; exact ZKR k
abbrev Zg6:Kd:=.tup [.view ZOQ,.view .bool]
noncomputable def ZiB (k:Nat):=Wd k [(205,mk Zz Zi Zae),(206,mk Zz Z5 Zix),ZUA]
noncomputable def ZwZ:Nat → Ann:=fun id => bif Nat.beq id 16 then ⟨[55,56,54,13,12,14,7,6,46,45,0,8,9,1,4],[]⟩ else bif Nat.beq id 12 then ⟨[45,46,0,8,7,6,9,1,4],[]⟩ else bif Nat.beq id 5 then ⟨[23,24,22,8,9,1,0,7,6,4],[]⟩ else ⟨[],[]⟩
abbrev Zw2:=Int × Int × Int × Int × Bool × Bool × Int × Int × List Int × Int × Int × List Int × Int × Int × Int × Int × Int × Int
abbrev ZoW:=Zw2 → Option (((Int × Int × Int × Unit) × Bool × Unit) × Unit)
abbrev Zw1:=Int × Int × List Int × Bool × Int × Int × List Int × Int × Int × Int × Int × Int × Int
abbrev Zg4:=Zw1 → Option (((Int × Int × Int × Unit) × Bool × Unit) × Unit)
abbrev Zw0:=Int × Int × List Int × Int × Int × List Int × Bool × List Int × Int × Int × Int × Int × Int × Int
abbrev ZoV:=Zw0 → Option (((Int × Int × Int × Unit) × Bool × Unit) × Unit)
noncomputable def ZQE:Zw2 → St
 | (v0,v1,v2,v3,v4,v5,v6,v7,v8,v9,v10,v11,v12,v13,v14,v15,v16,v17) => St.mk (Zv [(55,Zl v0),(56,Zl v1),(54,AV.own 8192),(13,Zl v2),(12,Zl v3),(14,avB v4),(7,avB v5),(6,AV.bx 8193 0),(46,Zl v6),(45,Zl v7),(0,Yh v8),(8,AV.own 8192),(9,Zl v9),(1,Zl v10),(4,AV.bx 8194 0)]) (Zu [(8192,rsA v11 false),(8193,QQ [Zl v12,Zl v13,Zl v14]),(8194,QQ [Zl v15,Zl v16,Zl v17])])
noncomputable def ZaF (k:Nat) (L2:Zg4) (L3:ZoW):ZoW
 | (v0,v1,v2,v3,v4,v5,v6,v7,v8,v9,v10,v11,v12,v13,v14,v15,v16,v17) => bif decide (v1 < v0) then bif decide (0 ≤ v1 ∧ v1 < Int.ofNat v11.length) then bif decide (v1.toNat < v11.length) then bif decide (0 ≤ v3) then bif v4 then L3 (v0,IntKind.i64.wrap (v1 + 1),IntKind.i64.wrap (v2 + Int.fdiv (v11.getD v1.toNat 0) ((2:Int) ^ min v3.toNat 64)),v3,true,v5,v6,v7,v8,v9,v10,v11,v12,v13,v14,v15,v16,v17) else bif decide (0 ≤ v3) then L3 (v0,IntKind.i64.wrap (v1 + 1),IntKind.i64.wrap (v2 + Int.fdiv (v11.getD v1.toNat 0) ((2:Int) ^ min v3.toNat 64)),v3,decide ((65536:Int) < Int.fdiv (v11.getD v1.toNat 0) ((2:Int) ^ min v3.toNat 64)),v5,v6,v7,v8,v9,v10,v11,v12,v13,v14,v15,v16,v17) else none else none else none else none else bif !v4 then bif !v5 then L2 (v7,IntKind.i64.wrap (v6 + 1),v8,true,v9,v10,v11,v3,(0:Int),v2,v15,v16,v17) else bif decide (v2 < v14) then L2 (v7,IntKind.i64.wrap (v6 + 1),v8,true,v9,v10,v11,v3,(0:Int),v2,v15,v16,v17) else L2 (v7,IntKind.i64.wrap (v6 + 1),v8,v5,v9,v10,v11,v12,v13,v14,v15,v16,v17) else L2 (v7,IntKind.i64.wrap (v6 + 1),v8,v5,v9,v10,v11,v12,v13,v14,v15,v16,v17)
noncomputable def ZjI (k:Nat) (L2:Zg4):ZoW:=Zn (fun L3 => ZaF k L2 L3) k
noncomputable def ZjJ (k:Nat) (n2:Nat) (n:Nat) (v:Zw2):Option (((Int × Int × Int × Unit) × Bool × Unit) × Unit) :=
 Zs (ZiB k) ZwZ [] [1,1,1,1,1,0,1,0,0,1,1,0,0,1,1,0,1,0] [n2] (Q6 Tryz.f248) (We (ZiB k) Tryz.f248 Z3 Zg6 [] []) n (ZQE v)
noncomputable def ZQD:Zw1 → St
 | (v0,v1,v2,v3,v4,v5,v6,v7,v8,v9,v10,v11,v12) => St.mk (Zv [(45,Zl v0),(46,Zl v1),(0,Yh v2),(8,AV.own 8192),(7,avB v3),(6,AV.bx 8193 0),(9,Zl v4),(1,Zl v5),(4,AV.bx 8194 0)]) (Zu [(8192,rsA v6 false),(8193,QQ [Zl v7,Zl v8,Zl v9]),(8194,QQ [Zl v10,Zl v11,Zl v12])])
noncomputable def ZcD (k:Nat) (L3:ZoW) (L2:Zg4):Zg4
 | (v0,v1,v2,v3,v4,v5,v6,v7,v8,v9,v10,v11,v12) => bif decide (v1 < v0) then L3 (Int.ofNat v6.length,(0:Int),IntKind.i64.wrap (IntKind.i64.wrap (v1 + 1) * Int.ofNat v2.length),v1,false,v3,v1,v0,v2,v4,v5,v6,v7,v8,v9,v10,v11,v12) else bif decide (v4 ≤ 31) then bif !v3 then (Zae k (v5,())).bind fun y => some (((y.1,v4,IntKind.i64.wrap ((5:Int) + IntKind.i64.wrap (v4 * Int.ofNat v2.length)),()),true,()),()) else bif decide (IntKind.i64.wrap ((5:Int) + IntKind.i64.wrap (v4 * Int.ofNat v2.length)) < v9) then (Zae k (v5,())).bind fun y => some (((y.1,v4,IntKind.i64.wrap ((5:Int) + IntKind.i64.wrap (v4 * Int.ofNat v2.length)),()),true,()),()) else some (((v7,v8,v9,()),v3,()),()) else some (((v7,v8,v9,()),v3,()),())
noncomputable def ZjH (k:Nat):Zg4:=Zn (fun L2 => ZcD k (ZjI k L2) L2) k
noncomputable def Ze4 (k:Nat) (n:Nat) (v:Zw1) :=
 Zs (ZiB k) ZwZ [] [1,1,1,1,1,0,1,0] [] (Q6 Tryz.f248) (We (ZiB k) Tryz.f248 Z3 Zg6 [] []) n (ZQD v)
noncomputable def ZQC:Zw0 → St
 | (v0,v1,v2,v3,v4,v5,v6,v7,v8,v9,v10,v11,v12,v13) => St.mk (Zv [(23,Zl v0),(24,Zl v1),(22,Yh v2),(8,AV.own 8192),(9,Zl v3),(1,Zl v4),(0,Yh v5),(7,avB v6),(6,AV.bx 8193 0),(4,AV.bx 8194 0)]) (Zu [(8192,rsA v7 false),(8193,QQ [Zl v8,Zl v9,Zl v10]),(8194,QQ [Zl v11,Zl v12,Zl v13])])
noncomputable def ZcC (k:Nat) (L2:Zg4) (L1:ZoV):ZoV
 | (v0,v1,v2,v3,v4,v5,v6,v7,v8,v9,v10,v11,v12,v13) => bif decide (v1 < v0) then bif decide (0 ≤ v1 ∧ v1 < Int.ofNat v2.length) then (Zix k (v2.getD v1.toNat 0,())).bind fun y => bif decide (0 ≤ v1 ∧ v1 < Int.ofNat v7.length) then bif decide (v1.toNat < v7.length) then bif v2.getD v1.toNat 0 != (0:Int) then (ZqI k (v2.getD v1.toNat 0,())).bind fun y_1 => L1 (v0,IntKind.i64.wrap (v1 + 1),v2,if v3 < y_1.1 then y_1.1 else v3,v4,v5,v6,v7.set v1.toNat y.1.1,v8,v9,v10,v11,v12,v13) else L1 (v0,IntKind.i64.wrap (v1 + 1),v2,v3,v4,v5,v6,v7.set v1.toNat y.1.1,v8,v9,v10,v11,v12,v13) else none else none else none else (Zae k (v4,())).bind fun y => L2 (y.1,(0:Int),v5,v6,v3,v4,v7,v8,v9,v10,v11,v12,v13)
noncomputable def ZoX (k:Nat):ZoV:=Zn (fun L1 => ZcC k (ZjH k) L1) k
noncomputable def ZAb (k:Nat) (n:Nat) (v:Zw0) :=
 Zs (ZiB k) ZwZ [] [1,1,1,1,0,1,0] [] (Q6 Tryz.f248) (We (ZiB k) Tryz.f248 Z3 Zg6 [] []) n (ZQC v)
noncomputable def Zg5 (k:Nat) (L1:ZoV):List Int × Int × Unit → Option (((Int × Int × Int × Unit) × Bool × Unit) × Unit)
 | (a0,a1,()) => bif decide ((0:Int) ≤ Int.ofNat a0.length ∧ Int.ofNat a0.length ≤ Int.ofNat a0.length ∧ Int.ofNat a0.length < (4294967296:Int)) then L1 (Int.ofNat a0.length,(0:Int),a0,(0:Int),a1,a0,false,List.replicate (Int.ofNat a0.length).toNat (0:Int),(0:Int),(0:Int),(0:Int),(0:Int),(0:Int),(0:Int)) else none
noncomputable def ZqD (k:Nat):=Zg5 k (ZoX k)
theorem ZIe (k:Nat) (n2:Nat):∀ n,ZjJ k n2 n = Zn (fun L3 => ZaF k (Ze4 k n2) L3) n :=
 Zh (fun v => by kernel_rfl) (fun n v => by
  show ZjJ k n2 (n + 1) v = ZaF k (Ze4 k n2) (ZjJ k n2 n) v
  obtain ⟨v0,v1,v2,v3,v4,v5,v6,v7,v8,v9,v10,v11,v12,v13,v14,v15,v16,v17⟩:=v
  kernel_rfl)
theorem ZId (k:Nat):∀ n,Ze4 k n = Zn (fun L2 => ZcD k (ZjI k L2) L2) n :=
 Zh (fun v => by kernel_rfl) (fun n v => by
  rw [show (ZjI k (Ze4 k n)) = ZjJ k n k from (ZIe k n k).symm]
  obtain ⟨v0,v1,v2,v3,v4,v5,v6,v7,v8,v9,v10,v11,v12⟩:=v
  kernel_rfl)
theorem ZIc (k:Nat):∀ n,ZAb k n = Zn (fun L1 => ZcC k (ZjH k) L1) n :=
 Zh (fun v => by kernel_rfl) (fun n v => by
  rw [show (ZjH k) = Ze4 k k from (ZId k k).symm]
  obtain ⟨v0,v1,v2,v3,v4,v5,v6,v7,v8,v9,v10,v11,v12,v13⟩:=v
  kernel_rfl)
theorem ZQF (k:Nat) (x:Kd.dens Z3):ZA (ZiB k) ZwZ Tryz.f248 Z3 Zg6 x = ZqD k x:=by
 show _ = Zg5 k (ZoX k) x
 rw [show ZoX k = ZAb k k from (ZIc k k).symm]
 obtain ⟨a0,⟨a1,⟨⟩⟩⟩:=x
 kernel_rfl
theorem ZLv (k:Nat):Ctr Tryz.prog k 248 (mk Z3 Zg6 ZqD) :=
 ZB (fn:=Tryz.f248) (Zf (Za (Zms k) (Za (Zui k) (Za (ZLJ k) Zd)))) (by kernel_rfl) (by kernel_rfl) (ZQF k)
noncomputable abbrev ZUl:Nat × Callee:=(248,mk Z3 Zg6 ZqD)
def Zdw (k:Nat):Int × Unit → Option (Int × Unit):=match k with | 0 => Zdv 0 | n + 1 => Zdv (n + 1)
theorem Zud:Zdw = Zdv:=by funext k; cases k <;> rfl
theorem Zmq (k:Nat):Ctr Tryz.prog k 204 (mk Zz Zi Zdw):=by rw [Zud]; exact ZzG k
def ZqC (k:Nat):Int × Int × Int × Unit → Option (Bool × Unit):=match k with | 0 => Zdz 0 | n + 1 => Zdz (n + 1)
theorem Zus:ZqC = Zdz:=by funext k; cases k <;> rfl
theorem ZIb (k:Nat):Ctr Tryz.prog k 217 (mk Zg2 ZE ZqC):=by rw [Zus]; exact ZAa k
abbrev ZgD:Kd:=.view ZWb
noncomputable def Ziw (k:Nat):=Wd k [ZKP,(204,mk Zz Zi Zdw),(217,mk Zg2 ZE ZqC),ZUl]
noncomputable def ZwH:Nat → Ann:=fun id => bif Nat.beq id 11 then ⟨[37,38,36,7,5,8,6,0,1,4,9],[.cell 8 2 (((Ty.int IntKind.i64).pair ((Ty.int IntKind.i64).pair ((Ty.int IntKind.i64).pair Ty.unit))))]⟩ else bif Nat.beq id 7 then ⟨[7,6,0,1,5,4],[.cell 5 2 (((Ty.int IntKind.i64).pair ((Ty.int IntKind.i64).pair ((Ty.int IntKind.i64).pair Ty.unit))))]⟩ else bif Nat.beq id 3 then ⟨[6,0,1,5,4],[.cell 5 2 (((Ty.int IntKind.i64).pair ((Ty.int IntKind.i64).pair ((Ty.int IntKind.i64).pair Ty.unit))))]⟩ else ⟨[],[]⟩
abbrev ZwK:=Int × Int × List (List Int) × Int × Int × List Int × Int × Bool × Int × Int × Int × List (Int × Int × Int × Unit) × Int × Int × Int × List (Int × Int × Int × Unit) × Int × Int × Int
abbrev Zos:=ZwK → Option ((Int × Int × List (Int × Int × Int × Unit) × Int × Unit) × Unit)
abbrev ZwJ:=Int × Int × List Int × Int × Int × Int × Int × List (Int × Int × Int × Unit) × Int × Int × Int
abbrev ZgB:=ZwJ → Option ((Int × Int × List (Int × Int × Int × Unit) × Int × Unit) × Unit)
abbrev ZwI:=Int × List Int × Int × Int × Int × Int × List (Int × Int × Int × Unit) × Int × Int × Int
abbrev ZbG:=ZwI → Option ((Int × Int × List (Int × Int × Int × Unit) × Int × Unit) × Unit)
noncomputable def ZPY:ZwK → St
 | (v0,v1,v2,v3,v4,v5,v6,v7,v8,v9,v10,v11,v12,v13,v14,v15,v16,v17,v18) => St.mk (Zv [(37,Zl v0),(38,Zl v1),(36,AV.val (PV.sl (Ty.int IntKind.i64).sl v2)),(7,Zl v3),(5,AV.bx 8192 0),(8,AV.bx 8194 0),(6,Zl v4),(0,Yh v5),(1,Zl v6),(4,AV.bx 8196 0),(9,avB v7)]) (Zu [(8192,QQ [Zl v8,Zl v9,AV.own 8193,Zl v10]),(8193,RS.live (Res.arr ((Ty.int IntKind.i64).pair ((Ty.int IntKind.i64).pair ((Ty.int IntKind.i64).pair Ty.unit))) v11 false)),(8194,QQ [Zl v12,Zl v13,AV.own 8195,Zl v14]),(8195,RS.live (Res.arr ((Ty.int IntKind.i64).pair ((Ty.int IntKind.i64).pair ((Ty.int IntKind.i64).pair Ty.unit))) v15 false)),(8196,QQ [Zl v16,Zl v17,AV.val (PV.v (Value.slice none (0:Nat) (0:Nat))),Zl v18])])
noncomputable def ZaD (k:Nat) (L1:ZbG) (L2:ZgB) (L3:Zos):Zos
 | (v0,v1,v2,v3,v4,v5,v6,v7,v8,v9,v10,v11,v12,v13,v14,v15,v16,v17,v18) => bif decide (v1 < v0) then bif decide (0 ≤ v1 ∧ v1 < Int.ofNat v2.length) then (ZqD k (v2.getD v1.toNat [],v3,())).bind fun y => bif !y.1.2.1 then bif y.1.2.1 then bif decide (v10 < 0) then L2 (IntKind.i64.wrap (v3 + 1),v4,v5,v6,v12,v13,v14,v15,v16,v17,v18) else bif decide (v14 < v10) then L2 (IntKind.i64.wrap (v3 + 1),v4,v5,v6,v12,v13,v14,v15,v16,v17,v18) else L2 (IntKind.i64.wrap (v3 + 1),v4,v5,v6,v8,v9,v10,v11,v16,v17,v18) else L2 (IntKind.i64.wrap (v3 + 1),v4,v5,v6,v8,v9,v10,v11,v16,v17,v18) else bif decide (v15.length + [(y.1.1.1,y.1.1.2.1,y.1.1.2.2.1,())].length < 2147483648) then (Zdw k (v3,())).bind fun y_1 => L3 (v0,IntKind.i64.wrap (v1 + 1),v2,v3,v4,v5,v6,y.1.2.1,v8,v9,v10,v11,v12,v13,IntKind.i64.wrap (v14 + IntKind.i64.wrap (y_1.1 + y.1.1.2.2.1)),v15 ++ [(y.1.1.1,y.1.1.2.1,y.1.1.2.2.1,())],v16,v17,v18) else none else none else bif v7 then bif decide (v10 < 0) then L2 (IntKind.i64.wrap (v3 + 1),v4,v5,v6,v12,v13,v14,v15,v16,v17,v18) else bif decide (v14 < v10) then L2 (IntKind.i64.wrap (v3 + 1),v4,v5,v6,v12,v13,v14,v15,v16,v17,v18) else L2 (IntKind.i64.wrap (v3 + 1),v4,v5,v6,v8,v9,v10,v11,v16,v17,v18) else L2 (IntKind.i64.wrap (v3 + 1),v4,v5,v6,v8,v9,v10,v11,v16,v17,v18)
noncomputable def ZbH (k:Nat) (L1:ZbG) (L2:ZgB):Zos:=Zn (fun L3 => ZaD k L1 L2 L3) k
noncomputable def ZjB (k:Nat) (n1 n2:Nat) (n:Nat) (v:ZwK):Option ((Int × Int × List (Int × Int × Int × Unit) × Int × Unit) × Unit) :=
 Zs (Ziw k) ZwH [] [1,1,0,1,0,0,1,0,0,1,1,0,0,1,0,0,1,0,1,0] [n1,n2] (Q6 Tryz.f202) (We (Ziw k) Tryz.f202 Z3 ZgD [] []) n (ZPY v)
noncomputable def ZPX:ZwJ → St
 | (v0,v1,v2,v3,v4,v5,v6,v7,v8,v9,v10) => St.mk (Zv [(7,Zl v0),(6,Zl v1),(0,Yh v2),(1,Zl v3),(5,AV.bx 8192 0),(4,AV.bx 8194 0)]) (Zu [(8192,QQ [Zl v4,Zl v5,AV.own 8193,Zl v6]),(8193,RS.live (Res.arr ((Ty.int IntKind.i64).pair ((Ty.int IntKind.i64).pair ((Ty.int IntKind.i64).pair Ty.unit))) v7 false)),(8194,QQ [Zl v8,Zl v9,AV.val (PV.v (Value.slice none (0:Nat) (0:Nat))),Zl v10])])
noncomputable def YD (k:Nat) (L3:Zos) (L1:ZbG) (L2:ZgB):ZgB
 | (v0,v1,v2,v3,v4,v5,v6,v7,v8,v9,v10) => bif decide (v0 < 2) then (Zmp k (v2,v3,v1,())).bind fun y => L3 (Int.ofNat (List.length y.1),(0:Int),y.1,v0,v1,v2,v3,true,v4,v5,v6,v7,v0,v1,(6:Int),[],v8,v9,v10) else L1 (IntKind.i64.wrap (v1 + 1),v2,v3,v4,v5,v6,v7,v8,v9,v10)
noncomputable def ZjA (k:Nat) (L1:ZbG):ZgB:=Zn (fun L2 => YD k (ZbH k L1 L2) L1 L2) k
noncomputable def KP (k:Nat) (n1:Nat) (n:Nat) (v:ZwJ):Option ((Int × Int × List (Int × Int × Int × Unit) × Int × Unit) × Unit) :=
 Zs (Ziw k) ZwH [] [1,1,0,1,0,0,1,0,0,1,1,0] [n1] (Q6 Tryz.f202) (We (Ziw k) Tryz.f202 Z3 ZgD [] []) n (ZPX v)
noncomputable def ZPW:ZwI → St
 | (v0,v1,v2,v3,v4,v5,v6,v7,v8,v9) => St.mk (Zv [(6,Zl v0),(0,Yh v1),(1,Zl v2),(5,AV.bx 8192 0),(4,AV.bx 8194 0)]) (Zu [(8192,QQ [Zl v3,Zl v4,AV.own 8193,Zl v5]),(8193,RS.live (Res.arr ((Ty.int IntKind.i64).pair ((Ty.int IntKind.i64).pair ((Ty.int IntKind.i64).pair Ty.unit))) v6 false)),(8194,QQ [Zl v7,Zl v8,AV.val (PV.v (Value.slice none (0:Nat) (0:Nat))),Zl v9])])
noncomputable def Zco (k:Nat) (L2:ZgB) (L1:ZbG):ZbG
 | (v0,v1,v2,v3,v4,v5,v6,v7,v8,v9) => bif decide (v0 ≤ 4) then (ZqC k (IntKind.i64.wrap (Int.ofNat v1.length + v2),v2,v0,())).bind fun y => bif !y.1 then L1 (IntKind.i64.wrap (v0 + 1),v1,v2,v3,v4,v5,v6,v7,v8,v9) else L2 (0,v0,v1,v2,v3,v4,v5,v6,v7,v8,v9) else some ((v3,v4,v6,v5,()),())
noncomputable def Zot (k:Nat):ZbG:=Zn (fun L1 => Zco k (ZjA k L1) L1) k
noncomputable def X1 (k:Nat) (n:Nat) (v:ZwI) :=
 Zs (Ziw k) ZwH [] [1,1,0,1,0] [] (Q6 Tryz.f202) (We (Ziw k) Tryz.f202 Z3 ZgD [] []) n (ZPW v)
noncomputable def ZgC (k:Nat) (L1:ZbG):List Int × Int × Unit → Option ((Int × Int × List (Int × Int × Int × Unit) × Int × Unit) × Unit)
 | (a0,a1,()) => L1 (0,a0,a1,(0:Int),(0:Int),(-1:Int),[],(0:Int),(0:Int),(0:Int))
noncomputable def Zmo (k:Nat):=ZgC k (Zot k)
theorem ZHz (k:Nat) (n1 n2:Nat):∀ n,ZjB k n1 n2 n = Zn (fun L3 => ZaD k (X1 k n1) (KP k n1 n2) L3) n :=
 Zh (fun v => by kernel_rfl) (fun n v => by
  show ZjB k n1 n2 (n + 1) v = ZaD k (X1 k n1) (KP k n1 n2) (ZjB k n1 n2 n) v
  obtain ⟨v0,v1,v2,v3,v4,v5,v6,v7,v8,v9,v10,v11,v12,v13,v14,v15,v16,v17,v18⟩:=v
  kernel_rfl)
theorem ZHy (k:Nat) (n1:Nat):∀ n,KP k n1 n = Zn (fun L2 => YD k (ZbH k (X1 k n1) L2) (X1 k n1) L2) n :=
 Zh (fun v => by kernel_rfl) (fun n v => by
  show KP k n1 (n + 1) v = YD k (ZbH k (X1 k n1) (KP k n1 n)) (X1 k n1) (KP k n1 n) v
  rw [show (ZbH k (X1 k n1) (KP k n1 n)) = ZjB k n1 n k from (ZHz k n1 n k).symm]
  obtain ⟨v0,v1,v2,v3,v4,v5,v6,v7,v8,v9,v10⟩:=v
  kernel_rfl)
theorem ZHx (k:Nat):∀ n,X1 k n = Zn (fun L1 => Zco k (ZjA k L1) L1) n :=
 Zh (fun v => by kernel_rfl) (fun n v => by
  rw [show (ZjA k (X1 k n)) = KP k n k from (ZHy k n k).symm]
  obtain ⟨v0,v1,v2,v3,v4,v5,v6,v7,v8,v9⟩:=v
  kernel_rfl)
theorem ZPZ (k:Nat) (x:Kd.dens Z3):ZA (Ziw k) ZwH Tryz.f202 Z3 ZgD x = Zmo k x:=by
 show _ = ZgC k (Zot k) x
 rw [show Zot k = X1 k k from (ZHx k k).symm]
 obtain ⟨a0,⟨a1,⟨⟩⟩⟩:=x
 kernel_rfl
theorem ZzD (k:Nat):Ctr Tryz.prog k 202 (mk Z3 ZgD Zmo) :=
 ZB (fn:=Tryz.f202) (Zf (Za (ZzF k) (Za (Zmq k) (Za (ZIb k) (Za (ZLv k) Zd))))) (by kernel_rfl) (by kernel_rfl) (ZPZ k)
noncomputable abbrev ZKN:Nat × Callee:=(202,mk Z3 ZgD Zmo)
noncomputable def ZUc (k:Nat):=Wd k [ZKM,ZKN]
noncomputable def ZgX (k:Nat):List Int × Int × Unit → Option ((Int × Int × Unit) × Unit)
 | (a0,a1,()) => (Zmn k (a0,a1,())).bind fun y => bif y.1 != 0 then some ((0,y.1,()),()) else (Zmo k (a0,a1,())).bind fun y => some ((y.1.2.2.2.1,0,()),())
noncomputable def Zqx (k:Nat):=ZgX k
theorem ZQs (k:Nat) (x:Kd.dens Z3):ZA (ZUc k) nA Tryz.f244 Z3 Z5 x = Zqx k x:=by
 show _ = ZgX k x
 obtain ⟨a0,⟨a1,⟨⟩⟩⟩:=x
 kernel_rfl
theorem ZLj (k:Nat):Ctr Tryz.prog k 244 (mk Z3 Z5 Zqx) :=
 ZB (fn:=Tryz.f244) (Zf (Za (ZzC k) (Za (ZzD k) Zd))) (by kernel_rfl) (by kernel_rfl) (ZQs k)
noncomputable abbrev ZUd:Nat × Callee:=(244,mk Z3 Z5 Zqx)
abbrev Zop:List Kd:=[.view ZyN,.view (.int .i64),.view ZiO,.view (.int .i64)]
abbrev ZwC:Kd:=.tup [.view ZyN,.view .bool]
noncomputable def ZTU (k:Nat):=Wd k [ZLi,ZUd]
noncomputable def Zgv (k:Nat):(Int × Int × Int × List Int × (List Int × Int × Unit) × List Int × Int × Unit) × Int × (List Int × Int × Unit) × Int × Unit → Option (((Int × Int × Int × List Int × (List Int × Int × Unit) × List Int × Int × Unit) × Bool × Unit) × Unit)
 | ((a0,a1,a2,a3,(a4,a5,()),a6,a7,()),a8,(a9,a10,()),a11,()) => (ZmB k ((a9,a10,()),a3,())).bind fun y => bif y.1.2.1 != 0 then some (((a0,a1,a2,a3,(a4,a5,()),a6,a7,()),false,()),()) else (Zqx k (y.1.1,Int.ofNat a9.length,())).bind fun y_1 => bif y_1.1.2.1 != 0 then some (((a0,a1,a2,a3,(a4,a5,()),a6,a7,()),false,()),()) else some (((a8,a1,a2,a3,(a9,a10,()),y.1.1,IntKind.i64.wrap (IntKind.i64.wrap (a11 + IntKind.i64.wrap (Int.ofNat a9.length * a2)) + y_1.1.1),()),true,()),())
noncomputable def Ziu (k:Nat):=Zgv k
theorem ZPP (k:Nat) (x:Kd.dens Zop):ZA (ZTU k) nA Tryz.f198 Zop ZwC x = Ziu k x:=by
 show _ = Zgv k x
 obtain ⟨⟨a0,⟨a1,⟨a2,⟨a3,⟨⟨a4,⟨a5,⟨⟩⟩⟩,⟨a6,⟨a7,⟨⟩⟩⟩⟩⟩⟩⟩⟩,⟨a8,⟨⟨a9,⟨a10,⟨⟩⟩⟩,⟨a11,⟨⟩⟩⟩⟩⟩:=x
 kernel_rfl
theorem ZKI (k:Nat):Ctr Tryz.prog k 198 (mk Zop ZwC Ziu) :=
 ZB (fn:=Tryz.f198) (Zf (Za (Zz2 k) (Za (ZLj k) Zd))) (by kernel_rfl) (by kernel_rfl) (ZPP k)
noncomputable abbrev ZTV:Nat × Callee:=(198,mk Zop ZwC Ziu)
abbrev ZoS:Kd:=.view ZiO
noncomputable def ZCZ (k:Nat):=Wd k [ZCG]
def ZLo:Nat → Ann:=fun id => bif Nat.beq id 4 then ⟨[19,20,18,3,2],[]⟩ else ⟨[],[]⟩
abbrev ZoR:=Zgu → Option ((List Int × Int × Unit) × Unit)
def ZQv:Zgu → St
 | (v0,v1,v2,v3,v4,v5) => St.mk (Zv [(19,Zl v0),(20,Zl v1),(18,Yh v2),(3,AV.bx 8192 0),(2,AV.bx 8194 0)]) (Zu [(8192,QQ [AV.own 8193,Zl v3]),(8193,rsA v4 false),(8194,QQ [AV.val (PV.v (Value.slice none (0:Nat) (0:Nat))),Zl v5])])
def Zup (k:Nat) (L1:ZoR):ZoR
 | (v0,v1,v2,v3,v4,v5) => bif decide (v1 < v0) then bif decide (0 ≤ v1 ∧ v1 < Int.ofNat v2.length) then bif decide (0 ≤ v1 ∧ v1 < Int.ofNat v4.length) then bif decide (v1.toNat < v4.length) then L1 (v0,IntKind.i64.wrap (v1 + 1),v2,v3,v4.set v1.toNat (IntKind.i64.wrap (v2.getD v1.toNat 0 * (16:Int))),v5) else none else none else none else some ((v4,v3,()),())
def ZwY (k:Nat):ZoR:=Zn (fun L1 => Zup k L1) k
noncomputable def Zz6 (k:Nat) (n:Nat) (v:Zgu) :=
 Zs (ZCZ k) ZLo [] [1,1,1,0,1,0] [] (Q6 Tryz.f245) (We (ZCZ k) Tryz.f245 Zz ZoS [] []) n (ZQv v)
def Zuo (k:Nat) (L1:ZoR):Int × Unit → Option ((List Int × Int × Unit) × Unit)
 | (a0,()) => bif decide (0 ≤ a0 ∧ a0 ≤ a0 ∧ a0 < 4294967296) then (ZeU k (if (4:Int) < a0 then (4:Int) else a0,())).bind fun y => L1 (Int.ofNat (List.length y.1.1.1),(0:Int),y.1.1.1,(4:Int),List.replicate a0.toNat (0:Int),(0:Int)) else none
def Zqz (k:Nat):=Zuo k (ZwY k)
theorem ZH7 (k:Nat):∀ n,Zz6 k n = Zn (fun L1 => Zup k L1) n :=
 Zh (fun v => by kernel_rfl) (fun n v => by
  obtain ⟨v0,v1,v2,v3,v4,v5⟩:=v
  kernel_rfl)
theorem ZQw (k:Nat) (x:Kd.dens Zz):ZA (ZCZ k) ZLo Tryz.f245 Zz ZoS x = Zqz k x:=by
 show _ = Zuo k (ZwY k) x
 rw [show ZwY k = Zz6 k k from (ZH7 k k).symm]
 obtain ⟨a0,⟨⟩⟩:=x
 kernel_rfl
theorem ZLp (k:Nat):Ctr Tryz.prog k 245 (mk Zz ZoS Zqz) :=
 ZB (fn:=Tryz.f245) (Zf (Za (Zqg k) Zd)) (by kernel_rfl) (by kernel_rfl) (ZQw k)
noncomputable abbrev ZUh:Nat × Callee:=(245,mk Zz ZoS Zqz)
noncomputable def ZC0 (k:Nat):=Wd k [ZLi]
def ZLq:Nat → Ann:=fun id => bif Nat.beq id 4 then ⟨[18,19,17,8,7],[]⟩ else ⟨[],[]⟩
abbrev ZoT:=Zd6 → Option ((Int × Int × Unit) × Unit)
def ZQx:Zd6 → St
 | (v0,v1,v2,v3,v4) => St.mk (Zv [(18,Zl v0),(19,Zl v1),(17,Yh v2),(8,Zl v3),(7,Zl v4)]) (Zu [])
def ZcB (k:Nat) (L1:ZoT):ZoT
 | (v0,v1,v2,v3,v4) => bif decide (v1 < v0) then bif decide (0 ≤ v1 ∧ v1 < Int.ofNat v2.length) then L1 (v0,IntKind.i64.wrap (v1 + 1),v2,IntKind.i64.wrap (v3 + if v2.getD v1.toNat 0 < IntKind.i64.wrap ((0:Int) - v2.getD v1.toNat 0) then IntKind.i64.wrap ((0:Int) - v2.getD v1.toNat 0) else v2.getD v1.toNat 0),v4) else none else some ((v3,v4,()),())
def ZoU (k:Nat):ZoT:=Zn (fun L1 => ZcB k L1) k
noncomputable def Zz7 (k:Nat) (n:Nat) (v:Zd6) :=
 Zs (ZC0 k) ZLq [] [1,1,1,0,1,0] [] (Q6 Tryz.f246) (We (ZC0 k) Tryz.f246 W8 Z5 [] []) n (ZQx v)
def ZgZ (k:Nat) (L1:ZoT):(List Int × Int × Unit) × List Int × Unit → Option ((Int × Int × Unit) × Unit)
 | ((a0,a1,()),a2,()) => (ZmB k ((a0,a1,()),a2,())).bind fun y => L1 (Int.ofNat (List.length y.1.1),(0:Int),y.1.1,(0:Int),y.1.2.1)
def ZmF (k:Nat):=ZgZ k (ZoU k)
theorem ZH9 (k:Nat):∀ n,Zz7 k n = Zn (fun L1 => ZcB k L1) n :=
 Zh (fun v => by kernel_rfl) (fun n v => by
  obtain ⟨v0,v1,v2,v3,v4⟩:=v
  kernel_rfl)
theorem ZQy (k:Nat) (x:Kd.dens W8):ZA (ZC0 k) ZLq Tryz.f246 W8 Z5 x = ZmF k x:=by
 show _ = ZgZ k (ZoU k) x
 rw [show ZoU k = Zz7 k k from (ZH9 k k).symm]
 obtain ⟨⟨a0,⟨a1,⟨⟩⟩⟩,⟨a2,⟨⟩⟩⟩:=x
 kernel_rfl
theorem ZLr (k:Nat):Ctr Tryz.prog k 246 (mk W8 Z5 ZmF) :=
 ZB (fn:=Tryz.f246) (Zf (Za (Zz2 k) Zd)) (by kernel_rfl) (by kernel_rfl) (ZQy k)
noncomputable abbrev ZUi:Nat × Callee:=(246,mk W8 Z5 ZmF)
abbrev ZFc:Kd:=.own (.int .i64) false
def ZmG (k:Nat):List Int × Unit → Option (List Int × Unit):=fun x => YN x
noncomputable def ZqA:Code:=ZKa Tryz.f221
theorem Zz8 (k:Nat):Ctr Tryz.prog k 221 (mk Zag ZFc ZmG) :=
 ZtV (C:=ZTf k) (A:=fun _ => ⟨[],[]⟩) (Zf Zd) ZiU (f:=221) (fn:=Tryz.f221) (o0:=Zm9 (ZbV [0] ZqA) 0) (o1:=Zm9 (ZbV [1,0,0] ZqA) 0) (o2:=Zm9 (ZbV [1,0,0] ZqA) 1)
  (r0:=0) (r1:=1) (X:=ZbV [1,0,1,0] ZqA) (Y:=ZbV [1,1] ZqA) (T:=61) (E:=3) (U:=61) (t:=(.int .i64))
  (by kernel_rfl) (by kernel_rfl) (by kernel_rfl) (by kernel_rfl) (by kernel_rfl) (of_decide_eq_true (by kernel_rfl)) (by kernel_rfl) ⟨by kernel_rfl,by kernel_rfl,by kernel_rfl⟩ ⟨by kernel_rfl,by kernel_rfl,by kernel_rfl⟩ ⟨by kernel_rfl,by kernel_rfl,by kernel_rfl⟩ (fun xs => by kernel_rfl) (by kernel_rfl)
noncomputable abbrev ZLs:Nat × Callee:=(221,mk Zag ZFc ZmG)
noncomputable def Ziv (k:Nat):=Wd k [Zqb,ZUh,ZUi,ZLs]
def ZwD:Nat → Ann:=fun id => bif Nat.beq id 15 then ⟨[57,56,6,11,0,9,7,50,49,10,1,4],[.seen 6 0]⟩ else bif Nat.beq id 12 then ⟨[49,50,10,6,0,9,7,1,4],[]⟩ else bif Nat.beq id 9 then ⟨[10,1,6,0,9,7,4],[]⟩ else ⟨[],[]⟩
abbrev ZwG:=Int × Int × Int × Int × List Int × Bool × Int × Int × Int × Int × Int × List Int × Int × Int
abbrev Zoq:=ZwG → Option (((List Int × Int × Unit) × Int × Unit) × Unit)
abbrev ZwF:=Int × Int × Int × List Int × Bool × Int × Int × List Int × Int × Int
abbrev Zgw:=ZwF → Option (((List Int × Int × Unit) × Int × Unit) × Unit)
abbrev ZwE:=Int × Int × List Int × Bool × Int × List Int × Int × Int
abbrev ZbF:=ZwE → Option (((List Int × Int × Unit) × Int × Unit) × Unit)
def ZPS:ZwG → St
 | (v0,v1,v2,v3,v4,v5,v6,v7,v8,v9,v10,v11,v12,v13) => St.mk (Zv [(57,Zl v0),(56,AV.agg [Zl v1,Zl v2]),(6,AV.bx 8192 0),(11,Zl v3),(0,Yh v4),(9,avB v5),(7,Zl v6),(50,Zl v7),(49,Zl v8),(10,Zl v9),(1,Zl v10),(4,AV.bx 8193 0)]) (Zu [(8192,QQ [Yh v11,Zl v12]),(8193,QQ [AV.val (PV.v (Value.slice none (0:Nat) (0:Nat))),Zl v13])])
def Kg (k:Nat) (L1:ZbF) (L2:Zgw) (L3:Zoq):Zoq
 | (v0,v1,v2,v3,v4,v5,v6,v7,v8,v9,v10,v11,v12,v13) => bif decide (v0 < 2) then bif decide (0 ≤ v0 ∧ v0 < 2) then (ZmG k (v11,())).bind fun y => bif decide (0 ≤ v3 ∧ v3 < Int.ofNat (List.length y.1)) then bif decide (v3.toNat < List.length y.1) then bif decide (0 ≤ v3 ∧ v3 < Int.ofNat (List.length y.1)) then bif decide (v3.toNat < List.length y.1) then (ZmF k ((List.set y.1 v3.toNat (IntKind.i64.wrap (List.getD y.1 v3.toNat 0 + [v1,v2].getD v0.toNat (0:Int))),v12,()),v4,())).bind fun y_1 => bif y_1.1.2.1 == 0 then bif !v5 then L3 (IntKind.i64.wrap (v0 + 1),v1,v2,v3,v4,true,y_1.1.1,v7,v8,v9,v10,List.set y.1 v3.toNat (IntKind.i64.wrap (List.getD y.1 v3.toNat 0 + [v1,v2].getD v0.toNat (0:Int))),v12,v13) else bif decide (y_1.1.1 < v6) then L3 (IntKind.i64.wrap (v0 + 1),v1,v2,v3,v4,true,y_1.1.1,v7,v8,v9,v10,List.set y.1 v3.toNat (IntKind.i64.wrap (List.getD y.1 v3.toNat 0 + [v1,v2].getD v0.toNat (0:Int))),v12,v13) else L3 (IntKind.i64.wrap (v0 + 1),v1,v2,v3,v4,v5,v6,v7,v8,v9,v10,v11,v12,v13) else L3 (IntKind.i64.wrap (v0 + 1),v1,v2,v3,v4,v5,v6,v7,v8,v9,v10,v11,v12,v13) else none else none else none else none else none else L2 (v8,IntKind.i64.wrap (v7 + 1),v9,v4,v5,v6,v10,v11,v12,v13)
def Zgx (k:Nat) (L1:ZbF) (L2:Zgw):Zoq:=Zn (fun L3 => Kg k L1 L2 L3) k
noncomputable def Zjz (k:Nat) (n1 n2:Nat) (n:Nat) (v:ZwG):Option (((List Int × Int × Unit) × Int × Unit) × Unit) :=
 Zs (Ziv k) ZwD [] [1,1,1,1,1,0,1,0,0,1,0,0,1,0,0,1,1,0,0,1,1,0] [n1,n2] (Q6 Tryz.f199) (We (Ziv k) Tryz.f199 Z3 Yj [] []) n (ZPS v)
def ZPR:ZwF → St
 | (v0,v1,v2,v3,v4,v5,v6,v7,v8,v9) => St.mk (Zv [(49,Zl v0),(50,Zl v1),(10,Zl v2),(6,AV.bx 8192 0),(0,Yh v3),(9,avB v4),(7,Zl v5),(1,Zl v6),(4,AV.bx 8193 0)]) (Zu [(8192,QQ [Yh v7,Zl v8]),(8193,QQ [AV.val (PV.v (Value.slice none (0:Nat) (0:Nat))),Zl v9])])
def ZaC (k:Nat) (L3:Zoq) (L1:ZbF) (L2:Zgw):Zgw
 | (v0,v1,v2,v3,v4,v5,v6,v7,v8,v9) => bif decide (v1 < v0) then L3 (0,v2,IntKind.i64.wrap ((0:Int) - v2),v1,v3,v4,v5,v1,v0,v2,v6,v7,v8,v9) else L1 (IntKind.i64.wrap (v2.tdiv (2:Int)),v6,v3,v4,v5,v7,v8,v9)
def Zjy (k:Nat) (L1:ZbF):Zgw:=Zn (fun L2 => ZaC k (Zgx k L1 L2) L1 L2) k
noncomputable def KO (k:Nat) (n1:Nat) (n:Nat) (v:ZwF):Option (((List Int × Int × Unit) × Int × Unit) × Unit) :=
 Zs (Ziv k) ZwD [] [1,1,1,1,1,0,1,0,0,1,0,0,1,0] [n1] (Q6 Tryz.f199) (We (Ziv k) Tryz.f199 Z3 Yj [] []) n (ZPR v)
def ZPQ:ZwE → St
 | (v0,v1,v2,v3,v4,v5,v6,v7) => St.mk (Zv [(10,Zl v0),(1,Zl v1),(6,AV.bx 8192 0),(0,Yh v2),(9,avB v3),(7,Zl v4),(4,AV.bx 8193 0)]) (Zu [(8192,QQ [Yh v5,Zl v6]),(8193,QQ [AV.val (PV.v (Value.slice none (0:Nat) (0:Nat))),Zl v7])])
def ZaB (k:Nat) (L2:Zgw) (L1:ZbF):ZbF
 | (v0,v1,v2,v3,v4,v5,v6,v7) => bif decide ((0:Int) < v0) then L2 (v1,(0:Int),v0,v2,v3,v4,v1,v5,v6,v7) else some (((v5,v6,()),0,()),())
def Zor (k:Nat):ZbF:=Zn (fun L1 => ZaB k (Zjy k L1) L1) k
noncomputable def X0 (k:Nat) (n:Nat) (v:ZwE) :=
 Zs (Ziv k) ZwD [] [1,1,1,1,1,0,1,0] [] (Q6 Tryz.f199) (We (Ziv k) Tryz.f199 Z3 Yj [] []) n (ZPQ v)
def Zgy (k:Nat) (L1:ZbF):List Int × Int × Unit → Option (((List Int × Int × Unit) × Int × Unit) × Unit)
 | (a0,a1,()) => bif decide (a1 < 0) then some ((([],(0:Int),()),1,()),()) else bif decide ((8:Int) < a1) then some ((([],(0:Int),()),1,()),()) else bif decide (Int.ofNat a0.length < a1) then some ((([],(0:Int),()),1,()),()) else (KN k (a0,(),())).bind fun y => bif y.1 then some ((([],(0:Int),()),12,()),()) else (Zqz k (a1,())).bind fun y => (ZmF k ((y.1.1,y.1.2.1,()),a0,())).bind fun y_1 => L1 (8,a1,a0,y_1.1.2.1 == 0,y_1.1.1,y.1.1,y.1.2.1,(0:Int))
def Zqh (k:Nat):=Zgy k (Zor k)
theorem ZHu (k:Nat) (n1 n2:Nat):∀ n,Zjz k n1 n2 n = Zn (fun L3 => Kg k (X0 k n1) (KO k n1 n2) L3) n :=
 Zh (fun v => by kernel_rfl) (fun n v => by
  show Zjz k n1 n2 (n + 1) v = Kg k (X0 k n1) (KO k n1 n2) (Zjz k n1 n2 n) v
  obtain ⟨v0,v1,v2,v3,v4,v5,v6,v7,v8,v9,v10,v11,v12,v13⟩:=v
  kernel_rfl)
theorem ZHt (k:Nat) (n1:Nat):∀ n,KO k n1 n = Zn (fun L2 => ZaC k (Zgx k (X0 k n1) L2) (X0 k n1) L2) n :=
 Zh (fun v => by kernel_rfl) (fun n v => by
  show KO k n1 (n + 1) v = ZaC k (Zgx k (X0 k n1) (KO k n1 n)) (X0 k n1) (KO k n1 n) v
  rw [show (Zgx k (X0 k n1) (KO k n1 n)) = Zjz k n1 n k from (ZHu k n1 n k).symm]
  obtain ⟨v0,v1,v2,v3,v4,v5,v6,v7,v8,v9⟩:=v
  kernel_rfl)
theorem ZHs (k:Nat):∀ n,X0 k n = Zn (fun L1 => ZaB k (Zjy k L1) L1) n :=
 Zh (fun v => by kernel_rfl) (fun n v => by
  rw [show (Zjy k (X0 k n)) = KO k n k from (ZHt k n k).symm]
  obtain ⟨v0,v1,v2,v3,v4,v5,v6,v7⟩:=v
  kernel_rfl)
theorem ZPT (k:Nat) (x:Kd.dens Z3):ZA (Ziv k) ZwD Tryz.f199 Z3 Yj x = Zqh k x:=by
 show _ = Zgy k (Zor k) x
 rw [show Zor k = X0 k k from (ZHs k k).symm]
 obtain ⟨a0,⟨a1,⟨⟩⟩⟩:=x
 kernel_rfl
theorem ZKJ (k:Nat):Ctr Tryz.prog k 199 (mk Z3 Yj Zqh) :=
 ZB (fn:=Tryz.f199) (Zf (Za (Zit k) (Za (ZLp k) (Za (ZLr k) (Za (Zz8 k) Zd))))) (by kernel_rfl) (by kernel_rfl) (ZPT k)
noncomputable abbrev ZTW:Nat × Callee:=(199,mk Z3 Yj Zqh)
abbrev Zol:List Kd:=[.view ZyN,.view .bool,.box [.view (.int .i64),.view (.int .i64),.view (.int .i64),.view (.sl (.int .i64)),.view (.sl (.int .i64)),.view (.int .i64),.view (.sl (.int .i64)),.view (.int .i64)]]
def Zt5 (k:Nat):(Int × Int × Int × List Int × (List Int × Int × Unit) × List Int × Int × Unit) × Bool × (Int × Int × Int × List Int × List Int × Int × List Int × Int × Unit) × Unit → Option (Unit × (Int × Int × Int × List Int × List Int × Int × List Int × Int × Unit) × Unit)
 | ((a0,a1,a2,a3,(a4,a5,()),a6,a7,()),a8,(a9,a10,a11,a12,a13,a14,a15,a16,()),()) => bif a8 then bif decide (a16 < 0) then some ((),(a0,a1,a2,a3,a4,a5,a6,a7,()),()) else bif decide (a7 < a16) then some ((),(a0,a1,a2,a3,a4,a5,a6,a7,()),()) else some ((),(a9,a10,a11,a12,a13,a14,a15,a16,()),()) else some ((),(a9,a10,a11,a12,a13,a14,a15,a16,()),())
def Zb7 (k:Nat):=Zt5 k
theorem ZPJ (k:Nat) (x:Kd.dens Zol):ZA (Z4 k) nA Tryz.f196 Zol QC x = Zb7 k x:=by
 show _ = Zt5 k x
 obtain ⟨⟨a0,⟨a1,⟨a2,⟨a3,⟨⟨a4,⟨a5,⟨⟩⟩⟩,⟨a6,⟨a7,⟨⟩⟩⟩⟩⟩⟩⟩⟩,⟨a8,⟨⟨a9,⟨a10,⟨a11,⟨a12,⟨a13,⟨a14,⟨a15,⟨a16,⟨⟩⟩⟩⟩⟩⟩⟩⟩⟩,⟨⟩⟩⟩⟩:=x
 kernel_rfl
theorem ZKG (k:Nat):Ctr Tryz.prog k 196 (mk Zol QC Zb7) :=
 ZB (fn:=Tryz.f196) (Zf Zd) (by kernel_rfl) (by kernel_rfl) (ZPJ k)
noncomputable abbrev ZTS:Nat × Callee:=(196,mk Zol QC Zb7)
abbrev ZmV:Kd:=.view ZyN
noncomputable def Zsi (k:Nat):=Wd k [ZKw,ZTR,ZCG,ZTV,ZTW,ZTS]
def ZF1:Nat → Ann:=fun id => bif Nat.beq id 21 then ⟨[82,81,11,6,10,12,9,4],[]⟩ else bif Nat.beq id 15 then ⟨[62,63,10,6,11,12,9,4],[]⟩ else bif Nat.beq id 4 then ⟨[28,29,27,6,5,4],[.cell 6 3 ((Ty.int IntKind.i64))]⟩ else ⟨[],[]⟩
abbrev ZEb:=Int × Int × Int × Int × Int × Int × Int × Int × List Int × List Int × Int × List Int × Int × Int × Int × Int × List Int × List Int × Int × List Int × Int × Int × Int × Int × Int × Int × List Int × Int × Int × Int × Int × Int
abbrev ZxZ:=ZEb → Option ((Int × Int × Int × List Int × (List Int × Int × Unit) × List Int × Int × Unit) × Unit)
abbrev ZEa:=Int × Int × Int × Int × Int × Int × List Int × List Int × Int × List Int × Int × Int × Int × Int × List Int × List Int × Int × List Int × Int × Int × Int × Int × Int × Int × List Int × Int × Int × Int × Int × Int
abbrev ZxY:=ZEa → Option ((Int × Int × Int × List Int × (List Int × Int × Unit) × List Int × Int × Unit) × Unit)
abbrev ZD9:=Int × Int × List Int × Int × Int × Int × Int × Int × Int × List Int × Int × Int × Int × Int × Int
abbrev ZxX:=ZD9 → Option ((Int × Int × Int × List Int × (List Int × Int × Unit) × List Int × Int × Unit) × Unit)
def ZVz:ZEb → St
 | (v0,v1,v2,v3,v4,v5,v6,v7,v8,v9,v10,v11,v12,v13,v14,v15,v16,v17,v18,v19,v20,v21,v22,v23,v24,v25,v26,v27,v28,v29,v30,v31) => St.mk (Zv [(82,Zl v0),(81,AV.agg [Zl v1,Zl v2,Zl v3]),(11,Zl v4),(6,AV.bx 8192 0),(10,AV.clo 196 [AV.bx 8193 0]),(12,AV.bx 8194 0),(9,AV.bx 8193 0),(4,AV.bx 8196 0)]) (Zu [(8192,QQ [Zl v5,Zl v6,Zl v7,Yh v8,Yh v9,Zl v10,Yh v11,Zl v12]),(8193,QQ [Zl v13,Zl v14,Zl v15,Yh v16,Yh v17,Zl v18,Yh v19,Zl v20]),(8194,QQ [Zl v21,Zl v22,Zl v23,AV.own 8195,AV.val (PV.v (Value.slice none (0:Nat) (0:Nat))),Zl v24,AV.val (PV.v (Value.slice none (0:Nat) (0:Nat))),Zl v25]),(8195,rsA v26 true),(8196,QQ [Zl v27,Zl v28,Zl v29,AV.val (PV.v (Value.slice none (0:Nat) (0:Nat))),AV.val (PV.v (Value.slice none (0:Nat) (0:Nat))),Zl v30,AV.val (PV.v (Value.slice none (0:Nat) (0:Nat))),Zl v31])])
noncomputable def Zc2 (k:Nat) (L3:ZxZ):ZxZ
 | (v0,v1,v2,v3,v4,v5,v6,v7,v8,v9,v10,v11,v12,v13,v14,v15,v16,v17,v18,v19,v20,v21,v22,v23,v24,v25,v26,v27,v28,v29,v30,v31) => bif decide (v0 < 3) then bif decide (0 ≤ v0 ∧ v0 < 3) then bif decide ([v1,v2,v3].getD v0.toNat (0:Int) < v4) then (Zqh k (v8,[v1,v2,v3].getD v0.toNat (0:Int),())).bind fun y => (Ziu k ((v5,v6,v7,v8,(v9,v10,()),v11,v12,()),IntKind.i64.wrap ((31:Int) + [v1,v2,v3].getD v0.toNat (0:Int)),(y.1.1.1,y.1.1.2.1,()),IntKind.i64.wrap ((9:Int) + IntKind.i64.wrap ((12:Int) * [v1,v2,v3].getD v0.toNat (0:Int))),())).bind fun y => (Zb7 k ((y.1.1.1,y.1.1.2.1,y.1.1.2.2.1,y.1.1.2.2.2.1,(y.1.1.2.2.2.2.1.1,y.1.1.2.2.2.2.1.2.1,()),y.1.1.2.2.2.2.2.1,y.1.1.2.2.2.2.2.2.1,()),y.1.2.1,(v13,v14,v15,v16,v17,v18,v19,v20,()),())).bind fun y => L3 (IntKind.i64.wrap (v0 + 1),v1,v2,v3,v4,v5,v6,v7,v8,v9,v10,v11,v12,y.2.1.1,y.2.1.2.1,y.2.1.2.2.1,y.2.1.2.2.2.1,y.2.1.2.2.2.2.1,y.2.1.2.2.2.2.2.1,y.2.1.2.2.2.2.2.2.1,y.2.1.2.2.2.2.2.2.2.1,v21,v22,v23,v24,v25,v26,v27,v28,v29,v30,v31) else L3 (IntKind.i64.wrap (v0 + 1),v1,v2,v3,v4,v5,v6,v7,v8,v9,v10,v11,v12,v13,v14,v15,v16,v17,v18,v19,v20,v21,v22,v23,v24,v25,v26,v27,v28,v29,v30,v31) else none else (Zb7 k (((1:Int),v22,v23,v26,([],v24,()),[],IntKind.i64.wrap (v4 * v7),()),true,(v13,v14,v15,v16,v17,v18,v19,v20,()),())).bind fun y => some ((y.2.1.1,y.2.1.2.1,y.2.1.2.2.1,y.2.1.2.2.2.1,(y.2.1.2.2.2.2.1,y.2.1.2.2.2.2.2.1,()),y.2.1.2.2.2.2.2.2.1,y.2.1.2.2.2.2.2.2.2.1,()),())
noncomputable def ZmU (k:Nat):ZxZ:=Zn (fun L3 => Zc2 k L3) k
noncomputable def ZF4 (k:Nat) (n:Nat) (v:ZEb) :=
 Zs (Zsi k) ZF1 [] [1,1,1,1,1,1,1,1,1,1,1,0,1,0] [] (Q6 Tryz.f152) (We (Zsi k) Tryz.f152 Z3 ZmV [] []) n (ZVz v)
def ZVy:ZEa → St
 | (v0,v1,v2,v3,v4,v5,v6,v7,v8,v9,v10,v11,v12,v13,v14,v15,v16,v17,v18,v19,v20,v21,v22,v23,v24,v25,v26,v27,v28,v29) => St.mk (Zv [(62,Zl v0),(63,Zl v1),(10,AV.clo 196 [AV.bx 8192 0]),(6,AV.bx 8193 0),(11,Zl v2),(12,AV.bx 8194 0),(9,AV.bx 8192 0),(4,AV.bx 8196 0)]) (Zu [(8192,QQ [Zl v3,Zl v4,Zl v5,Yh v6,Yh v7,Zl v8,Yh v9,Zl v10]),(8193,QQ [Zl v11,Zl v12,Zl v13,Yh v14,Yh v15,Zl v16,Yh v17,Zl v18]),(8194,QQ [Zl v19,Zl v20,Zl v21,AV.own 8195,AV.val (PV.v (Value.slice none (0:Nat) (0:Nat))),Zl v22,AV.val (PV.v (Value.slice none (0:Nat) (0:Nat))),Zl v23]),(8195,rsA v24 true),(8196,QQ [Zl v25,Zl v26,Zl v27,AV.val (PV.v (Value.slice none (0:Nat) (0:Nat))),AV.val (PV.v (Value.slice none (0:Nat) (0:Nat))),Zl v28,AV.val (PV.v (Value.slice none (0:Nat) (0:Nat))),Zl v29])])
noncomputable def Zfz (k:Nat) (L3:ZxZ) (L2:ZxY):ZxY
 | (v0,v1,v2,v3,v4,v5,v6,v7,v8,v9,v10,v11,v12,v13,v14,v15,v16,v17,v18,v19,v20,v21,v22,v23,v24,v25,v26,v27,v28,v29) => bif decide (v1 < v0) then (ZeU k (v1,())).bind fun y => (Ziu k ((v11,v12,v13,v14,(v15,v16,()),v17,v18,()),IntKind.i64.wrap ((8:Int) + v1),(y.1.1.1,y.1.1.2.1,()),0,())).bind fun y => (Zb7 k ((y.1.1.1,y.1.1.2.1,y.1.1.2.2.1,y.1.1.2.2.2.1,(y.1.1.2.2.2.2.1.1,y.1.1.2.2.2.2.1.2.1,()),y.1.1.2.2.2.2.2.1,y.1.1.2.2.2.2.2.2.1,()),y.1.2.1,(v3,v4,v5,v6,v7,v8,v9,v10,()),())).bind fun y => L2 (v0,IntKind.i64.wrap (v1 + 1),v2,y.2.1.1,y.2.1.2.1,y.2.1.2.2.1,y.2.1.2.2.2.1,y.2.1.2.2.2.2.1,y.2.1.2.2.2.2.2.1,y.2.1.2.2.2.2.2.2.1,y.2.1.2.2.2.2.2.2.2.1,v11,v12,v13,v14,v15,v16,v17,v18,v19,v20,v21,v22,v23,v24,v25,v26,v27,v28,v29) else L3 (0,(2:Int),(4:Int),(8:Int),v2,v11,v12,v13,v14,v15,v16,v17,v18,v3,v4,v5,v6,v7,v8,v9,v10,v19,v20,v21,v22,v23,v24,v25,v26,v27,v28,v29)
noncomputable def ZmT (k:Nat):ZxY:=Zn (fun L2 => Zfz k (ZmU k) L2) k
noncomputable def ZF3 (k:Nat) (n:Nat) (v:ZEa) :=
 Zs (Zsi k) ZF1 [] [1,1,1,1,1,1,1,1,1,1,0,1,0] [] (Q6 Tryz.f152) (We (Zsi k) Tryz.f152 Z3 ZmV [] []) n (ZVy v)
def ZVx:ZD9 → St
 | (v0,v1,v2,v3,v4,v5,v6,v7,v8,v9,v10,v11,v12,v13,v14) => St.mk (Zv [(28,Zl v0),(29,Zl v1),(27,Yh v2),(6,AV.bx 8192 0),(5,Zl v3),(4,AV.bx 8194 0)]) (Zu [(8192,QQ [Zl v4,Zl v5,Zl v6,AV.own 8193,AV.val (PV.v (Value.slice none (0:Nat) (0:Nat))),Zl v7,AV.val (PV.v (Value.slice none (0:Nat) (0:Nat))),Zl v8]),(8193,rsA v9 false),(8194,QQ [Zl v10,Zl v11,Zl v12,AV.val (PV.v (Value.slice none (0:Nat) (0:Nat))),AV.val (PV.v (Value.slice none (0:Nat) (0:Nat))),Zl v13,AV.val (PV.v (Value.slice none (0:Nat) (0:Nat))),Zl v14])])
def K2 (k:Nat) (L2:ZxY) (L1:ZxX):ZxX
 | (v0,v1,v2,v3,v4,v5,v6,v7,v8,v9,v10,v11,v12,v13,v14) => bif decide (v1 < v0) then bif decide (0 ≤ v1 ∧ v1 < Int.ofNat v2.length) then bif decide (0 ≤ v3) then bif decide (v9.length + [Int.fdiv (v2.getD v1.toNat 0) ((2:Int) ^ min v3.toNat 64)].length < 2147483648) then L1 (v0,IntKind.i64.wrap (v1 + 1),v2,v3,v4,v5,v6,v7,v8,v9 ++ [Int.fdiv (v2.getD v1.toNat 0) ((2:Int) ^ min v3.toNat 64)],v10,v11,v12,v13,v14) else none else none else none else (ZeR k (v9,((v4,v5,v6,v9,[],v7,[],v8,()),()),())).bind fun y => (Zb7 k (((0:Int),v5,v6,v9,([],v7,()),[],v6,()),!y.1,(0,0,0,[],[],0,[],(-1:Int),()),())).bind fun y_1 => L2 (IntKind.i64.wrap ((if Int.ofNat v9.length < (4:Int) then Int.ofNat v9.length else (4:Int)) + (1:Int)),(0:Int),Int.ofNat v9.length,y_1.2.1.1,y_1.2.1.2.1,y_1.2.1.2.2.1,y_1.2.1.2.2.2.1,y_1.2.1.2.2.2.2.1,y_1.2.1.2.2.2.2.2.1,y_1.2.1.2.2.2.2.2.2.1,y_1.2.1.2.2.2.2.2.2.2.1,y.2.1.1,y.2.1.2.1,y.2.1.2.2.1,y.2.1.2.2.2.1,y.2.1.2.2.2.2.1,y.2.1.2.2.2.2.2.1,y.2.1.2.2.2.2.2.2.1,y.2.1.2.2.2.2.2.2.2.1,(0:Int),v5,v6,v7,v6,v9,v10,v11,v12,v13,v14)
noncomputable def Zx0 (k:Nat):ZxX:=Zn (fun L1 => K2 k (ZmT k) L1) k
noncomputable def ZF2 (k:Nat) (n:Nat) (v:ZD9) :=
 Zs (Zsi k) ZF1 [] [1,1,1,0,1,0] [] (Q6 Tryz.f152) (We (Zsi k) Tryz.f152 Z3 ZmV [] []) n (ZVx v)
def Zle (k:Nat) (L1:ZxX):List Int × Int × Unit → Option ((Int × Int × Int × List Int × (List Int × Int × Unit) × List Int × Int × Unit) × Unit)
 | (a0,a1,()) => (Zqd k (a0,())).bind fun y => L1 (Int.ofNat a0.length,(0:Int),a0,y.1,(0:Int),y.1,IntKind.i64.wrap (a1 - y.1),(0:Int),(0:Int),[],(0:Int),(0:Int),(0:Int),(0:Int),(0:Int))
noncomputable def Zvg (k:Nat):=Zle k (Zx0 k)
theorem ZNN (k:Nat):∀ n,ZF4 k n = Zn (fun L3 => Zc2 k L3) n :=
 Zh (fun v => by kernel_rfl) (fun n v => by
  obtain ⟨v0,v1,v2,v3,v4,v5,v6,v7,v8,v9,v10,v11,v12,v13,v14,v15,v16,v17,v18,v19,v20,v21,v22,v23,v24,v25,v26,v27,v28,v29,v30,v31⟩:=v
  kernel_rfl)
theorem ZNM (k:Nat):∀ n,ZF3 k n = Zn (fun L2 => Zfz k (ZmU k) L2) n :=
 Zh (fun v => by kernel_rfl) (fun n v => by
  rw [show (ZmU k) = ZF4 k k from (ZNN k k).symm]
  obtain ⟨v0,v1,v2,v3,v4,v5,v6,v7,v8,v9,v10,v11,v12,v13,v14,v15,v16,v17,v18,v19,v20,v21,v22,v23,v24,v25,v26,v27,v28,v29⟩:=v
  kernel_rfl)
theorem ZNL (k:Nat):∀ n,ZF2 k n = Zn (fun L1 => K2 k (ZmT k) L1) n :=
 Zh (fun v => by kernel_rfl) (fun n v => by
  rw [show (ZmT k) = ZF3 k k from (ZNM k k).symm]
  obtain ⟨v0,v1,v2,v3,v4,v5,v6,v7,v8,v9,v10,v11,v12,v13,v14⟩:=v
  kernel_rfl)
theorem ZVA (k:Nat) (x:Kd.dens Z3):ZA (Zsi k) ZF1 Tryz.f152 Z3 ZmV x = Zvg k x:=by
 show _ = Zle k (Zx0 k) x
 rw [show Zx0 k = ZF2 k k from (ZNL k k).symm]
 obtain ⟨a0,⟨a1,⟨⟩⟩⟩:=x
 kernel_rfl
theorem ZR4 (k:Nat):Ctr Tryz.prog k 152 (mk Z3 ZmV Zvg) :=
 ZB (fn:=Tryz.f152) (Zf (Za (ZCB k) (Za (ZKF k) (Za (Zqg k) (Za (ZKI k) (Za (ZKJ k) (Za (ZKG k) Zd))))))) (by kernel_rfl) (by kernel_rfl) (ZVA k)
noncomputable abbrev ZW3:Nat × Callee:=(152,mk Z3 ZmV Zvg)
def ZTh:Nat → Ann:=fun id => bif Nat.beq id 4 then ⟨[15,16,0],[]⟩ else ⟨[],[]⟩
abbrev Zx1:=Zd5 → Option (Int × (List Int × Int × Unit) × Unit)
def ZVB:Zd5 → St
 | (v0,v1,v2,v3) => St.mk (Zv [(15,Zl v0),(16,Zl v1),(0,AV.bx 0 0)]) (Zu [(0,QQ [AV.own 8192,Zl v2]),(8192,RS.live (Res.arr (Ty.int IntKind.u8) v3 false))])
def ZfA (k:Nat) (L1:Zx1):Zx1
 | (v0,v1,v2,v3) => bif decide (v1 < v0) then (Zis k ((v3,v2,()),0,())).bind fun y => L1 (v0,IntKind.i64.wrap (v1 + 1),y.2.1.2.1,y.2.1.1) else (Zis k ((v3,v2,()),1,())).bind fun y => some (0,(y.2.1.1,y.2.1.2.1,()),())
def Zx2 (k:Nat):Zx1:=Zn (fun L1 => ZfA k L1) k
noncomputable def ZF5 (k:Nat) (n:Nat) (v:Zd5) :=
 Zs (Zvd k) ZTh [0] [1,1,0,1,0] [] (Q6 Tryz.f153) (We (Zvd k) Tryz.f153 Zaq Zi [AV.bx (nat_lit 0) (nat_lit 0)] [[]]) n (ZVB v)
def Zlf (k:Nat) (L1:Zx1):(List Int × Int × Unit) × Int × Unit → Option (Int × (List Int × Int × Unit) × Unit)
 | ((a0,a1,()),a2,()) => bif decide (a2 < 0) then some (1,(a0,a1,()),()) else bif decide ((65536:Int) < a2) then some (1,(a0,a1,()),()) else L1 (a2,(0:Int),a1,a0)
def ZnL (k:Nat):=Zlf k (Zx2 k)
theorem ZNP (k:Nat):∀ n,ZF5 k n = Zn (fun L1 => ZfA k L1) n :=
 Zh (fun v => by kernel_rfl) (fun n v => by
  obtain ⟨v0,v1,v2,v3⟩:=v
  kernel_rfl)
theorem ZVC (k:Nat) (x:Kd.dens Zaq):ZA (Zvd k) ZTh Tryz.f153 Zaq Zi x = ZnL k x:=by
 show _ = Zlf k (Zx2 k) x
 rw [show Zx2 k = ZF5 k k from (ZNP k k).symm]
 obtain ⟨⟨a0,⟨a1,⟨⟩⟩⟩,⟨a2,⟨⟩⟩⟩:=x
 kernel_rfl
theorem ZF6 (k:Nat):Ctr Tryz.prog k 153 (mk Zaq Zi ZnL) :=
 ZB (fn:=Tryz.f153) (Zf (Za (Zzu k) Zd)) (by kernel_rfl) (by kernel_rfl) (ZVC k)
noncomputable abbrev ZTi:Nat × Callee:=(153,mk Zaq Zi ZnL)
def Zgz (k:Nat):(List Int × Int × Unit) × Int × Int × Unit → Option (Int × (List Int × Int × Unit) × Unit)
 | ((a0,a1,()),a2,a3,()) => (Zse k (a3,())).bind fun y => bif y.1 then some (1,(a0,a1,()),()) else bif a3 == 0 then bif a2 != 0 then some (12,(a0,a1,()),()) else bif decide ((0:Int) < a3) then bif decide (0 ≤ IntKind.i64.wrap (a3 - 1)) then bif a2.fdiv ((2:Int) ^ min (IntKind.i64.wrap (a3 - 1)).toNat 64) != (0:Int) then bif decide (0 ≤ IntKind.i64.wrap (a3 - 1)) then bif a2.fdiv ((2:Int) ^ min (IntKind.i64.wrap (a3 - 1)).toNat 64) != (-1:Int) then some (12,(a0,a1,()),()) else (Zes k ((a0,a1,()),IntKind.u64.wrap a2,a3,())).bind fun y => some (0,(y.2.1.1,y.2.1.2.1,()),()) else none else (Zes k ((a0,a1,()),IntKind.u64.wrap a2,a3,())).bind fun y => some (0,(y.2.1.1,y.2.1.2.1,()),()) else none else (Zes k ((a0,a1,()),IntKind.u64.wrap a2,a3,())).bind fun y => some (0,(y.2.1.1,y.2.1.2.1,()),()) else bif decide ((0:Int) < a3) then bif decide (0 ≤ IntKind.i64.wrap (a3 - 1)) then bif a2.fdiv ((2:Int) ^ min (IntKind.i64.wrap (a3 - 1)).toNat 64) != (0:Int) then bif decide (0 ≤ IntKind.i64.wrap (a3 - 1)) then bif a2.fdiv ((2:Int) ^ min (IntKind.i64.wrap (a3 - 1)).toNat 64) != (-1:Int) then some (12,(a0,a1,()),()) else (Zes k ((a0,a1,()),IntKind.u64.wrap a2,a3,())).bind fun y => some (0,(y.2.1.1,y.2.1.2.1,()),()) else none else (Zes k ((a0,a1,()),IntKind.u64.wrap a2,a3,())).bind fun y => some (0,(y.2.1.1,y.2.1.2.1,()),()) else none else (Zes k ((a0,a1,()),IntKind.u64.wrap a2,a3,())).bind fun y => some (0,(y.2.1.1,y.2.1.2.1,()),())
def Zmm (k:Nat):=Zgz k
theorem ZPU (k:Nat) (x:Kd.dens Zca):ZA (ZSZ k) nA Tryz.f200 Zca Zi x = Zmm k x:=by
 show _ = Zgz k x
 obtain ⟨⟨a0,⟨a1,⟨⟩⟩⟩,⟨a2,⟨a3,⟨⟩⟩⟩⟩:=x
 kernel_rfl
theorem ZzB (k:Nat):Ctr Tryz.prog k 200 (mk Zca Zi Zmm) :=
 ZB (fn:=Tryz.f200) (Zf (Za (ZxQ k) (Za (ZFY k) Zd))) (by kernel_rfl) (by kernel_rfl) (ZPU k)
noncomputable abbrev ZKL:Nat × Callee:=(200,mk Zca Zi Zmm)
abbrev Yq:List Kd:=[.box [.own (.int .u8) false,.view (.int .i64)],.view (.sl (.int .i64)),.view (.int .i64)]
noncomputable def ZNQ (k:Nat):=Wd k [ZKL]
def ZTj:Nat → Ann:=fun id => bif Nat.beq id 1 then ⟨[9,10,8,0,2],[]⟩ else ⟨[],[]⟩
abbrev ZfB:=Int × Int × List Int × Int × Int × List Int
abbrev Zx3:=ZfB → Option (Unit × (List Int × Int × Unit) × Unit)
def ZVD:ZfB → St
 | (v0,v1,v2,v3,v4,v5) => St.mk (Zv [(9,Zl v0),(10,Zl v1),(8,Yh v2),(0,AV.bx 0 0),(2,Zl v3)]) (Zu [(0,QQ [AV.own 8192,Zl v4]),(8192,RS.live (Res.arr (Ty.int IntKind.u8) v5 false))])
def ZfC (k:Nat) (L1:Zx3):Zx3
 | (v0,v1,v2,v3,v4,v5) => bif decide (v1 < v0) then bif decide (0 ≤ v1 ∧ v1 < Int.ofNat v2.length) then (Zmm k ((v5,v4,()),v2.getD v1.toNat 0,v3,())).bind fun y => L1 (v0,IntKind.i64.wrap (v1 + 1),v2,v3,y.2.1.2.1,y.2.1.1) else none else some ((),(v5,v4,()),())
def Zx4 (k:Nat):Zx3:=Zn (fun L1 => ZfC k L1) k
noncomputable def ZF7 (k:Nat) (n:Nat) (v:ZfB) :=
 Zs (ZNQ k) ZTj [0] [1,0] [] (Q6 Tryz.f154) (We (ZNQ k) Tryz.f154 Yq QC [AV.bx (nat_lit 0) (nat_lit 0)] [[]]) n (ZVD v)
def Zlg (k:Nat) (L1:Zx3):(List Int × Int × Unit) × List Int × Int × Unit → Option (Unit × (List Int × Int × Unit) × Unit)
 | ((a0,a1,()),a2,a3,()) => L1 (Int.ofNat a2.length,(0:Int),a2,a3,a1,a0)
def Zal (k:Nat):=Zlg k (Zx4 k)
theorem ZNR (k:Nat):∀ n,ZF7 k n = Zn (fun L1 => ZfC k L1) n :=
 Zh (fun v => by kernel_rfl) (fun n v => by
  obtain ⟨v0,v1,v2,v3,v4,v5⟩:=v
  kernel_rfl)
theorem ZVE (k:Nat) (x:Kd.dens Yq):ZA (ZNQ k) ZTj Tryz.f154 Yq QC x = Zal k x:=by
 show _ = Zlg k (Zx4 k) x
 rw [show Zx4 k = ZF7 k k from (ZNR k k).symm]
 obtain ⟨⟨a0,⟨a1,⟨⟩⟩⟩,⟨a2,⟨a3,⟨⟩⟩⟩⟩:=x
 kernel_rfl
theorem ZR7 (k:Nat):Ctr Tryz.prog k 154 (mk Yq QC Zal) :=
 ZB (fn:=Tryz.f154) (Zf (Za (ZzB k) Zd)) (by kernel_rfl) (by kernel_rfl) (ZVE k)
noncomputable abbrev ZW4:Nat × Callee:=(154,mk Yq QC Zal)
noncomputable def ZAM (k:Nat):=Wd k [ZNe,ZTi,ZKM,ZKN,ZKP,(204,mk Zz Zi Zdw),(205,mk Zz Zi Zae),(206,mk Zz Z5 Zix),ZKL]
noncomputable def ZNS:Nat → Ann:=fun id => bif Nat.beq id 17 then ⟨[69,70,68,11,8,0,41,40,39],[]⟩ else bif Nat.beq id 10 then ⟨[40,41,39,8,0],[]⟩ else ⟨[],[]⟩
abbrev ZEd:=Int × Int × List Int × Int × Int × List (List Int) × Int × List Int × Int × Int × Int × Int × Int × List (Int × Int × Int × Unit) × Int
abbrev Zx5:=ZEd → Option (Int × (List Int × Int × Unit) × Unit)
abbrev ZEc:=Int × Int × List (List Int) × Int × List Int × Int × Int × List (Int × Int × Int × Unit) × Int
abbrev ZmW:=ZEc → Option (Int × (List Int × Int × Unit) × Unit)
noncomputable def ZVG:ZEd → St
 | (v0,v1,v2,v3,v4,v5,v6,v7,v8,v9,v10,v11,v12,v13,v14) => St.mk (Zv [(69,Zl v0),(70,Zl v1),(68,Yh v2),(11,AV.bx 8193 0),(8,AV.bx 8194 0),(0,AV.bx 0 0),(41,Zl v3),(40,Zl v4),(39,AV.val (PV.sl (Ty.int IntKind.i64).sl v5))]) (Zu [(0,QQ [AV.own 8192,Zl v6]),(8192,RS.live (Res.arr (Ty.int IntKind.u8) v7 false)),(8193,QQ [Zl v8,Zl v9,Zl v10]),(8194,QQ [Zl v11,Zl v12,AV.val (PV.sl ((Ty.int IntKind.i64).pair ((Ty.int IntKind.i64).pair ((Ty.int IntKind.i64).pair Ty.unit))) v13),Zl v14])])
noncomputable def K3 (k:Nat) (L1:ZmW) (L2:Zx5):Zx5
 | (v0,v1,v2,v3,v4,v5,v6,v7,v8,v9,v10,v11,v12,v13,v14) => bif decide (v1 < v0) then bif decide (0 ≤ v1 ∧ v1 < Int.ofNat v2.length) then (Zae k (v11,())).bind fun y => bif v8 == y.1 then (Zmm k ((v7,v6,()),v2.getD v1.toNat 0,v9,())).bind fun y => L2 (v0,IntKind.i64.wrap (v1 + 1),v2,v3,v4,v5,y.2.1.2.1,y.2.1.1,v8,v9,v10,v11,v12,v13,v14) else (Zix k (v2.getD v1.toNat 0,())).bind fun y => bif decide (0 ≤ v8) then (ZnL k ((v7,v6,()),Int.fdiv y.1.1 ((2:Int) ^ min v8.toNat 64),())).bind fun y_1 => bif decide (0 ≤ v8) then (ZP k ((y_1.2.1.1,y_1.2.1.2.1,()),IntKind.i64.wrap (Int.ofNat (BitVec.ofInt 64 y.1.1 &&& BitVec.ofInt 64 (IntKind.i64.wrap (IntKind.i64.wrap ((1:Int) * (2:Int) ^ min v8.toNat 64) - (1:Int)))).toNat),v8,())).bind fun y => L2 (v0,IntKind.i64.wrap (v1 + 1),v2,v3,v4,v5,y.2.1.2.1,y.2.1.1,v8,v9,v10,v11,v12,v13,v14) else none else none else none else L1 (v4,IntKind.i64.wrap (v3 + 1),v5,v6,v7,v11,v12,v13,v14)
noncomputable def ZmX (k:Nat) (L1:ZmW):Zx5:=Zn (fun L2 => K3 k L1 L2) k
noncomputable def Zpi (k:Nat) (n1:Nat) (n:Nat) (v:ZEd):Option (Int × (List Int × Int × Unit) × Unit) :=
 Zs (ZAM k) ZNS [0] [1,1,1,1,1,1,0,1,0,0,1,1,0,0,1,1,1,1,1,0] [n1] (Q6 Tryz.f155) (We (ZAM k) Tryz.f155 Yq Zi [AV.bx (nat_lit 0) (nat_lit 0)] [[]]) n (ZVG v)
noncomputable def ZVF:ZEc → St
 | (v0,v1,v2,v3,v4,v5,v6,v7,v8) => St.mk (Zv [(40,Zl v0),(41,Zl v1),(39,AV.val (PV.sl (Ty.int IntKind.i64).sl v2)),(8,AV.bx 8193 0),(0,AV.bx 0 0)]) (Zu [(0,QQ [AV.own 8192,Zl v3]),(8192,RS.live (Res.arr (Ty.int IntKind.u8) v4 false)),(8193,QQ [Zl v5,Zl v6,AV.val (PV.sl ((Ty.int IntKind.i64).pair ((Ty.int IntKind.i64).pair ((Ty.int IntKind.i64).pair Ty.unit))) v7),Zl v8])])
noncomputable def ZfE (k:Nat) (L2:Zx5) (L1:ZmW):ZmW
 | (v0,v1,v2,v3,v4,v5,v6,v7,v8) => bif decide (v1 < v0) then bif decide (0 ≤ v1 ∧ v1 < Int.ofNat v2.length) then bif decide (0 ≤ v1 ∧ v1 < Int.ofNat v7.length) then (Zdw k (v5,())).bind fun y => (ZP k ((v4,v3,()),(v7.getD v1.toNat (0,0,0,())).1,y.1,())).bind fun y => (Zae k (v5,())).bind fun y_1 => bif (v7.getD v1.toNat (0,0,0,())).1 == y_1.1 then (ZP k ((y.2.1.1,y.2.1.2.1,()),(v7.getD v1.toNat (0,0,0,())).2.1,5,())).bind fun y => L2 (Int.ofNat (List.length (v2.getD v1.toNat [])),(0:Int),v2.getD v1.toNat [],v1,v0,v2,y.2.1.2.1,y.2.1.1,(v7.getD v1.toNat (0,0,0,())).1,(v7.getD v1.toNat (0,0,0,())).2.1,(v7.getD v1.toNat (0,0,0,())).2.2.1,v5,v6,v7,v8) else L2 (Int.ofNat (List.length (v2.getD v1.toNat [])),(0:Int),v2.getD v1.toNat [],v1,v0,v2,y.2.1.2.1,y.2.1.1,(v7.getD v1.toNat (0,0,0,())).1,(v7.getD v1.toNat (0,0,0,())).2.1,(v7.getD v1.toNat (0,0,0,())).2.2.1,v5,v6,v7,v8) else none else none else some (0,(v4,v3,()),())
noncomputable def Zx6 (k:Nat):ZmW:=Zn (fun L1 => ZfE k (ZmX k L1) L1) k
noncomputable def Zlh (k:Nat) (n:Nat) (v:ZEc) :=
 Zs (ZAM k) ZNS [0] [1,1,1,1,1,1,0,1,0] [] (Q6 Tryz.f155) (We (ZAM k) Tryz.f155 Yq Zi [AV.bx (nat_lit 0) (nat_lit 0)] [[]]) n (ZVF v)
noncomputable def Zli (k:Nat) (L1:ZmW):(List Int × Int × Unit) × List Int × Int × Unit → Option (Int × (List Int × Int × Unit) × Unit)
 | ((a0,a1,()),a2,a3,()) => (Zmn k (a2,a3,())).bind fun y => bif y.1 != 0 then some (y.1,(a0,a1,()),()) else (Zmo k (a2,a3,())).bind fun y => (ZP k ((a0,a1,()),y.1.1,2,())).bind fun y_1 => (ZP k ((y_1.2.1.1,y_1.2.1.2.1,()),y.1.2.1,4,())).bind fun y_2 => (Zmp k (a2,a3,y.1.2.1,())).bind fun y_3 => L1 (Int.ofNat (List.length y_3.1),(0:Int),y_3.1,y_2.2.1.2.1,y_2.2.1.1,y.1.1,y.1.2.1,y.1.2.2.1,y.1.2.2.2.1)
noncomputable def Zh2 (k:Nat):=Zli k (Zx6 k)
theorem ZNU (k:Nat) (n1:Nat):∀ n,Zpi k n1 n = Zn (fun L2 => K3 k (Zlh k n1) L2) n :=
 Zh (fun v => by kernel_rfl) (fun n v => by
  show Zpi k n1 (n + 1) v = K3 k (Zlh k n1) (Zpi k n1 n) v
  obtain ⟨v0,v1,v2,v3,v4,v5,v6,v7,v8,v9,v10,v11,v12,v13,v14⟩:=v
  kernel_rfl)
theorem ZNT (k:Nat):∀ n,Zlh k n = Zn (fun L1 => ZfE k (ZmX k L1) L1) n :=
 Zh (fun v => by kernel_rfl) (fun n v => by
  rw [show (ZmX k (Zlh k n)) = Zpi k n k from (ZNU k n k).symm]
  obtain ⟨v0,v1,v2,v3,v4,v5,v6,v7,v8⟩:=v
  kernel_rfl)
theorem ZVH (k:Nat) (x:Kd.dens Yq):ZA (ZAM k) ZNS Tryz.f155 Yq Zi x = Zh2 k x:=by
 show _ = Zli k (Zx6 k) x
 rw [show Zx6 k = Zlh k k from (ZNT k k).symm]
 obtain ⟨⟨a0,⟨a1,⟨⟩⟩⟩,⟨a2,⟨a3,⟨⟩⟩⟩⟩:=x
 kernel_rfl
theorem ZR8 (k:Nat):Ctr Tryz.prog k 155 (mk Yq Zi Zh2) :=
 ZB (fn:=Tryz.f155) (Zf (Za (Zd3 k) (Za (ZF6 k) (Za (ZzC k) (Za (ZzD k) (Za (ZzF k) (Za (Zmq k) (Za (Zms k) (Za (Zui k) (Za (ZzB k) Zd)))))))))) (by kernel_rfl) (by kernel_rfl) (ZVH k)
noncomputable abbrev ZW5:Nat × Callee:=(155,mk Yq Zi Zh2)
noncomputable def ZWJ (k:Nat):=Wd k [ZNe,ZW2,ZW3,ZTi,ZW4,ZW5]
noncomputable def ZAv (k:Nat):(List Int × Int × Unit) × List Int × Int × Unit → Option (Int × (List Int × Int × Unit) × Unit)
 | ((a0,a1,()),a2,a3,()) => (Zvf k (a2,a3,())).bind fun y => bif y.1 != 0 then some (y.1,(a0,a1,()),()) else (Zvg k (a2,a3,())).bind fun y => (ZP k ((a0,a1,()),y.1.1,7,())).bind fun y_1 => bif decide ((0:Int) < y.1.2.1) then (ZP k ((y_1.2.1.1,y_1.2.1.2.1,()),1,1,())).bind fun y_2 => (ZnL k ((y_2.2.1.1,y_2.2.1.2.1,()),IntKind.i64.wrap (y.1.2.1 - 1),())).bind fun y_3 => bif y.1.1 == 0 then bif decide ((0:Int) ≤ 0 ∧ (0:Int) ≤ 1 ∧ (1:Int) ≤ Int.ofNat (List.length y.1.2.2.2.1)) then (Zal k ((y_3.2.1.1,y_3.2.1.2.1,()),List.drop 0 (List.take 1 y.1.2.2.2.1),y.1.2.2.1,())).bind fun y => some (0,(y.2.1.1,y.2.1.2.1,()),()) else none else bif y.1.1 == 1 then (Zal k ((y_3.2.1.1,y_3.2.1.2.1,()),y.1.2.2.2.1,y.1.2.2.1,())).bind fun y => some (0,(y.2.1.1,y.2.1.2.1,()),()) else bif decide ((0:Int) ≤ 0 ∧ (0:Int) ≤ Int.ofNat (List.length y.1.2.2.2.2.1.1) ∧ Int.ofNat (List.length y.1.2.2.2.2.1.1) ≤ Int.ofNat (List.length y.1.2.2.2.1)) then (Zal k ((y_3.2.1.1,y_3.2.1.2.1,()),List.drop 0 (List.take (Int.ofNat (List.length y.1.2.2.2.2.1.1)).toNat y.1.2.2.2.1),y.1.2.2.1,())).bind fun y_4 => bif decide ((31:Int) < y.1.1) then (ZP k ((y_4.2.1.1,y_4.2.1.2.1,()),11,4,())).bind fun y_5 => (ZP k ((y_5.2.1.1,y_5.2.1.2.1,()),y.1.2.2.2.2.1.2.1,5,())).bind fun y_6 => (Zal k ((y_6.2.1.1,y_6.2.1.2.1,()),y.1.2.2.2.2.1.1,12,())).bind fun y_7 => (Zh2 k ((y_7.2.1.1,y_7.2.1.2.1,()),y.1.2.2.2.2.2.1,Int.ofNat (List.length y.1.2.2.2.2.1.1),())).bind fun y => some (y.1,(y.2.1.1,y.2.1.2.1,()),()) else (Zh2 k ((y_4.2.1.1,y_4.2.1.2.1,()),y.1.2.2.2.2.2.1,Int.ofNat (List.length y.1.2.2.2.2.1.1),())).bind fun y => some (y.1,(y.2.1.1,y.2.1.2.1,()),()) else none else (ZP k ((y_1.2.1.1,y_1.2.1.2.1,()),0,1,())).bind fun y_2 => bif y.1.1 == 0 then bif decide ((0:Int) ≤ 0 ∧ (0:Int) ≤ 1 ∧ (1:Int) ≤ Int.ofNat (List.length y.1.2.2.2.1)) then (Zal k ((y_2.2.1.1,y_2.2.1.2.1,()),List.drop 0 (List.take 1 y.1.2.2.2.1),y.1.2.2.1,())).bind fun y => some (0,(y.2.1.1,y.2.1.2.1,()),()) else none else bif y.1.1 == 1 then (Zal k ((y_2.2.1.1,y_2.2.1.2.1,()),y.1.2.2.2.1,y.1.2.2.1,())).bind fun y => some (0,(y.2.1.1,y.2.1.2.1,()),()) else bif decide ((0:Int) ≤ 0 ∧ (0:Int) ≤ Int.ofNat (List.length y.1.2.2.2.2.1.1) ∧ Int.ofNat (List.length y.1.2.2.2.2.1.1) ≤ Int.ofNat (List.length y.1.2.2.2.1)) then (Zal k ((y_2.2.1.1,y_2.2.1.2.1,()),List.drop 0 (List.take (Int.ofNat (List.length y.1.2.2.2.2.1.1)).toNat y.1.2.2.2.1),y.1.2.2.1,())).bind fun y_3 => bif decide ((31:Int) < y.1.1) then (ZP k ((y_3.2.1.1,y_3.2.1.2.1,()),11,4,())).bind fun y_4 => (ZP k ((y_4.2.1.1,y_4.2.1.2.1,()),y.1.2.2.2.2.1.2.1,5,())).bind fun y_5 => (Zal k ((y_5.2.1.1,y_5.2.1.2.1,()),y.1.2.2.2.2.1.1,12,())).bind fun y_6 => (Zh2 k ((y_6.2.1.1,y_6.2.1.2.1,()),y.1.2.2.2.2.2.1,Int.ofNat (List.length y.1.2.2.2.2.1.1),())).bind fun y => some (y.1,(y.2.1.1,y.2.1.2.1,()),()) else (Zh2 k ((y_3.2.1.1,y_3.2.1.2.1,()),y.1.2.2.2.2.2.1,Int.ofNat (List.length y.1.2.2.2.2.1.1),())).bind fun y => some (y.1,(y.2.1.1,y.2.1.2.1,()),()) else none
noncomputable def Zva (k:Nat):=ZAv k
theorem ZU3 (k:Nat) (x:Kd.dens Yq):ZA (ZWJ k) nA Tryz.f98 Yq Zi x = Zva k x:=by
 show _ = ZAv k x
 obtain ⟨⟨a0,⟨a1,⟨⟩⟩⟩,⟨a2,⟨a3,⟨⟩⟩⟩⟩:=x
 kernel_rfl
theorem ZRS (k:Nat):Ctr Tryz.prog k 98 (mk Yq Zi Zva) :=
 ZB (fn:=Tryz.f98) (Zf (Za (Zd3 k) (Za (ZR3 k) (Za (ZR4 k) (Za (ZF6 k) (Za (ZR7 k) (Za (ZR8 k) Zd))))))) (by kernel_rfl) (by kernel_rfl) (ZU3 k)
noncomputable abbrev ZWK:Nat × Callee:=(98,mk Yq Zi Zva)
def ZkV (k:Nat):(List Int × Int × Unit) × Unit → Option (Int × (List Int × Int × Unit) × Unit)
 | ((a0,a1,()),()) => some (IntKind.i64.wrap (Int.ofNat (BitVec.ofInt 64 (IntKind.i64.wrap ((0:Int) - a1)) &&& BitVec.ofInt 64 (7:Int)).toNat),(a0,IntKind.i64.wrap (a1 + IntKind.i64.wrap (Int.ofNat (BitVec.ofInt 64 (IntKind.i64.wrap ((0:Int) - a1)) &&& BitVec.ofInt 64 (7:Int)).toNat)),()),())
def ZAw (k:Nat):=ZkV k
theorem ZU4 (k:Nat) (x:Kd.dens Zd4):ZA (Z4 k) nA Tryz.f99 Zd4 Zi x = ZAw k x:=by
 show _ = ZkV k x
 obtain ⟨⟨a0,⟨a1,⟨⟩⟩⟩,⟨⟩⟩:=x
 kernel_rfl
theorem ZRT (k:Nat):Ctr Tryz.prog k 99 (mk Zd4 Zi ZAw) :=
 ZB (fn:=Tryz.f99) (Zf Zd) (by kernel_rfl) (by kernel_rfl) (ZU4 k)
noncomputable abbrev ZWL:Nat × Callee:=(99,mk Zd4 Zi ZAw)
def ZkW (k:Nat):List Int × Unit → Option (Int × Unit)
 | (a0,()) => (Zh1 k (a0,16,32773,())).bind fun y => some (y.1,())
def Zvb (k:Nat):=ZkW k
theorem ZU5 (k:Nat) (x:Kd.dens WJ):ZA (ZS0 k) nA Tryz.f61 WJ Zi x = Zvb k x:=by
 show _ = ZkW k x
 obtain ⟨a0,⟨⟩⟩:=x
 kernel_rfl
theorem ZFM (k:Nat):Ctr Tryz.prog k 61 (mk WJ Zi Zvb) :=
 ZB (fn:=Tryz.f61) (Zf (Za (ZF0 k) Zd)) (by kernel_rfl) (by kernel_rfl) (ZU5 k)
noncomputable abbrev ZS3:Nat × Callee:=(61,mk WJ Zi Zvb)
abbrev ZmD:Kd:=.tup [.own (.int .u8) false,.view (.int .i64)]
noncomputable def Zz3 (k:Nat):=Wd k [ZSX,ZWE,ZSY,ZNe,ZWF,ZS1,ZWH,ZS2,ZWK,ZWL,ZS3]
def ZLk:Nat → Ann:=fun id => bif Nat.beq id 27 then ⟨[87,88,86,12,7],[]⟩ else bif Nat.beq id 20 then ⟨[61,62,60,12,10,11,2,8,7],[]⟩ else ⟨[],[]⟩
abbrev ZCX:=Int × Int × List Int × List (List Int) × Int × List Int
abbrev ZwX:=ZCX → Option ((List Int × Int × Unit) × Unit)
abbrev ZCW:=Int × Int × List Int × Int × Int × Int × List (List Int) × Int × List Int × Int × Int × Int
abbrev ZwW:=ZCW → Option ((List Int × Int × Unit) × Unit)
def ZUf:ZCX → St
 | (v0,v1,v2,v3,v4,v5) => St.mk (Zv [(87,Zl v0),(88,Zl v1),(86,Yh v2),(12,AV.bx 8192 0),(7,AV.val (PV.sl (Ty.int IntKind.i64).sl v3))]) (Zu [(8192,QQ [AV.own 8193,Zl v4]),(8193,RS.live (Res.arr (Ty.int IntKind.u8) v5 false))])
noncomputable def ZcA (k:Nat) (L2:ZwX):ZwX
 | (v0,v1,v2,v3,v4,v5) => bif decide (v1 < v0) then bif decide (0 ≤ v1 ∧ v1 < Int.ofNat v2.length) then bif decide (0 ≤ v1 ∧ v1 < Int.ofNat v3.length) then (Zva k ((v5,v4,()),v3.getD v1.toNat [],v2.getD v1.toNat 0,())).bind fun y => bif y.1 != 0 then some (([],y.1,()),()) else L2 (v0,IntKind.i64.wrap (v1 + 1),v2,v3,y.2.1.2.1,y.2.1.1) else none else none else (ZAw k ((v5,v4,()),())).bind fun y => (ZkQ k ((y.2.1.1,y.2.1.2.1,()),())).bind fun y => (Zvb k (y.1,())).bind fun y_1 => (ZP k ((y.2.1.1,y.2.1.2.1,()),y_1.1,16,())).bind fun y => (ZkQ k ((y.2.1.1,y.2.1.2.1,()),())).bind fun y => some ((y.1,0,()),())
noncomputable def Ziz (k:Nat):ZwX:=Zn (fun L2 => ZcA k L2) k
noncomputable def ZFb (k:Nat) (n:Nat) (v:ZCX) :=
 Zs (Zz3 k) ZLk [] [1,1,1,1,1,1,1,1,1,1,1,1,1,1,1,1,1,0,1,0] [] (Q6 Tryz.f43) (We (Zz3 k) Tryz.f43 YS ZmD [] []) n (ZUf v)
def ZUe:ZCW → St
 | (v0,v1,v2,v3,v4,v5,v6,v7,v8,v9,v10,v11) => St.mk (Zv [(61,Zl v0),(62,Zl v1),(60,AV.val (PV.sl (Ty.int IntKind.u8) v2)),(12,AV.bx 8192 0),(10,Zl v3),(11,Zl v4),(2,AV.bx 8194 0),(8,Zl v5),(7,AV.val (PV.sl (Ty.int IntKind.i64).sl v6))]) (Zu [(8192,QQ [AV.own 8193,Zl v7]),(8193,RS.live (Res.arr (Ty.int IntKind.u8) v8 false)),(8194,QQ [Zl v9,Zl v10,Zl v11])])
def KV (k:Nat) (L2:ZwX) (L1:ZwW):ZwW
 | (v0,v1,v2,v3,v4,v5,v6,v7,v8,v9,v10,v11) => bif decide (v1 < v0) then bif decide (0 ≤ v1 ∧ v1 < Int.ofNat v2.length) then (ZP k ((v8,v7,()),IntKind.i64.wrap (v2.getD v1.toNat 0),8,())).bind fun y => L1 (v0,IntKind.i64.wrap (v1 + 1),v2,v3,v4,v5,v6,y.2.1.2.1,y.2.1.1,v9,v10,v11) else none else (ZP k ((v8,v7,()),IntKind.i64.wrap (v3 - 1),IntKind.i64.wrap ((8:Int) * IntKind.i64.wrap (IntKind.i64.wrap (v4 - 6) + (1:Int))),())).bind fun y => (ZkQ k ((y.2.1.1,y.2.1.2.1,()),())).bind fun y => (Zu8 k (y.1,())).bind fun y_1 => (ZP k ((y.2.1.1,y.2.1.2.1,()),y_1.1,8,())).bind fun y => (Zu9 k ((v9,v10,v11,()),v5,())).bind fun y_2 => L2 (Int.ofNat (List.length y_2.1),(0:Int),y_2.1,v6,y.2.1.2.1,y.2.1.1)
noncomputable def ZmC (k:Nat):ZwW:=Zn (fun L1 => KV k (Ziz k) L1) k
noncomputable def ZFa (k:Nat) (n:Nat) (v:ZCW) :=
 Zs (Zz3 k) ZLk [] [1,1,1,1,1,1,1,1,1,1,1,1,1,1,0,1,0] [] (Q6 Tryz.f43) (We (Zz3 k) Tryz.f43 YS ZmD [] []) n (ZUe v)
def ZjG (k:Nat) (L1:ZwW):(Int × Int × Int × Unit) × (Int × List (List Int) × Unit) × Unit → Option ((List Int × Int × Unit) × Unit)
 | ((a0,a1,a2,()),(a3,a4,()),()) => (ZhY k ((a0,a1,a2,()),(a3,a4,()),())).bind fun y => bif y.1 != 0 then some (([],y.1,()),()) else (ZAo k ((a3,a4,()),())).bind fun y => bif y.1.2.2.1 != 0 then some (([],y.1.2.2.1,()),()) else bif decide ((0:Int) ≤ 0 ∧ (0:Int) < Int.ofNat (List.length y.1.1)) then bif decide ((256:Int) < Int.ofNat (List.length (List.getD y.1.1 (0:Nat) []))) then (ZnK k ()).bind fun y_1 => (ZP k ((y_1.1.1,y_1.1.2.1,()),16382,14,())).bind fun y_2 => (ZP k ((y_2.2.1.1,y_2.2.1.2.1,()),7,6,())).bind fun y_3 => (ZP k ((y_3.2.1.1,y_3.2.1.2.1,()),y.1.2.1,8,())).bind fun y_4 => (ZP k ((y_4.2.1.1,y_4.2.1.2.1,()),0,4,())).bind fun y_5 => (Zr2 k (a3,())).bind fun y_6 => bif y_6.1.2.1 != 0 then some (([],y_6.1.2.1,()),()) else L1 (Int.ofNat (List.length y_6.1.1),(0:Int),y_6.1.1,Int.ofNat (List.length (List.getD y.1.1 (0:Nat) [])),(7:Int),y.1.2.1,y.1.1,y_5.2.1.2.1,y_5.2.1.1,a0,a1,a2) else (ZnK k ()).bind fun y_1 => (ZP k ((y_1.1.1,y_1.1.2.1,()),16382,14,())).bind fun y_2 => (ZP k ((y_2.2.1.1,y_2.2.1.2.1,()),6,6,())).bind fun y_3 => (ZP k ((y_3.2.1.1,y_3.2.1.2.1,()),y.1.2.1,8,())).bind fun y_4 => (ZP k ((y_4.2.1.1,y_4.2.1.2.1,()),0,4,())).bind fun y_5 => (Zr2 k (a3,())).bind fun y_6 => bif y_6.1.2.1 != 0 then some (([],y_6.1.2.1,()),()) else L1 (Int.ofNat (List.length y_6.1.1),(0:Int),y_6.1.1,Int.ofNat (List.length (List.getD y.1.1 (0:Nat) [])),(6:Int),y.1.2.1,y.1.1,y_5.2.1.2.1,y_5.2.1.1,a0,a1,a2) else none
noncomputable def Zun (k:Nat):=ZjG k (ZmC k)
theorem ZLm (k:Nat):∀ n,ZFb k n = Zn (fun L2 => ZcA k L2) n :=
 Zh (fun v => by kernel_rfl) (fun n v => by
  obtain ⟨v0,v1,v2,v3,v4,v5⟩:=v
  kernel_rfl)
theorem ZLl (k:Nat):∀ n,ZFa k n = Zn (fun L1 => KV k (Ziz k) L1) n :=
 Zh (fun v => by kernel_rfl) (fun n v => by
  rw [show (Ziz k) = ZFb k k from (ZLm k k).symm]
  obtain ⟨v0,v1,v2,v3,v4,v5,v6,v7,v8,v9,v10,v11⟩:=v
  kernel_rfl)
theorem ZUg (k:Nat) (x:Kd.dens YS):ZA (Zz3 k) ZLk Tryz.f43 YS ZmD x = Zun k x:=by
 show _ = ZjG k (ZmC k) x
 rw [show ZmC k = ZFa k k from (ZLl k k).symm]
 obtain ⟨⟨a0,⟨a1,⟨a2,⟨⟩⟩⟩⟩,⟨⟨a3,⟨a4,⟨⟩⟩⟩,⟨⟩⟩⟩:=x
 kernel_rfl
theorem ZQt (k:Nat):Ctr Tryz.prog k 43 (mk YS ZmD Zun) :=
 ZB (fn:=Tryz.f43) (Zf (Za (ZFF k) (Za (ZRQ k) (Za (ZFG k) (Za (Zd3 k) (Za (ZRR k) (Za (ZFJ k) (Za (ZFK k) (Za (ZFL k) (Za (ZRS k) (Za (ZRT k) (Za (ZFM k) Zd)))))))))))) (by kernel_rfl) (by kernel_rfl) (ZUg k)
noncomputable abbrev ZXN:Nat × Callee:=(43,mk YS ZmD Zun)
abbrev Zxy:Kd:=.box [.view (.sl (.int .u8)),.view (.int .i64)]
noncomputable def ZWM (k:Nat):=Wd k [ZTg]
def ZkX (k:Nat):List Int × Unit → Option ((List Int × Int × Unit) × Unit)
 | (a0,()) => (Zlc k (a0,())).bind fun y => some ((y.1,0,()),())
def Zr5 (k:Nat):=ZkX k
theorem ZU6 (k:Nat) (x:Kd.dens WJ):ZA (ZWM k) nA Tryz.f48 WJ Zxy x = Zr5 k x:=by
 show _ = ZkX k x
 obtain ⟨a0,⟨⟩⟩:=x
 kernel_rfl
theorem ZFN (k:Nat):Ctr Tryz.prog k 48 (mk WJ Zxy Zr5) :=
 ZB (fn:=Tryz.f48) (Zf (Za (ZxW k) Zd)) (by kernel_rfl) (by kernel_rfl) (ZU6 k)
noncomputable abbrev ZWN:Nat × Callee:=(48,mk WJ Zxy Zr5)
abbrev W9:List Kd:=[.box [.view (.sl (.int .u8)),.view (.int .i64)]]
def ZAE (k:Nat):(List Int × Int × Unit) × Unit → Option (Int × (List Int × Int × Unit) × Unit)
 | ((a0,a1,()),()) => some (a1,(a0,a1,()),())
def K0 (k:Nat):=ZAE k
theorem ZVg (k:Nat) (x:Kd.dens W9):ZA (Z4 k) nA Tryz.f50 W9 Zi x = K0 k x:=by
 show _ = ZAE k x
 obtain ⟨⟨a0,⟨a1,⟨⟩⟩⟩,⟨⟩⟩:=x
 kernel_rfl
theorem Zk3 (k:Nat):Ctr Tryz.prog k 50 (mk W9 Zi K0) :=
 ZB (fn:=Tryz.f50) (Zf Zd) (by kernel_rfl) (by kernel_rfl) (ZVg k)
noncomputable abbrev ZFR:Nat × Callee:=(50,mk W9 Zi K0)
abbrev Zx7:List Kd:=[.box [.view (.sl (.int .u8)),.ref [.view (.sl (.int .u8)),.view (.int .i64)],.view (.int .i64)],.view .bool,.view (.int .i64)]
def Zlj (k:Nat):(List Int × (List Int × Int × Unit) × Int × Unit) × Bool × Int × Unit → Option (Unit × (List Int × (List Int × Int × Unit) × Int × Unit) × Unit)
 | ((a0,(a1,a2,()),a3,()),a4,a5,()) => bif a3 == 0 then bif !a4 then some ((),(a0,(a1,a2,()),a5,()),()) else some ((),(a0,(a1,a2,()),a3,()),()) else some ((),(a0,(a1,a2,()),a3,()),())
def Q8 (k:Nat):=Zlj k
theorem ZVI (k:Nat) (x:Kd.dens Zx7):ZA (Z4 k) nA Tryz.f118 Zx7 QC x = Q8 k x:=by
 show _ = Zlj k x
 obtain ⟨⟨a0,⟨⟨a1,⟨a2,⟨⟩⟩⟩,⟨a3,⟨⟩⟩⟩⟩,⟨a4,⟨a5,⟨⟩⟩⟩⟩:=x
 kernel_rfl
theorem Zpj (k:Nat):Ctr Tryz.prog k 118 (mk Zx7 QC Q8) :=
 ZB (fn:=Tryz.f118) (Zf Zd) (by kernel_rfl) (by kernel_rfl) (ZVI k)
noncomputable abbrev ZF8:Nat × Callee:=(118,mk Zx7 QC Q8)
abbrev Xn:List Kd:=[.box [.view (.sl (.int .u8)),.view (.int .i64)],.view (.int .i64)]
def Zls (k:Nat):(List Int × Int × Unit) × Int × Unit → Option (Int × (List Int × Int × Unit) × Unit)
 | ((a0,a1,()),a2,()) => bif decide (0 ≤ IntKind.i64.wrap (a2.tdiv (8:Int)) ∧ IntKind.i64.wrap (a2.tdiv (8:Int)) < Int.ofNat a0.length) then bif decide (0 ≤ IntKind.i64.wrap ((7:Int) - a2.tmod (8:Int))) then some (IntKind.i64.wrap (Int.ofNat (BitVec.ofInt 64 (IntKind.i64.wrap (Int.fdiv (a0.getD (IntKind.i64.wrap (a2.tdiv (8:Int))).toNat 0) ((2:Int) ^ min (IntKind.i64.wrap ((7:Int) - a2.tmod (8:Int))).toNat 8))) &&& BitVec.ofInt 64 (1:Int)).toNat),(a0,a1,()),()) else none else none
def Zsl (k:Nat):=Zls k
theorem ZVR (k:Nat) (x:Kd.dens Xn):ZA (Z4 k) nA Tryz.f126 Xn Zi x = Zsl k x:=by
 show _ = Zls k x
 obtain ⟨⟨a0,⟨a1,⟨⟩⟩⟩,⟨a2,⟨⟩⟩⟩:=x
 kernel_rfl
theorem Zyc (k:Nat):Ctr Tryz.prog k 126 (mk Xn Zi Zsl) :=
 ZB (fn:=Tryz.f126) (Zf Zd) (by kernel_rfl) (by kernel_rfl) (ZVR k)
noncomputable abbrev ZTo:Nat × Callee:=(126,mk Xn Zi Zsl)
def Zg7 (k:Nat):(List Int × Int × Unit) × Unit → Option (Int × (List Int × Int × Unit) × Unit)
 | ((a0,a1,()),()) => some (IntKind.i64.wrap (IntKind.i64.wrap ((8:Int) * Int.ofNat a0.length) - a1),(a0,a1,()),())
def ZqE (k:Nat):=Zg7 k
theorem ZQG (k:Nat) (x:Kd.dens W9):ZA (Z4 k) nA Tryz.f207 W9 Zi x = ZqE k x:=by
 show _ = Zg7 k x
 obtain ⟨⟨a0,⟨a1,⟨⟩⟩⟩,⟨⟩⟩:=x
 kernel_rfl
theorem ZLx (k:Nat):Ctr Tryz.prog k 207 (mk W9 Zi ZqE) :=
 ZB (fn:=Tryz.f207) (Zf Zd) (by kernel_rfl) (by kernel_rfl) (ZQG k)
noncomputable abbrev ZUm:Nat × Callee:=(207,mk W9 Zi ZqE)
noncomputable def ZCI (k:Nat):=Wd k [ZTc,ZTo,ZUm]
def ZKS:Nat → Ann:=fun id => bif Nat.beq id 7 then ⟨[19,20,6,0],[]⟩ else ⟨[],[]⟩
abbrev ZwN:=Int × Int × Int × List Int × Int
abbrev Zoy:=ZwN → Option ((Int × Int × Unit) × (List Int × Int × Unit) × Unit)
def ZP5:ZwN → St
 | (v0,v1,v2,v3,v4) => St.mk (Zv [(19,Zl v0),(20,Zl v1),(6,Zl v2),(0,AV.bx 0 0)]) (Zu [(0,QQ [AV.val (PV.sl (Ty.int IntKind.u8) v3),Zl v4])])
def Zcs (k:Nat) (L1:Zoy):Zoy
 | (v0,v1,v2,v3,v4) => bif decide (v1 < v0) then (Zsl k ((v3,v4,()),v4,())).bind fun y => L1 (v0,IntKind.i64.wrap (v1 + 1),IntKind.i64.wrap (Int.ofNat (BitVec.ofInt 64 (IntKind.i64.wrap (v2 * (2:Int))) ||| BitVec.ofInt 64 y.1).toNat),y.2.1.1,IntKind.i64.wrap (y.2.1.2.1 + 1)) else some ((v2,0,()),(v3,v4,()),())
def Zoz (k:Nat):Zoy:=Zn (fun L1 => Zcs k L1) k
noncomputable def ZzI (k:Nat) (n:Nat) (v:ZwN) :=
 Zs (ZCI k) ZKS [0] [1,1,1,0,1,0] [] (Q6 Tryz.f156) (We (ZCI k) Tryz.f156 Xn Z5 [AV.bx (nat_lit 0) (nat_lit 0)] [[]]) n (ZP5 v)
def ZgG (k:Nat) (L1:Zoy):(List Int × Int × Unit) × Int × Unit → Option ((Int × Int × Unit) × (List Int × Int × Unit) × Unit)
 | ((a0,a1,()),a2,()) => (Zse k (a2,())).bind fun y => bif y.1 then some ((0,1,()),(a0,a1,()),()) else (ZqE k ((a0,a1,()),())).bind fun y => bif decide (y.1 < a2) then some ((0,10,()),(y.2.1.1,y.2.1.2.1,()),()) else L1 (a2,(0:Int),(0:Int),y.2.1.1,y.2.1.2.1)
def XT (k:Nat):=ZgG k (Zoz k)
theorem ZHE (k:Nat):∀ n,ZzI k n = Zn (fun L1 => Zcs k L1) n :=
 Zh (fun v => by kernel_rfl) (fun n v => by
  obtain ⟨v0,v1,v2,v3,v4⟩:=v
  kernel_rfl)
theorem ZP6 (k:Nat) (x:Kd.dens Xn):ZA (ZCI k) ZKS Tryz.f156 Xn Z5 x = XT k x:=by
 show _ = ZgG k (Zoz k) x
 rw [show Zoz k = ZzI k k from (ZHE k k).symm]
 obtain ⟨⟨a0,⟨a1,⟨⟩⟩⟩,⟨a2,⟨⟩⟩⟩:=x
 kernel_rfl
theorem ZaS (k:Nat):Ctr Tryz.prog k 156 (mk Xn Z5 XT) :=
 ZB (fn:=Tryz.f156) (Zf (Za (ZxQ k) (Za (Zyc k) (Za (ZLx k) Zd)))) (by kernel_rfl) (by kernel_rfl) (ZP6 k)
noncomputable abbrev ZwO:Nat × Callee:=(156,mk Xn Z5 XT)
abbrev Zx8:List Kd:=[.box [.view (.sl (.int .u8)),.ref [.view (.sl (.int .u8)),.view (.int .i64)],.view (.int .i64)],.view (.int .i64)]
noncomputable def ZNV (k:Nat):=Wd k [ZwO]
def Zlk (k:Nat):(List Int × (List Int × Int × Unit) × Int × Unit) × Int × Unit → Option (Int × (List Int × (List Int × Int × Unit) × Int × Unit) × Unit)
 | ((a0,(a1,a2,()),a3,()),a4,()) => bif a3 == 0 then (XT k ((a1,a2,()),a4,())).bind fun y => some (y.1.1,(a0,(y.2.1.1,y.2.1.2.1,()),y.1.2.1,()),()) else some (0,(a0,(a1,a2,()),a3,()),())
def Wy (k:Nat):=Zlk k
theorem ZVJ (k:Nat) (x:Kd.dens Zx8):ZA (ZNV k) nA Tryz.f119 Zx8 Zi x = Wy k x:=by
 show _ = Zlk k x
 obtain ⟨⟨a0,⟨⟨a1,⟨a2,⟨⟩⟩⟩,⟨a3,⟨⟩⟩⟩⟩,⟨a4,⟨⟩⟩⟩:=x
 kernel_rfl
theorem Zpk (k:Nat):Ctr Tryz.prog k 119 (mk Zx8 Zi Wy) :=
 ZB (fn:=Tryz.f119) (Zf (Za (ZaS k) Zd)) (by kernel_rfl) (by kernel_rfl) (ZVJ k)
noncomputable abbrev ZF9:Nat × Callee:=(119,mk Zx8 Zi Wy)
abbrev ZxG:List Kd:=[.box [.view (.sl (.int .u8)),.ref [.view (.sl (.int .u8)),.view (.int .i64)],.view (.int .i64)],.view (.int .i64),.fn 96]
noncomputable def ZWS (k:Nat):=Wd k [ZFR,ZF8,ZF9,ZS1]
def Zk0 (k:Nat):(List Int × (List Int × Int × Unit) × Int × Unit) × Int × Unit × Unit → Option (Unit × (List Int × (List Int × Int × Unit) × Int × Unit) × Unit)
 | ((a0,(a1,a2,()),a3,()),a4,(),()) => (K0 k ((a1,a2,()),())).bind fun y => (Wy k ((a0,(y.2.1.1,y.2.1.2.1,()),a3,()),a4,())).bind fun y_1 => bif y_1.2.1.2.2.1 != 0 then (Q8 k ((y_1.2.1.1,(y_1.2.1.2.1.1,y_1.2.1.2.1.2.1,()),y_1.2.1.2.2.1,()),true,16,())).bind fun y => some ((),(y.2.1.1,(y.2.1.2.1.1,y.2.1.2.1.2.1,()),y.2.1.2.2.1,()),()) else bif decide ((0:Int) ≤ 0 ∧ (0:Int) ≤ IntKind.i64.wrap (Int.tdiv y.1 (8:Int)) ∧ IntKind.i64.wrap (Int.tdiv y.1 (8:Int)) ≤ Int.ofNat (List.length y_1.2.1.1)) then (Zu8 k (List.drop 0 (List.take (IntKind.i64.wrap (Int.tdiv y.1 (8:Int))).toNat y_1.2.1.1),())).bind fun y => (Q8 k ((y_1.2.1.1,(y_1.2.1.2.1.1,y_1.2.1.2.1.2.1,()),y_1.2.1.2.2.1,()),y_1.1 == y.1,16,())).bind fun y => some ((),(y.2.1.1,(y.2.1.2.1.1,y.2.1.2.1.2.1,()),y.2.1.2.2.1,()),()) else none
def Zh0 (k:Nat):=Zk0 k
theorem ZVc (k:Nat) (x:Kd.dens ZxG):ZA (ZWS k) nA Tryz.f60 ZxG QC x = Zh0 k x:=by
 show _ = Zk0 k x
 obtain ⟨⟨a0,⟨⟨a1,⟨a2,⟨⟩⟩⟩,⟨a3,⟨⟩⟩⟩⟩,⟨a4,⟨⟨⟩,⟨⟩⟩⟩⟩:=x
 kernel_rfl
theorem ZRX (k:Nat):Ctr Tryz.prog k 60 (mk ZxG QC Zh0) :=
 ZB (fn:=Tryz.f60) (Zf (Za (Zk3 k) (Za (Zpj k) (Za (Zpk k) (Za (ZFJ k) Zd))))) (by kernel_rfl) (by kernel_rfl) (ZVc k)
noncomputable abbrev ZWT:Nat × Callee:=(60,mk ZxG QC Zh0)
def Zll (k:Nat):(Int × Int × Int × Unit) × Int × Unit → Option (Bool × Unit)
 | ((a0,a1,a2,()),a3,()) => bif a0 == 1 then some (a3 == 0,()) else bif a3 == 1 then some (true,()) else bif decide (8 ≤ a3) then some (decide (a3 ≤ 10),()) else some (false,())
def Zsj (k:Nat):=Zll k
theorem ZVK (k:Nat) (x:Kd.dens Zfr):ZA (Z4 k) nA Tryz.f120 Zfr ZE x = Zsj k x:=by
 show _ = Zll k x
 obtain ⟨⟨a0,⟨a1,⟨a2,⟨⟩⟩⟩⟩,⟨a3,⟨⟩⟩⟩:=x
 kernel_rfl
theorem ZR9 (k:Nat):Ctr Tryz.prog k 120 (mk Zfr ZE Zsj) :=
 ZB (fn:=Tryz.f120) (Zf Zd) (by kernel_rfl) (by kernel_rfl) (ZVK k)
noncomputable abbrev ZW6:Nat × Callee:=(120,mk Zfr ZE Zsj)
abbrev ZbK:List Kd:=[.view (.int .u8)]
def ZuC (k:Nat):Int × Unit → Option (Int × Unit)
 | (a0,()) => bif decide (0 ≤ a0 ∧ a0 < 256) then some (IntKind.i64.wrap (Int.ofNat ((ByteArray.mk (([0,1,2,2,3,3,3,3,4,4,4,4,4,4,4,4,5,5,5,5,5,5,5,5,5,5,5,5,5,5,5,5,6,6,6,6,6,6,6,6,6,6,6,6,6,6,6,6,6,6,6,6,6,6,6,6,6,6,6,6,6,6,6,6].append [7,7,7,7,7,7,7,7,7,7,7,7,7,7,7,7,7,7,7,7,7,7,7,7,7,7,7,7,7,7,7,7,7,7,7,7,7,7,7,7,7,7,7,7,7,7,7,7,7,7,7,7,7,7,7,7,7,7,7,7,7,7,7,7]).append ([8,8,8,8,8,8,8,8,8,8,8,8,8,8,8,8,8,8,8,8,8,8,8,8,8,8,8,8,8,8,8,8,8,8,8,8,8,8,8,8,8,8,8,8,8,8,8,8,8,8,8,8,8,8,8,8,8,8,8,8,8,8,8,8].append [8,8,8,8,8,8,8,8,8,8,8,8,8,8,8,8,8,8,8,8,8,8,8,8,8,8,8,8,8,8,8,8,8,8,8,8,8,8,8,8,8,8,8,8,8,8,8,8,8,8,8,8,8,8,8,8,8,8,8,8,8,8,8,8])).toArray).data.toList.getD a0.toNat 0).toNat),()) else none
def Zw6 (k:Nat):=ZuC k
theorem ZQV (k:Nat) (x:Kd.dens ZbK):ZA (Z4 k) nA Tryz.f251 ZbK Zi x = Zw6 k x:=by
 show _ = ZuC k x
 obtain ⟨a0,⟨⟩⟩:=x
 kernel_rfl
theorem ZLK (k:Nat):Ctr Tryz.prog k 251 (mk ZbK Zi Zw6) :=
 ZB (fn:=Tryz.f251) (Zf Zd) (by kernel_rfl) (by kernel_rfl) (ZQV k)
noncomputable abbrev ZUB:Nat × Callee:=(251,mk ZbK Zi Zw6)
noncomputable def ZUn (k:Nat):=Wd k [ZUB]
def Zuu (k:Nat):Int × Unit → Option (Int × Unit)
 | (a0,()) => (Zw6 k (a0,())).bind fun y => some (IntKind.i64.wrap ((8:Int) - y.1),())
def ZmI (k:Nat):=Zuu k
theorem ZQH (k:Nat) (x:Kd.dens ZbK):ZA (ZUn k) nA Tryz.f213 ZbK Zi x = ZmI k x:=by
 show _ = Zuu k x
 obtain ⟨a0,⟨⟩⟩:=x
 kernel_rfl
theorem ZLy (k:Nat):Ctr Tryz.prog k 213 (mk ZbK Zi ZmI) :=
 ZB (fn:=Tryz.f213) (Zf (Za (ZLK k) Zd)) (by kernel_rfl) (by kernel_rfl) (ZQH k)
noncomputable abbrev ZUo:Nat × Callee:=(213,mk ZbK Zi ZmI)
abbrev Zdy:Kd:=.tup [.view (.int .i64),.view (.int .i64),.view (.int .i64)]
noncomputable def ZCJ (k:Nat):=Wd k [ZTe,ZUo]
def ZKT:Nat → Ann:=fun id => bif Nat.beq id 10 then ⟨[8,5,0,6,7],[]⟩ else ⟨[],[]⟩
abbrev ZoA:=Zd6 → Option ((Int × Int × Int × Unit) × Unit)
def ZP7:Zd6 → St
 | (v0,v1,v2,v3,v4) => St.mk (Zv [(8,Zl v0),(5,Zl v1),(0,AV.val (PV.sl (Ty.int IntKind.u8) v2)),(6,Zl v3),(7,Zl v4)]) (Zu [])
def Zct (k:Nat) (L1:ZoA):ZoA
 | (v0,v1,v2,v3,v4) => bif decide (v0 < v1) then bif decide (v0 < Int.ofNat v2.length) then bif decide (0 ≤ v0 ∧ v0 < Int.ofNat v2.length) then bif Int.fdiv (v2.getD v0.toNat 0) (64:Int) != 2 then some ((0,0,2,()),()) else bif decide (0 ≤ v0 ∧ v0 < Int.ofNat v2.length) then L1 (IntKind.i64.wrap (v0 + 1),v1,v2,IntKind.i64.wrap (Int.ofNat (BitVec.ofInt 64 (IntKind.i64.wrap (v3 * (64:Int))) ||| BitVec.ofInt 64 (IntKind.i64.wrap (Int.ofNat (BitVec.ofInt 64 (IntKind.i64.wrap (v2.getD v0.toNat 0)) &&& BitVec.ofInt 64 (63:Int)).toNat))).toNat),IntKind.i64.wrap (Int.ofNat (BitVec.ofInt 64 (IntKind.i64.wrap (v4 * (64:Int))) ||| BitVec.ofInt 64 (IntKind.i64.wrap (Int.ofNat (BitVec.ofInt 64 (IntKind.i64.wrap (v2.getD v0.toNat 0)) &&& BitVec.ofInt 64 (63:Int)).toNat))).toNat)) else none else none else L1 (IntKind.i64.wrap (v0 + 1),v1,v2,IntKind.i64.wrap (Int.ofNat (BitVec.ofInt 64 (IntKind.i64.wrap (v3 * (64:Int))) ||| BitVec.ofInt 64 (0:Int)).toNat),IntKind.i64.wrap (Int.ofNat (BitVec.ofInt 64 (IntKind.i64.wrap (v4 * (64:Int))) ||| BitVec.ofInt 64 (63:Int)).toNat)) else (Zve k (IntKind.i64.wrap (v1 - 1),())).bind fun y => bif decide ((0:Int) ≤ y.1) then bif decide (v4 < IntKind.i64.wrap ((1:Int) * (2:Int) ^ min (Int.toNat y.1) (64:Nat))) then some ((0,0,2,()),()) else bif decide (Int.ofNat v2.length < v1) then some ((0,0,10,()),()) else some ((v3,v1,0,()),()) else none
def ZoB (k:Nat):ZoA:=Zn (fun L1 => Zct k L1) k
noncomputable def ZzJ (k:Nat) (n:Nat) (v:Zd6) :=
 Zs (ZCJ k) ZKT [] [1,1,1,1,1,0,1,0] [] (Q6 Tryz.f164) (We (ZCJ k) Tryz.f164 WJ Zdy [] []) n (ZP7 v)
def ZgH (k:Nat) (L1:ZoA):List Int × Unit → Option ((Int × Int × Int × Unit) × Unit)
 | (a0,()) => bif Int.ofNat a0.length == (0:Int) then some ((0,0,10,()),()) else bif decide ((0:Int) ≤ 0 ∧ (0:Int) < Int.ofNat a0.length) then (ZmI k (IntKind.u8.wrap (Int.ofNat (BitVec.ofInt 8 (255:Int) ^^^ BitVec.ofInt 8 (a0.getD 0 0)).toNat),())).bind fun y => bif y.1 == 0 then bif decide ((0:Int) ≤ 0 ∧ (0:Int) < Int.ofNat a0.length) then some ((IntKind.i64.wrap (a0.getD 0 0),1,0,()),()) else none else bif y.1 == 1 then some ((0,0,2,()),()) else bif decide ((7:Int) < y.1) then some ((0,0,2,()),()) else bif decide ((0:Int) ≤ 0 ∧ (0:Int) < Int.ofNat a0.length) then bif decide ((0:Int) ≤ y.1) then bif decide ((0:Int) ≤ 0 ∧ (0:Int) < Int.ofNat a0.length) then bif decide ((0:Int) ≤ y.1) then L1 (1,y.1,a0,IntKind.i64.wrap (Int.ofNat (BitVec.ofInt 64 (IntKind.i64.wrap (a0.getD 0 0)) &&& BitVec.ofInt 64 (Int.fdiv (127:Int) ((2:Int) ^ min (Int.toNat y.1) (64:Nat)))).toNat),IntKind.i64.wrap (Int.ofNat (BitVec.ofInt 64 (IntKind.i64.wrap (a0.getD 0 0)) &&& BitVec.ofInt 64 (Int.fdiv (127:Int) ((2:Int) ^ min (Int.toNat y.1) (64:Nat)))).toNat)) else none else none else none else none else none
def Zqi (k:Nat):=ZgH k (ZoB k)
theorem ZHG (k:Nat):∀ n,ZzJ k n = Zn (fun L1 => Zct k L1) n :=
 Zh (fun v => by kernel_rfl) (fun n v => by
  obtain ⟨v0,v1,v2,v3,v4⟩:=v
  kernel_rfl)
theorem ZP8 (k:Nat) (x:Kd.dens WJ):ZA (ZCJ k) ZKT Tryz.f164 WJ Zdy x = Zqi k x:=by
 show _ = ZgH k (ZoB k) x
 rw [show ZoB k = ZzJ k k from (ZHG k k).symm]
 obtain ⟨a0,⟨⟩⟩:=x
 kernel_rfl
theorem ZKU (k:Nat):Ctr Tryz.prog k 164 (mk WJ Zdy Zqi) :=
 ZB (fn:=Tryz.f164) (Zf (Za (ZFZ k) (Za (ZLy k) Zd))) (by kernel_rfl) (by kernel_rfl) (ZP8 k)
noncomputable abbrev ZT1:Nat × Callee:=(164,mk WJ Zdy Zqi)
abbrev Zsk:List Kd:=[.box [.view (.sl (.int .u8)),.ref [.view (.sl (.int .u8)),.view (.int .i64)],.view (.int .i64)]]
noncomputable def ZNX (k:Nat):=Wd k [ZFR,ZF8,ZF9,ZT1]
def ZTk:Nat → Ann:=fun id => bif Nat.beq id 6 then ⟨[31,32,0,3],[]⟩ else ⟨[],[]⟩
abbrev ZEe:=Int × Int × Int × List Int × Int × List Int × Int
abbrev Zx9:=ZEe → Option (Int × (List Int × (List Int × Int × Unit) × Int × Unit) × Unit)
def ZVL:ZEe → St
 | (v0,v1,v2,v3,v4,v5,v6) => St.mk (Zv [(31,Zl v0),(32,Zl v1),(0,AV.bx 0 0),(3,Zl v2)]) (Zu [(0,QQ [AV.val (PV.sl (Ty.int IntKind.u8) v3),AV.bx 1 0,Zl v4]),(1,QQ [AV.val (PV.sl (Ty.int IntKind.u8) v5),Zl v6])])
def ZfF (k:Nat) (L1:Zx9):Zx9
 | (v0,v1,v2,v3,v4,v5,v6) => bif decide (v1 < v0) then (Wy k ((v3,(v5,v6,()),v4,()),8,())).bind fun y => L1 (v0,IntKind.i64.wrap (v1 + 1),v2,y.2.1.1,y.2.1.2.2.1,y.2.1.2.1.1,y.2.1.2.1.2.1) else (Q8 k ((v3,(v5,v6,()),v4,()),decide (v2 ≤ 2147483647),2,())).bind fun y => some (v2,(y.2.1.1,(y.2.1.2.1.1,y.2.1.2.1.2.1,()),y.2.1.2.2.1,()),())
def Zya (k:Nat):Zx9:=Zn (fun L1 => ZfF k L1) k
noncomputable def ZGa (k:Nat) (n:Nat) (v:ZEe) :=
 Zs (ZNX k) ZTk [0,1] [1,1,1,1,0,1,0] [] (Q6 Tryz.f121) (We (ZNX k) Tryz.f121 Zsk Zi [AV.bx (nat_lit 0) (nat_lit 0)] [[1]]) n (ZVL v)
def Zln (k:Nat) (L1:Zx9):(List Int × (List Int × Int × Unit) × Int × Unit) × Unit → Option (Int × (List Int × (List Int × Int × Unit) × Int × Unit) × Unit)
 | ((a0,(a1,a2,()),a3,()),()) => bif a3 != 0 then some (0,(a0,(a1,a2,()),a3,()),()) else (K0 k ((a1,a2,()),())).bind fun y => bif decide (0 ≤ IntKind.i64.wrap (Int.tdiv y.1 (8:Int)) ∧ IntKind.i64.wrap (Int.tdiv y.1 (8:Int)) ≤ Int.ofNat a0.length ∧ Int.ofNat a0.length ≤ Int.ofNat a0.length) then (Zqi k (List.drop (IntKind.i64.wrap (Int.tdiv y.1 (8:Int))).toNat (List.take (Int.ofNat a0.length).toNat a0),())).bind fun y_1 => L1 (y_1.1.2.1,(0:Int),y_1.1.1,a0,y_1.1.2.2.1,y.2.1.1,y.2.1.2.1) else none
def Zlm (k:Nat):=Zln k (Zya k)
theorem ZNY (k:Nat):∀ n,ZGa k n = Zn (fun L1 => ZfF k L1) n :=
 Zh (fun v => by kernel_rfl) (fun n v => by
  obtain ⟨v0,v1,v2,v3,v4,v5,v6⟩:=v
  kernel_rfl)
theorem ZVM (k:Nat) (x:Kd.dens Zsk):ZA (ZNX k) ZTk Tryz.f121 Zsk Zi x = Zlm k x:=by
 show _ = Zln k (Zya k) x
 rw [show Zya k = ZGa k k from (ZNY k k).symm]
 obtain ⟨⟨a0,⟨⟨a1,⟨a2,⟨⟩⟩⟩,⟨a3,⟨⟩⟩⟩⟩,⟨⟩⟩:=x
 kernel_rfl
theorem ZSa (k:Nat):Ctr Tryz.prog k 121 (mk Zsk Zi Zlm) :=
 ZB (fn:=Tryz.f121) (Zf (Za (Zk3 k) (Za (Zpj k) (Za (Zpk k) (Za (ZKU k) Zd))))) (by kernel_rfl) (by kernel_rfl) (ZVM k)
noncomputable abbrev ZW7:Nat × Callee:=(121,mk Zsk Zi Zlm)
abbrev Zxz:List Kd:=[.box [.view (.sl (.int .u8)),.ref [.view (.sl (.int .u8)),.view (.int .i64)],.view (.int .i64)],.view Znp]
noncomputable def ZWO (k:Nat):=Wd k [ZWT,ZF8,ZF9,ZW6,ZW7]
def ZAy (k:Nat):(List Int × (List Int × Int × Unit) × Int × Unit) × (Int × Int × Int × Unit) × Unit → Option ((Int × Int × Int × Unit) × (List Int × (List Int × Int × Unit) × Int × Unit) × Unit)
 | ((a0,(a1,a2,()),a3,()),(a4,a5,a6,()),()) => (Wy k ((a0,(a1,a2,()),a3,()),15,())).bind fun y => (Q8 k ((y.2.1.1,(y.2.1.2.1.1,y.2.1.2.1.2.1,()),y.2.1.2.2.1,()),y.1 == 32764,11,())).bind fun y => (Wy k ((y.2.1.1,(y.2.1.2.1.1,y.2.1.2.1.2.1,()),y.2.1.2.2.1,()),1,())).bind fun y => (Q8 k ((y.2.1.1,(y.2.1.2.1.1,y.2.1.2.1.2.1,()),y.2.1.2.2.1,()),y.1 == 0,2,())).bind fun y => (Wy k ((y.2.1.1,(y.2.1.2.1.1,y.2.1.2.1.2.1,()),y.2.1.2.2.1,()),4,())).bind fun y => bif y.1 == 6 then (Q8 k ((y.2.1.1,(y.2.1.2.1.1,y.2.1.2.1.2.1,()),y.2.1.2.2.1,()),true,2,())).bind fun y_1 => (Wy k ((y_1.2.1.1,(y_1.2.1.2.1.1,y_1.2.1.2.1.2.1,()),y_1.2.1.2.2.1,()),4,())).bind fun y_2 => (Q8 k ((y_2.2.1.1,(y_2.2.1.2.1.1,y_2.2.1.2.1.2.1,()),y_2.2.1.2.2.1,()),y_2.1 == 0,2,())).bind fun y_3 => (Wy k ((y_3.2.1.1,(y_3.2.1.2.1.1,y_3.2.1.2.1.2.1,()),y_3.2.1.2.2.1,()),4,())).bind fun y_4 => (Zsj k ((a4,a5,a6,()),y_4.1,())).bind fun y_5 => (Q8 k ((y_4.2.1.1,(y_4.2.1.2.1.1,y_4.2.1.2.1.2.1,()),y_4.2.1.2.2.1,()),y_5.1,2,())).bind fun y_6 => (Wy k ((y_6.2.1.1,(y_6.2.1.2.1.1,y_6.2.1.2.1.2.1,()),y_6.2.1.2.2.1,()),4,())).bind fun y_7 => (Q8 k ((y_7.2.1.1,(y_7.2.1.2.1.1,y_7.2.1.2.1.2.1,()),y_7.2.1.2.2.1,()),y_7.1 == 0,2,())).bind fun y_8 => (Zlm k ((y_8.2.1.1,(y_8.2.1.2.1.1,y_8.2.1.2.1.2.1,()),y_8.2.1.2.2.1,()),())).bind fun y_9 => bif y_9.2.1.2.2.1 == 0 then (Wy k ((y_9.2.1.1,(y_9.2.1.2.1.1,y_9.2.1.2.1.2.1,()),y_9.2.1.2.2.1,()),IntKind.i64.wrap ((8:Int) * IntKind.i64.wrap (IntKind.i64.wrap (y.1 - 6) + (1:Int))),())).bind fun y => (Q8 k ((y.2.1.1,(y.2.1.2.1.1,y.2.1.2.1.2.1,()),y.2.1.2.2.1,()),decide (IntKind.i64.wrap (y.1 + 1) ≤ (512:Int)),1,())).bind fun y_10 => (Zh0 k ((y_10.2.1.1,(y_10.2.1.2.1.1,y_10.2.1.2.1.2.1,()),y_10.2.1.2.2.1,()),8,(),())).bind fun y_11 => some ((y_4.1,y_9.1,IntKind.i64.wrap (y.1 + 1),()),(y_11.2.1.1,(y_11.2.1.2.1.1,y_11.2.1.2.1.2.1,()),y_11.2.1.2.2.1,()),()) else (Q8 k ((y_9.2.1.1,(y_9.2.1.2.1.1,y_9.2.1.2.1.2.1,()),y_9.2.1.2.2.1,()),decide ((0:Int) ≤ 512),1,())).bind fun y => (Zh0 k ((y.2.1.1,(y.2.1.2.1.1,y.2.1.2.1.2.1,()),y.2.1.2.2.1,()),8,(),())).bind fun y => some ((y_4.1,y_9.1,0,()),(y.2.1.1,(y.2.1.2.1.1,y.2.1.2.1.2.1,()),y.2.1.2.2.1,()),()) else (Q8 k ((y.2.1.1,(y.2.1.2.1.1,y.2.1.2.1.2.1,()),y.2.1.2.2.1,()),y.1 == 7,2,())).bind fun y_1 => (Wy k ((y_1.2.1.1,(y_1.2.1.2.1.1,y_1.2.1.2.1.2.1,()),y_1.2.1.2.2.1,()),4,())).bind fun y_2 => (Q8 k ((y_2.2.1.1,(y_2.2.1.2.1.1,y_2.2.1.2.1.2.1,()),y_2.2.1.2.2.1,()),y_2.1 == 0,2,())).bind fun y_3 => (Wy k ((y_3.2.1.1,(y_3.2.1.2.1.1,y_3.2.1.2.1.2.1,()),y_3.2.1.2.2.1,()),4,())).bind fun y_4 => (Zsj k ((a4,a5,a6,()),y_4.1,())).bind fun y_5 => (Q8 k ((y_4.2.1.1,(y_4.2.1.2.1.1,y_4.2.1.2.1.2.1,()),y_4.2.1.2.2.1,()),y_5.1,2,())).bind fun y_6 => (Wy k ((y_6.2.1.1,(y_6.2.1.2.1.1,y_6.2.1.2.1.2.1,()),y_6.2.1.2.2.1,()),4,())).bind fun y_7 => (Q8 k ((y_7.2.1.1,(y_7.2.1.2.1.1,y_7.2.1.2.1.2.1,()),y_7.2.1.2.2.1,()),y_7.1 == 0,2,())).bind fun y_8 => (Zlm k ((y_8.2.1.1,(y_8.2.1.2.1.1,y_8.2.1.2.1.2.1,()),y_8.2.1.2.2.1,()),())).bind fun y_9 => bif y_9.2.1.2.2.1 == 0 then (Wy k ((y_9.2.1.1,(y_9.2.1.2.1.1,y_9.2.1.2.1.2.1,()),y_9.2.1.2.2.1,()),IntKind.i64.wrap ((8:Int) * IntKind.i64.wrap (IntKind.i64.wrap (y.1 - 6) + (1:Int))),())).bind fun y => (Q8 k ((y.2.1.1,(y.2.1.2.1.1,y.2.1.2.1.2.1,()),y.2.1.2.2.1,()),decide (IntKind.i64.wrap (y.1 + 1) ≤ (512:Int)),1,())).bind fun y_10 => (Zh0 k ((y_10.2.1.1,(y_10.2.1.2.1.1,y_10.2.1.2.1.2.1,()),y_10.2.1.2.2.1,()),8,(),())).bind fun y_11 => some ((y_4.1,y_9.1,IntKind.i64.wrap (y.1 + 1),()),(y_11.2.1.1,(y_11.2.1.2.1.1,y_11.2.1.2.1.2.1,()),y_11.2.1.2.2.1,()),()) else (Q8 k ((y_9.2.1.1,(y_9.2.1.2.1.1,y_9.2.1.2.1.2.1,()),y_9.2.1.2.2.1,()),decide ((0:Int) ≤ 512),1,())).bind fun y => (Zh0 k ((y.2.1.1,(y.2.1.2.1.1,y.2.1.2.1.2.1,()),y.2.1.2.2.1,()),8,(),())).bind fun y => some ((y_4.1,y_9.1,0,()),(y.2.1.1,(y.2.1.2.1.1,y.2.1.2.1.2.1,()),y.2.1.2.2.1,()),())
def Zvc (k:Nat):=ZAy k
theorem ZU7 (k:Nat) (x:Kd.dens Zxz):ZA (ZWO k) nA Tryz.f56 Zxz Zdy x = Zvc k x:=by
 show _ = ZAy k x
 obtain ⟨⟨a0,⟨⟨a1,⟨a2,⟨⟩⟩⟩,⟨a3,⟨⟩⟩⟩⟩,⟨⟨a4,⟨a5,⟨a6,⟨⟩⟩⟩⟩,⟨⟩⟩⟩:=x
 kernel_rfl
theorem ZRU (k:Nat):Ctr Tryz.prog k 56 (mk Zxz Zdy Zvc) :=
 ZB (fn:=Tryz.f56) (Zf (Za (ZRX k) (Za (Zpj k) (Za (Zpk k) (Za (ZR9 k) (Za (ZSa k) Zd)))))) (by kernel_rfl) (by kernel_rfl) (ZU7 k)
noncomputable abbrev ZWP:Nat × Callee:=(56,mk Zxz Zdy Zvc)
abbrev ZoC:List Kd:=[.box [.ref [.view (.sl (.int .u8)),.view (.int .i64)],.view (.int .i64)],.view .bool]
def ZgI (k:Nat):((List Int × Int × Unit) × Int × Unit) × Bool × Unit → Option (Unit × ((List Int × Int × Unit) × Int × Unit) × Unit)
 | (((a0,a1,()),a2,()),a3,()) => bif a2 == 0 then bif !a3 then some ((),((a0,a1,()),2,()),()) else some ((),((a0,a1,()),a2,()),()) else some ((),((a0,a1,()),a2,()),())
def W7 (k:Nat):=ZgI k
theorem ZP9 (k:Nat) (x:Kd.dens ZoC):ZA (Z4 k) nA Tryz.f165 ZoC QC x = W7 k x:=by
 show _ = ZgI k x
 obtain ⟨⟨⟨a0,⟨a1,⟨⟩⟩⟩,⟨a2,⟨⟩⟩⟩,⟨a3,⟨⟩⟩⟩:=x
 kernel_rfl
theorem ZzK (k:Nat):Ctr Tryz.prog k 165 (mk ZoC QC W7) :=
 ZB (fn:=Tryz.f165) (Zf Zd) (by kernel_rfl) (by kernel_rfl) (ZP9 k)
noncomputable abbrev ZKV:Nat × Callee:=(165,mk ZoC QC W7)
abbrev ZbI:List Kd:=[.box [.ref [.view (.sl (.int .u8)),.view (.int .i64)],.view (.int .i64)],.view (.int .i64)]
def ZgJ (k:Nat):((List Int × Int × Unit) × Int × Unit) × Int × Unit → Option (Int × ((List Int × Int × Unit) × Int × Unit) × Unit)
 | (((a0,a1,()),a2,()),a3,()) => bif a2 == 0 then (XT k ((a0,a1,()),a3,())).bind fun y => some (y.1.1,((y.2.1.1,y.2.1.2.1,()),y.1.2.1,()),()) else some (0,((a0,a1,()),a2,()),())
def YO (k:Nat):=ZgJ k
theorem ZQa (k:Nat) (x:Kd.dens ZbI):ZA (ZNV k) nA Tryz.f166 ZbI Zi x = YO k x:=by
 show _ = ZgJ k x
 obtain ⟨⟨⟨a0,⟨a1,⟨⟩⟩⟩,⟨a2,⟨⟩⟩⟩,⟨a3,⟨⟩⟩⟩:=x
 kernel_rfl
theorem ZzL (k:Nat):Ctr Tryz.prog k 166 (mk ZbI Zi YO) :=
 ZB (fn:=Tryz.f166) (Zf (Za (ZaS k) Zd)) (by kernel_rfl) (by kernel_rfl) (ZQa k)
noncomputable abbrev ZKW:Nat × Callee:=(166,mk ZbI Zi YO)
def ZgK (k:Nat):Int × Unit → Option (Bool × Unit)
 | (a0,()) => bif a0 == 0 then some (true,()) else bif a0 == 1 then some (true,()) else bif decide (8 ≤ a0) then bif decide (a0 ≤ 12) then some (true,()) else bif decide ((31:Int) < a0) then some (decide (a0 ≤ 39),()) else some (false,()) else bif decide ((31:Int) < a0) then some (decide (a0 ≤ 39),()) else some (false,())
def Zqj (k:Nat):=ZgK k
theorem ZQb (k:Nat) (x:Kd.dens Zz):ZA (Z4 k) nA Tryz.f167 Zz ZE x = Zqj k x:=by
 show _ = ZgK k x
 obtain ⟨a0,⟨⟩⟩:=x
 kernel_rfl
theorem ZKX (k:Nat):Ctr Tryz.prog k 167 (mk Zz ZE Zqj) :=
 ZB (fn:=Tryz.f167) (Zf Zd) (by kernel_rfl) (by kernel_rfl) (ZQb k)
noncomputable abbrev ZT2:Nat × Callee:=(167,mk Zz ZE Zqj)
noncomputable def Zmt (k:Nat):=Wd k [ZTo]
def ZKY:Nat → Ann:=fun id => bif Nat.beq id 4 then ⟨[4,0],[]⟩ else ⟨[],[]⟩
abbrev ZwP:=Int × List Int × Int
abbrev ZoD:=ZwP → Option ((Int × Int × Unit) × (List Int × Int × Unit) × Unit)
def ZQc:ZwP → St
 | (v0,v1,v2) => St.mk (Zv [(4,Zl v0),(0,AV.bx 0 0)]) (Zu [(0,QQ [AV.val (PV.sl (Ty.int IntKind.u8) v1),Zl v2])])
def Zcv (k:Nat) (L1:ZoD):ZoD
 | (v0,v1,v2) => bif decide (v0 < IntKind.i64.wrap ((8:Int) * Int.ofNat v1.length)) then (Zsl k ((v1,v2,()),v0,())).bind fun y => bif y.1 == 1 then some ((IntKind.i64.wrap (v0 - y.2.1.2.1),0,()),(y.2.1.1,IntKind.i64.wrap (v0 + 1),()),()) else L1 (IntKind.i64.wrap (v0 + 1),y.2.1.1,y.2.1.2.1) else some ((0,10,()),(v1,v2,()),())
def ZoE (k:Nat):ZoD:=Zn (fun L1 => Zcv k L1) k
noncomputable def ZzM (k:Nat) (n:Nat) (v:ZwP) :=
 Zs (Zmt k) ZKY [0] [1,1,0,1,0] [] (Q6 Tryz.f168) (We (Zmt k) Tryz.f168 W9 Z5 [AV.bx (nat_lit 0) (nat_lit 0)] [[]]) n (ZQc v)
def ZgL (k:Nat) (L1:ZoD):(List Int × Int × Unit) × Unit → Option ((Int × Int × Unit) × (List Int × Int × Unit) × Unit)
 | ((a0,a1,()),()) => L1 (a1,a0,a1)
def Ziy (k:Nat):=ZgL k (ZoE k)
theorem ZHK (k:Nat):∀ n,ZzM k n = Zn (fun L1 => Zcv k L1) n :=
 Zh (fun v => by kernel_rfl) (fun n v => by
  obtain ⟨v0,v1,v2⟩:=v
  kernel_rfl)
theorem ZQd (k:Nat) (x:Kd.dens W9):ZA (Zmt k) ZKY Tryz.f168 W9 Z5 x = Ziy k x:=by
 show _ = ZgL k (ZoE k) x
 rw [show ZoE k = ZzM k k from (ZHK k k).symm]
 obtain ⟨⟨a0,⟨a1,⟨⟩⟩⟩,⟨⟩⟩:=x
 kernel_rfl
theorem ZzN (k:Nat):Ctr Tryz.prog k 168 (mk W9 Z5 Ziy) :=
 ZB (fn:=Tryz.f168) (Zf (Za (Zyc k) Zd)) (by kernel_rfl) (by kernel_rfl) (ZQd k)
noncomputable abbrev ZKZ:Nat × Callee:=(168,mk W9 Z5 Ziy)
noncomputable def ZW8 (k:Nat):=Wd k [ZKV,ZKW,ZT2,ZKZ]
def Zlp (k:Nat):((List Int × Int × Unit) × Int × Unit) × Int × Unit → Option ((Int × Int × Unit) × ((List Int × Int × Unit) × Int × Unit) × Unit)
 | (((a0,a1,()),a2,()),a3,()) => (YO k (((a0,a1,()),a2,()),1,())).bind fun y => (W7 k (((y.2.1.1.1,y.2.1.1.2.1,()),y.2.1.2.1,()),y.1 == 0,())).bind fun y => (YO k (((y.2.1.1.1,y.2.1.1.2.1,()),y.2.1.2.1,()),6,())).bind fun y => (Zqj k (y.1,())).bind fun y_1 => (W7 k (((y.2.1.1.1,y.2.1.1.2.1,()),y.2.1.2.1,()),y_1.1,())).bind fun y_2 => (YO k (((y_2.2.1.1.1,y_2.2.1.1.2.1,()),y_2.2.1.2.1,()),1,())).bind fun y_3 => bif y_3.1 == 1 then bif y_3.2.1.2.1 == 0 then (Ziy k ((y_3.2.1.1.1,y_3.2.1.1.2.1,()),())).bind fun y_4 => (W7 k (((y_4.2.1.1,y_4.2.1.2.1,()),y_4.1.2.1,()),decide (IntKind.i64.wrap (y_4.1.1 + 1) < a3),())).bind fun y_5 => some ((y.1,IntKind.i64.wrap (y_4.1.1 + 1),()),((y_5.2.1.1.1,y_5.2.1.1.2.1,()),y_5.2.1.2.1,()),()) else (W7 k (((y_3.2.1.1.1,y_3.2.1.1.2.1,()),y_3.2.1.2.1,()),decide ((0:Int) < a3),())).bind fun y_4 => some ((y.1,0,()),((y_4.2.1.1.1,y_4.2.1.1.2.1,()),y_4.2.1.2.1,()),()) else (W7 k (((y_3.2.1.1.1,y_3.2.1.1.2.1,()),y_3.2.1.2.1,()),decide ((0:Int) < a3),())).bind fun y_4 => some ((y.1,0,()),((y_4.2.1.1.1,y_4.2.1.1.2.1,()),y_4.2.1.2.1,()),())
def ZAQ (k:Nat):=Zlp k
theorem ZVO (k:Nat) (x:Kd.dens ZbI):ZA (ZW8 k) nA Tryz.f123 ZbI Z5 x = ZAQ k x:=by
 show _ = Zlp k x
 obtain ⟨⟨⟨a0,⟨a1,⟨⟩⟩⟩,⟨a2,⟨⟩⟩⟩,⟨a3,⟨⟩⟩⟩:=x
 kernel_rfl
theorem ZSb (k:Nat):Ctr Tryz.prog k 123 (mk ZbI Z5 ZAQ) :=
 ZB (fn:=Tryz.f123) (Zf (Za (ZzK k) (Za (ZzL k) (Za (ZKX k) (Za (ZzN k) Zd))))) (by kernel_rfl) (by kernel_rfl) (ZVO k)
noncomputable abbrev ZW9:Nat × Callee:=(123,mk ZbI Z5 ZAQ)
abbrev Zo2:List Kd:=[.view (.int .u32),.view (.int .u32)]
abbrev Zw7:Kd:=.tup [.view (.int .u32),.view (.int .u32)]
def ZuD (k:Nat):Int × Int × Unit → Option ((Int × Int × Unit) × Unit)
 | (a0,a1,()) => some ((IntKind.u32.wrap ((IntKind.u64.wrap (IntKind.u64.wrap a0 * IntKind.u64.wrap a1)).fdiv (4294967296:Int)),IntKind.u32.wrap (IntKind.u64.wrap (IntKind.u64.wrap a0 * IntKind.u64.wrap a1)),()),())
def ZC4 (k:Nat):=ZuD k
theorem ZQW (k:Nat) (x:Kd.dens Zo2):ZA (Z4 k) nA Tryz.f252 Zo2 Zw7 x = ZC4 k x:=by
 show _ = ZuD k x
 obtain ⟨a0,⟨a1,⟨⟩⟩⟩:=x
 kernel_rfl
theorem ZLL (k:Nat):Ctr Tryz.prog k 252 (mk Zo2 Zw7 ZC4) :=
 ZB (fn:=Tryz.f252) (Zf Zd) (by kernel_rfl) (by kernel_rfl) (ZQW k)
noncomputable abbrev ZUC:Nat × Callee:=(252,mk Zo2 Zw7 ZC4)
abbrev ZbL:List Kd:=[.view (.int .u64),.view (.int .u64)]
abbrev Zhe:Kd:=.tup [.view (.int .u64),.view (.int .u64)]
def Zhd (k:Nat):Int × Int × Unit → Option ((Int × Int × Unit) × Unit)
 | (a0,a1,()) => some ((IntKind.u64.wrap (IntKind.u64.wrap (IntKind.u64.wrap (a0.fdiv (4294967296:Int) * a1.fdiv (4294967296:Int)) + (IntKind.u64.wrap (IntKind.u64.wrap (a0.fdiv (4294967296:Int) * IntKind.u64.wrap (Int.ofNat (BitVec.ofInt 64 a1 &&& BitVec.ofInt 64 (4294967295:Int)).toNat)) + (IntKind.u64.wrap (IntKind.u64.wrap (Int.ofNat (BitVec.ofInt 64 a0 &&& BitVec.ofInt 64 (4294967295:Int)).toNat) * IntKind.u64.wrap (Int.ofNat (BitVec.ofInt 64 a1 &&& BitVec.ofInt 64 (4294967295:Int)).toNat))).fdiv (4294967296:Int))).fdiv (4294967296:Int)) + (IntKind.u64.wrap (IntKind.u64.wrap (Int.ofNat (BitVec.ofInt 64 (IntKind.u64.wrap (IntKind.u64.wrap (a0.fdiv (4294967296:Int) * IntKind.u64.wrap (Int.ofNat (BitVec.ofInt 64 a1 &&& BitVec.ofInt 64 (4294967295:Int)).toNat)) + (IntKind.u64.wrap (IntKind.u64.wrap (Int.ofNat (BitVec.ofInt 64 a0 &&& BitVec.ofInt 64 (4294967295:Int)).toNat) * IntKind.u64.wrap (Int.ofNat (BitVec.ofInt 64 a1 &&& BitVec.ofInt 64 (4294967295:Int)).toNat))).fdiv (4294967296:Int))) &&& BitVec.ofInt 64 (4294967295:Int)).toNat) + IntKind.u64.wrap (IntKind.u64.wrap (Int.ofNat (BitVec.ofInt 64 a0 &&& BitVec.ofInt 64 (4294967295:Int)).toNat) * a1.fdiv (4294967296:Int)))).fdiv (4294967296:Int)),IntKind.u64.wrap (a0 * a1),()),())
def Zw8 (k:Nat):=Zhd k
theorem ZQX (k:Nat) (x:Kd.dens ZbL):ZA (Z4 k) nA Tryz.f253 ZbL Zhe x = Zw8 k x:=by
 show _ = Zhd k x
 obtain ⟨a0,⟨a1,⟨⟩⟩⟩:=x
 kernel_rfl
theorem ZLM (k:Nat):Ctr Tryz.prog k 253 (mk ZbL Zhe Zw8) :=
 ZB (fn:=Tryz.f253) (Zf Zd) (by kernel_rfl) (by kernel_rfl) (ZQX k)
noncomputable abbrev ZUD:Nat × Callee:=(253,mk ZbL Zhe Zw8)
noncomputable def ZUp (k:Nat):=Wd k [ZUC,ZUD]
def Zuv (k:Nat):Int × Int × Unit → Option ((Int × Int × Unit) × Unit)
 | (a0,a1,()) => (Zw8 k (a0,a1,())).bind fun y => some ((y.1.1,y.1.2.1,()),())
def ZqF (k:Nat):=Zuv k
theorem ZQI (k:Nat) (x:Kd.dens ZbL):ZA (ZUp k) nA Tryz.f214 ZbL Zhe x = ZqF k x:=by
 show _ = Zuv k x
 obtain ⟨a0,⟨a1,⟨⟩⟩⟩:=x
 kernel_rfl
theorem ZLz (k:Nat):Ctr Tryz.prog k 214 (mk ZbL Zhe ZqF) :=
 ZB (fn:=Tryz.f214) (Zf (Za (ZLL k) (Za (ZLM k) Zd))) (by kernel_rfl) (by kernel_rfl) (ZQI k)
noncomputable abbrev ZUq:Nat × Callee:=(214,mk ZbL Zhe ZqF)
noncomputable def ZCK (k:Nat):=Wd k [ZUq] (fun r => bif Nat.beq r 999999 then [1] else [])
def ZK0:Nat → Ann:=fun id => bif Nat.beq id 8 then ⟨[8,7],[]⟩ else ⟨[],[]⟩
abbrev ZwQ:=Int × List Int
abbrev ZoF:=ZwQ → Option (List Int × Unit)
def ZQe:ZwQ → St
 | (v0,v1) => St.mk (Zv [(8,Zl v0),(7,AV.own 8192)]) (Zu [(8192,rsA v1 false)])
def ZgN (k:Nat) (L1:ZoF):ZoF
 | (v0,v1) => bif decide (v0 < Int.ofNat v1.length) then bif decide (0 ≤ v0 ∧ v0 ≤ Int.ofNat v1.length ∧ Int.ofNat v1.length ≤ Int.ofNat v1.length) then bif decide ((0:Int) ≤ 0 ∧ (0:Int) ≤ v0 ∧ v0 ≤ Int.ofNat v1.length) then bif decide (v0.toNat ≤ (Int.ofNat v1.length).toNat ∧ (Int.ofNat v1.length).toNat ≤ v1.length) then bif decide ((0:Nat) ≤ v0.toNat ∧ v0.toNat ≤ v1.length) then L1 (IntKind.i64.wrap (v0 + Int.ofNat (min (List.drop 0 (List.take v0.toNat v1)).length ((Int.ofNat v1.length).toNat - v0.toNat))),List.take v0.toNat v1 ++ List.take ((Int.ofNat v1.length).toNat - v0.toNat) (List.drop 0 (List.take v0.toNat v1)) ++ List.drop (v0.toNat + min (List.drop 0 (List.take v0.toNat v1)).length ((Int.ofNat v1.length).toNat - v0.toNat)) v1) else none else none else none else none else some (v1,())
def ZoG (k:Nat):ZoF:=Zn (fun L1 => ZgN k L1) k
noncomputable def ZzO (k:Nat) (n:Nat) (v:ZwQ) :=
 Zs (ZCK k) ZK0 [] [1,1,1,1,1,1,0,0] [] (Q6 Tryz.f169) (We (ZCK k) Tryz.f169 Z3 YT [] []) n (ZQe v)
def ZgM (k:Nat) (L1:ZoF):List Int × Int × Unit → Option (List Int × Unit)
 | (a0,a1,()) => bif decide (a1 < 0) then none else (ZqF k (IntKind.u64.wrap (Int.ofNat a0.length),IntKind.u64.wrap a1,())).bind fun y => bif decide ((0:Int) < y.1.1) then none else bif decide ((9223372036854775807:Int) < y.1.2.1) then none else bif decide (0 ≤ IntKind.i64.wrap y.1.2.1 ∧ IntKind.i64.wrap y.1.2.1 ≤ IntKind.i64.wrap y.1.2.1 ∧ IntKind.i64.wrap y.1.2.1 < 4294967296) then L1 (Int.ofNat (min a0.length ((List.replicate (IntKind.i64.wrap y.1.2.1).toNat (0:Int)).length - (0:Nat))),List.take 0 (List.replicate (IntKind.i64.wrap y.1.2.1).toNat (0:Int)) ++ List.take ((List.replicate (IntKind.i64.wrap y.1.2.1).toNat (0:Int)).length - (0:Nat)) a0 ++ List.drop ((0:Nat) + min a0.length ((List.replicate (IntKind.i64.wrap y.1.2.1).toNat (0:Int)).length - (0:Nat))) (List.replicate (IntKind.i64.wrap y.1.2.1).toNat (0:Int))) else none
def Zqk (k:Nat):=ZgM k (ZoG k)
theorem ZHM (k:Nat):∀ n,ZzO k n = Zn (fun L1 => ZgN k L1) n :=
 Zh (fun v => by kernel_rfl) (fun n v => by
  obtain ⟨v0,v1⟩:=v
  kernel_rfl)
theorem ZQf (k:Nat) (x:Kd.dens Z3):ZA (ZCK k) ZK0 Tryz.f169 Z3 YT x = Zqk k x:=by
 show _ = ZgM k (ZoG k) x
 rw [show ZoG k = ZzO k k from (ZHM k k).symm]
 obtain ⟨a0,⟨a1,⟨⟩⟩⟩:=x
 kernel_rfl
theorem ZK1 (k:Nat):Ctr Tryz.prog k 169 (mk Z3 YT Zqk) :=
 ZB (fn:=Tryz.f169) (Zf (Za (ZLz k) Zd)) (by kernel_rfl) (by kernel_rfl) (ZQf k)
noncomputable abbrev ZT3:Nat × Callee:=(169,mk Z3 YT Zqk)
def Zg8 (k:Nat):(List Int × Int × Unit) × Int × Unit → Option ((Int × Int × Unit) × (List Int × Int × Unit) × Unit)
 | ((a0,a1,()),a2,()) => (XT k ((a0,a1,()),a2,())).bind fun y => bif y.1.2.1 == 0 then bif decide ((0:Int) < a2) then bif decide (0 ≤ IntKind.i64.wrap (a2 - 1)) then bif Int.fdiv y.1.1 ((2:Int) ^ min (IntKind.i64.wrap (a2 - 1)).toNat 64) == (1:Int) then bif decide (0 ≤ a2) then some ((IntKind.i64.wrap (y.1.1 - IntKind.i64.wrap ((1:Int) * (2:Int) ^ min a2.toNat 64)),y.1.2.1,()),(y.2.1.1,y.2.1.2.1,()),()) else none else some ((y.1.1,y.1.2.1,()),(y.2.1.1,y.2.1.2.1,()),()) else none else some ((y.1.1,y.1.2.1,()),(y.2.1.1,y.2.1.2.1,()),()) else some ((y.1.1,y.1.2.1,()),(y.2.1.1,y.2.1.2.1,()),())
def ZmJ (k:Nat):=Zg8 k
theorem ZQJ (k:Nat) (x:Kd.dens Xn):ZA (ZNV k) nA Tryz.f215 Xn Z5 x = ZmJ k x:=by
 show _ = Zg8 k x
 obtain ⟨⟨a0,⟨a1,⟨⟩⟩⟩,⟨a2,⟨⟩⟩⟩:=x
 kernel_rfl
theorem ZAc (k:Nat):Ctr Tryz.prog k 215 (mk Xn Z5 ZmJ) :=
 ZB (fn:=Tryz.f215) (Zf (Za (ZaS k) Zd)) (by kernel_rfl) (by kernel_rfl) (ZQJ k)
noncomputable abbrev ZUr:Nat × Callee:=(215,mk Xn Z5 ZmJ)
abbrev ZjE:List Kd:=[.box [.ref [.view (.sl (.int .u8)),.view (.int .i64)],.view (.int .i64)],.view (.int .i64),.view (.int .i64)]
noncomputable def ZwR (k:Nat):=Wd k [ZUr]
def ZK2:Nat → Ann:=fun id => bif Nat.beq id 3 then ⟨[9,10,0,2,7],[.slot 7 ((Ty.int IntKind.i64))]⟩ else ⟨[],[]⟩
abbrev ZwS:=Int × Int × Int × Int × List Int × Int × List Int
abbrev ZoH:=ZwS → Option (List Int × ((List Int × Int × Unit) × Int × Unit) × Unit)
def ZQg:ZwS → St
 | (v0,v1,v2,v3,v4,v5,v6) => St.mk (Zv [(9,Zl v0),(10,Zl v1),(0,AV.bx 0 0),(2,Zl v2),(7,AV.own 8192)]) (Zu [(0,QQ [AV.bx 1 0,Zl v3]),(1,QQ [AV.val (PV.sl (Ty.int IntKind.u8) v4),Zl v5]),(8192,rsA v6 false)])
def Zcw (k:Nat) (L1:ZoH):ZoH
 | (v0,v1,v2,v3,v4,v5,v6) => bif decide (v1 < v0) then bif v3 == 0 then (ZmJ k ((v4,v5,()),v2,())).bind fun y => bif decide (v6.length + [y.1.1].length < 2147483648) then L1 (v0,IntKind.i64.wrap (v1 + 1),v2,y.1.2.1,y.2.1.1,y.2.1.2.1,v6 ++ [y.1.1]) else none else bif decide (v6.length + (1:Nat) < (2147483648:Nat)) then L1 (v0,IntKind.i64.wrap (v1 + 1),v2,v3,v4,v5,v6 ++ [(0:Int)]) else none else some (v6,((v4,v5,()),v3,()),())
def ZoI (k:Nat):ZoH:=Zn (fun L1 => Zcw k L1) k
noncomputable def ZzP (k:Nat) (n:Nat) (v:ZwS) :=
 Zs (ZwR k) ZK2 [0,1] [1,1,0,1,0] [] (Q6 Tryz.f170) (We (ZwR k) Tryz.f170 ZjE YT [AV.bx (nat_lit 0) (nat_lit 0)] [[1]]) n (ZQg v)
def ZgO (k:Nat) (L1:ZoH):((List Int × Int × Unit) × Int × Unit) × Int × Int × Unit → Option (List Int × ((List Int × Int × Unit) × Int × Unit) × Unit)
 | (((a0,a1,()),a2,()),a3,a4,()) => L1 (a3,(0:Int),a4,a2,a0,a1,[])
def ZaT (k:Nat):=ZgO k (ZoI k)
theorem ZHP (k:Nat):∀ n,ZzP k n = Zn (fun L1 => Zcw k L1) n :=
 Zh (fun v => by kernel_rfl) (fun n v => by
  obtain ⟨v0,v1,v2,v3,v4,v5,v6⟩:=v
  kernel_rfl)
theorem ZQh (k:Nat) (x:Kd.dens ZjE):ZA (ZwR k) ZK2 Tryz.f170 ZjE YT x = ZaT k x:=by
 show _ = ZgO k (ZoI k) x
 rw [show ZoI k = ZzP k k from (ZHP k k).symm]
 obtain ⟨⟨⟨a0,⟨a1,⟨⟩⟩⟩,⟨a2,⟨⟩⟩⟩,⟨a3,⟨a4,⟨⟩⟩⟩⟩:=x
 kernel_rfl
theorem ZK3 (k:Nat):Ctr Tryz.prog k 170 (mk ZjE YT ZaT) :=
 ZB (fn:=Tryz.f170) (Zf (Za (ZAc k) Zd)) (by kernel_rfl) (by kernel_rfl) (ZQh k)
noncomputable abbrev ZT4:Nat × Callee:=(170,mk ZjE YT ZaT)
def Zhj (k:Nat):Int × Unit → Option ((Int × Int × Unit) × Unit)
 | (a0,()) => bif decide (a0 < 0) then some ((0,12,()),()) else bif decide ((2199023255552:Int) < a0) then some ((0,12,()),()) else some ((IntKind.i64.wrap (Int.ofNat (BitVec.ofInt 64 (a0.fdiv (2:Int)) ^^^ BitVec.ofInt 64 (IntKind.i64.wrap ((0:Int) - IntKind.i64.wrap (Int.ofNat (BitVec.ofInt 64 a0 &&& BitVec.ofInt 64 (1:Int)).toNat)))).toNat),0,()),())
def ZqP (k:Nat):=Zhj k
theorem ZQ3 (k:Nat) (x:Kd.dens Zz):ZA (Z4 k) nA Tryz.f268 Zz Z5 x = ZqP k x:=by
 show _ = Zhj k x
 obtain ⟨a0,⟨⟩⟩:=x
 kernel_rfl
theorem ZLX (k:Nat):Ctr Tryz.prog k 268 (mk Zz Z5 ZqP) :=
 ZB (fn:=Tryz.f268) (Zf Zd) (by kernel_rfl) (by kernel_rfl) (ZQ3 k)
noncomputable abbrev ZUN:Nat × Callee:=(268,mk Zz Z5 ZqP)
noncomputable def ZUI (k:Nat):=Wd k [ZwO,ZKZ,ZUN]
def Zhg (k:Nat):(List Int × Int × Unit) × Int × Unit → Option ((Int × Int × Unit) × (List Int × Int × Unit) × Unit)
 | ((a0,a1,()),a2,()) => (Ziy k ((a0,a1,()),())).bind fun y => bif y.1.2.1 != 0 then some ((0,y.1.2.1,()),(y.2.1.1,y.2.1.2.1,()),()) else (XT k ((y.2.1.1,y.2.1.2.1,()),a2,())).bind fun y_1 => bif y_1.1.2.1 != 0 then some ((0,y_1.1.2.1,()),(y_1.2.1.1,y_1.2.1.2.1,()),()) else bif decide (0 ≤ a2) then bif decide (4294967295 ≤ IntKind.i64.wrap (Int.ofNat (BitVec.ofInt 64 (IntKind.i64.wrap (y.1.1 * (2:Int) ^ min a2.toNat 64)) ||| BitVec.ofInt 64 y_1.1.1).toNat)) then some ((0,12,()),(y_1.2.1.1,y_1.2.1.2.1,()),()) else (ZqP k (IntKind.i64.wrap (Int.ofNat (BitVec.ofInt 64 (IntKind.i64.wrap (y.1.1 * (2:Int) ^ min a2.toNat 64)) ||| BitVec.ofInt 64 y_1.1.1).toNat),())).bind fun y => some ((y.1.1,y.1.2.1,()),(y_1.2.1.1,y_1.2.1.2.1,()),()) else none
def ZqL (k:Nat):=Zhg k
theorem ZQZ (k:Nat) (x:Kd.dens Xn):ZA (ZUI k) nA Tryz.f255 Xn Z5 x = ZqL k x:=by
 show _ = Zhg k x
 obtain ⟨⟨a0,⟨a1,⟨⟩⟩⟩,⟨a2,⟨⟩⟩⟩:=x
 kernel_rfl
theorem ZLS (k:Nat):Ctr Tryz.prog k 255 (mk Xn Z5 ZqL) :=
 ZB (fn:=Tryz.f255) (Zf (Za (ZaS k) (Za (ZzN k) (Za (ZLX k) Zd)))) (by kernel_rfl) (by kernel_rfl) (ZQZ k)
noncomputable abbrev ZUJ:Nat × Callee:=(255,mk Xn Z5 ZqL)
abbrev ZbM:List Kd:=[.box [.ref [.view (.sl (.int .u8)),.view (.int .i64)]],.box [.view (.int .i64)]]
noncomputable def ZUE (k:Nat):=Wd k [ZUJ]
def Zhf (k:Nat):((List Int × Int × Unit) × Unit) × (Int × Unit) × Unit → Option ((Int × Int × Unit) × ((List Int × Int × Unit) × Unit) × (Int × Unit) × Unit)
 | (((a0,a1,()),()),(a2,()),()) => (ZqL k ((a0,a1,()),a2,())).bind fun y => some ((y.1.1,y.1.2.1,()),((y.2.1.1,y.2.1.2.1,()),()),(a2,()),())
def ZqJ (k:Nat):=Zhf k
theorem ZQY (k:Nat) (x:Kd.dens ZbM):ZA (ZUE k) nA Tryz.f254 ZbM Z5 x = ZqJ k x:=by
 show _ = Zhf k x
 obtain ⟨⟨⟨a0,⟨a1,⟨⟩⟩⟩,⟨⟩⟩,⟨⟨a2,⟨⟩⟩,⟨⟩⟩⟩:=x
 kernel_rfl
theorem ZLN (k:Nat):Ctr Tryz.prog k 254 (mk ZbM Z5 ZqJ) :=
 ZB (fn:=Tryz.f254) (Zf (Za (ZLS k) Zd)) (by kernel_rfl) (by kernel_rfl) (ZQY k)
noncomputable abbrev ZUF:Nat × Callee:=(254,mk ZbM Z5 ZqJ)
def Zhh (k:Nat):((List Int × Int × Unit) × Unit) × (Int × Unit) × Unit → Option ((Int × Int × Unit) × ((List Int × Int × Unit) × Unit) × (Int × Unit) × Unit)
 | (((a0,a1,()),()),(a2,()),()) => (ZmJ k ((a0,a1,()),a2,())).bind fun y => some ((y.1.1,y.1.2.1,()),((y.2.1.1,y.2.1.2.1,()),()),(a2,()),())
def ZqM (k:Nat):=Zhh k
theorem ZQ0 (k:Nat) (x:Kd.dens ZbM):ZA (ZwR k) nA Tryz.f256 ZbM Z5 x = ZqM k x:=by
 show _ = Zhh k x
 obtain ⟨⟨⟨a0,⟨a1,⟨⟩⟩⟩,⟨⟩⟩,⟨⟨a2,⟨⟩⟩,⟨⟩⟩⟩:=x
 kernel_rfl
theorem ZLT (k:Nat):Ctr Tryz.prog k 256 (mk ZbM Z5 ZqM) :=
 ZB (fn:=Tryz.f256) (Zf (Za (ZAc k) Zd)) (by kernel_rfl) (by kernel_rfl) (ZQ0 k)
noncomputable abbrev ZUK:Nat × Callee:=(256,mk ZbM Z5 ZqM)
abbrev WS:List Kd:=[.box [.view (.sl (.int .u8)),.view (.int .i64)],.view (.int .i64),.view (.int .i64)]
noncomputable def ZqG (k:Nat):=Wd k [(204,mk Zz Zi Zdw),(205,mk Zz Zi Zae),ZwO,ZUF,ZUK]
noncomputable def ZC2:Nat → Ann:=fun id => bif Nat.beq id 12 then ⟨[40,41,10,13],[.slot 13 ((Ty.int IntKind.i64))]⟩ else ⟨[],[]⟩
abbrev ZbJ:=ZfB → Option ((List Int × Int × Unit) × (List Int × Int × Unit) × Unit)
noncomputable def ZQK:ZfB → St
 | (v0,v1,v2,v3,v4,v5) => St.mk (Zv [(40,Zl v0),(41,Zl v1),(10,AV.clo 256 [AV.bx 8192 0,AV.bx 8193 0]),(13,AV.own 8194)]) (Zu [(0,QQ [AV.val (PV.sl (Ty.int IntKind.u8) v2),Zl v3]),(8192,QQ [AV.bx 0 0]),(8193,QQ [Zl v4]),(8194,rsA v5 false)])
noncomputable def ZcE (k:Nat) (L1:ZbJ):ZbJ
 | (v0,v1,v2,v3,v4,v5) => bif decide (v1 < v0) then (ZqM k (((v2,v3,()),()),(v4,()),())).bind fun y => bif y.1.2.1 != 0 then some (([],y.1.2.1,()),(y.2.1.1.1,y.2.1.1.2.1,()),()) else bif decide (v5.length + [y.1.1].length < 2147483648) then L1 (v0,IntKind.i64.wrap (v1 + 1),y.2.1.1.1,y.2.1.1.2.1,y.2.2.1.1,v5 ++ [y.1.1]) else none else some ((v5,0,()),(v2,v3,()),())
noncomputable def ZoY (k:Nat):ZbJ:=Zn (fun L1 => ZcE k L1) k
noncomputable def ZAd (k:Nat) (n:Nat) (v:ZfB) :=
 Zs (ZqG k) ZC2 [0] [1,1,1,1,1,1,0,1,0] [] (Q6 Tryz.f218) (We (ZqG k) Tryz.f218 WS QY [AV.bx (nat_lit 0) (nat_lit 0)] [[]]) n (ZQK v)
noncomputable def ZQL:ZfB → St
 | (v0,v1,v2,v3,v4,v5) => St.mk (Zv [(40,Zl v0),(41,Zl v1),(10,AV.clo 254 [AV.bx 8192 0,AV.bx 8193 0]),(13,AV.own 8194)]) (Zu [(0,QQ [AV.val (PV.sl (Ty.int IntKind.u8) v2),Zl v3]),(8192,QQ [AV.bx 0 0]),(8193,QQ [Zl v4]),(8194,rsA v5 false)])
noncomputable def ZcF (k:Nat) (L2:ZbJ):ZbJ
 | (v0,v1,v2,v3,v4,v5) => bif decide (v1 < v0) then (ZqJ k (((v2,v3,()),()),(v4,()),())).bind fun y => bif y.1.2.1 != 0 then some (([],y.1.2.1,()),(y.2.1.1.1,y.2.1.1.2.1,()),()) else bif decide (v5.length + [y.1.1].length < 2147483648) then L2 (v0,IntKind.i64.wrap (v1 + 1),y.2.1.1.1,y.2.1.1.2.1,y.2.2.1.1,v5 ++ [y.1.1]) else none else some ((v5,0,()),(v2,v3,()),())
noncomputable def ZjK (k:Nat):ZbJ:=Zn (fun L2 => ZcF k L2) k
noncomputable def ZAe (k:Nat) (n:Nat) (v:ZfB) :=
 Zs (ZqG k) ZC2 [0] [1,1,1,1,1,1,0,1,0] [] (Q6 Tryz.f218) (We (ZqG k) Tryz.f218 WS QY [AV.bx (nat_lit 0) (nat_lit 0)] [[]]) n (ZQL v)
noncomputable def Zg9 (k:Nat) (L1:ZbJ) (L2:ZbJ):(List Int × Int × Unit) × Int × Int × Unit → Option ((List Int × Int × Unit) × (List Int × Int × Unit) × Unit)
 | ((a0,a1,()),a2,a3,()) => (Zdw k (a2,())).bind fun y => (XT k ((a0,a1,()),y.1,())).bind fun y => bif y.1.2.1 != 0 then some (([],y.1.2.1,()),(y.2.1.1,y.2.1.2.1,()),()) else (Zae k (a2,())).bind fun y_1 => bif y.1.1 == y_1.1 then (XT k ((y.2.1.1,y.2.1.2.1,()),5,())).bind fun y => bif y.1.2.1 != 0 then some (([],y.1.2.1,()),(y.2.1.1,y.2.1.2.1,()),()) else L1 (a3,(0:Int),y.2.1.1,y.2.1.2.1,y.1.1,[]) else L2 (a3,(0:Int),y.2.1.1,y.2.1.2.1,y.1.1,[])
noncomputable def ZiC (k:Nat):=Zg9 k (ZoY k) (ZjK k)
theorem ZIh (k:Nat):∀ n,ZAd k n = Zn (fun L1 => ZcE k L1) n :=
 Zh (fun v => by kernel_rfl) (fun n v => by
  obtain ⟨v0,v1,v2,v3,v4,v5⟩:=v
  kernel_rfl)
theorem ZIi (k:Nat):∀ n,ZAe k n = Zn (fun L2 => ZcF k L2) n :=
 Zh (fun v => by kernel_rfl) (fun n v => by
  obtain ⟨v0,v1,v2,v3,v4,v5⟩:=v
  kernel_rfl)
theorem ZQM (k:Nat) (x:Kd.dens WS):ZA (ZqG k) ZC2 Tryz.f218 WS QY x = ZiC k x:=by
 show _ = Zg9 k (ZoY k) (ZjK k) x
 rw [show ZoY k = ZAd k k from (ZIh k k).symm,show ZjK k = ZAe k k from (ZIi k k).symm]
 obtain ⟨⟨a0,⟨a1,⟨⟩⟩⟩,⟨a2,⟨a3,⟨⟩⟩⟩⟩:=x
 kernel_rfl
theorem ZLB (k:Nat):Ctr Tryz.prog k 218 (mk WS QY ZiC) :=
 ZB (fn:=Tryz.f218) (Zf (Za (Zmq k) (Za (Zms k) (Za (ZaS k) (Za (ZLN k) (Za (ZLT k) Zd)))))) (by kernel_rfl) (by kernel_rfl) (ZQM k)
noncomputable abbrev ZUs:Nat × Callee:=(218,mk WS QY ZiC)
noncomputable def ZCL (k:Nat):=Wd k [ZwO,ZLt,ZUk,ZUs]
def ZK4:Nat → Ann:=fun id => bif Nat.beq id 15 then ⟨[52,53,1,10,2,0,8,11],[.slot 11 ((Ty.int IntKind.i64))]⟩ else ⟨[],[]⟩
abbrev ZwT:=Int × Int × Int × Int × Int × Int × List Int × Int × List Int
abbrev ZoJ:=ZwT → Option ((List Int × Int × Unit) × (List Int × Int × Unit) × Unit)
def ZQi:ZwT → St
 | (v0,v1,v2,v3,v4,v5,v6,v7,v8) => St.mk (Zv [(52,Zl v0),(53,Zl v1),(1,Zl v2),(10,Zl v3),(2,Zl v4),(0,AV.bx 0 0),(8,Zl v5),(11,AV.own 8192)]) (Zu [(0,QQ [AV.val (PV.sl (Ty.int IntKind.u8) v6),Zl v7]),(8192,rsA v8 false)])
noncomputable def ZaE (k:Nat) (L1:ZoJ):ZoJ
 | (v0,v1,v2,v3,v4,v5,v6,v7,v8) => bif decide (v1 < v0) then bif decide (0 ≤ v3) then bif v1 == 0 then (ZiC k ((v6,v7,()),v5,IntKind.i64.wrap (v2.fdiv ((2:Int) ^ min v3.toNat 64) - v4),())).bind fun y => bif y.1.2.1 != 0 then some (([],y.1.2.1,()),(y.2.1.1,y.2.1.2.1,()),()) else bif decide (v8.length + List.length y.1.1 < 2147483648) then L1 (v0,IntKind.i64.wrap (v1 + 1),v2,v3,v4,v5,y.2.1.1,y.2.1.2.1,v8 ++ y.1.1) else none else (ZiC k ((v6,v7,()),v5,v2.fdiv ((2:Int) ^ min v3.toNat 64),())).bind fun y => bif y.1.2.1 != 0 then some (([],y.1.2.1,()),(y.2.1.1,y.2.1.2.1,()),()) else bif decide (v8.length + List.length y.1.1 < 2147483648) then L1 (v0,IntKind.i64.wrap (v1 + 1),v2,v3,v4,v5,y.2.1.1,y.2.1.2.1,v8 ++ y.1.1) else none else none else some ((v8,0,()),(v6,v7,()),())
noncomputable def ZoK (k:Nat):ZoJ:=Zn (fun L1 => ZaE k L1) k
noncomputable def ZzQ (k:Nat) (n:Nat) (v:ZwT) :=
 Zs (ZCL k) ZK4 [0] [1,1,1,1,1,1,1,0,1,0] [] (Q6 Tryz.f172) (We (ZCL k) Tryz.f172 WS QY [AV.bx (nat_lit 0) (nat_lit 0)] [[]]) n (ZQi v)
def ZgP (k:Nat) (L1:ZoJ):(List Int × Int × Unit) × Int × Int × Unit → Option ((List Int × Int × Unit) × (List Int × Int × Unit) × Unit)
 | ((a0,a1,()),a2,a3,()) => (ZmH k (a2,a3,())).bind fun y => bif !y.1 then some (([],1,()),(a0,a1,()),()) else (XT k ((a0,a1,()),2,())).bind fun y => bif y.1.2.1 != 0 then some (([],y.1.2.1,()),(y.2.1.1,y.2.1.2.1,()),()) else bif decide ((1:Int) < y.1.1) then some (([],2,()),(y.2.1.1,y.2.1.2.1,()),()) else (XT k ((y.2.1.1,y.2.1.2.1,()),4,())).bind fun y_1 => bif y_1.1.2.1 != 0 then some (([],y_1.1.2.1,()),(y_1.2.1.1,y_1.2.1.2.1,()),()) else (Zdz k (a2,a3,y_1.1.1,())).bind fun y_2 => bif !y_2.1 then some (([],2,()),(y_1.2.1.1,y_1.2.1.2.1,()),()) else bif decide ((0:Int) ≤ y_1.1.1) then L1 (IntKind.i64.wrap ((1:Int) * (2:Int) ^ min (Int.toNat y_1.1.1) (64:Nat)),(0:Int),a2,y_1.1.1,a3,y.1.1,y_1.2.1.1,y_1.2.1.2.1,[]) else none
noncomputable def Zb8 (k:Nat):=ZgP k (ZoK k)
theorem ZHQ (k:Nat):∀ n,ZzQ k n = Zn (fun L1 => ZaE k L1) n :=
 Zh (fun v => by kernel_rfl) (fun n v => by
  obtain ⟨v0,v1,v2,v3,v4,v5,v6,v7,v8⟩:=v
  kernel_rfl)
theorem ZQj (k:Nat) (x:Kd.dens WS):ZA (ZCL k) ZK4 Tryz.f172 WS QY x = Zb8 k x:=by
 show _ = ZgP k (ZoK k) x
 rw [show ZoK k = ZzQ k k from (ZHQ k k).symm]
 obtain ⟨⟨a0,⟨a1,⟨⟩⟩⟩,⟨a2,⟨a3,⟨⟩⟩⟩⟩:=x
 kernel_rfl
theorem ZK5 (k:Nat):Ctr Tryz.prog k 172 (mk WS QY Zb8) :=
 ZB (fn:=Tryz.f172) (Zf (Za (ZaS k) (Za (Zz9 k) (Za (ZAa k) (Za (ZLB k) Zd))))) (by kernel_rfl) (by kernel_rfl) (ZQj k)
noncomputable abbrev ZT5:Nat × Callee:=(172,mk WS QY Zb8)
abbrev ZjF:List Kd:=[.view ZiO,.view (.sl (.int .i64)),.view (.sl (.int .i64))]
noncomputable def ZCM (k:Nat):=Wd k [Zqb,ZCY,ZLs,ZLD,ZLF]
def ZK6:Nat → Ann:=fun id => bif Nat.beq id 9 then ⟨[32,33,31,3,8],[.«show» 8]⟩ else ⟨[],[]⟩
abbrev ZwU:=Int × Int × List Int × List Int × Int × List Int
abbrev ZoL:=ZwU → Option ((List Int × Int × Unit) × Unit)
def ZQk:ZwU → St
 | (v0,v1,v2,v3,v4,v5) => St.mk (Zv [(32,Zl v0),(33,Zl v1),(31,Yh v2),(3,AV.bx 8192 0),(8,AV.own 8193)]) (Zu [(8192,QQ [Yh v3,Zl v4]),(8193,rsA v5 true)])
def Zcy (k:Nat) (L1:ZoL):ZoL
 | (v0,v1,v2,v3,v4,v5) => bif decide (v1 < v0) then bif decide (0 ≤ v1 ∧ v1 < Int.ofNat v2.length) then (ZmL k ((v3,v4,()),v5,())).bind fun y => (ZiA k (IntKind.i64.wrap (v2.getD v1.toNat 0 + y.1),())).bind fun y_1 => bif y_1.1 then some (([],12,()),()) else bif decide (v5.length + [IntKind.i64.wrap (v2.getD v1.toNat 0 + y.1)].length < 2147483648) then L1 (v0,IntKind.i64.wrap (v1 + 1),v2,v3,v4,v5 ++ [IntKind.i64.wrap (v2.getD v1.toNat 0 + y.1)]) else none else none else some ((v5,0,()),())
def ZoM (k:Nat):ZoL:=Zn (fun L1 => Zcy k L1) k
noncomputable def ZzR (k:Nat) (n:Nat) (v:ZwU) :=
 Zs (ZCM k) ZK6 [] [1,1,1,0,1,0] [] (Q6 Tryz.f173) (We (ZCM k) Tryz.f173 ZjF QY [] []) n (ZQk v)
def ZgQ (k:Nat) (L1:ZoL):(List Int × Int × Unit) × List Int × List Int × Unit → Option ((List Int × Int × Unit) × Unit)
 | ((a0,a1,()),a2,a3,()) => (ZmK k ((a0,a1,()),())).bind fun y => bif y.1 != 0 then some (([],2,()),()) else bif Int.ofNat a2.length != Int.ofNat a0.length then some (([],1,()),()) else (KN k (a2,(),())).bind fun y => bif y.1 then some (([],12,()),()) else (KN k (a3,(),())).bind fun y => bif y.1 then some (([],12,()),()) else (ZmG k (a2,())).bind fun y => L1 (Int.ofNat a3.length,(0:Int),a3,a0,a1,y.1)
def Zb9 (k:Nat):=ZgQ k (ZoM k)
theorem ZHT (k:Nat):∀ n,ZzR k n = Zn (fun L1 => Zcy k L1) n :=
 Zh (fun v => by kernel_rfl) (fun n v => by
  obtain ⟨v0,v1,v2,v3,v4,v5⟩:=v
  kernel_rfl)
theorem ZQl (k:Nat) (x:Kd.dens ZjF):ZA (ZCM k) ZK6 Tryz.f173 ZjF QY x = Zb9 k x:=by
 show _ = ZgQ k (ZoM k) x
 rw [show ZoM k = ZzR k k from (ZHT k k).symm]
 obtain ⟨⟨a0,⟨a1,⟨⟩⟩⟩,⟨a2,⟨a3,⟨⟩⟩⟩⟩:=x
 kernel_rfl
theorem ZK7 (k:Nat):Ctr Tryz.prog k 173 (mk ZjF QY Zb9) :=
 ZB (fn:=Tryz.f173) (Zf (Za (Zit k) (Za (Zqy k) (Za (Zz8 k) (Za (ZAf k) (Za (ZAh k) Zd)))))) (by kernel_rfl) (by kernel_rfl) (ZQl k)
noncomputable abbrev ZT6:Nat × Callee:=(173,mk ZjF QY Zb9)
abbrev Zyb:List Kd:=[.box [.ref [.view (.sl (.int .u8)),.view (.int .i64)],.view (.int .i64)],.view (.int .i64),.view (.int .i64),.view (.int .i64)]
noncomputable def ZXa (k:Nat):=Wd k [ZCG,ZKV,ZKW,ZT3,ZT4,ZT5,ZT6]
noncomputable def Zlq (k:Nat):((List Int × Int × Unit) × Int × Unit) × Int × Int × Int × Unit → Option (List Int × ((List Int × Int × Unit) × Int × Unit) × Unit)
 | (((a0,a1,()),a2,()),a3,a4,a5,()) => bif a3 == 0 then (ZaT k (((a0,a1,()),a2,()),1,a5,())).bind fun y => (Zqk k (y.1,a4,())).bind fun y_1 => some (y_1.1,((y.2.1.1.1,y.2.1.1.2.1,()),y.2.1.2.1,()),()) else bif a3 == 1 then (ZaT k (((a0,a1,()),a2,()),a4,a5,())).bind fun y => some (y.1,((y.2.1.1.1,y.2.1.1.2.1,()),y.2.1.2.1,()),()) else bif decide ((31:Int) < a3) then (W7 k (((a0,a1,()),a2,()),decide (IntKind.i64.wrap (a3 - 31) ≤ a4),())).bind fun y => bif y.2.1.2.1 != 0 then some ([],((y.2.1.1.1,y.2.1.1.2.1,()),y.2.1.2.1,()),()) else (ZaT k (((y.2.1.1.1,y.2.1.1.2.1,()),y.2.1.2.1,()),IntKind.i64.wrap (a3 - 31),a5,())).bind fun y => (ZeU k (if (4:Int) < IntKind.i64.wrap (a3 - 31) then (4:Int) else IntKind.i64.wrap (a3 - 31),())).bind fun y_1 => bif decide ((31:Int) < a3) then (YO k (((y.2.1.1.1,y.2.1.1.2.1,()),y.2.1.2.1,()),4,())).bind fun y_2 => (W7 k (((y_2.2.1.1.1,y_2.2.1.1.2.1,()),y_2.2.1.2.1,()),y_2.1 == 11,())).bind fun y_3 => (YO k (((y_3.2.1.1.1,y_3.2.1.1.2.1,()),y_3.2.1.2.1,()),5,())).bind fun y_4 => (W7 k (((y_4.2.1.1.1,y_4.2.1.1.2.1,()),y_4.2.1.2.1,()),decide (y_4.1 ≤ 15),())).bind fun y_5 => (ZaT k (((y_5.2.1.1.1,y_5.2.1.1.2.1,()),y_5.2.1.2.1,()),IntKind.i64.wrap (a3 - 31),12,())).bind fun y_6 => bif y_6.2.1.2.1 != 0 then some ([],((y_6.2.1.1.1,y_6.2.1.1.2.1,()),y_6.2.1.2.1,()),()) else (Zb8 k ((y_6.2.1.1.1,y_6.2.1.1.2.1,()),a4,IntKind.i64.wrap (a3 - 31),())).bind fun y_7 => bif y_7.1.2.1 != 0 then some ([],((y_7.2.1.1,y_7.2.1.2.1,()),y_7.1.2.1,()),()) else (Zb9 k ((y_6.1,y_4.1,()),y.1,y_7.1.1,())).bind fun y => some (y.1.1,((y_7.2.1.1,y_7.2.1.2.1,()),y.1.2.1,()),()) else bif y.2.1.2.1 != 0 then some ([],((y.2.1.1.1,y.2.1.1.2.1,()),y.2.1.2.1,()),()) else (Zb8 k ((y.2.1.1.1,y.2.1.1.2.1,()),a4,IntKind.i64.wrap (a3 - 31),())).bind fun y_2 => bif y_2.1.2.1 != 0 then some ([],((y_2.2.1.1,y_2.2.1.2.1,()),y_2.1.2.1,()),()) else (Zb9 k ((y_1.1.1.1,y_1.1.1.2.1,()),y.1,y_2.1.1,())).bind fun y => some (y.1.1,((y_2.2.1.1,y_2.2.1.2.1,()),y.1.2.1,()),()) else (W7 k (((a0,a1,()),a2,()),decide (IntKind.i64.wrap (a3 - 8) ≤ a4),())).bind fun y => bif y.2.1.2.1 != 0 then some ([],((y.2.1.1.1,y.2.1.1.2.1,()),y.2.1.2.1,()),()) else (ZaT k (((y.2.1.1.1,y.2.1.1.2.1,()),y.2.1.2.1,()),IntKind.i64.wrap (a3 - 8),a5,())).bind fun y => (ZeU k (if (4:Int) < IntKind.i64.wrap (a3 - 8) then (4:Int) else IntKind.i64.wrap (a3 - 8),())).bind fun y_1 => bif decide ((31:Int) < a3) then (YO k (((y.2.1.1.1,y.2.1.1.2.1,()),y.2.1.2.1,()),4,())).bind fun y_2 => (W7 k (((y_2.2.1.1.1,y_2.2.1.1.2.1,()),y_2.2.1.2.1,()),y_2.1 == 11,())).bind fun y_3 => (YO k (((y_3.2.1.1.1,y_3.2.1.1.2.1,()),y_3.2.1.2.1,()),5,())).bind fun y_4 => (W7 k (((y_4.2.1.1.1,y_4.2.1.1.2.1,()),y_4.2.1.2.1,()),decide (y_4.1 ≤ 15),())).bind fun y_5 => (ZaT k (((y_5.2.1.1.1,y_5.2.1.1.2.1,()),y_5.2.1.2.1,()),IntKind.i64.wrap (a3 - 8),12,())).bind fun y_6 => bif y_6.2.1.2.1 != 0 then some ([],((y_6.2.1.1.1,y_6.2.1.1.2.1,()),y_6.2.1.2.1,()),()) else (Zb8 k ((y_6.2.1.1.1,y_6.2.1.1.2.1,()),a4,IntKind.i64.wrap (a3 - 8),())).bind fun y_7 => bif y_7.1.2.1 != 0 then some ([],((y_7.2.1.1,y_7.2.1.2.1,()),y_7.1.2.1,()),()) else (Zb9 k ((y_6.1,y_4.1,()),y.1,y_7.1.1,())).bind fun y => some (y.1.1,((y_7.2.1.1,y_7.2.1.2.1,()),y.1.2.1,()),()) else bif y.2.1.2.1 != 0 then some ([],((y.2.1.1.1,y.2.1.1.2.1,()),y.2.1.2.1,()),()) else (Zb8 k ((y.2.1.1.1,y.2.1.1.2.1,()),a4,IntKind.i64.wrap (a3 - 8),())).bind fun y_2 => bif y_2.1.2.1 != 0 then some ([],((y_2.2.1.1,y_2.2.1.2.1,()),y_2.1.2.1,()),()) else (Zb9 k ((y_1.1.1.1,y_1.1.1.2.1,()),y.1,y_2.1.1,())).bind fun y => some (y.1.1,((y_2.2.1.1,y_2.2.1.2.1,()),y.1.2.1,()),())
noncomputable def ZAR (k:Nat):=Zlq k
theorem ZVP (k:Nat) (x:Kd.dens Zyb):ZA (ZXa k) nA Tryz.f124 Zyb YT x = ZAR k x:=by
 show _ = Zlq k x
 obtain ⟨⟨⟨a0,⟨a1,⟨⟩⟩⟩,⟨a2,⟨⟩⟩⟩,⟨a3,⟨a4,⟨a5,⟨⟩⟩⟩⟩⟩:=x
 kernel_rfl
theorem ZSc (k:Nat):Ctr Tryz.prog k 124 (mk Zyb YT ZAR) :=
 ZB (fn:=Tryz.f124) (Zf (Za (Zqg k) (Za (ZzK k) (Za (ZzL k) (Za (ZK1 k) (Za (ZK3 k) (Za (ZK5 k) (Za (ZK7 k) Zd)))))))) (by kernel_rfl) (by kernel_rfl) (ZVP k)
noncomputable abbrev ZXb:Nat × Callee:=(124,mk Zyb YT ZAR)
noncomputable def ZNm (k:Nat):=Wd k [ZTl,ZW9,ZXb,ZTn]
def ZS4:Nat → Ann:=fun id => bif Nat.beq id 12 then ⟨[58,59,57,2,10,12],[.slot 12 ((Ty.int IntKind.i64))]⟩ else ⟨[],[]⟩
abbrev ZD0:=Int × Int × List Int × Int × Int × List Int × Int × List Int
abbrev ZxC:=ZD0 → Option ((List Int × Int × Unit) × (List Int × Int × Unit) × Unit)
def ZU8:ZD0 → St
 | (v0,v1,v2,v3,v4,v5,v6,v7) => St.mk (Zv [(58,Zl v0),(59,Zl v1),(57,Yh v2),(2,Zl v3),(10,Zl v4),(12,AV.own 8192)]) (Zu [(0,QQ [AV.val (PV.sl (Ty.int IntKind.u8) v5),Zl v6]),(8192,rsA v7 false)])
def Zfs (k:Nat) (L1:ZxC):ZxC
 | (v0,v1,v2,v3,v4,v5,v6,v7) => bif decide (v1 < v0) then bif decide (0 ≤ v1 ∧ v1 < Int.ofNat v2.length) then (Zvi k (v2.getD v1.toNat 0,IntKind.i64.wrap (v3 - v4),())).bind fun y => bif !y.1 then some (([],12,()),(v5,v6,()),()) else bif decide (0 ≤ v4) then bif decide (v7.length + [IntKind.i64.wrap (v2.getD v1.toNat 0 * (2:Int) ^ min v4.toNat 64)].length < 2147483648) then L1 (v0,IntKind.i64.wrap (v1 + 1),v2,v3,v4,v5,v6,v7 ++ [IntKind.i64.wrap (v2.getD v1.toNat 0 * (2:Int) ^ min v4.toNat 64)]) else none else none else none else some ((v7,0,()),(v5,v6,()),())
def ZxD (k:Nat):ZxC:=Zn (fun L1 => Zfs k L1) k
noncomputable def ZFO (k:Nat) (n:Nat) (v:ZD0) :=
 Zs (ZNm k) ZS4 [0] [1,1,1,1,1,1,1,1,0,1,0] [] (Q6 Tryz.f58) (We (ZNm k) Tryz.f58 WS QY [AV.bx (nat_lit 0) (nat_lit 0)] [[]]) n (ZU8 v)
noncomputable def ZkY (k:Nat) (L1:ZxC):(List Int × Int × Unit) × Int × Int × Unit → Option ((List Int × Int × Unit) × (List Int × Int × Unit) × Unit)
 | ((a0,a1,()),a2,a3,()) => (Zvh k (a2,a3,())).bind fun y => bif !y.1 then some (([],1,()),(a0,a1,()),()) else (ZAQ k (((a0,a1,()),0,()),a3,())).bind fun y => bif y.2.1.2.1 != 0 then some (([],y.2.1.2.1,()),(y.2.1.1.1,y.2.1.1.2.1,()),()) else (ZAR k (((y.2.1.1.1,y.2.1.1.2.1,()),y.2.1.2.1,()),y.1.1,a2,IntKind.i64.wrap (a3 - y.1.2.1),())).bind fun y_1 => bif y_1.2.1.2.1 != 0 then some (([],y_1.2.1.2.1,()),(y_1.2.1.1.1,y_1.2.1.1.2.1,()),()) else L1 (Int.ofNat (List.length y_1.1),(0:Int),y_1.1,a3,y.1.2.1,y_1.2.1.1.1,y_1.2.1.1.2.1,[])
noncomputable def ZAB (k:Nat):=ZkY k (ZxD k)
theorem ZNn (k:Nat):∀ n,ZFO k n = Zn (fun L1 => Zfs k L1) n :=
 Zh (fun v => by kernel_rfl) (fun n v => by
  obtain ⟨v0,v1,v2,v3,v4,v5,v6,v7⟩:=v
  kernel_rfl)
theorem ZU9 (k:Nat) (x:Kd.dens WS):ZA (ZNm k) ZS4 Tryz.f58 WS QY x = ZAB k x:=by
 show _ = ZkY k (ZxD k) x
 rw [show ZxD k = ZFO k k from (ZNn k k).symm]
 obtain ⟨⟨a0,⟨a1,⟨⟩⟩⟩,⟨a2,⟨a3,⟨⟩⟩⟩⟩:=x
 kernel_rfl
theorem ZRV (k:Nat):Ctr Tryz.prog k 58 (mk WS QY ZAB) :=
 ZB (fn:=Tryz.f58) (Zf (Za (ZGb k) (Za (ZSb k) (Za (ZSc k) (Za (ZGc k) Zd))))) (by kernel_rfl) (by kernel_rfl) (ZU9 k)
noncomputable abbrev ZWQ:Nat × Callee:=(58,mk WS QY ZAB)
def ZS5:Nat → Ann:=fun id => bif Nat.beq id 5 then ⟨[4,3,0],[]⟩ else ⟨[],[]⟩
abbrev ZxE:=Wr → Option (Int × (List Int × Int × Unit) × Unit)
def ZVa:Wr → St
 | (v0,v1,v2,v3) => St.mk (Zv [(4,Zl v0),(3,Zl v1),(0,AV.bx 0 0)]) (Zu [(0,QQ [AV.val (PV.sl (Ty.int IntKind.u8) v2),Zl v3])])
def Zft (k:Nat) (L1:ZxE):ZxE
 | (v0,v1,v2,v3) => bif decide (v0 < v1) then (Zsl k ((v2,v3,()),v0,())).bind fun y => bif y.1 == 1 then some (2,(y.2.1.1,y.2.1.2.1,()),()) else L1 (IntKind.i64.wrap (v0 + 1),v1,y.2.1.1,y.2.1.2.1) else some (0,(v2,v1,()),())
def ZxF (k:Nat):ZxE:=Zn (fun L1 => Zft k L1) k
noncomputable def ZFP (k:Nat) (n:Nat) (v:Wr) :=
 Zs (Zmt k) ZS5 [0] [1,1,1,0,1,0] [] (Q6 Tryz.f59) (We (Zmt k) Tryz.f59 W9 Zi [AV.bx (nat_lit 0) (nat_lit 0)] [[]]) n (ZVa v)
def ZkZ (k:Nat) (L1:ZxE):(List Int × Int × Unit) × Unit → Option (Int × (List Int × Int × Unit) × Unit)
 | ((a0,a1,()),()) => L1 (a1,IntKind.i64.wrap (Int.ofNat (BitVec.ofInt 64 (IntKind.i64.wrap (a1 + 7)) &&& ~~~BitVec.ofInt 64 (7:Int)).toNat),a0,a1)
def ZAC (k:Nat):=ZkZ k (ZxF k)
theorem ZNp (k:Nat):∀ n,ZFP k n = Zn (fun L1 => Zft k L1) n :=
 Zh (fun v => by kernel_rfl) (fun n v => by
  obtain ⟨v0,v1,v2,v3⟩:=v
  kernel_rfl)
theorem ZVb (k:Nat) (x:Kd.dens W9):ZA (Zmt k) ZS5 Tryz.f59 W9 Zi x = ZAC k x:=by
 show _ = ZkZ k (ZxF k) x
 rw [show ZxF k = ZFP k k from (ZNp k k).symm]
 obtain ⟨⟨a0,⟨a1,⟨⟩⟩⟩,⟨⟩⟩:=x
 kernel_rfl
theorem ZRW (k:Nat):Ctr Tryz.prog k 59 (mk W9 Zi ZAC) :=
 ZB (fn:=Tryz.f59) (Zf (Za (Zyc k) Zd)) (by kernel_rfl) (by kernel_rfl) (ZVb k)
noncomputable abbrev ZWR:Nat × Callee:=(59,mk W9 Zi ZAC)
abbrev Zjw:List Kd:=[.box [.view (.sl (.int .u8)),.ref [.view (.sl (.int .u8)),.view (.int .i64)],.view (.int .i64)],.view (.int .i64),.fn 61]
noncomputable def ZPE (k:Nat):=Wd k [ZFR,ZF8,ZF9,ZS3]
def Zdu (k:Nat):(List Int × (List Int × Int × Unit) × Int × Unit) × Int × Unit × Unit → Option (Unit × (List Int × (List Int × Int × Unit) × Int × Unit) × Unit)
 | ((a0,(a1,a2,()),a3,()),a4,(),()) => (K0 k ((a1,a2,()),())).bind fun y => (Wy k ((a0,(y.2.1.1,y.2.1.2.1,()),a3,()),a4,())).bind fun y_1 => bif y_1.2.1.2.2.1 != 0 then (Q8 k ((y_1.2.1.1,(y_1.2.1.2.1.1,y_1.2.1.2.1.2.1,()),y_1.2.1.2.2.1,()),true,16,())).bind fun y => some ((),(y.2.1.1,(y.2.1.2.1.1,y.2.1.2.1.2.1,()),y.2.1.2.2.1,()),()) else bif decide ((0:Int) ≤ 0 ∧ (0:Int) ≤ IntKind.i64.wrap (Int.tdiv y.1 (8:Int)) ∧ IntKind.i64.wrap (Int.tdiv y.1 (8:Int)) ≤ Int.ofNat (List.length y_1.2.1.1)) then (Zvb k (List.drop 0 (List.take (IntKind.i64.wrap (Int.tdiv y.1 (8:Int))).toNat y_1.2.1.1),())).bind fun y => (Q8 k ((y_1.2.1.1,(y_1.2.1.2.1.1,y_1.2.1.2.1.2.1,()),y_1.2.1.2.2.1,()),y_1.1 == y.1,16,())).bind fun y => some ((),(y.2.1.1,(y.2.1.2.1.1,y.2.1.2.1.2.1,()),y.2.1.2.2.1,()),()) else none
def Zjv (k:Nat):=Zdu k
theorem ZKC (k:Nat) (x:Kd.dens Zjw):ZA (ZPE k) nA Tryz.f60 Zjw QC x = Zjv k x:=by
 show _ = Zdu k x
 obtain ⟨⟨a0,⟨⟨a1,⟨a2,⟨⟩⟩⟩,⟨a3,⟨⟩⟩⟩⟩,⟨a4,⟨⟨⟩,⟨⟩⟩⟩⟩:=x
 kernel_rfl
theorem ZHj (k:Nat):Ctr Tryz.prog k 60 (mk Zjw QC Zjv) :=
 ZB (fn:=Tryz.f60) (Zf (Za (Zk3 k) (Za (Zpj k) (Za (Zpk k) (Za (ZFM k) Zd))))) (by kernel_rfl) (by kernel_rfl) (ZKC k)
noncomputable abbrev ZPF:Nat × Callee:=(60,mk Zjw QC Zjv)
abbrev Zr7:List Kd:=[.view (.sl (.int .i64)),.view (.sl (.int .i64)),.view (.int .i64)]
noncomputable def ZNs (k:Nat):=Wd k [ZS9,ZTp]
def ZS6:Nat → Ann:=fun id => bif Nat.beq id 7 then ⟨[36,37,35,1,2,8,9],[]⟩ else ⟨[],[]⟩
abbrev ZD1:=Int × Int × List Int × List Int × Int × List Int × List Int
abbrev ZxH:=ZD1 → Option ((List (Nat × Nat) × Int × Unit) × Unit)
def ZVd:ZD1 → St
 | (v0,v1,v2,v3,v4,v5,v6) => St.mk (Zv [(36,Zl v0),(37,Zl v1),(35,Yh v2),(1,Yh v3),(2,Zl v4),(8,AV.own 8192),(9,AV.own 8193)]) (Zu [(8192,rsA v5 false),(8193,rsA v6 false)])
def ZcY (k:Nat) (L1:ZxH):ZxH
 | (v0,v1,v2,v3,v4,v5,v6) => bif decide (v1 < v0) then bif decide (0 ≤ v1 ∧ v1 < Int.ofNat v2.length) then bif decide (0 ≤ v1 ∧ v1 < Int.ofNat v3.length) then bif decide ((if v3.getD v1.toNat 0 < v2.getD v1.toNat 0 then v3.getD v1.toNat 0 else v2.getD v1.toNat 0) < -67108864) then some (([],12,()),()) else bif decide ((67108864:Int) < if v2.getD v1.toNat 0 < v3.getD v1.toNat 0 then v3.getD v1.toNat 0 else v2.getD v1.toNat 0) then some (([],12,()),()) else bif v4 == 0 then bif decide (0 ≤ v1 ∧ v1 < Int.ofNat v5.length) then bif decide (v1.toNat < v5.length) then bif decide (0 ≤ v1 ∧ v1 < Int.ofNat v6.length) then bif decide (v1.toNat < v6.length) then L1 (v0,IntKind.i64.wrap (v1 + 1),v2,v3,v4,v5.set v1.toNat (v2.getD v1.toNat 0),v6.set v1.toNat (v3.getD v1.toNat 0)) else none else none else none else none else bif v4 == 8 then bif decide (0 ≤ v1 ∧ v1 < Int.ofNat v5.length) then bif decide (v1.toNat < v5.length) then bif decide (0 ≤ v1 ∧ v1 < Int.ofNat v6.length) then bif decide (v1.toNat < v6.length) then L1 (v0,IntKind.i64.wrap (v1 + 1),v2,v3,v4,v5.set v1.toNat (v2.getD v1.toNat 0),v6.set v1.toNat (IntKind.i64.wrap (v2.getD v1.toNat 0 - v3.getD v1.toNat 0))) else none else none else none else none else bif v4 == 9 then bif decide (0 ≤ v1 ∧ v1 < Int.ofNat v5.length) then bif decide (v1.toNat < v5.length) then bif decide (0 ≤ v1 ∧ v1 < Int.ofNat v6.length) then bif decide (v1.toNat < v6.length) then L1 (v0,IntKind.i64.wrap (v1 + 1),v2,v3,v4,v5.set v1.toNat (IntKind.i64.wrap (v2.getD v1.toNat 0 + v3.getD v1.toNat 0)),v6.set v1.toNat (v3.getD v1.toNat 0)) else none else none else none else none else bif v4 == 10 then bif decide (0 ≤ v1 ∧ v1 < Int.ofNat v5.length) then bif decide (v1.toNat < v5.length) then bif decide (0 ≤ v1 ∧ v1 < Int.ofNat v6.length) then bif decide (v1.toNat < v6.length) then L1 (v0,IntKind.i64.wrap (v1 + 1),v2,v3,v4,v5.set v1.toNat ((IntKind.i64.wrap (IntKind.i64.wrap (Int.ofNat (BitVec.ofInt 64 (IntKind.i64.wrap (v2.getD v1.toNat 0 * (2:Int))) ||| BitVec.ofInt 64 (IntKind.i64.wrap (Int.ofNat (BitVec.ofInt 64 (v3.getD v1.toNat 0) &&& BitVec.ofInt 64 (1:Int)).toNat))).toNat) + v3.getD v1.toNat 0)).fdiv (2:Int)),v6.set v1.toNat ((IntKind.i64.wrap (IntKind.i64.wrap (Int.ofNat (BitVec.ofInt 64 (IntKind.i64.wrap (v2.getD v1.toNat 0 * (2:Int))) ||| BitVec.ofInt 64 (IntKind.i64.wrap (Int.ofNat (BitVec.ofInt 64 (v3.getD v1.toNat 0) &&& BitVec.ofInt 64 (1:Int)).toNat))).toNat) - v3.getD v1.toNat 0)).fdiv (2:Int))) else none else none else none else none else L1 (v0,IntKind.i64.wrap (v1 + 1),v2,v3,v4,v5,v6) else none else none else (Zr9 k (v5,v6,())).bind fun y => some ((y.1.1,y.1.2.1,()),())
def ZxI (k:Nat):ZxH:=Zn (fun L1 => ZcY k L1) k
noncomputable def ZFQ (k:Nat) (n:Nat) (v:ZD1) :=
 Zs (ZNs k) ZS6 [] [1,1,1,0,1,0] [] (Q6 Tryz.f62) (We (ZNs k) Tryz.f62 Zr7 Zfv [] []) n (ZVd v)
def Zk1 (k:Nat) (L1:ZxH):List Int × List Int × Int × Unit → Option ((List (Nat × Nat) × Int × Unit) × Unit)
 | (a0,a1,a2,()) => (Zvj k (a2,())).bind fun y => bif !y.1 then some (([],1,()),()) else bif Int.ofNat a0.length != Int.ofNat a1.length then some (([],1,()),()) else bif decide ((8192:Int) < Int.ofNat a0.length) then some (([],14,()),()) else bif decide ((0:Int) ≤ Int.ofNat a0.length ∧ Int.ofNat a0.length ≤ Int.ofNat a0.length ∧ Int.ofNat a0.length < (4294967296:Int)) then bif decide ((0:Int) ≤ Int.ofNat a0.length ∧ Int.ofNat a0.length ≤ Int.ofNat a0.length ∧ Int.ofNat a0.length < (4294967296:Int)) then L1 (Int.ofNat a0.length,(0:Int),a0,a1,a2,List.replicate (Int.ofNat a0.length).toNat (0:Int),List.replicate (Int.ofNat a0.length).toNat (0:Int)) else none else none
def Zr6 (k:Nat):=Zk1 k (ZxI k)
theorem ZNt (k:Nat):∀ n,ZFQ k n = Zn (fun L1 => ZcY k L1) n :=
 Zh (fun v => by kernel_rfl) (fun n v => by
  obtain ⟨v0,v1,v2,v3,v4,v5,v6⟩:=v
  kernel_rfl)
theorem ZVe (k:Nat) (x:Kd.dens Zr7):ZA (ZNs k) ZS6 Tryz.f62 Zr7 Zfv x = Zr6 k x:=by
 show _ = Zk1 k (ZxI k) x
 rw [show ZxI k = ZFQ k k from (ZNt k k).symm]
 obtain ⟨a0,⟨a1,⟨a2,⟨⟩⟩⟩⟩:=x
 kernel_rfl
theorem ZRY (k:Nat):Ctr Tryz.prog k 62 (mk Zr7 Zfv Zr6) :=
 ZB (fn:=Tryz.f62) (Zf (Za (ZFU k) (Za (ZGd k) Zd))) (by kernel_rfl) (by kernel_rfl) (ZVe k)
noncomputable abbrev ZWU:Nat × Callee:=(62,mk Zr7 Zfv Zr6)
noncomputable def ZWV (k:Nat):=Wd k [ZNF]
def Zk2 (k:Nat):List (Nat × Nat) × Unit → Option ((List Int × List Int × Int × Unit) × Unit)
 | (a0,()) => (Zsb k (a0,0,())).bind fun y => some ((y.1.1,y.1.2.1,y.1.2.2.1,()),())
def Zr8 (k:Nat):=Zk2 k
theorem ZVf (k:Nat) (x:Kd.dens WR):ZA (ZWV k) nA Tryz.f63 WR ZiH x = Zr8 k x:=by
 show _ = Zk2 k x
 obtain ⟨a0,⟨⟩⟩:=x
 kernel_rfl
theorem ZRZ (k:Nat):Ctr Tryz.prog k 63 (mk WR ZiH Zr8) :=
 ZB (fn:=Tryz.f63) (Zf (Za (ZxP k) Zd)) (by kernel_rfl) (by kernel_rfl) (ZVf k)
noncomputable abbrev ZWW:Nat × Callee:=(63,mk WR ZiH Zr8)
abbrev ZqK:List Kd:=[.view Znp,.view (.sl (.int .u8))]
abbrev Zxb:Kd:=.tup [.view Zm0,.view (.int .i64),.view (.int .i64)]
noncomputable def ZLO (k:Nat):=Wd k [ZE9,ZSX,ZS2,ZWN,ZWP,ZWQ,ZWR,ZPF,ZWU,ZWW,ZFR]
def ZSU:Nat → Ann:=fun id => bif Nat.beq id 10 then ⟨[55,56,54,8,11,4,12,2,9],[.cell 12 1 ((Ty.int IntKind.i64).sl)]⟩ else ⟨[],[]⟩
abbrev ZC5:=Int × Int × List Int × Int × Int × List Int × Int × List Int × Int × Int × Int × List (List Int) × Int × Int × Int
abbrev Zw9:=ZC5 → Option (((Int × List (List Int) × Unit) × Int × Int × Unit) × Unit)
def ZUG:ZC5 → St
 | (v0,v1,v2,v3,v4,v5,v6,v7,v8,v9,v10,v11,v12,v13,v14) => St.mk (Zv [(55,Zl v0),(56,Zl v1),(54,Yh v2),(8,AV.bx 8192 0),(11,Zl v3),(4,AV.bx 8194 0),(12,AV.bx 8195 0),(2,AV.bx 8197 0),(9,Zl v4)]) (Zu [(8192,QQ [AV.val (PV.sl (Ty.int IntKind.u8) v5),AV.bx 8193 0,Zl v6]),(8193,QQ [AV.val (PV.sl (Ty.int IntKind.u8) v7),Zl v8]),(8194,QQ [Zl v9,AV.val (PV.v (Value.slice none (0:Nat) (0:Nat)))]),(8195,QQ [Zl v10,AV.own 8196]),(8196,RS.live (Res.arr (Ty.int IntKind.i64).sl v11 false)),(8197,QQ [Zl v12,Zl v13,Zl v14])])
noncomputable def Ze5 (k:Nat) (L1:Zw9):Zw9
 | (v0,v1,v2,v3,v4,v5,v6,v7,v8,v9,v10,v11,v12,v13,v14) => bif decide (v1 < v0) then bif decide (0 ≤ v1 ∧ v1 < Int.ofNat v2.length) then (ZAB k ((v7,v8,()),v3,v2.getD v1.toNat 0,())).bind fun y => bif y.1.2.1 != 0 then some ((((0:Int),[],()),0,y.1.2.1,()),()) else bif decide (v11.length + [y.1.1].length < 2147483648) then L1 (v0,IntKind.i64.wrap (v1 + 1),v2,v3,v4,v5,v6,y.2.1.1,y.2.1.2.1,v9,v10,v11 ++ [y.1.1],v12,v13,v14) else none else none else (ZAC k ((v7,v8,()),())).bind fun y => (Zjv k ((v5,(y.2.1.1,y.2.1.2.1,()),y.1,()),16,(),())).bind fun y => bif y.2.1.2.2.1 != 0 then some ((((0:Int),[],()),0,y.2.1.2.2.1,()),()) else bif decide ((1:Int) < v12) then bif v4 == 1 then bif decide ((0:Int) ≤ 0 ∧ (0:Int) < Int.ofNat v11.length) then bif decide ((0:Nat) < v11.length) then bif decide ((0:Int) ≤ 1 ∧ (1:Int) < Int.ofNat v11.length) then bif decide ((1:Nat) < v11.length) then (Zr6 k (v11.getD 0 [],v11.getD 1 [],0,())).bind fun y_1 => bif y_1.1.2.1 != 0 then some ((((0:Int),[],()),0,y_1.1.2.1,()),()) else (Zr8 k (y_1.1.1,())).bind fun y_2 => bif y_2.1.2.2.1 != 0 then some ((((0:Int),[],()),0,y_2.1.2.2.1,()),()) else (ZhY k ((v12,v13,v14,()),(v10,[y_2.1.1,y_2.1.2.1],()),())).bind fun y_3 => bif y_3.1 != 0 then some ((((0:Int),[],()),0,y_3.1,()),()) else (K0 k ((y.2.1.2.1.1,y.2.1.2.1.2.1,()),())).bind fun y => some (((v10,[y_2.1.1,y_2.1.2.1],()),IntKind.i64.wrap (Int.tdiv y.1 (8:Int)),0,()),()) else none else none else none else none else bif decide ((0:Int) ≤ 0 ∧ (0:Int) < Int.ofNat v11.length) then bif decide ((0:Nat) < v11.length) then bif decide ((0:Int) ≤ 1 ∧ (1:Int) < Int.ofNat v11.length) then bif decide ((1:Nat) < v11.length) then (Zr6 k (v11.getD 0 [],v11.getD 1 [],v4,())).bind fun y_1 => bif y_1.1.2.1 != 0 then some ((((0:Int),[],()),0,y_1.1.2.1,()),()) else (Zr8 k (y_1.1.1,())).bind fun y_2 => bif y_2.1.2.2.1 != 0 then some ((((0:Int),[],()),0,y_2.1.2.2.1,()),()) else (ZhY k ((v12,v13,v14,()),(v10,[y_2.1.1,y_2.1.2.1],()),())).bind fun y_3 => bif y_3.1 != 0 then some ((((0:Int),[],()),0,y_3.1,()),()) else (K0 k ((y.2.1.2.1.1,y.2.1.2.1.2.1,()),())).bind fun y => some (((v10,[y_2.1.1,y_2.1.2.1],()),IntKind.i64.wrap (Int.tdiv y.1 (8:Int)),0,()),()) else none else none else none else none else (ZhY k ((v12,v13,v14,()),(v10,v11,()),())).bind fun y_1 => bif y_1.1 != 0 then some ((((0:Int),[],()),0,y_1.1,()),()) else (K0 k ((y.2.1.2.1.1,y.2.1.2.1.2.1,()),())).bind fun y => some (((v10,v11,()),IntKind.i64.wrap (Int.tdiv y.1 (8:Int)),0,()),())
noncomputable def Zxa (k:Nat):Zw9:=Zn (fun L1 => Ze5 k L1) k
noncomputable def ZFd (k:Nat) (n:Nat) (v:ZC5) :=
 Zs (ZLO k) ZSU [] [1,1,1,1,1,1,0,1,0] [] (Q6 Tryz.f27) (We (ZLO k) Tryz.f27 ZqK Zxb [] []) n (ZUG v)
def ZjL (k:Nat) (L1:Zw9):(Int × Int × Int × Unit) × List Int × Unit → Option (((Int × List (List Int) × Unit) × Int × Int × Unit) × Unit)
 | ((a0,a1,a2,()),a3,()) => (ZjD k ((a0,a1,a2,()),())).bind fun y => bif y.1 != 0 then some ((((0:Int),[],()),0,y.1,()),()) else (Zr5 k (a3,())).bind fun y => (Zvc k ((a3,(y.1.1,y.1.2.1,()),0,()),(a0,a1,a2,()),())).bind fun y => bif y.2.1.2.2.1 != 0 then some ((((0:Int),[],()),0,y.2.1.2.2.1,()),()) else (Zu9 k ((a0,a1,a2,()),y.1.1,())).bind fun y_1 => L1 (Int.ofNat (List.length y_1.1),(0:Int),y_1.1,y.1.2.2.1,y.1.1,y.2.1.1,y.2.1.2.2.1,y.2.1.2.1.1,y.2.1.2.1.2.1,(0:Int),y.1.2.1,[],a0,a1,a2)
noncomputable def ZuE (k:Nat):=ZjL k (Zxa k)
theorem ZLP (k:Nat):∀ n,ZFd k n = Zn (fun L1 => Ze5 k L1) n :=
 Zh (fun v => by kernel_rfl) (fun n v => by
  obtain ⟨v0,v1,v2,v3,v4,v5,v6,v7,v8,v9,v10,v11,v12,v13,v14⟩:=v
  kernel_rfl)
theorem ZUH (k:Nat) (x:Kd.dens ZqK):ZA (ZLO k) ZSU Tryz.f27 ZqK Zxb x = ZuE k x:=by
 show _ = ZjL k (Zxa k) x
 rw [show Zxa k = ZFd k k from (ZLP k k).symm]
 obtain ⟨⟨a0,⟨a1,⟨a2,⟨⟩⟩⟩⟩,⟨a3,⟨⟩⟩⟩:=x
 kernel_rfl
theorem ZFe (k:Nat):Ctr Tryz.prog k 27 (mk ZqK Zxb ZuE) :=
 ZB (fn:=Tryz.f27) (Zf (Za (Zox k) (Za (ZFF k) (Za (ZFL k) (Za (ZFN k) (Za (ZRU k) (Za (ZRV k) (Za (ZRW k) (Za (ZHj k) (Za (ZRY k) (Za (ZRZ k) (Za (Zk3 k) Zd)))))))))))) (by kernel_rfl) (by kernel_rfl) (ZUH k)
noncomputable abbrev ZSV:Nat × Callee:=(27,mk ZqK Zxb ZuE)
def ZS7:Nat → Ann:=fun id => bif Nat.beq id 4 then ⟨[5,0,1],[]⟩ else ⟨[],[]⟩
abbrev ZD2:=Int × List Int × List Int
abbrev ZxJ:=ZD2 → Option (Bool × Unit)
def ZVh:ZD2 → St
 | (v0,v1,v2) => St.mk (Zv [(5,Zl v0),(0,Yh v1),(1,Yh v2)]) (Zu [])
def Zfu (k:Nat) (L1:ZxJ):ZxJ
 | (v0,v1,v2) => bif decide (v0 < Int.ofNat v1.length) then bif decide (0 ≤ v0 ∧ v0 < Int.ofNat v1.length) then bif decide (0 ≤ v0 ∧ v0 < Int.ofNat v2.length) then bif v1.getD v0.toNat 0 != v2.getD v0.toNat 0 then some (false,()) else L1 (IntKind.i64.wrap (v0 + 1),v1,v2) else none else none else some (true,())
def ZxK (k:Nat):ZxJ:=Zn (fun L1 => Zfu k L1) k
noncomputable def ZFS (k:Nat) (n:Nat) (v:ZD2) :=
 Zs (Z4 k) ZS7 [] [1,1,0,1,0] [] (Q6 Tryz.f117) (We (Z4 k) Tryz.f117 Zcb ZE [] []) n (ZVh v)
def Zk4 (k:Nat) (L1:ZxJ):List Int × List Int × Unit → Option (Bool × Unit)
 | (a0,a1,()) => bif Int.ofNat a0.length != Int.ofNat a1.length then some (false,()) else L1 (0,a0,a1)
def ZAF (k:Nat):=Zk4 k (ZxK k)
theorem ZNw (k:Nat):∀ n,ZFS k n = Zn (fun L1 => Zfu k L1) n :=
 Zh (fun v => by kernel_rfl) (fun n v => by
  obtain ⟨v0,v1,v2⟩:=v
  kernel_rfl)
theorem ZVi (k:Nat) (x:Kd.dens Zcb):ZA (Z4 k) ZS7 Tryz.f117 Zcb ZE x = ZAF k x:=by
 show _ = Zk4 k (ZxK k) x
 rw [show ZxK k = ZFS k k from (ZNw k k).symm]
 obtain ⟨a0,⟨a1,⟨⟩⟩⟩:=x
 kernel_rfl
theorem ZR0 (k:Nat):Ctr Tryz.prog k 117 (mk Zcb ZE ZAF) :=
 ZB (fn:=Tryz.f117) (Zf Zd) (by kernel_rfl) (by kernel_rfl) (ZVi k)
noncomputable abbrev ZWX:Nat × Callee:=(117,mk Zcb ZE ZAF)
abbrev ZmO:List Kd:=[.view Zm0,.view Zm0]
noncomputable def ZMS (k:Nat):=Wd k [ZWX]
def ZSW:Nat → Ann:=fun id => bif Nat.beq id 4 then ⟨[5,2,3],[]⟩ else ⟨[],[]⟩
abbrev ZDK:=Int × Int × List (List Int) × Int × List (List Int)
abbrev Zxp:=ZDK → Option (Bool × Unit)
def ZUO:ZDK → St
 | (v0,v1,v2,v3,v4) => St.mk (Zv [(5,Zl v0),(2,AV.bx 8192 0),(3,AV.bx 8193 0)]) (Zu [(8192,QQ [Zl v1,AV.val (PV.sl (Ty.int IntKind.i64).sl v2)]),(8193,QQ [Zl v3,AV.val (PV.sl (Ty.int IntKind.i64).sl v4)])])
def Zfk (k:Nat) (L1:Zxp):Zxp
 | (v0,v1,v2,v3,v4) => bif decide (v0 < Int.ofNat v2.length) then bif decide (0 ≤ v0 ∧ v0 < Int.ofNat v2.length) then bif decide (0 ≤ v0 ∧ v0 < Int.ofNat v4.length) then (ZAF k (v2.getD v0.toNat [],v4.getD v0.toNat [],())).bind fun y => bif !y.1 then some (false,()) else L1 (IntKind.i64.wrap (v0 + 1),v1,v2,v3,v4) else none else none else some (true,())
def Zxq (k:Nat):Zxp:=Zn (fun L1 => Zfk k L1) k
noncomputable def ZFw (k:Nat) (n:Nat) (v:ZDK) :=
 Zs (ZMS k) ZSW [] [1,1,0,1,0] [] (Q6 Tryz.f55) (We (ZMS k) Tryz.f55 ZmO ZE [] []) n (ZUO v)
def Zkz (k:Nat) (L1:Zxp):(Int × List (List Int) × Unit) × (Int × List (List Int) × Unit) × Unit → Option (Bool × Unit)
 | ((a0,a1,()),(a2,a3,()),()) => bif a0 != a2 then some (false,()) else bif Int.ofNat a1.length != Int.ofNat a3.length then some (false,()) else L1 (0,a0,a1,a2,a3)
def Zu1 (k:Nat):=Zkz k (Zxq k)
theorem ZMT (k:Nat):∀ n,ZFw k n = Zn (fun L1 => Zfk k L1) n :=
 Zh (fun v => by kernel_rfl) (fun n v => by
  obtain ⟨v0,v1,v2,v3,v4⟩:=v
  kernel_rfl)
theorem ZUP (k:Nat) (x:Kd.dens ZmO):ZA (ZMS k) ZSW Tryz.f55 ZmO ZE x = Zu1 k x:=by
 show _ = Zkz k (Zxq k) x
 rw [show Zxq k = ZFw k k from (ZMT k k).symm]
 obtain ⟨⟨a0,⟨a1,⟨⟩⟩⟩,⟨⟨a2,⟨a3,⟨⟩⟩⟩,⟨⟩⟩⟩:=x
 kernel_rfl
theorem ZRE (k:Nat):Ctr Tryz.prog k 55 (mk ZmO ZE Zu1) :=
 ZB (fn:=Tryz.f55) (Zf (Za (ZR0 k) Zd)) (by kernel_rfl) (by kernel_rfl) (ZUP k)
noncomputable abbrev ZXO:Nat × Callee:=(55,mk ZmO ZE Zu1)
end Go.Sh
