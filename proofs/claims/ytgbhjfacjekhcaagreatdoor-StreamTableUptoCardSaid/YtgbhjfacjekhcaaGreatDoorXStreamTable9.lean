/-
  What the row needs, part 9.
-/
import Derived.Test.YtgbhjfacjekhcaaGreatDoorXStreamTable8
import Derived.Test.YtgbhjfacjekhcaaGreatDoorProg
set_option linter.unusedSimpArgs false
set_option linter.unusedVariables false
set_option linter.unusedSectionVars false
namespace Go.Sh
open Go Go.Proofs
def deBruijnT:List Int:=[0,1,56,2,57,49,28,3,61,58,42,50,38,29,17,4,62,47,59,36,45,43,51,22,53,39,33,30,24,18,12,5,63,55,48,27,60,41,37,16,46,35,44,21,52,32,23,11,54,26,40,15,34,20,31,10,25,14,19,9,13,8,7,6]
instance frameGl:Gl:=⟨fun g => bif Nat.beq g 4 then (.u8,deBruijnT) else (.u8,[])⟩
abbrev Znu:Ty:=.pair (.int .i64) (.pair (.int .i64) (.pair (.int .i64) .unit))
abbrev Zm6:Ty:=.pair (.int .i64) (.pair (.sl (.sl (.int .i64))) .unit)
abbrev ZiZ:Ty:=.pair (.sl (.int .i64)) (.pair (.int .i64) .unit)
abbrev Zy0:Ty:=.pair (.int .i64) (.pair (.int .i64) (.pair (.int .i64) (.pair (.sl (.int .i64)) (.pair ZiZ (.pair (.sl (.int .i64)) (.pair (.int .i64) .unit))))))
abbrev ZO6:Ty:=.pair (.int .i64) (.pair (.int .i64) (.pair (.int .i64) .unit))
abbrev ZWw:Ty:=.pair (.int .i64) (.pair (.int .i64) (.pair (.sl ZO6) (.pair (.int .i64) .unit)))
theorem Zi4:Tryz.prog.follows .mixedOrders = true:=by kernel_rfl
abbrev Zl (v:Int):AV:=AV.val (PV.v (Value.int IntKind.i64 v))
abbrev Ym (v:List Int):AV:=AV.val (PV.sl (Ty.int IntKind.i64) v)
abbrev avB (v:Bool):AV:=AV.val (PV.v (Value.bool v))
noncomputable abbrev Q7 (f:Func):Code:=f.body.getD .skip
noncomputable def Wf (k:Nat) (l:List (Nat × Callee)) (live:Nat → List Nat:=fun _ => []):Ctx:={ P:=Tryz.prog,Φ:=phi l,k:=k,live:=live }
def nA:Nat → Ann:=fun _ => ⟨[],[]⟩
noncomputable abbrev ZB (C:Ctx) (A:Nat → Ann) (fn:Func) (pk:List Kd) (rk:Kd) (x:Kd.dens pk):=ZEX C A fn.ntmps (Q7 fn) fn.results.toList pk rk (Wx pk x) (ZKz pk rk)
noncomputable abbrev Wd (C:Ctx) (fn:Func) (pk:List Kd) (rk:Kd) (a:List AV) (b:List (List Nat)):=Kw C fn.results.toList pk a b rk (ZKz pk rk)
noncomputable def ZXS (fn:Func):Bool:=fn.body.isSome && (!(fn.name == "runtime.NumGoroutine") && Yb Tryz.prog fn.ntmps (Q7 fn))
abbrev QQ (l:List AV):RS:=RS.live (Res.box l)
abbrev rsA (v:List Int) (b:Bool):RS:=RS.live (Res.arr (Ty.int IntKind.i64) v b)
theorem ZC {l:List (Nat × Callee)} {live:Nat → List Nat} {A:Nat → Ann} {f k:Nat} {fn:Func} {pk:List Kd} {rk:Kd} {F:Nat → Kd.dens pk → Option (Ans pk rk)} (hC:∀ f cal,phi l f = some cal → Ctr Tryz.prog k f cal)
  (hf:Tryz.prog.funcs[f]? = some fn) (hq:ZXS fn = true)
  (h:∀ x,ZB (Wf k l live) A fn pk rk x = F k x):Ctr Tryz.prog k f (mk pk rk F) :=
 have hq1:(fn.body.isSome && (!(fn.name == "runtime.NumGoroutine") && Yb Tryz.prog fn.ntmps (Q7 fn))) = true:=hq
 have hq2:=Bool.and_eq_true_iff.1 hq1
 have hq3:=Bool.and_eq_true_iff.1 hq2.2
 have hb:fn.body = some (Q7 fn):=by
  cases e:fn.body with
  | none => rw [e] at hq2; exact absurd hq2.1 (by simp)
  | some c => show some c = some (fn.body.getD .skip); rw [e]; rfl
 ZSA (C:=Wf k l live) hC Zi4 hf hb (by simpa using hq3.1) hq3.2 (fun x y e => (h x).trans e)
abbrev Zw1:List Kd:=[.view Znu]
abbrev Zi:Kd:=.view (.int .i64)
noncomputable def Z4 (k:Nat):=Wf k []
def Zcy (k:Nat):(Int × Int × Int × Unit) × Unit → Option (Int × Unit)
 | ((a0,a1,a2,()),()) => bif decide (a0 < 1) then some (2,()) else bif decide ((2:Int) < a0) then some (2,()) else bif decide (a1 < 4) then some (2,()) else bif decide ((24:Int) < a1) then some (2,()) else bif decide (a2 < 1) then some (2,()) else bif decide ((655350:Int) < a2) then some (2,()) else some (0,())
def ZjM (k:Nat):=Zcy k
theorem ZUl (k:Nat) (x:Kd.dens Zw1):ZB (Z4 k) nA Tryz.f36 Zw1 Zi x = ZjM k x:=by
 show _ = Zcy k x
 obtain ⟨⟨a0,⟨a1,⟨a2,⟨⟩⟩⟩⟩,⟨⟩⟩:=x
 kernel_rfl
theorem ZoD (k:Nat):Ctr Tryz.prog k 36 (mk Zw1 Zi ZjM) :=
 ZC (fn:=Tryz.f36) (Zg Zd) (by kernel_rfl) (by kernel_rfl) (ZUl k)
noncomputable abbrev ZFu:Nat × Callee:=(36,mk Zw1 Zi ZjM)
abbrev YY:List Kd:=[.view Znu,.view Zm6]
noncomputable def Zsb (k:Nat):=Wf k [ZFu]
def ZFX:Nat → Ann:=fun id => bif Nat.beq id 17 then ⟨[68,69,67,2,63,62,61],[]⟩ else bif Nat.beq id 14 then ⟨[62,63,61,2],[]⟩ else bif Nat.beq id 8 then ⟨[42,43,41,6,3,2],[]⟩ else ⟨[],[]⟩
abbrev ZEb:=Int × Int × List Int × Int × Int × List (List Int) × Int × Int × Int
abbrev ZxF:=ZEb → Option (Int × Unit)
abbrev ZEa:=Int × Int × List (List Int) × Int × Int × Int
abbrev ZmX:=ZEa → Option (Int × Unit)
abbrev ZD9:=Int × Int × List (List Int) × Int × Int × List (List Int) × Int × Int × Int
abbrev ZxE:=ZD9 → Option (Int × Unit)
def ZVd:ZEb → St
 | (v0,v1,v2,v3,v4,v5,v6,v7,v8) => St.mk (Zw [(68,Zl v0),(69,Zl v1),(67,Ym v2),(2,AV.bx 8192 0),(63,Zl v3),(62,Zl v4),(61,AV.val (PV.sl (Ty.int IntKind.i64).sl v5))]) (Zv [(8192,QQ [Zl v6,Zl v7,Zl v8])])
def Zc5 (k:Nat) (L2:ZmX) (L3:ZxF):ZxF
 | (v0,v1,v2,v3,v4,v5,v6,v7,v8) => bif decide (v1 < v0) then bif decide (0 ≤ v1 ∧ v1 < Int.ofNat v2.length) then bif decide (0 ≤ IntKind.i64.wrap (v7 - 1)) then bif Int.fdiv (v2.getD v1.toNat 0) ((2:Int) ^ min (IntKind.i64.wrap (v7 - 1)).toNat 64) != (0:Int) then bif Int.fdiv (v2.getD v1.toNat 0) ((2:Int) ^ min (IntKind.i64.wrap (v7 - 1)).toNat 64) != (-1:Int) then some (12,()) else L3 (v0,IntKind.i64.wrap (v1 + 1),v2,v3,v4,v5,v6,v7,v8) else L3 (v0,IntKind.i64.wrap (v1 + 1),v2,v3,v4,v5,v6,v7,v8) else none else none else L2 (v4,IntKind.i64.wrap (v3 + 1),v5,v6,v7,v8)
def Zsd (k:Nat) (L2:ZmX):ZxF:=Zm (fun L3 => Zc5 k L2 L3) k
noncomputable def Zpo (k:Nat) (n2:Nat) (n:Nat) (v:ZEb):Option (Int × Unit) :=
 Zr (Zsb k) ZFX [] [1,1,1,1,1,0,1,0,0,1,1,0,0,1,1,0] [n2] (Q7 Tryz.f64) (Wd (Zsb k) Tryz.f64 YY Zi [] []) n (ZVd v)
def ZVc:ZEa → St
 | (v0,v1,v2,v3,v4,v5) => St.mk (Zw [(62,Zl v0),(63,Zl v1),(61,AV.val (PV.sl (Ty.int IntKind.i64).sl v2)),(2,AV.bx 8192 0)]) (Zv [(8192,QQ [Zl v3,Zl v4,Zl v5])])
def Zc4 (k:Nat) (L3:ZxF) (L2:ZmX):ZmX
 | (v0,v1,v2,v3,v4,v5) => bif decide (v1 < v0) then bif decide (0 ≤ v1 ∧ v1 < Int.ofNat v2.length) then L3 (Int.ofNat (List.length (v2.getD v1.toNat [])),(0:Int),v2.getD v1.toNat [],v1,v0,v2,v3,v4,v5) else none else some (0,())
def Zfy (k:Nat):ZmX:=Zm (fun L2 => Zc4 k (Zsd k L2) L2) k
noncomputable def ZkR (k:Nat) (n:Nat) (v:ZEa) :=
 Zr (Zsb k) ZFX [] [1,1,1,1,1,0,1,0] [] (Q7 Tryz.f64) (Wd (Zsb k) Tryz.f64 YY Zi [] []) n (ZVc v)
def ZVb:ZD9 → St
 | (v0,v1,v2,v3,v4,v5,v6,v7,v8) => St.mk (Zw [(42,Zl v0),(43,Zl v1),(41,AV.val (PV.sl (Ty.int IntKind.i64).sl v2)),(6,Zl v3),(3,AV.bx 8192 0),(2,AV.bx 8193 0)]) (Zv [(8192,QQ [Zl v4,AV.val (PV.sl (Ty.int IntKind.i64).sl v5)]),(8193,QQ [Zl v6,Zl v7,Zl v8])])
def Zc3 (k:Nat) (L2:ZmX) (L1:ZxE):ZxE
 | (v0,v1,v2,v3,v4,v5,v6,v7,v8) => bif decide (v1 < v0) then bif decide (0 ≤ v1 ∧ v1 < Int.ofNat v2.length) then bif Int.ofNat (List.length (v2.getD v1.toNat [])) != v3 then some (1,()) else bif decide (v3 < 1) then some (1,()) else bif decide ((512:Int) < v3) then some (1,()) else L1 (v0,IntKind.i64.wrap (v1 + 1),v2,v3,v4,v5,v6,v7,v8) else none else L2 (Int.ofNat v5.length,(0:Int),v5,v6,v7,v8)
def Zsc (k:Nat):ZxE:=Zm (fun L1 => Zc3 k (Zfy k) L1) k
noncomputable def ZFY (k:Nat) (n:Nat) (v:ZD9) :=
 Zr (Zsb k) ZFX [] [1,1,1,1,0,1,0] [] (Q7 Tryz.f64) (Wd (Zsb k) Tryz.f64 YY Zi [] []) n (ZVb v)
def ZkS (k:Nat) (L1:ZxE):(Int × Int × Int × Unit) × (Int × List (List Int) × Unit) × Unit → Option (Int × Unit)
 | ((a0,a1,a2,()),(a3,a4,()),()) => (ZjM k ((a0,a1,a2,()),())).bind fun y => bif y.1 != 0 then some (y.1,()) else bif decide (a3 < 0) then some (1,()) else bif decide ((2147483647:Int) < a3) then some (1,()) else bif Int.ofNat a4.length != a0 then some (1,()) else bif decide ((0:Int) ≤ 0 ∧ (0:Int) < Int.ofNat a4.length) then L1 (Int.ofNat a4.length,(0:Int),a4,Int.ofNat (List.length (a4.getD 0 [])),a3,a4,a0,a1,a2) else none
def Zh9 (k:Nat):=ZkS k (Zsc k)
theorem ZNt (k:Nat) (n2:Nat):∀ n,Zpo k n2 n = Zm (fun L3 => Zc5 k (ZkR k n2) L3) n :=
 Zh (fun v => by kernel_rfl) (fun n v => by
  show Zpo k n2 (n + 1) v = Zc5 k (ZkR k n2) (Zpo k n2 n) v
  obtain ⟨v0,v1,v2,v3,v4,v5,v6,v7,v8⟩:=v
  kernel_rfl)
theorem ZNs (k:Nat):∀ n,ZkR k n = Zm (fun L2 => Zc4 k (Zsd k L2) L2) n :=
 Zh (fun v => by kernel_rfl) (fun n v => by
  rw [show (Zsd k (ZkR k n)) = Zpo k n k from (ZNt k n k).symm]
  obtain ⟨v0,v1,v2,v3,v4,v5⟩:=v
  kernel_rfl)
theorem ZNr (k:Nat):∀ n,ZFY k n = Zm (fun L1 => Zc3 k (Zfy k) L1) n :=
 Zh (fun v => by kernel_rfl) (fun n v => by
  rw [show (Zfy k) = ZkR k k from (ZNs k k).symm]
  obtain ⟨v0,v1,v2,v3,v4,v5,v6,v7,v8⟩:=v
  kernel_rfl)
theorem ZVe (k:Nat) (x:Kd.dens YY):ZB (Zsb k) ZFX Tryz.f64 YY Zi x = Zh9 k x:=by
 show _ = ZkS k (Zsc k) x
 rw [show Zsc k = ZFY k k from (ZNr k k).symm]
 obtain ⟨⟨a0,⟨a1,⟨a2,⟨⟩⟩⟩⟩,⟨⟨a3,⟨a4,⟨⟩⟩⟩,⟨⟩⟩⟩:=x
 kernel_rfl
theorem ZFZ (k:Nat):Ctr Tryz.prog k 64 (mk YY Zi Zh9) :=
 ZC (fn:=Tryz.f64) (Zg (Za (ZoD k) Zd)) (by kernel_rfl) (by kernel_rfl) (ZVe k)
noncomputable abbrev ZTg:Nat × Callee:=(64,mk YY Zi Zh9)
abbrev Zci:List Kd:=[.view (.sl (.int .i64)),.view (.sl (.int .i64))]
abbrev ZfE:Kd:=.tup [.view (.sl (.cx .f64)),.view (.int .i64)]
def ZTr:Nat → Ann:=fun id => bif Nat.beq id 7 then ⟨[21,22,20,1,6],[.slot 6 ((Ty.cx FloatKind.f64))]⟩ else ⟨[],[]⟩
abbrev ZEj:=Int × Int × List Int × List Int × List (Nat × Nat)
abbrev ZxX:=ZEj → Option ((List (Nat × Nat) × Int × Unit) × Unit)
def ZVE:ZEj → St
 | (v0,v1,v2,v3,v4) => St.mk (Zw [(21,Zl v0),(22,Zl v1),(20,Ym v2),(1,Ym v3),(6,AV.own 8192)]) (Zv [(8192,RS.live (Res.arr (Ty.cx FloatKind.f64) v4 false))])
def K9 (k:Nat) (L1:ZxX):ZxX
 | (v0,v1,v2,v3,v4) => bif decide (v1 < v0) then bif decide (0 ≤ v1 ∧ v1 < Int.ofNat v2.length) then bif decide (0 ≤ v1 ∧ v1 < Int.ofNat v3.length) then bif decide (v2.getD v1.toNat 0 < (-16777216:Int)) then some (([],12,()),()) else bif decide ((16777216:Int) < v2.getD v1.toNat 0) then some (([],12,()),()) else bif decide (v3.getD v1.toNat 0 < (-16777216:Int)) then some (([],12,()),()) else bif decide ((16777216:Int) < v3.getD v1.toNat 0) then some (([],12,()),()) else bif decide (v4.length + [(FloatKind.f64.nearest (v2.getD v1.toNat 0),FloatKind.f64.nearest (v3.getD v1.toNat 0))].length < 2147483648) then L1 (v0,IntKind.i64.wrap (v1 + 1),v2,v3,v4 ++ [(FloatKind.f64.nearest (v2.getD v1.toNat 0),FloatKind.f64.nearest (v3.getD v1.toNat 0))]) else none else none else none else some ((v4,0,()),())
def Zsm (k:Nat):ZxX:=Zm (fun L1 => K9 k L1) k
noncomputable def ZGe (k:Nat) (n:Nat) (v:ZEj) :=
 Zr (Z4 k) ZTr [] [1,1,1,0,1,0] [] (Q7 Tryz.f129) (Wd (Z4 k) Tryz.f129 Zci ZfE [] []) n (ZVE v)
def Zc7 (k:Nat) (L1:ZxX):List Int × List Int × Unit → Option ((List (Nat × Nat) × Int × Unit) × Unit)
 | (a0,a1,()) => bif Int.ofNat a0.length != Int.ofNat a1.length then some (([],1,()),()) else bif decide ((8192:Int) < Int.ofNat a0.length) then some (([],14,()),()) else L1 (Int.ofNat a0.length,(0:Int),a0,a1,[])
def Zsl (k:Nat):=Zc7 k (Zsm k)
theorem ZNO (k:Nat):∀ n,ZGe k n = Zm (fun L1 => K9 k L1) n :=
 Zh (fun v => by kernel_rfl) (fun n v => by
  obtain ⟨v0,v1,v2,v3,v4⟩:=v
  kernel_rfl)
theorem ZVF (k:Nat) (x:Kd.dens Zci):ZB (Z4 k) ZTr Tryz.f129 Zci ZfE x = Zsl k x:=by
 show _ = Zc7 k (Zsm k) x
 rw [show Zsm k = ZGe k k from (ZNO k k).symm]
 obtain ⟨a0,⟨a1,⟨⟩⟩⟩:=x
 kernel_rfl
theorem ZGf (k:Nat):Ctr Tryz.prog k 129 (mk Zci ZfE Zsl) :=
 ZC (fn:=Tryz.f129) (Zg Zd) (by kernel_rfl) (by kernel_rfl) (ZVF k)
noncomputable abbrev ZTs:Nat × Callee:=(129,mk Zci ZfE Zsl)
abbrev ZA:List Kd:=[.view (.int .i64)]
abbrev ZE:Kd:=.view .bool
def ZA9 (k:Nat):Int × Unit → Option (Bool × Unit)
 | (a0,()) => bif a0 == 0 then some (true,()) else bif decide (8 ≤ a0) then some (decide (a0 ≤ 10),()) else some (false,())
def Zvx (k:Nat):=ZA9 k
theorem ZWd (k:Nat) (x:Kd.dens ZA):ZB (Z4 k) nA Tryz.f128 ZA ZE x = Zvx k x:=by
 show _ = ZA9 k x
 obtain ⟨a0,⟨⟩⟩:=x
 kernel_rfl
theorem ZGy (k:Nat):Ctr Tryz.prog k 128 (mk ZA ZE Zvx) :=
 ZC (fn:=Tryz.f128) (Zg Zd) (by kernel_rfl) (by kernel_rfl) (ZWd k)
noncomputable abbrev ZTI:Nat × Callee:=(128,mk ZA ZE Zvx)
abbrev Qu:List Kd:=[.view (.fl .f64)]
abbrev QW:Kd:=.view (.fl .f64)
def Zg5 (k:Nat):Nat × Unit → Option (Nat × Unit)
 | (a0,()) => some ((IntKind.u64.wrap (Int.ofNat (BitVec.ofInt 64 (Int.ofNat a0) &&& ~~~BitVec.ofInt 64 (9223372036854775808:Int)).toNat)).toNat,())
def Zfa (k:Nat):=Zg5 k
theorem ZQF (k:Nat) (x:Kd.dens Qu):ZB (Z4 k) nA Tryz.f225 Qu QW x = Zfa k x:=by
 show _ = Zg5 k x
 obtain ⟨a0,⟨⟩⟩:=x
 kernel_rfl
theorem Zqs (k:Nat):Ctr Tryz.prog k 225 (mk Qu QW Zfa) :=
 ZC (fn:=Tryz.f225) (Zg Zd) (by kernel_rfl) (by kernel_rfl) (ZQF k)
noncomputable abbrev ZC1:Nat × Callee:=(225,mk Qu QW Zfa)
abbrev Zo9:List Kd:=[.view (.fl .f64),.view (.fl .f64)]
def ZuU (k:Nat):Nat × Nat × Unit → Option (Nat × Unit)
 | (a0,a1,()) => some ((IntKind.u64.wrap (Int.ofNat (BitVec.ofInt 64 (IntKind.u64.wrap (Int.ofNat (BitVec.ofInt 64 (Int.ofNat a0) &&& ~~~BitVec.ofInt 64 (9223372036854775808:Int)).toNat)) ||| BitVec.ofInt 64 (IntKind.u64.wrap (Int.ofNat (BitVec.ofInt 64 (Int.ofNat a1) &&& BitVec.ofInt 64 (9223372036854775808:Int)).toNat))).toNat)).toNat,())
def ZqW (k:Nat):=ZuU k
theorem ZRj (k:Nat) (x:Kd.dens Zo9):ZB (Z4 k) nA Tryz.f269 Zo9 QW x = ZqW k x:=by
 show _ = ZuU k x
 obtain ⟨a0,⟨a1,⟨⟩⟩⟩:=x
 kernel_rfl
theorem ZAv (k:Nat):Ctr Tryz.prog k 269 (mk Zo9 QW ZqW) :=
 ZC (fn:=Tryz.f269) (Zg Zd) (by kernel_rfl) (by kernel_rfl) (ZRj k)
noncomputable abbrev ZMc:Nat × Callee:=(269,mk Zo9 QW ZqW)
noncomputable def ZUP (k:Nat):=Wf k [ZC1,ZMc]
def ZuP (k:Nat):Nat × Unit → Option (Nat × Unit)
 | (a0,()) => (Zfa k (a0,())).bind fun y => bif FloatKind.f64.format.order y.1 (4607182418800017408:Nat) == some Ordering.lt then (ZqW k (0,a0,())).bind fun y => some (y.1,()) else bif decide (IntKind.u64.wrap (IntKind.u64.wrap (Int.ofNat (BitVec.ofInt 64 ((Int.ofNat a0).fdiv (4503599627370496:Int)) &&& BitVec.ofInt 64 (2047:Int)).toNat) - 1023) < (52:Int)) then bif decide (0 ≤ IntKind.u64.wrap ((52:Int) - IntKind.u64.wrap (IntKind.u64.wrap (Int.ofNat (BitVec.ofInt 64 ((Int.ofNat a0).fdiv (4503599627370496:Int)) &&& BitVec.ofInt 64 (2047:Int)).toNat) - 1023))) then some ((IntKind.u64.wrap (Int.ofNat (BitVec.ofInt 64 (Int.ofNat a0) &&& ~~~BitVec.ofInt 64 (IntKind.u64.wrap (IntKind.u64.wrap ((1:Int) * (2:Int) ^ min (IntKind.u64.wrap ((52:Int) - IntKind.u64.wrap (IntKind.u64.wrap (Int.ofNat (BitVec.ofInt 64 ((Int.ofNat a0).fdiv (4503599627370496:Int)) &&& BitVec.ofInt 64 (2047:Int)).toNat) - 1023))).toNat 64) - (1:Int)))).toNat)).toNat,()) else none else some ((Int.ofNat a0).toNat,())
def ZDh (k:Nat):=ZuP k
theorem ZQ8 (k:Nat) (x:Kd.dens Qu):ZB (ZUP k) nA Tryz.f259 Qu QW x = ZDh k x:=by
 show _ = ZuP k x
 obtain ⟨a0,⟨⟩⟩:=x
 kernel_rfl
theorem ZLX (k:Nat):Ctr Tryz.prog k 259 (mk Qu QW ZDh) :=
 ZC (fn:=Tryz.f259) (Zg (Za (Zqs k) (Za (ZAv k) Zd))) (by kernel_rfl) (by kernel_rfl) (ZQ8 k)
noncomputable abbrev ZUQ:Nat × Callee:=(259,mk Qu QW ZDh)
noncomputable def ZUs (k:Nat):=Wf k [ZUQ]
def Zg3 (k:Nat):Nat × Unit → Option (Nat × Unit)
 | (a0,()) => (WN Ieee.Toward.zero a0).bind fun y => some (y,())
def Ze9 (k:Nat):=Zg3 k
theorem ZQD (k:Nat) (x:Kd.dens Qu):ZB (ZUs k) nA Tryz.f223 Qu QW x = Ze9 k x:=by
 show _ = Zg3 k x
 obtain ⟨a0,⟨⟩⟩:=x
 kernel_rfl
theorem Zz4 (k:Nat):Ctr Tryz.prog k 223 (mk Qu QW Ze9) :=
 ZC (fn:=Tryz.f223) (Zg (Za (ZLX k) Zd)) (by kernel_rfl) (by kernel_rfl) (ZQD k)
noncomputable abbrev ZLp:Nat × Callee:=(223,mk Qu QW Ze9)
abbrev ZoT:List Kd:=[.view (.fl .f64),.view (.int .i64)]
noncomputable def ZUt (k:Nat):=Wf k [ZC1]
def Zg4 (k:Nat):Nat × Int × Unit → Option (Bool × Unit)
 | (a0,a1,()) => bif a1 == 0 then (Zfa k (a0,())).bind fun y => some (FloatKind.f64.format.order y.1 (9218868437227405311:Nat) == some Ordering.gt,()) else bif decide (a1 < 0) then some (FloatKind.f64.format.order (a0 ^^^ (9223372036854775808:Nat)) (9218868437227405311:Nat) == some Ordering.gt,()) else some (FloatKind.f64.format.order a0 (9218868437227405311:Nat) == some Ordering.gt,())
def ZmB (k:Nat):=Zg4 k
theorem ZQE (k:Nat) (x:Kd.dens ZoT):ZB (ZUt k) nA Tryz.f224 ZoT ZE x = ZmB k x:=by
 show _ = Zg4 k x
 obtain ⟨a0,⟨a1,⟨⟩⟩⟩:=x
 kernel_rfl
theorem Zz6 (k:Nat):Ctr Tryz.prog k 224 (mk ZoT ZE ZmB) :=
 ZC (fn:=Tryz.f224) (Zg (Za (Zqs k) Zd)) (by kernel_rfl) (by kernel_rfl) (ZQE k)
noncomputable abbrev ZLq:Nat × Callee:=(224,mk ZoT ZE ZmB)
abbrev WU:List Kd:=[.view (.sl (.cx .f64))]
noncomputable def ZiC (k:Nat):=Wf k [ZLp,ZLq,ZC1]
def ZwI:Nat → Ann:=fun id => bif Nat.beq id 14 then ⟨[37,38,36],[]⟩ else bif Nat.beq id 7 then ⟨[23,22,14,13,12,0],[]⟩ else bif Nat.beq id 4 then ⟨[13,14,12,0],[]⟩ else ⟨[],[]⟩
abbrev ZwK:=Int × Nat × Nat × Int × Int × List (Nat × Nat) × List (Nat × Nat)
abbrev Zok:=ZwK → Option (Int × Unit)
abbrev ZwL:=Int × Int × List (Nat × Nat)
abbrev Zol:=ZwL → Option (Int × Unit)
abbrev ZwJ:=Int × Int × List (Nat × Nat) × List (Nat × Nat)
abbrev Zgx:=ZwJ → Option (Int × Unit)
def ZPP:ZwK → St
 | (v0,v1,v2,v3,v4,v5,v6) => St.mk (Zw [(23,Zl v0),(22,AV.agg [AV.val (PV.v (Value.float FloatKind.f64 v1)),AV.val (PV.v (Value.float FloatKind.f64 v2))]),(14,Zl v3),(13,Zl v4),(12,AV.val (PV.sl (Ty.cx FloatKind.f64) v5)),(0,AV.val (PV.sl (Ty.cx FloatKind.f64) v6))]) (Zv [])
def Kl (k:Nat) (L1:Zgx) (L2:Zok):Zok
 | (v0,v1,v2,v3,v4,v5,v6) => bif decide (v0 < 2) then bif decide (0 ≤ v0 ∧ v0 < 2) then (Ze9 k ([v1,v2].getD v0.toNat 0,())).bind fun y => bif FloatKind.f64.format.order y.1 ([v1,v2].getD v0.toNat 0) != some Ordering.eq then some (2,()) else (ZmB k ([v1,v2].getD v0.toNat 0,0,())).bind fun y => bif y.1 then some (2,()) else L2 (IntKind.i64.wrap (v0 + 1),v1,v2,v3,v4,v5,v6) else none else L1 (v4,IntKind.i64.wrap (v3 + 1),v5,v6)
def ZjB (k:Nat) (L1:Zgx):Zok:=Zm (fun L2 => Kl k L1 L2) k
noncomputable def ZjD (k:Nat) (n1:Nat) (n:Nat) (v:ZwK):Option (Int × Unit) :=
 Zr (ZiC k) ZwI [] [1,1,0,1,0,0,1,1,0,0,1,1,0] [n1] (Q7 Tryz.f174) (Wd (ZiC k) Tryz.f174 WU Zi [] []) n (ZPP v)
def ZPQ:ZwL → St
 | (v0,v1,v2) => St.mk (Zw [(37,Zl v0),(38,Zl v1),(36,AV.val (PV.sl (Ty.cx FloatKind.f64) v2))]) (Zv [])
def Zct (k:Nat) (L3:Zol):Zol
 | (v0,v1,v2) => bif decide (v1 < v0) then bif decide (0 ≤ v1 ∧ v1 < Int.ofNat v2.length) then (Zfa k ((v2.getD v1.toNat ((0:Nat),(0:Nat))).1,())).bind fun y => (Zfa k ((v2.getD v1.toNat ((0:Nat),(0:Nat))).2,())).bind fun y_1 => (ZBu FloatKind.f64 y.1 y_1.1).bind fun y => bif FloatKind.f64.format.order y (4715268809856909312:Nat) == some Ordering.gt then some (12,()) else L3 (v0,IntKind.i64.wrap (v1 + 1),v2) else none else some (0,())
def ZjC (k:Nat):Zol:=Zm (fun L3 => Zct k L3) k
noncomputable def ZzF (k:Nat) (n:Nat) (v:ZwL) :=
 Zr (ZiC k) ZwI [] [1,1,1,0,1,0] [] (Q7 Tryz.f174) (Wd (ZiC k) Tryz.f174 WU Zi [] []) n (ZPQ v)
def ZPO:ZwJ → St
 | (v0,v1,v2,v3) => St.mk (Zw [(13,Zl v0),(14,Zl v1),(12,AV.val (PV.sl (Ty.cx FloatKind.f64) v2)),(0,AV.val (PV.sl (Ty.cx FloatKind.f64) v3))]) (Zv [])
def Zcs (k:Nat) (L2:Zok) (L3:Zol) (L1:Zgx):Zgx
 | (v0,v1,v2,v3) => bif decide (v1 < v0) then bif decide (0 ≤ v1 ∧ v1 < Int.ofNat v2.length) then L2 (0,(v2.getD v1.toNat ((0:Nat),(0:Nat))).1,(v2.getD v1.toNat ((0:Nat),(0:Nat))).2,v1,v0,v2,v3) else none else L3 (Int.ofNat v3.length,(0:Int),v3)
def Zom (k:Nat):Zgx:=Zm (fun L1 => Zcs k (ZjB k L1) (ZjC k) L1) k
noncomputable def Ze1 (k:Nat) (n:Nat) (v:ZwJ) :=
 Zr (ZiC k) ZwI [] [1,1,0,1,0] [] (Q7 Tryz.f174) (Wd (ZiC k) Tryz.f174 WU Zi [] []) n (ZPO v)
def Zgy (k:Nat) (L1:Zgx):List (Nat × Nat) × Unit → Option (Int × Unit)
 | (a0,()) => bif decide ((8192:Int) < Int.ofNat a0.length) then some (14,()) else L1 (Int.ofNat a0.length,(0:Int),a0,a0)
def Zqf (k:Nat):=Zgy k (Zom k)
theorem ZHv (k:Nat) (n1:Nat):∀ n,ZjD k n1 n = Zm (fun L2 => Kl k (Ze1 k n1) L2) n :=
 Zh (fun v => by kernel_rfl) (fun n v => by
  show ZjD k n1 (n + 1) v = Kl k (Ze1 k n1) (ZjD k n1 n) v
  obtain ⟨v0,v1,v2,v3,v4,v5,v6⟩:=v
  kernel_rfl)
theorem ZHw (k:Nat):∀ n,ZzF k n = Zm (fun L3 => Zct k L3) n :=
 Zh (fun v => by kernel_rfl) (fun n v => by
  obtain ⟨v0,v1,v2⟩:=v
  kernel_rfl)
theorem ZHu (k:Nat):∀ n,Ze1 k n = Zm (fun L1 => Zcs k (ZjB k L1) (ZjC k) L1) n :=
 Zh (fun v => by kernel_rfl) (fun n v => by
  rw [show (ZjB k (Ze1 k n)) = ZjD k n k from (ZHv k n k).symm,show (ZjC k) = ZzF k k from (ZHw k k).symm]
  obtain ⟨v0,v1,v2,v3⟩:=v
  kernel_rfl)
theorem ZPR (k:Nat) (x:Kd.dens WU):ZB (ZiC k) ZwI Tryz.f174 WU Zi x = Zqf k x:=by
 show _ = Zgy k (Zom k) x
 rw [show Zom k = Ze1 k k from (ZHu k k).symm]
 obtain ⟨a0,⟨⟩⟩:=x
 kernel_rfl
theorem ZKG (k:Nat):Ctr Tryz.prog k 174 (mk WU Zi Zqf) :=
 ZC (fn:=Tryz.f174) (Zg (Za (Zz4 k) (Za (Zz6 k) (Za (Zqs k) Zd)))) (by kernel_rfl) (by kernel_rfl) (ZPR k)
noncomputable abbrev ZT5:Nat × Callee:=(174,mk WU Zi Zqf)
abbrev Zon:List Kd:=[.view (.cx .f64)]
def Zgz (k:Nat):(Nat × Nat) × Unit → Option (Nat × Unit)
 | (a0,()) => (cMulBits a0.1 a0.2 (4607182418800017408:Nat) (4607182418800017408:Nat)).bind fun y => some (y.1,())
def ZiD (k:Nat):=Zgz k
theorem ZPS (k:Nat) (x:Kd.dens Zon):ZB (Z4 k) nA Tryz.f175 Zon QW x = ZiD k x:=by
 show _ = Zgz k x
 obtain ⟨a0,⟨⟩⟩:=x
 kernel_rfl
theorem ZKH (k:Nat):Ctr Tryz.prog k 175 (mk Zon QW ZiD) :=
 ZC (fn:=Tryz.f175) (Zg Zd) (by kernel_rfl) (by kernel_rfl) (ZPS k)
noncomputable abbrev ZT6:Nat × Callee:=(175,mk Zon QW ZiD)
def ZuQ (k:Nat):Nat × Unit → Option (Bool × Unit)
 | (a0,()) => some (FloatKind.f64.format.order a0 a0 != some Ordering.eq,())
def Zxj (k:Nat):=ZuQ k
theorem ZQ9 (k:Nat) (x:Kd.dens Qu):ZB (Z4 k) nA Tryz.f262 Qu ZE x = Zxj k x:=by
 show _ = ZuQ k x
 obtain ⟨a0,⟨⟩⟩:=x
 kernel_rfl
theorem ZLY (k:Nat):Ctr Tryz.prog k 262 (mk Qu ZE Zxj) :=
 ZC (fn:=Tryz.f262) (Zg Zd) (by kernel_rfl) (by kernel_rfl) (ZQ9 k)
noncomputable abbrev ZUR:Nat × Callee:=(262,mk Qu ZE Zxj)
abbrev Zxk:Kd:=.tup [.view (.fl .f64),.view (.fl .f64)]
noncomputable def ZUS (k:Nat):=Wf k [ZLp,ZMc]
def ZuR (k:Nat):Nat × Unit → Option ((Nat × Nat × Unit) × Unit)
 | (a0,()) => (Ze9 k (a0,())).bind fun y => (floatBits BinOp.sub FloatKind.f64 a0 y.1).bind fun y_1 => (ZqW k (y_1,a0,())).bind fun y_2 => some ((y.1,y_2.1,()),())
def ZqO (k:Nat):=ZuR k
theorem ZRa (k:Nat) (x:Kd.dens Qu):ZB (ZUS k) nA Tryz.f263 Qu Zxk x = ZqO k x:=by
 show _ = ZuR k x
 obtain ⟨a0,⟨⟩⟩:=x
 kernel_rfl
theorem ZLZ (k:Nat):Ctr Tryz.prog k 263 (mk Qu Zxk ZqO) :=
 ZC (fn:=Tryz.f263) (Zg (Za (Zz4 k) (Za (ZAv k) Zd))) (by kernel_rfl) (by kernel_rfl) (ZRa k)
noncomputable abbrev ZUT:Nat × Callee:=(263,mk Qu Zxk ZqO)
noncomputable def ZUu (k:Nat):=Wf k [ZLq,ZUR,ZUT]
def ZuB (k:Nat):Nat × Unit → Option (Nat × Unit)
 | (a0,()) => bif FloatKind.f64.format.order a0 (0:Nat) == some Ordering.eq then some (a0,()) else (Zxj k (a0,())).bind fun y => bif y.1 then some (a0,()) else (ZmB k (a0,0,())).bind fun y => bif y.1 then some (a0,()) else bif FloatKind.f64.format.order a0 (0:Nat) == some Ordering.lt then (ZqO k (a0 ^^^ (9223372036854775808:Nat),())).bind fun y => bif FloatKind.f64.format.order y.1.2.1 (0:Nat) != some Ordering.eq then (floatBits BinOp.add FloatKind.f64 y.1.1 (4607182418800017408:Nat)).bind fun y => some (y ^^^ (9223372036854775808:Nat),()) else some (y.1.1 ^^^ (9223372036854775808:Nat),()) else (ZqO k (a0,())).bind fun y => some (y.1.1,())
def ZC2 (k:Nat):=ZuB k
theorem ZQG (k:Nat) (x:Kd.dens Qu):ZB (ZUu k) nA Tryz.f227 Qu QW x = ZC2 k x:=by
 show _ = ZuB k x
 obtain ⟨a0,⟨⟩⟩:=x
 kernel_rfl
theorem ZLr (k:Nat):Ctr Tryz.prog k 227 (mk Qu QW ZC2) :=
 ZC (fn:=Tryz.f227) (Zg (Za (Zz6 k) (Za (ZLY k) (Za (ZLZ k) Zd)))) (by kernel_rfl) (by kernel_rfl) (ZQG k)
noncomputable abbrev ZUv:Nat × Callee:=(227,mk Qu QW ZC2)
noncomputable def ZT7 (k:Nat):=Wf k [ZUv]
def ZgA (k:Nat):Nat × Unit → Option (Nat × Unit)
 | (a0,()) => (WN Ieee.Toward.down a0).bind fun y => some (y,())
def Zqh (k:Nat):=ZgA k
theorem ZPT (k:Nat) (x:Kd.dens Qu):ZB (ZT7 k) nA Tryz.f176 Qu QW x = Zqh k x:=by
 show _ = ZgA k x
 obtain ⟨a0,⟨⟩⟩:=x
 kernel_rfl
theorem ZKI (k:Nat):Ctr Tryz.prog k 176 (mk Qu QW Zqh) :=
 ZC (fn:=Tryz.f176) (Zg (Za (ZLr k) Zd)) (by kernel_rfl) (by kernel_rfl) (ZPT k)
noncomputable abbrev ZT8:Nat × Callee:=(176,mk Qu QW Zqh)
abbrev Zso:List Kd:=[.view (.sl (.cx .f64)),.view (.int .i64)]
abbrev ZiT:Kd:=.tup [.view (.sl (.int .i64)),.view (.sl (.int .i64)),.view (.int .i64)]
noncomputable def ZNT (k:Nat):=Wf k [ZTI,ZT5,ZT6,ZT8]
def ZTu:Nat → Ann:=fun id => bif Nat.beq id 8 then ⟨[23,24,22,1,8,9],[.slot 8 ((Ty.int IntKind.i64)),.slot 9 ((Ty.int IntKind.i64))]⟩ else ⟨[],[]⟩
abbrev ZEm:=Int × Int × List (Nat × Nat) × Int × List Int × List Int
abbrev ZxZ:=ZEm → Option ((List Int × List Int × Int × Unit) × Unit)
def ZVI:ZEm → St
 | (v0,v1,v2,v3,v4,v5) => St.mk (Zw [(23,Zl v0),(24,Zl v1),(22,AV.val (PV.sl (Ty.cx FloatKind.f64) v2)),(1,Zl v3),(8,AV.own 8192),(9,AV.own 8193)]) (Zv [(8192,rsA v4 false),(8193,rsA v5 false)])
def ZfF (k:Nat) (L1:ZxZ):ZxZ
 | (v0,v1,v2,v3,v4,v5) => bif decide (v1 < v0) then bif decide (0 ≤ v1 ∧ v1 < Int.ofNat v2.length) then bif v3 == 8 then (ZiD k (((v2.getD v1.toNat ((0:Nat),(0:Nat))).1,(v2.getD v1.toNat ((0:Nat),(0:Nat))).2),())).bind fun y => (floatToIntVal FloatKind.f64 (v2.getD v1.toNat ((0:Nat),(0:Nat))).1 IntKind.i64).bind fun y_1 => bif decide (v4.length + [y_1].length < 2147483648) then (floatToIntVal FloatKind.f64 y.1 IntKind.i64).bind fun y => bif decide (v5.length + [y].length < 2147483648) then L1 (v0,IntKind.i64.wrap (v1 + 1),v2,v3,v4 ++ [y_1],v5 ++ [y]) else none else none else bif v3 == 9 then (ZiD k (((v2.getD v1.toNat ((0:Nat),(0:Nat))).1,(v2.getD v1.toNat ((0:Nat),(0:Nat))).2),())).bind fun y => (floatToIntVal FloatKind.f64 y.1 IntKind.i64).bind fun y => bif decide (v4.length + [y].length < 2147483648) then (floatToIntVal FloatKind.f64 (v2.getD v1.toNat ((0:Nat),(0:Nat))).2 IntKind.i64).bind fun y_1 => bif decide (v5.length + [y_1].length < 2147483648) then L1 (v0,IntKind.i64.wrap (v1 + 1),v2,v3,v4 ++ [y],v5 ++ [y_1]) else none else none else bif v3 == 10 then (floatBits BinOp.add FloatKind.f64 (v2.getD v1.toNat ((0:Nat),(0:Nat))).1 (v2.getD v1.toNat ((0:Nat),(0:Nat))).2).bind fun y => (floatBits BinOp.quo FloatKind.f64 y (4611686018427387904:Nat)).bind fun y => (Zqh k (y,())).bind fun y => (ZiD k (((v2.getD v1.toNat ((0:Nat),(0:Nat))).1,(v2.getD v1.toNat ((0:Nat),(0:Nat))).2),())).bind fun y_1 => (floatToIntVal FloatKind.f64 y.1 IntKind.i64).bind fun y => bif decide (v4.length + [y].length < 2147483648) then (floatToIntVal FloatKind.f64 y_1.1 IntKind.i64).bind fun y_2 => bif decide (v5.length + [y_2].length < 2147483648) then L1 (v0,IntKind.i64.wrap (v1 + 1),v2,v3,v4 ++ [y],v5 ++ [y_2]) else none else none else (floatToIntVal FloatKind.f64 (v2.getD v1.toNat ((0:Nat),(0:Nat))).1 IntKind.i64).bind fun y => bif decide (v4.length + [y].length < 2147483648) then (floatToIntVal FloatKind.f64 (v2.getD v1.toNat ((0:Nat),(0:Nat))).2 IntKind.i64).bind fun y_1 => bif decide (v5.length + [y_1].length < 2147483648) then L1 (v0,IntKind.i64.wrap (v1 + 1),v2,v3,v4 ++ [y],v5 ++ [y_1]) else none else none else none else some ((v4,v5,0,()),())
def Zx0 (k:Nat):ZxZ:=Zm (fun L1 => ZfF k L1) k
noncomputable def ZGh (k:Nat) (n:Nat) (v:ZEm) :=
 Zr (ZNT k) ZTu [] [1,1,1,1,0,1,0] [] (Q7 Tryz.f130) (Wd (ZNT k) Tryz.f130 Zso ZiT [] []) n (ZVI v)
def Zlc (k:Nat) (L1:ZxZ):List (Nat × Nat) × Int × Unit → Option ((List Int × List Int × Int × Unit) × Unit)
 | (a0,a1,()) => (Zvx k (a1,())).bind fun y => bif !y.1 then some (([],[],1,()),()) else (Zqf k (a0,())).bind fun y => bif y.1 != 0 then some (([],[],y.1,()),()) else L1 (Int.ofNat a0.length,(0:Int),a0,a1,[],[])
def Zsn (k:Nat):=Zlc k (Zx0 k)
theorem ZNU (k:Nat):∀ n,ZGh k n = Zm (fun L1 => ZfF k L1) n :=
 Zh (fun v => by kernel_rfl) (fun n v => by
  obtain ⟨v0,v1,v2,v3,v4,v5⟩:=v
  kernel_rfl)
theorem ZVJ (k:Nat) (x:Kd.dens Zso):ZB (ZNT k) ZTu Tryz.f130 Zso ZiT x = Zsn k x:=by
 show _ = Zlc k (Zx0 k) x
 rw [show Zx0 k = ZGh k k from (ZNU k k).symm]
 obtain ⟨a0,⟨a1,⟨⟩⟩⟩:=x
 kernel_rfl
theorem Zx1 (k:Nat):Ctr Tryz.prog k 130 (mk Zso ZiT Zsn) :=
 ZC (fn:=Tryz.f130) (Zg (Za (ZGy k) (Za (ZKG k) (Za (ZKH k) (Za (ZKI k) Zd))))) (by kernel_rfl) (by kernel_rfl) (ZVJ k)
noncomputable abbrev ZNV:Nat × Callee:=(130,mk Zso ZiT Zsn)
abbrev Zan:List Kd:=[.view (.sl (.int .i64))]
def ZTJ:Nat → Ann:=fun id => bif Nat.beq id 3 then ⟨[8,9,7,3,4],[]⟩ else ⟨[],[]⟩
abbrev Zeg:=Int × Int × List Int × Int × Int
abbrev Zyp:=Zeg → Option (Int × Unit)
def ZWe:Zeg → St
 | (v0,v1,v2,v3,v4) => St.mk (Zw [(8,Zl v0),(9,Zl v1),(7,Ym v2),(3,Zl v3),(4,Zl v4)]) (Zv [])
def ZfP (k:Nat) (L1:Zyp):Zyp
 | (v0,v1,v2,v3,v4) => bif decide (v1 < v0) then bif decide (0 ≤ v1 ∧ v1 < Int.ofNat v2.length) then L1 (v0,IntKind.i64.wrap (v1 + 1),v2,IntKind.i64.wrap (v3 + if IntKind.i64.wrap (v2.getD v1.toNat 0 - v4) < IntKind.i64.wrap (v4 - v2.getD v1.toNat 0) then IntKind.i64.wrap (v4 - v2.getD v1.toNat 0) else IntKind.i64.wrap (v2.getD v1.toNat 0 - v4)),v2.getD v1.toNat 0) else none else some (v3,())
def Zyq (k:Nat):Zyp:=Zm (fun L1 => ZfP k L1) k
noncomputable def ZGz (k:Nat) (n:Nat) (v:Zeg) :=
 Zr (Z4 k) ZTJ [] [1,1,0,1,0] [] (Q7 Tryz.f191) (Wd (Z4 k) Tryz.f191 Zan Zi [] []) n (ZWe v)
def Zlz (k:Nat) (L1:Zyp):List Int × Unit → Option (Int × Unit)
 | (a0,()) => L1 (Int.ofNat a0.length,(0:Int),a0,(0:Int),(0:Int))
def Zvy (k:Nat):=Zlz k (Zyq k)
theorem ZOi (k:Nat):∀ n,ZGz k n = Zm (fun L1 => ZfP k L1) n :=
 Zh (fun v => by kernel_rfl) (fun n v => by
  obtain ⟨v0,v1,v2,v3,v4⟩:=v
  kernel_rfl)
theorem ZWf (k:Nat) (x:Kd.dens Zan):ZB (Z4 k) ZTJ Tryz.f191 Zan Zi x = Zvy k x:=by
 show _ = Zlz k (Zyq k) x
 rw [show Zyq k = ZGz k k from (ZOi k k).symm]
 obtain ⟨a0,⟨⟩⟩:=x
 kernel_rfl
theorem ZSw (k:Nat):Ctr Tryz.prog k 191 (mk Zan Zi Zvy) :=
 ZC (fn:=Tryz.f191) (Zg Zd) (by kernel_rfl) (by kernel_rfl) (ZWf k)
noncomputable abbrev ZXz:Nat × Callee:=(191,mk Zan Zi Zvy)
abbrev Z5:Kd:=.tup [.view (.int .i64),.view (.int .i64)]
noncomputable def ZNQ (k:Nat):=Wf k [ZNV,ZXz]
def ZTt:Nat → Ann:=fun id => bif Nat.beq id 3 then ⟨[13,12,0,5,4],[]⟩ else ⟨[],[]⟩
abbrev ZEl:=Int × Int × Int × Int × Int × List (Nat × Nat) × Int × Int
abbrev ZxY:=ZEl → Option ((Int × Int × Unit) × Unit)
def ZVG:ZEl → St
 | (v0,v1,v2,v3,v4,v5,v6,v7) => St.mk (Zw [(13,Zl v0),(12,AV.agg [Zl v1,Zl v2,Zl v3,Zl v4]),(0,AV.val (PV.sl (Ty.cx FloatKind.f64) v5)),(5,Zl v6),(4,Zl v7)]) (Zv [])
def Zc8 (k:Nat) (L1:ZxY):ZxY
 | (v0,v1,v2,v3,v4,v5,v6,v7) => bif decide (v0 < 4) then bif decide (0 ≤ v0 ∧ v0 < 4) then (Zsn k (v5,[v1,v2,v3,v4].getD v0.toNat (0:Int),())).bind fun y => bif y.1.2.2.1 != 0 then some ((0,y.1.2.2.1,()),()) else (Zvy k (y.1.1,())).bind fun y_1 => (Zvy k (y.1.2.1,())).bind fun y => bif decide (v6 < 0) then L1 (IntKind.i64.wrap (v0 + 1),v1,v2,v3,v4,v5,IntKind.i64.wrap (y_1.1 + y.1),[v1,v2,v3,v4].getD v0.toNat (0:Int)) else bif decide (IntKind.i64.wrap (y_1.1 + y.1) < v6) then L1 (IntKind.i64.wrap (v0 + 1),v1,v2,v3,v4,v5,IntKind.i64.wrap (y_1.1 + y.1),[v1,v2,v3,v4].getD v0.toNat (0:Int)) else L1 (IntKind.i64.wrap (v0 + 1),v1,v2,v3,v4,v5,v6,v7) else none else some ((v7,0,()),())
def ZEk (k:Nat):ZxY:=Zm (fun L1 => Zc8 k L1) k
noncomputable def ZGg (k:Nat) (n:Nat) (v:ZEl) :=
 Zr (ZNQ k) ZTt [] [1,1,0,1,0] [] (Q7 Tryz.f147) (Wd (ZNQ k) Tryz.f147 WU Z5 [] []) n (ZVG v)
def ZAX (k:Nat) (L1:ZxY):List (Nat × Nat) × Unit → Option ((Int × Int × Unit) × Unit)
 | (a0,()) => L1 (0,(0:Int),(8:Int),(9:Int),(10:Int),a0,(-1:Int),(0:Int))
def ZAW (k:Nat):=ZAX k (ZEk k)
theorem ZNR (k:Nat):∀ n,ZGg k n = Zm (fun L1 => Zc8 k L1) n :=
 Zh (fun v => by kernel_rfl) (fun n v => by
  obtain ⟨v0,v1,v2,v3,v4,v5,v6,v7⟩:=v
  kernel_rfl)
theorem ZVH (k:Nat) (x:Kd.dens WU):ZB (ZNQ k) ZTt Tryz.f147 WU Z5 x = ZAW k x:=by
 show _ = ZAX k (ZEk k) x
 rw [show ZEk k = ZGg k k from (ZNR k k).symm]
 obtain ⟨a0,⟨⟩⟩:=x
 kernel_rfl
theorem ZSl (k:Nat):Ctr Tryz.prog k 147 (mk WU Z5 ZAW) :=
 ZC (fn:=Tryz.f147) (Zg (Za (Zx1 k) (Za (ZSw k) Zd))) (by kernel_rfl) (by kernel_rfl) (ZVH k)
noncomputable abbrev ZXl:Nat × Callee:=(147,mk WU Z5 ZAW)
abbrev ZxG:List Kd:=[.view Zm6]
abbrev ZEc:Kd:=.tup [.view (.sl (.sl (.int .i64))),.view (.int .i64),.view (.int .i64)]
noncomputable def ZW0 (k:Nat):=Wf k [ZTs,ZXl,ZNV]
def ZkT (k:Nat):(Int × List (List Int) × Unit) × Unit → Option ((List (List Int) × Int × Int × Unit) × Unit)
 | ((a0,a1,()),()) => bif Int.ofNat a1.length == (1:Int) then some ((a1,0,0,()),()) else bif decide ((0:Int) ≤ 0 ∧ (0:Int) < Int.ofNat a1.length) then bif decide ((0:Int) ≤ 1 ∧ (1:Int) < Int.ofNat a1.length) then (Zsl k (a1.getD 0 [],a1.getD 1 [],())).bind fun y => bif y.1.2.1 != 0 then some (([],0,y.1.2.1,()),()) else (ZAW k (y.1.1,())).bind fun y_1 => bif y_1.1.2.1 != 0 then some (([],0,y_1.1.2.1,()),()) else (Zsn k (y.1.1,y_1.1.1,())).bind fun y => bif y_1.1.1 == 0 then some (([y.1.1,y.1.2.1],1,y.1.2.2.1,()),()) else some (([y.1.1,y.1.2.1],y_1.1.1,y.1.2.2.1,()),()) else none else none
def ZAD (k:Nat):=ZkT k
theorem ZVf (k:Nat) (x:Kd.dens ZxG):ZB (ZW0 k) nA Tryz.f92 ZxG ZEc x = ZAD k x:=by
 show _ = ZkT k x
 obtain ⟨⟨a0,⟨a1,⟨⟩⟩⟩,⟨⟩⟩:=x
 kernel_rfl
theorem ZR9 (k:Nat):Ctr Tryz.prog k 92 (mk ZxG ZEc ZAD) :=
 ZC (fn:=Tryz.f92) (Zg (Za (ZGf k) (Za (ZSl k) (Za (Zx1 k) Zd)))) (by kernel_rfl) (by kernel_rfl) (ZVf k)
noncomputable abbrev ZW1:Nat × Callee:=(92,mk ZxG ZEc ZAD)
abbrev ZxH:List Kd:=[]
abbrev ZEd:Kd:=.box [.own (.int .u8) false,.view (.int .i64)]
def ZAE (k:Nat):Unit → Option ((List Int × Int × Unit) × Unit)
 | () => some (([],0,()),())
def ZnR (k:Nat):=ZAE k
theorem ZVg (k:Nat) (x:Kd.dens ZxH):ZB (Z4 k) nA Tryz.f93 ZxH ZEd x = ZnR k x:=by
 show _ = ZAE k x
 obtain ⟨⟩:=x
 kernel_rfl
theorem ZF0 (k:Nat):Ctr Tryz.prog k 93 (mk ZxH ZEd ZnR) :=
 ZC (fn:=Tryz.f93) (Zg Zd) (by kernel_rfl) (by kernel_rfl) (ZVg k)
noncomputable abbrev ZTh:Nat × Callee:=(93,mk ZxH ZEd ZnR)
def Zld (k:Nat):Int × Unit → Option (Bool × Unit)
 | (a0,()) => bif decide (a0 < 0) then some (true,()) else some (decide ((32:Int) < a0),())
def Zsq (k:Nat):=Zld k
theorem ZVK (k:Nat) (x:Kd.dens ZA):ZB (Z4 k) nA Tryz.f148 ZA ZE x = Zsq k x:=by
 show _ = Zld k x
 obtain ⟨a0,⟨⟩⟩:=x
 kernel_rfl
theorem Zx2 (k:Nat):Ctr Tryz.prog k 148 (mk ZA ZE Zsq) :=
 ZC (fn:=Tryz.f148) (Zg Zd) (by kernel_rfl) (by kernel_rfl) (ZVK k)
noncomputable abbrev ZTv:Nat × Callee:=(148,mk ZA ZE Zsq)
abbrev ZaA:List Kd:=[.box [.own (.int .u8) false,.view (.int .i64)],.view (.int .i64)]
abbrev QD:Kd:=.tup []
def ZgB (k:Nat):(List Int × Int × Unit) × Int × Unit → Option (Unit × (List Int × Int × Unit) × Unit)
 | ((a0,a1,()),a2,()) => bif a1.tmod (8:Int) == 0 then bif decide (a0.length + (1:Nat) < (2147483648:Nat)) then bif decide (0 ≤ IntKind.i64.wrap (a1.tdiv (8:Int)) ∧ IntKind.i64.wrap (a1.tdiv (8:Int)) < Int.ofNat (a0 ++ [(0:Int)]).length) then bif decide ((IntKind.i64.wrap (a1.tdiv (8:Int))).toNat < (a0 ++ [(0:Int)]).length) then bif decide (0 ≤ IntKind.i64.wrap ((7:Int) - a1.tmod (8:Int))) then bif decide (0 ≤ IntKind.i64.wrap (a1.tdiv (8:Int)) ∧ IntKind.i64.wrap (a1.tdiv (8:Int)) < Int.ofNat (a0 ++ [(0:Int)]).length) then bif decide ((IntKind.i64.wrap (a1.tdiv (8:Int))).toNat < (a0 ++ [(0:Int)]).length) then some ((),((a0 ++ [(0:Int)]).set (IntKind.i64.wrap (a1.tdiv (8:Int))).toNat (IntKind.u8.wrap (Int.ofNat (BitVec.ofInt 8 ((a0 ++ [(0:Int)]).getD (IntKind.i64.wrap (a1.tdiv (8:Int))).toNat 0) ||| BitVec.ofInt 8 (IntKind.u8.wrap (IntKind.i64.wrap (a2 * (2:Int) ^ min (IntKind.i64.wrap ((7:Int) - a1.tmod (8:Int))).toNat 64)))).toNat)),IntKind.i64.wrap (a1 + 1),()),()) else none else none else none else none else none else none else bif decide (0 ≤ IntKind.i64.wrap (a1.tdiv (8:Int)) ∧ IntKind.i64.wrap (a1.tdiv (8:Int)) < Int.ofNat a0.length) then bif decide ((IntKind.i64.wrap (a1.tdiv (8:Int))).toNat < a0.length) then bif decide (0 ≤ IntKind.i64.wrap ((7:Int) - a1.tmod (8:Int))) then bif decide (0 ≤ IntKind.i64.wrap (a1.tdiv (8:Int)) ∧ IntKind.i64.wrap (a1.tdiv (8:Int)) < Int.ofNat a0.length) then bif decide ((IntKind.i64.wrap (a1.tdiv (8:Int))).toNat < a0.length) then some ((),(a0.set (IntKind.i64.wrap (a1.tdiv (8:Int))).toNat (IntKind.u8.wrap (Int.ofNat (BitVec.ofInt 8 (a0.getD (IntKind.i64.wrap (a1.tdiv (8:Int))).toNat 0) ||| BitVec.ofInt 8 (IntKind.u8.wrap (IntKind.i64.wrap (a2 * (2:Int) ^ min (IntKind.i64.wrap ((7:Int) - a1.tmod (8:Int))).toNat 64)))).toNat)),IntKind.i64.wrap (a1 + 1),()),()) else none else none else none else none else none
def ZiE (k:Nat):=ZgB k
theorem ZPU (k:Nat) (x:Kd.dens ZaA):ZB (Z4 k) nA Tryz.f192 ZaA QD x = ZiE k x:=by
 show _ = ZgB k x
 obtain ⟨⟨a0,⟨a1,⟨⟩⟩⟩,⟨a2,⟨⟩⟩⟩:=x
 kernel_rfl
theorem ZzG (k:Nat):Ctr Tryz.prog k 192 (mk ZaA QD ZiE) :=
 ZC (fn:=Tryz.f192) (Zg Zd) (by kernel_rfl) (by kernel_rfl) (ZPU k)
noncomputable abbrev ZT9:Nat × Callee:=(192,mk ZaA QD ZiE)
abbrev Zss:List Kd:=[.box [.own (.int .u8) false,.view (.int .i64)],.view (.int .u64),.view (.int .i64)]
noncomputable def Zvr (k:Nat):=Wf k [ZT9]
def ZTw:Nat → Ann:=fun id => bif Nat.beq id 1 then ⟨[6,0,1],[]⟩ else ⟨[],[]⟩
abbrev Zef:=Int × Int × Int × List Int
abbrev Zx3:=Zef → Option (Unit × (List Int × Int × Unit) × Unit)
def ZVL:Zef → St
 | (v0,v1,v2,v3) => St.mk (Zw [(6,Zl v0),(0,AV.bx 0 0),(1,AV.val (PV.v (Value.int IntKind.u64 v1)))]) (Zv [(0,QQ [AV.own 8192,Zl v2]),(8192,RS.live (Res.arr (Ty.int IntKind.u8) v3 false))])
def ZfG (k:Nat) (L1:Zx3):Zx3
 | (v0,v1,v2,v3) => bif decide (0 ≤ v0) then bif decide (0 ≤ v0) then (ZiE k ((v3,v2,()),IntKind.i64.wrap (IntKind.u64.wrap (Int.ofNat (BitVec.ofInt 64 (v1.fdiv ((2:Int) ^ min v0.toNat 64)) &&& BitVec.ofInt 64 (1:Int)).toNat)),())).bind fun y => L1 (IntKind.i64.wrap (v0 - 1),v1,y.2.1.2.1,y.2.1.1) else none else some ((),(v3,v2,()),())
def Zx4 (k:Nat):Zx3:=Zm (fun L1 => ZfG k L1) k
noncomputable def ZGi (k:Nat) (n:Nat) (v:Zef) :=
 Zr (Zvr k) ZTw [0] [1,0] [] (Q7 Tryz.f149) (Wd (Zvr k) Tryz.f149 Zss QD [AV.bx (nat_lit 0) (nat_lit 0)] [[]]) n (ZVL v)
def Zle (k:Nat) (L1:Zx3):(List Int × Int × Unit) × Int × Int × Unit → Option (Unit × (List Int × Int × Unit) × Unit)
 | ((a0,a1,()),a2,a3,()) => L1 (IntKind.i64.wrap (a3 - 1),a2,a1,a0)
def ZeC (k:Nat):=Zle k (Zx4 k)
theorem ZNW (k:Nat):∀ n,ZGi k n = Zm (fun L1 => ZfG k L1) n :=
 Zh (fun v => by kernel_rfl) (fun n v => by
  obtain ⟨v0,v1,v2,v3⟩:=v
  kernel_rfl)
theorem ZVM (k:Nat) (x:Kd.dens Zss):ZB (Zvr k) ZTw Tryz.f149 Zss QD x = ZeC k x:=by
 show _ = Zle k (Zx4 k) x
 rw [show Zx4 k = ZGi k k from (ZNW k k).symm]
 obtain ⟨⟨a0,⟨a1,⟨⟩⟩⟩,⟨a2,⟨a3,⟨⟩⟩⟩⟩:=x
 kernel_rfl
theorem ZGj (k:Nat):Ctr Tryz.prog k 149 (mk Zss QD ZeC) :=
 ZC (fn:=Tryz.f149) (Zg (Za (ZzG k) Zd)) (by kernel_rfl) (by kernel_rfl) (ZVM k)
noncomputable abbrev ZXm:Nat × Callee:=(149,mk Zss QD ZeC)
abbrev Zch:List Kd:=[.box [.own (.int .u8) false,.view (.int .i64)],.view (.int .i64),.view (.int .i64)]
noncomputable def ZTi (k:Nat):=Wf k [ZTv,ZXm]
def ZkU (k:Nat):(List Int × Int × Unit) × Int × Int × Unit → Option (Int × (List Int × Int × Unit) × Unit)
 | ((a0,a1,()),a2,a3,()) => (Zsq k (a3,())).bind fun y => bif y.1 then some (1,(a0,a1,()),()) else bif decide (a2 < 0) then some (12,(a0,a1,()),()) else bif decide (0 ≤ a3) then bif a2.fdiv ((2:Int) ^ min a3.toNat 64) != (0:Int) then some (12,(a0,a1,()),()) else (ZeC k ((a0,a1,()),IntKind.u64.wrap a2,a3,())).bind fun y => some (0,(y.2.1.1,y.2.1.2.1,()),()) else none
def ZQ (k:Nat):=ZkU k
theorem ZVh (k:Nat) (x:Kd.dens Zch):ZB (ZTi k) nA Tryz.f94 Zch Zi x = ZQ k x:=by
 show _ = ZkU k x
 obtain ⟨⟨a0,⟨a1,⟨⟩⟩⟩,⟨a2,⟨a3,⟨⟩⟩⟩⟩:=x
 kernel_rfl
theorem Zed (k:Nat):Ctr Tryz.prog k 94 (mk Zch Zi ZQ) :=
 ZC (fn:=Tryz.f94) (Zg (Za (Zx2 k) (Za (ZGj k) Zd))) (by kernel_rfl) (by kernel_rfl) (ZVh k)
noncomputable abbrev ZNv:Nat × Callee:=(94,mk Zch Zi ZQ)
def Zlf (k:Nat):Int × Unit → Option (Int × Unit)
 | (a0,()) => bif a0 == 1 then some (7,()) else some (IntKind.i64.wrap (IntKind.i64.wrap ((5:Int) * a0) + 1),())
def Zvs (k:Nat):=Zlf k
theorem ZVN (k:Nat) (x:Kd.dens ZA):ZB (Z4 k) nA Tryz.f150 ZA Zi x = Zvs k x:=by
 show _ = Zlf k x
 obtain ⟨a0,⟨⟩⟩:=x
 kernel_rfl
theorem ZGk (k:Nat):Ctr Tryz.prog k 150 (mk ZA Zi Zvs) :=
 ZC (fn:=Tryz.f150) (Zg Zd) (by kernel_rfl) (by kernel_rfl) (ZVN k)
noncomputable abbrev ZTx:Nat × Callee:=(150,mk ZA Zi Zvs)
abbrev Zsg:Kd:=.tup [.view (.sl (.int .u8)),.view (.int .i64)]
noncomputable def ZAG (k:Nat):=Wf k [ZTx]
def ZNw:Nat → Ann:=fun id => bif Nat.beq id 10 then ⟨[6,5,0,4],[]⟩ else bif Nat.beq id 6 then ⟨[0,4],[]⟩ else ⟨[],[]⟩
abbrev ZxJ:=Zef → Option ((List Int × Int × Unit) × Unit)
abbrev ZEe:=Int × Int
abbrev ZxI:=ZEe → Option ((List Int × Int × Unit) × Unit)
def ZVj:Zef → St
 | (v0,v1,v2,v3) => St.mk (Zw [(6,Zl v0),(5,AV.own 8192),(0,Zl v1),(4,Zl v2)]) (Zv [(8192,RS.live (Res.arr (Ty.int IntKind.u8) v3 false))])
def ZfA (k:Nat) (L2:ZxJ):ZxJ
 | (v0,v1,v2,v3) => bif decide ((0:Int) < v0) then bif decide (0 ≤ v0 ∧ v0 < Int.ofNat v3.length) then bif decide (v0.toNat < v3.length) then L2 (IntKind.i64.wrap (v0 - 1),v1.fdiv (64:Int),v2,v3.set v0.toNat (IntKind.u8.wrap (Int.ofNat (BitVec.ofInt 8 (128:Int) ||| BitVec.ofInt 8 (IntKind.u8.wrap (IntKind.i64.wrap (Int.ofNat (BitVec.ofInt 64 v1 &&& BitVec.ofInt 64 (63:Int)).toNat)))).toNat))) else none else none else bif decide (0 ≤ v2) then bif decide ((0:Int) ≤ 0 ∧ (0:Int) < Int.ofNat v3.length) then bif decide ((0:Nat) < v3.length) then some ((v3.set (0:Nat) (IntKind.u8.wrap (Int.ofNat (BitVec.ofInt 8 (IntKind.u8.wrap (Int.fdiv (65280:Int) ((2:Int) ^ min v2.toNat 64))) ||| BitVec.ofInt 8 (IntKind.u8.wrap v1)).toNat)),0,()),()) else none else none else none
def Zsf (k:Nat):ZxJ:=Zm (fun L2 => ZfA k L2) k
noncomputable def ZF2 (k:Nat) (n:Nat) (v:Zef) :=
 Zr (ZAG k) ZNw [] [1,1,1,1,1,1,0,1,0] [] (Q7 Tryz.f95) (Wd (ZAG k) Tryz.f95 ZA Zsg [] []) n (ZVj v)
def ZVi:ZEe → St
 | (v0,v1) => St.mk (Zw [(0,Zl v0),(4,Zl v1)]) (Zv [])
def Zfz (k:Nat) (L2:ZxJ) (L1:ZxI):ZxI
 | (v0,v1) => (Zvs k (v1,())).bind fun y => bif decide ((0:Int) ≤ y.1) then bif decide ((0:Int) < v0.fdiv ((2:Int) ^ min (Int.toNat y.1) (64:Nat))) then L1 (v0,IntKind.i64.wrap (v1 + 1)) else bif decide (0 ≤ v1 ∧ v1 ≤ v1 ∧ v1 < 4294967296) then L2 (IntKind.i64.wrap (v1 - 1),v0,v1,List.replicate v1.toNat (0:Int)) else none else none
def ZxK (k:Nat):ZxI:=Zm (fun L1 => Zfz k (Zsf k) L1) k
noncomputable def ZF1 (k:Nat) (n:Nat) (v:ZEe) :=
 Zr (ZAG k) ZNw [] [1,1,1,1,0,0] [] (Q7 Tryz.f95) (Wd (ZAG k) Tryz.f95 ZA Zsg [] []) n (ZVi v)
def ZkV (k:Nat) (L1:ZxI):Int × Unit → Option ((List Int × Int × Unit) × Unit)
 | (a0,()) => bif decide (a0 < 0) then some (([],12,()),()) else bif decide ((68719476735:Int) < a0) then some (([],12,()),()) else bif decide (a0 < 128) then some (([IntKind.u8.wrap a0],0,()),()) else L1 (a0,(2:Int))
def Zse (k:Nat):=ZkV k (ZxK k)
theorem ZNy (k:Nat):∀ n,ZF2 k n = Zm (fun L2 => ZfA k L2) n :=
 Zh (fun v => by kernel_rfl) (fun n v => by
  obtain ⟨v0,v1,v2,v3⟩:=v
  kernel_rfl)
theorem ZNx (k:Nat):∀ n,ZF1 k n = Zm (fun L1 => Zfz k (Zsf k) L1) n :=
 Zh (fun v => by kernel_rfl) (fun n v => by
  rw [show (Zsf k) = ZF2 k k from (ZNy k k).symm]
  obtain ⟨v0,v1⟩:=v
  kernel_rfl)
theorem ZVk (k:Nat) (x:Kd.dens ZA):ZB (ZAG k) ZNw Tryz.f95 ZA Zsg x = Zse k x:=by
 show _ = ZkV k (ZxK k) x
 rw [show ZxK k = ZF1 k k from (ZNx k k).symm]
 obtain ⟨a0,⟨⟩⟩:=x
 kernel_rfl
theorem ZSa (k:Nat):Ctr Tryz.prog k 95 (mk ZA Zsg Zse) :=
 ZC (fn:=Tryz.f95) (Zg (Za (ZGk k) Zd)) (by kernel_rfl) (by kernel_rfl) (ZVk k)
noncomputable abbrev ZW2:Nat × Callee:=(95,mk ZA Zsg Zse)
abbrev ZmZ:List Kd:=[.view (.sl (.int .u8)),.view (.int .i64),.view (.int .u64)]
def ZNX:Nat → Ann:=fun id => bif Nat.beq id 7 then ⟨[24,7,1,2,13,12,11],[]⟩ else bif Nat.beq id 3 then ⟨[12,13,11,7,1,2],[]⟩ else ⟨[],[]⟩
abbrev ZEo:=Int × Int × Int × Int × Int × Int × List Int
abbrev Zx5:=ZEo → Option (Int × Unit)
abbrev ZEn:=Int × Int × List Int × Int × Int × Int
abbrev ZmY:=ZEn → Option (Int × Unit)
def ZVP:ZEo → St
 | (v0,v1,v2,v3,v4,v5,v6) => St.mk (Zw [(24,Zl v0),(7,AV.val (PV.v (Value.int IntKind.u64 v1))),(1,Zl v2),(2,AV.val (PV.v (Value.int IntKind.u64 v3))),(13,Zl v4),(12,Zl v5),(11,AV.val (PV.sl (Ty.int IntKind.u8) v6))]) (Zv [])
def Zc9 (k:Nat) (L1:ZmY) (L2:Zx5):Zx5
 | (v0,v1,v2,v3,v4,v5,v6) => bif decide (v0 < 8) then bif decide (0 ≤ IntKind.i64.wrap (v2 - 1)) then bif decide (0 ≤ v2) then L2 (IntKind.i64.wrap (v0 + 1),IntKind.u64.wrap (Int.ofNat (BitVec.ofInt 64 (IntKind.u64.wrap (Int.ofNat (BitVec.ofInt 64 (IntKind.u64.wrap (v1 * (2:Int))) &&& BitVec.ofInt 64 (IntKind.u64.wrap (IntKind.u64.wrap ((1:Int) * (2:Int) ^ min v2.toNat 64) - (1:Int)))).toNat)) ^^^ BitVec.ofInt 64 (IntKind.u64.wrap (IntKind.u64.wrap (Int.ofNat (BitVec.ofInt 64 (v1.fdiv ((2:Int) ^ min (IntKind.i64.wrap (v2 - 1)).toNat 64)) &&& BitVec.ofInt 64 (1:Int)).toNat) * v3))).toNat),v2,v3,v4,v5,v6) else none else none else L1 (v5,IntKind.i64.wrap (v4 + 1),v6,v1,v2,v3)
def Zx7 (k:Nat) (L1:ZmY):Zx5:=Zm (fun L2 => Zc9 k L1 L2) k
noncomputable def Zpp (k:Nat) (n1:Nat) (n:Nat) (v:ZEo):Option (Int × Unit) :=
 Zr (Z4 k) ZNX [] [1,1,0,1,0,0,1,1,0,0,1,1,1,0] [n1] (Q7 Tryz.f127) (Wd (Z4 k) Tryz.f127 ZmZ Zi [] []) n (ZVP v)
def ZVO:ZEn → St
 | (v0,v1,v2,v3,v4,v5) => St.mk (Zw [(12,Zl v0),(13,Zl v1),(11,AV.val (PV.sl (Ty.int IntKind.u8) v2)),(7,AV.val (PV.v (Value.int IntKind.u64 v3))),(1,Zl v4),(2,AV.val (PV.v (Value.int IntKind.u64 v5)))]) (Zv [])
def ZfH (k:Nat) (L2:Zx5) (L1:ZmY):ZmY
 | (v0,v1,v2,v3,v4,v5) => bif decide (v1 < v0) then bif decide (0 ≤ v1 ∧ v1 < Int.ofNat v2.length) then bif decide (0 ≤ IntKind.i64.wrap (v4 - 8)) then L2 (0,IntKind.u64.wrap (Int.ofNat (BitVec.ofInt 64 v3 ^^^ BitVec.ofInt 64 (IntKind.u64.wrap (IntKind.u64.wrap (v2.getD v1.toNat 0) * (2:Int) ^ min (IntKind.i64.wrap (v4 - 8)).toNat 64))).toNat),v4,v5,v1,v0,v2) else none else none else some (IntKind.i64.wrap v3,())
def Zx6 (k:Nat):ZmY:=Zm (fun L1 => ZfH k (Zx7 k L1) L1) k
noncomputable def Zlg (k:Nat) (n:Nat) (v:ZEn) :=
 Zr (Z4 k) ZNX [] [1,1,0,1,0] [] (Q7 Tryz.f127) (Wd (Z4 k) Tryz.f127 ZmZ Zi [] []) n (ZVO v)
def Zlh (k:Nat) (L1:ZmY):List Int × Int × Int × Unit → Option (Int × Unit)
 | (a0,a1,a2,()) => L1 (Int.ofNat a0.length,(0:Int),a0,(0:Int),a1,a2)
def Zic (k:Nat):=Zlh k (Zx6 k)
theorem ZNZ (k:Nat) (n1:Nat):∀ n,Zpp k n1 n = Zm (fun L2 => Zc9 k (Zlg k n1) L2) n :=
 Zh (fun v => by kernel_rfl) (fun n v => by
  show Zpp k n1 (n + 1) v = Zc9 k (Zlg k n1) (Zpp k n1 n) v
  obtain ⟨v0,v1,v2,v3,v4,v5,v6⟩:=v
  kernel_rfl)
theorem ZNY (k:Nat):∀ n,Zlg k n = Zm (fun L1 => ZfH k (Zx7 k L1) L1) n :=
 Zh (fun v => by kernel_rfl) (fun n v => by
  rw [show (Zx7 k (Zlg k n)) = Zpp k n k from (ZNZ k n k).symm]
  obtain ⟨v0,v1,v2,v3,v4,v5⟩:=v
  kernel_rfl)
theorem ZVQ (k:Nat) (x:Kd.dens ZmZ):ZB (Z4 k) ZNX Tryz.f127 ZmZ Zi x = Zic k x:=by
 show _ = Zlh k (Zx6 k) x
 rw [show Zx6 k = Zlg k k from (ZNY k k).symm]
 obtain ⟨a0,⟨a1,⟨a2,⟨⟩⟩⟩⟩:=x
 kernel_rfl
theorem ZGl (k:Nat):Ctr Tryz.prog k 127 (mk ZmZ Zi Zic) :=
 ZC (fn:=Tryz.f127) (Zg Zd) (by kernel_rfl) (by kernel_rfl) (ZVQ k)
noncomputable abbrev ZXn:Nat × Callee:=(127,mk ZmZ Zi Zic)
abbrev WM:List Kd:=[.view (.sl (.int .u8))]
noncomputable def ZTj (k:Nat):=Wf k [ZXn]
def ZkW (k:Nat):List Int × Unit → Option (Int × Unit)
 | (a0,()) => (Zic k (a0,8,7,())).bind fun y => some (y.1,())
def Zvm (k:Nat):=ZkW k
theorem ZVl (k:Nat) (x:Kd.dens WM):ZB (ZTj k) nA Tryz.f96 WM Zi x = Zvm k x:=by
 show _ = ZkW k x
 obtain ⟨a0,⟨⟩⟩:=x
 kernel_rfl
theorem ZF3 (k:Nat):Ctr Tryz.prog k 96 (mk WM Zi Zvm) :=
 ZC (fn:=Tryz.f96) (Zg (Za (ZGl k) Zd)) (by kernel_rfl) (by kernel_rfl) (ZVl k)
noncomputable abbrev ZTk:Nat × Callee:=(96,mk WM Zi Zvm)
abbrev ZiU:Kd:=.own (.int .u8) false
def Zli (k:Nat):List Int × Unit → Option (List Int × Unit):=fun x => YT x
noncomputable def ZTy (k:Nat):Ctx:={ P:=Tryz.prog,Φ:=phi [],k:=k,live:=fun _ => [] }
noncomputable def ZA0:Code:=ZKr Tryz.f74
theorem Zx8 (k:Nat):Ctr Tryz.prog k 74 (mk WM ZiU Zli) :=
 Zua (C:=ZTy k) (A:=fun _ => ⟨[],[]⟩) (Zg Zd) Zi4 (f:=74) (fn:=Tryz.f74) (o0:=Znf (Zb2 [0] ZA0) 0) (o1:=Znf (Zb2 [1,0,0] ZA0) 0) (o2:=Znf (Zb2 [1,0,0] ZA0) 1)
  (r0:=0) (r1:=1) (X:=Zb2 [1,0,1,0] ZA0) (Y:=Zb2 [1,1] ZA0) (T:=46) (E:=5) (U:=46) (t:=(.int .u8))
  (by kernel_rfl) (by kernel_rfl) (by kernel_rfl) (by kernel_rfl) (by kernel_rfl) (of_decide_eq_true (by kernel_rfl)) (by kernel_rfl) ⟨by kernel_rfl,by kernel_rfl,by kernel_rfl⟩ ⟨by kernel_rfl,by kernel_rfl,by kernel_rfl⟩ ⟨by kernel_rfl,by kernel_rfl,by kernel_rfl⟩ (fun xs => by kernel_rfl) (by kernel_rfl)
noncomputable abbrev ZTz:Nat × Callee:=(74,mk WM ZiU Zli)
abbrev Zee:List Kd:=[.box [.own (.int .u8) false,.view (.int .i64)]]
noncomputable def ZW3 (k:Nat):=Wf k [ZTz] (fun r => bif Nat.beq r 999998 then [74] else [])
def ZkY (k:Nat):(List Int × Int × Unit) × Unit → Option (List Int × (List Int × Int × Unit) × Unit)
 | ((a0,a1,()),()) => (Zli k (a0,())).bind fun y => some (y.1,(a0,a1,()),())
def ZkX (k:Nat):=ZkY k
theorem ZVm (k:Nat) (x:Kd.dens Zee):ZB (ZW3 k) nA Tryz.f97 Zee ZiU x = ZkX k x:=by
 show _ = ZkY k x
 obtain ⟨⟨a0,⟨a1,⟨⟩⟩⟩,⟨⟩⟩:=x
 kernel_rfl
theorem ZF4 (k:Nat):Ctr Tryz.prog k 97 (mk Zee ZiU ZkX) :=
 ZC (fn:=Tryz.f97) (Zg (Za (Zx8 k) Zd)) (by kernel_rfl) (by kernel_rfl) (ZVm k)
noncomputable abbrev ZW4:Nat × Callee:=(97,mk Zee ZiU ZkX)
abbrev ZfB:List Kd:=[.view Znu,.view (.int .i64)]
abbrev YZ:Kd:=.view (.sl (.int .i64))
noncomputable def ZW5 (k:Nat):=Wf k [] (fun r => bif Nat.beq r 999999 then [1] else [])
def Zk0 (k:Nat):(Int × Int × Int × Unit) × Int × Unit → Option (List Int × Unit)
 | ((a0,a1,a2,()),a3,()) => bif decide ((0:Int) ≤ 0 ∧ (0:Int) ≤ a0 ∧ a0 ≤ Int.ofNat [a1,a1].length) then bif a3 == 8 then bif decide ((0:Nat) ≤ a0.toNat ∧ a0.toNat ≤ [a1,a1].length ∧ (0:Int) ≤ 1 ∧ (1:Nat) < a0.toNat - (0:Nat)) then bif decide ((0:Nat) ≤ a0.toNat ∧ a0.toNat ≤ [a1,a1].length ∧ (0:Int) ≤ 1 ∧ (1:Nat) < a0.toNat - (0:Nat)) then bif decide ((0:Nat) ≤ a0.toNat ∧ a0.toNat ≤ ([a1,a1].set (1:Nat) (IntKind.i64.wrap ([a1,a1].getD 1 0 + (1:Int)))).length) then some (List.drop 0 (List.take a0.toNat ([a1,a1].set (1:Nat) (IntKind.i64.wrap ([a1,a1].getD 1 0 + (1:Int))))),()) else none else none else none else bif a3 == 10 then bif decide ((0:Nat) ≤ a0.toNat ∧ a0.toNat ≤ [a1,a1].length ∧ (0:Int) ≤ 1 ∧ (1:Nat) < a0.toNat - (0:Nat)) then bif decide ((0:Nat) ≤ a0.toNat ∧ a0.toNat ≤ [a1,a1].length ∧ (0:Int) ≤ 1 ∧ (1:Nat) < a0.toNat - (0:Nat)) then bif decide ((0:Nat) ≤ a0.toNat ∧ a0.toNat ≤ ([a1,a1].set (1:Nat) (IntKind.i64.wrap ([a1,a1].getD 1 0 + (1:Int)))).length) then some (List.drop 0 (List.take a0.toNat ([a1,a1].set (1:Nat) (IntKind.i64.wrap ([a1,a1].getD 1 0 + (1:Int))))),()) else none else none else none else bif a3 == 9 then bif decide ((0:Nat) ≤ a0.toNat ∧ a0.toNat ≤ [a1,a1].length ∧ (0:Int) ≤ 0 ∧ (0:Nat) < a0.toNat - (0:Nat)) then bif decide ((0:Nat) ≤ a0.toNat ∧ a0.toNat ≤ [a1,a1].length ∧ (0:Int) ≤ 0 ∧ (0:Nat) < a0.toNat - (0:Nat)) then bif decide ((0:Nat) ≤ a0.toNat ∧ a0.toNat ≤ ([a1,a1].set (0:Nat) (IntKind.i64.wrap ([a1,a1].getD 0 0 + (1:Int)))).length) then some (List.drop 0 (List.take a0.toNat ([a1,a1].set (0:Nat) (IntKind.i64.wrap ([a1,a1].getD 0 0 + (1:Int))))),()) else none else none else none else bif decide ((0:Nat) ≤ a0.toNat ∧ a0.toNat ≤ [a1,a1].length) then some (List.drop 0 (List.take a0.toNat [a1,a1]),()) else none else none
def Zvn (k:Nat):=Zk0 k
theorem ZVn (k:Nat) (x:Kd.dens ZfB):ZB (ZW5 k) nA Tryz.f57 ZfB YZ x = Zvn k x:=by
 show _ = Zk0 k x
 obtain ⟨⟨a0,⟨a1,⟨a2,⟨⟩⟩⟩⟩,⟨a3,⟨⟩⟩⟩:=x
 kernel_rfl
theorem ZF5 (k:Nat):Ctr Tryz.prog k 57 (mk ZfB YZ Zvn) :=
 ZC (fn:=Tryz.f57) (Zg Zd) (by kernel_rfl) (by kernel_rfl) (ZVn k)
noncomputable abbrev ZTl:Nat × Callee:=(57,mk ZfB YZ Zvn)
abbrev Zam:List Kd:=[.view (.int .i64),.view (.int .i64)]
def Zlu (k:Nat):Int × Int × Unit → Option (Bool × Unit)
 | (a0,a1,()) => bif decide (1 ≤ a0) then bif decide (a0 ≤ 512) then bif decide (4 ≤ a1) then some (decide (a1 ≤ 25),()) else some (false,()) else some (false,()) else some (false,())
def Zvv (k:Nat):=Zlu k
theorem ZV8 (k:Nat) (x:Kd.dens Zam):ZB (Z4 k) nA Tryz.f122 Zam ZE x = Zvv k x:=by
 show _ = Zlu k x
 obtain ⟨a0,⟨a1,⟨⟩⟩⟩:=x
 kernel_rfl
theorem ZGw (k:Nat):Ctr Tryz.prog k 122 (mk Zam ZE Zvv) :=
 ZC (fn:=Tryz.f122) (Zg Zd) (by kernel_rfl) (by kernel_rfl) (ZV8 k)
noncomputable abbrev ZTE:Nat × Callee:=(122,mk Zam ZE Zvv)
def Zlx (k:Nat):Int × Int × Unit → Option (Bool × Unit)
 | (a0,a1,()) => bif decide (0 ≤ IntKind.i64.wrap (a1 - 1)) then bif a0.fdiv ((2:Int) ^ min (IntKind.i64.wrap (a1 - 1)).toNat 64) == (0:Int) then some (true,()) else bif decide (0 ≤ IntKind.i64.wrap (a1 - 1)) then some (a0.fdiv ((2:Int) ^ min (IntKind.i64.wrap (a1 - 1)).toNat 64) == (-1:Int),()) else none else none
def Zvw (k:Nat):=Zlx k
theorem ZWb (k:Nat) (x:Kd.dens Zam):ZB (Z4 k) nA Tryz.f125 Zam ZE x = Zvw k x:=by
 show _ = Zlx k x
 obtain ⟨a0,⟨a1,⟨⟩⟩⟩:=x
 kernel_rfl
theorem ZGx (k:Nat):Ctr Tryz.prog k 125 (mk Zam ZE Zvw) :=
 ZC (fn:=Tryz.f125) (Zg Zd) (by kernel_rfl) (by kernel_rfl) (ZWb k)
noncomputable abbrev ZTG:Nat × Callee:=(125,mk Zam ZE Zvw)
abbrev Zoo:List Kd:=[.view (.int .i64),.box [.view (.int .i64)]]
noncomputable def ZUa (k:Nat):=Wf k [ZTG]
def ZgC (k:Nat):Int × (Int × Unit) × Unit → Option (Bool × (Int × Unit) × Unit)
 | (a0,(a1,()),()) => (Zvw k (a0,a1,())).bind fun y => some (!y.1,(a1,()),())
def Zqj (k:Nat):=ZgC k
theorem ZPX (k:Nat) (x:Kd.dens Zoo):ZB (ZUa k) nA Tryz.f194 Zoo ZE x = Zqj k x:=by
 show _ = ZgC k x
 obtain ⟨a0,⟨⟨a1,⟨⟩⟩,⟨⟩⟩⟩:=x
 kernel_rfl
theorem ZKU (k:Nat):Ctr Tryz.prog k 194 (mk Zoo ZE Zqj) :=
 ZC (fn:=Tryz.f194) (Zg (Za (ZGx k) Zd)) (by kernel_rfl) (by kernel_rfl) (ZPX k)
noncomputable abbrev ZUb:Nat × Callee:=(194,mk Zoo ZE Zqj)
abbrev XK:List Kd:=[.view (.sl (.int .i64)),.clo 194 [.box [.view (.int .i64)]]]
noncomputable def Zqu (k:Nat):=Wf k [ZUb]
def X7:Nat → Ann:=fun id => bif Nat.beq id 2 then ⟨[7,8,1,0],[]⟩ else ⟨[],[]⟩
abbrev Wt:=Int × Int × List Int × Int
abbrev Zg6:=Wt → Option (Int × (Int × Unit) × Unit)
def ZIf:Wt → St
 | (v0,v1,v2,v3) => St.mk (Zw [(7,Zl v0),(8,Zl v1),(1,AV.clo 194 [AV.bx 0 0]),(0,Ym v2)]) (Zv [(0,QQ [Zl v3])])
def KY (k:Nat) (L1:Zg6):Zg6
 | (v0,v1,v2,v3) => bif decide (v1 < v0) then bif decide (0 ≤ v1 ∧ v1 < Int.ofNat v2.length) then (Zqj k (v2.getD v1.toNat 0,(v3,()),())).bind fun y => bif y.1 then some (v1,(y.2.1.1,()),()) else L1 (v0,IntKind.i64.wrap (v1 + 1),v2,y.2.1.1) else none else some ((-1:Int),(v3,()),())
def ZmC (k:Nat):Zg6:=Zm (fun L1 => KY k L1) k
noncomputable def Zqv (k:Nat) (n:Nat) (v:Wt) :=
 Zr (Zqu k) X7 [0] [1,0,1,0] [] (Q7 Tryz.f241) (Wd (Zqu k) Tryz.f241 XK Zi [AV.bx (nat_lit 0) (nat_lit 0)] [[]]) n (ZIf v)
def ZnM (k:Nat) (L1:Zg6):List Int × ((Int × Unit) × Unit) × Unit → Option (Int × (Int × Unit) × Unit)
 | (a0,((a1,()),()),()) => L1 (Int.ofNat a0.length,(0:Int),a0,a1)
def Zfb (k:Nat):=ZnM k (ZmC k)
theorem Zz8 (k:Nat):∀ n,Zqv k n = Zm (fun L1 => KY k L1) n :=
 Zh (fun v => by kernel_rfl) (fun n v => by
  obtain ⟨v0,v1,v2,v3⟩:=v
  kernel_rfl)
theorem ZIg (k:Nat) (x:Kd.dens XK):ZB (Zqu k) X7 Tryz.f241 XK Zi x = Zfb k x:=by
 show _ = ZnM k (ZmC k) x
 rw [show ZmC k = Zqv k k from (Zz8 k k).symm]
 obtain ⟨a0,⟨⟨⟨a1,⟨⟩⟩,⟨⟩⟩,⟨⟩⟩⟩:=x
 kernel_rfl
theorem ZC3 (k:Nat):Ctr Tryz.prog k 241 (mk XK Zi Zfb) :=
 ZC (fn:=Tryz.f241) (Zg (Za (ZKU k) Zd)) (by kernel_rfl) (by kernel_rfl) (ZIg k)
noncomputable abbrev ZLs:Nat × Callee:=(241,mk XK Zi Zfb)
noncomputable def ZKK (k:Nat):=Wf k [ZLs]
def ZbI (k:Nat):List Int × ((Int × Unit) × Unit) × Unit → Option (Bool × (Int × Unit) × Unit)
 | (a0,((a1,()),()),()) => (Zfb k (a0,((a1,()),()),())).bind fun y => some (decide ((0:Int) ≤ y.1),(y.2.1.1,()),())
def Ze2 (k:Nat):=ZbI k
theorem ZHy (k:Nat) (x:Kd.dens XK):ZB (ZKK k) nA Tryz.f193 XK ZE x = Ze2 k x:=by
 show _ = ZbI k x
 obtain ⟨a0,⟨⟨⟨a1,⟨⟩⟩,⟨⟩⟩,⟨⟩⟩⟩:=x
 kernel_rfl
theorem ZCO (k:Nat):Ctr Tryz.prog k 193 (mk XK ZE Ze2) :=
 ZC (fn:=Tryz.f193) (Zg (Za (ZC3 k) Zd)) (by kernel_rfl) (by kernel_rfl) (ZHy k)
noncomputable abbrev ZKL:Nat × Callee:=(193,mk XK ZE Ze2)
abbrev Z3:List Kd:=[.view (.sl (.int .i64)),.view (.int .i64)]
noncomputable def ZXo (k:Nat):=Wf k [ZTE,ZKL]
def Zlj (k:Nat):List Int × Int × Unit → Option (Int × Unit)
 | (a0,a1,()) => (Zvv k (Int.ofNat a0.length,a1,())).bind fun y => bif !y.1 then some (1,()) else (Ze2 k (a0,((a1,()),()),())).bind fun y => bif y.1 then some (12,()) else some (0,())
def Zvt (k:Nat):=Zlj k
theorem ZVR (k:Nat) (x:Kd.dens Z3):ZB (ZXo k) nA Tryz.f151 Z3 Zi x = Zvt k x:=by
 show _ = Zlj k x
 obtain ⟨a0,⟨a1,⟨⟩⟩⟩:=x
 kernel_rfl
theorem ZSm (k:Nat):Ctr Tryz.prog k 151 (mk Z3 Zi Zvt) :=
 ZC (fn:=Tryz.f151) (Zg (Za (ZGw k) (Za (ZCO k) Zd))) (by kernel_rfl) (by kernel_rfl) (ZVR k)
noncomputable abbrev ZXp:Nat × Callee:=(151,mk Z3 Zi Zvt)
abbrev Zos:List Kd:=[.view (.int .i64),.box [.view (.int .i64),.view (.int .i64),.view (.int .i64),.view (.sl (.int .i64)),.view (.sl (.int .i64)),.view (.int .i64),.view (.sl (.int .i64)),.view (.int .i64)]]
def ZgE (k:Nat):Int × (Int × Int × Int × List Int × List Int × Int × List Int × Int × Unit) × Unit → Option (Bool × (Int × Int × Int × List Int × List Int × Int × List Int × Int × Unit) × Unit)
 | (a0,(a1,a2,a3,a4,a5,a6,a7,a8,()),()) => bif decide ((0:Int) ≤ 0 ∧ (0:Int) < Int.ofNat a4.length) then some (a0 != a4.getD 0 0,(a1,a2,a3,a4,a5,a6,a7,a8,()),()) else none
def Zqm (k:Nat):=ZgE k
theorem ZP1 (k:Nat) (x:Kd.dens Zos):ZB (Z4 k) nA Tryz.f197 Zos ZE x = Zqm k x:=by
 show _ = ZgE k x
 obtain ⟨a0,⟨⟨a1,⟨a2,⟨a3,⟨a4,⟨a5,⟨a6,⟨a7,⟨a8,⟨⟩⟩⟩⟩⟩⟩⟩⟩⟩,⟨⟩⟩⟩:=x
 kernel_rfl
theorem ZKY (k:Nat):Ctr Tryz.prog k 197 (mk Zos ZE Zqm) :=
 ZC (fn:=Tryz.f197) (Zg Zd) (by kernel_rfl) (by kernel_rfl) (ZP1 k)
noncomputable abbrev ZUe:Nat × Callee:=(197,mk Zos ZE Zqm)
abbrev XL:List Kd:=[.view (.sl (.int .i64)),.clo 197 [.box [.view (.int .i64),.view (.int .i64),.view (.int .i64),.view (.sl (.int .i64)),.view (.sl (.int .i64)),.view (.int .i64),.view (.sl (.int .i64)),.view (.int .i64)]]]
noncomputable def Zqw (k:Nat):=Wf k [ZUe]
abbrev ZmE:=Int × Int × List Int × Int × Int × Int × List Int × List Int × Int × List Int × Int
abbrev Zg7:=ZmE → Option (Int × (Int × Int × Int × List Int × List Int × Int × List Int × Int × Unit) × Unit)
def ZIh:ZmE → St
 | (v0,v1,v2,v3,v4,v5,v6,v7,v8,v9,v10) => St.mk (Zw [(7,Zl v0),(8,Zl v1),(1,AV.clo 197 [AV.bx 0 0]),(0,Ym v2)]) (Zv [(0,QQ [Zl v3,Zl v4,Zl v5,Ym v6,Ym v7,Zl v8,Ym v9,Zl v10])])
def KZ (k:Nat) (L1:Zg7):Zg7
 | (v0,v1,v2,v3,v4,v5,v6,v7,v8,v9,v10) => bif decide (v1 < v0) then bif decide (0 ≤ v1 ∧ v1 < Int.ofNat v2.length) then (Zqm k (v2.getD v1.toNat 0,(v3,v4,v5,v6,v7,v8,v9,v10,()),())).bind fun y => bif y.1 then some (v1,(y.2.1.1,y.2.1.2.1,y.2.1.2.2.1,y.2.1.2.2.2.1,y.2.1.2.2.2.2.1,y.2.1.2.2.2.2.2.1,y.2.1.2.2.2.2.2.2.1,y.2.1.2.2.2.2.2.2.2.1,()),()) else L1 (v0,IntKind.i64.wrap (v1 + 1),v2,y.2.1.1,y.2.1.2.1,y.2.1.2.2.1,y.2.1.2.2.2.1,y.2.1.2.2.2.2.1,y.2.1.2.2.2.2.2.1,y.2.1.2.2.2.2.2.2.1,y.2.1.2.2.2.2.2.2.2.1) else none else some ((-1:Int),(v3,v4,v5,v6,v7,v8,v9,v10,()),())
def ZmD (k:Nat):Zg7:=Zm (fun L1 => KZ k L1) k
noncomputable def Zqx (k:Nat) (n:Nat) (v:ZmE) :=
 Zr (Zqw k) X7 [0] [1,0,1,0] [] (Q7 Tryz.f241) (Wd (Zqw k) Tryz.f241 XL Zi [AV.bx (nat_lit 0) (nat_lit 0)] [[]]) n (ZIh v)
def ZnN (k:Nat) (L1:Zg7):List Int × ((Int × Int × Int × List Int × List Int × Int × List Int × Int × Unit) × Unit) × Unit → Option (Int × (Int × Int × Int × List Int × List Int × Int × List Int × Int × Unit) × Unit)
 | (a0,((a1,a2,a3,a4,a5,a6,a7,a8,()),()),()) => L1 (Int.ofNat a0.length,(0:Int),a0,a1,a2,a3,a4,a5,a6,a7,a8)
def Zfc (k:Nat):=ZnN k (ZmD k)
theorem Zz9 (k:Nat):∀ n,Zqx k n = Zm (fun L1 => KZ k L1) n :=
 Zh (fun v => by kernel_rfl) (fun n v => by
  obtain ⟨v0,v1,v2,v3,v4,v5,v6,v7,v8,v9,v10⟩:=v
  kernel_rfl)
theorem ZIi (k:Nat) (x:Kd.dens XL):ZB (Zqw k) X7 Tryz.f241 XL Zi x = Zfc k x:=by
 show _ = ZnN k (ZmD k) x
 rw [show ZmD k = Zqx k k from (Zz9 k k).symm]
 obtain ⟨a0,⟨⟨⟨a1,⟨a2,⟨a3,⟨a4,⟨a5,⟨a6,⟨a7,⟨a8,⟨⟩⟩⟩⟩⟩⟩⟩⟩⟩,⟨⟩⟩,⟨⟩⟩⟩:=x
 kernel_rfl
theorem ZC4 (k:Nat):Ctr Tryz.prog k 241 (mk XL Zi Zfc) :=
 ZC (fn:=Tryz.f241) (Zg (Za (ZKY k) Zd)) (by kernel_rfl) (by kernel_rfl) (ZIi k)
noncomputable abbrev ZLt:Nat × Callee:=(241,mk XL Zi Zfc)
noncomputable def ZKM (k:Nat):=Wf k [ZLt]
def ZbJ (k:Nat):List Int × ((Int × Int × Int × List Int × List Int × Int × List Int × Int × Unit) × Unit) × Unit → Option (Bool × (Int × Int × Int × List Int × List Int × Int × List Int × Int × Unit) × Unit)
 | (a0,((a1,a2,a3,a4,a5,a6,a7,a8,()),()),()) => (Zfc k (a0,((a1,a2,a3,a4,a5,a6,a7,a8,()),()),())).bind fun y => some (decide ((0:Int) ≤ y.1),(y.2.1.1,y.2.1.2.1,y.2.1.2.2.1,y.2.1.2.2.2.1,y.2.1.2.2.2.2.1,y.2.1.2.2.2.2.2.1,y.2.1.2.2.2.2.2.2.1,y.2.1.2.2.2.2.2.2.2.1,()),())
def Ze3 (k:Nat):=ZbJ k
theorem ZHz (k:Nat) (x:Kd.dens XL):ZB (ZKM k) nA Tryz.f193 XL ZE x = Ze3 k x:=by
 show _ = ZbJ k x
 obtain ⟨a0,⟨⟨⟨a1,⟨a2,⟨a3,⟨a4,⟨a5,⟨a6,⟨a7,⟨a8,⟨⟩⟩⟩⟩⟩⟩⟩⟩⟩,⟨⟩⟩,⟨⟩⟩⟩:=x
 kernel_rfl
theorem ZCP (k:Nat):Ctr Tryz.prog k 193 (mk XL ZE Ze3) :=
 ZC (fn:=Tryz.f193) (Zg (Za (ZC4 k) Zd)) (by kernel_rfl) (by kernel_rfl) (ZHz k)
noncomputable abbrev ZKN:Nat × Callee:=(193,mk XL ZE Ze3)
abbrev ZoU:List Kd:=[.view (.int .u64)]
def ZC8 (k:Nat):Int × Unit → Option (Int × Unit):=fun x => tzF x
def ZXI:Go.Shelf.Ren:=⟨fun n => match n with | 29 => 242 | _ => 0,fun n => match n with | 0 => 0 | 3 => 3 | 4 => 4 | 5 => 5 | 22 => 124 | 25 => 62 | 54 => 301 | _ => 0,fun n => match n with | 1 => 4 | _ => 0⟩
set_option maxRecDepth 100000 in
theorem ZWB:Go.Proofs.Lays7.n29 Tryz.prog ZXI:=by
 constructor <;> first | kernel_rfl | (intro w; rfl)
set_option maxRecDepth 100000 in
theorem ZLx (k:Nat):Ctr Tryz.prog k 242 (mk ZoU Zi ZC8):=ZWC ZWB (fn:=Tryz.f242) (by kernel_rfl) rfl (by kernel_rfl) (by kernel_rfl) (by kernel_rfl)
noncomputable abbrev ZUw:Nat × Callee:=(242,mk ZoU Zi ZC8)
noncomputable def ZCT (k:Nat):=Wf k [ZUw]
def ZKV:Nat → Ann:=fun id => bif Nat.beq id 3 then ⟨[7,8,6,3],[]⟩ else ⟨[],[]⟩
abbrev Zop:=Wt → Option (Int × Unit)
def ZPY:Wt → St
 | (v0,v1,v2,v3) => St.mk (Zw [(7,Zl v0),(8,Zl v1),(6,Ym v2),(3,Zl v3)]) (Zv [])
def Zcu (k:Nat) (L1:Zop):Zop
 | (v0,v1,v2,v3) => bif decide (v1 < v0) then bif decide (0 ≤ v1 ∧ v1 < Int.ofNat v2.length) then L1 (v0,IntKind.i64.wrap (v1 + 1),v2,IntKind.i64.wrap (Int.ofNat (BitVec.ofInt 64 v3 ||| BitVec.ofInt 64 (v2.getD v1.toNat 0)).toNat)) else none else bif v3 == 0 then some (0,()) else (ZC8 k (IntKind.u64.wrap v3,())).bind fun y => some (y.1,())
def Zoq (k:Nat):Zop:=Zm (fun L1 => Zcu k L1) k
noncomputable def ZzL (k:Nat) (n:Nat) (v:Wt) :=
 Zr (ZCT k) ZKV [] [1,1,0,1,0] [] (Q7 Tryz.f195) (Wd (ZCT k) Tryz.f195 Zan Zi [] []) n (ZPY v)
def ZgD (k:Nat) (L1:Zop):List Int × Unit → Option (Int × Unit)
 | (a0,()) => L1 (Int.ofNat a0.length,(0:Int),a0,(0:Int))
def Zqk (k:Nat):=ZgD k (Zoq k)
theorem ZHF (k:Nat):∀ n,ZzL k n = Zm (fun L1 => Zcu k L1) n :=
 Zh (fun v => by kernel_rfl) (fun n v => by
  obtain ⟨v0,v1,v2,v3⟩:=v
  kernel_rfl)
theorem ZPZ (k:Nat) (x:Kd.dens Zan):ZB (ZCT k) ZKV Tryz.f195 Zan Zi x = Zqk k x:=by
 show _ = ZgD k (Zoq k) x
 rw [show Zoq k = ZzL k k from (ZHF k k).symm]
 obtain ⟨a0,⟨⟩⟩:=x
 kernel_rfl
theorem ZKW (k:Nat):Ctr Tryz.prog k 195 (mk Zan Zi Zqk) :=
 ZC (fn:=Tryz.f195) (Zg (Za (ZLx k) Zd)) (by kernel_rfl) (by kernel_rfl) (ZPZ k)
noncomputable abbrev ZUc:Nat × Callee:=(195,mk Zan Zi Zqk)
abbrev Yo:Kd:=.tup [.view ZiZ,.view (.int .i64)]
def ZwM:Nat → Ann:=fun id => bif Nat.beq id 17 then ⟨[48,49,47,8,2],[.cell 8 0 ((Ty.int IntKind.i64))]⟩ else bif Nat.beq id 9 then ⟨[29,30,28,5,20,19,2],[]⟩ else bif Nat.beq id 5 then ⟨[19,20,4,2],[]⟩ else ⟨[],[]⟩
abbrev ZwQ:=Int × Int × Int × Int × List Int × List Int × Int
abbrev Zot:=ZwQ → Option (((List Int × Int × Unit) × Int × Unit) × Unit)
abbrev ZgG:=Int × Int × List Int × Int × List Int × Int
abbrev Zou:=ZgG → Option (((List Int × Int × Unit) × Int × Unit) × Unit)
abbrev ZgF:=Wt → Option (((List Int × Int × Unit) × Int × Unit) × Unit)
def ZP3:ZwQ → St
 | (v0,v1,v2,v3,v4,v5,v6) => St.mk (Zw [(29,Zl v0),(30,Zl v1),(28,AV.own 8192),(5,AV.own 8193),(20,Zl v2),(19,Zl v3),(2,AV.bx 8194 0)]) (Zv [(8192,rsA v4 false),(8193,rsA v5 false),(8194,QQ [AV.val (PV.v (Value.slice none (0:Nat) (0:Nat))),Zl v6])])
def Zmr (k:Nat) (L1:ZgF) (L2:Zot):Zot
 | (v0,v1,v2,v3,v4,v5,v6) => bif decide (v1 < v0) then bif decide (0 ≤ v1 ∧ v1 < Int.ofNat v4.length) then bif decide (v1.toNat < v4.length) then bif decide (0 ≤ IntKind.i64.wrap (v1 + 1) ∧ IntKind.i64.wrap (v1 + 1) < Int.ofNat v5.length) then bif decide ((IntKind.i64.wrap (v1 + 1)).toNat < v5.length) then bif decide (0 ≤ IntKind.i64.wrap (v1 + 1) ∧ IntKind.i64.wrap (v1 + 1) < Int.ofNat v5.length) then bif decide ((IntKind.i64.wrap (v1 + 1)).toNat < v5.length) then L2 (v0,IntKind.i64.wrap (v1 + 1),v2,v3,v4,v5.set (IntKind.i64.wrap (v1 + 1)).toNat (IntKind.i64.wrap (v5.getD (IntKind.i64.wrap (v1 + 1)).toNat 0 - v4.getD v1.toNat 0)),v6) else none else none else none else none else none else none else L1 (v3,IntKind.i64.wrap (v2 + 1),v5,v6)
def ZwO (k:Nat) (L1:ZgF):Zot:=Zm (fun L2 => Zmr k L1 L2) k
noncomputable def ZjG (k:Nat) (n1:Nat) (n:Nat) (v:ZwQ):Option (((List Int × Int × Unit) × Int × Unit) × Unit) :=
 Zr (Z4 k) ZwM [] [1,1,1,0,1,0,0,1,1,0,0,1,1,0,1,0] [n1] (Q7 Tryz.f171) (Wd (Z4 k) Tryz.f171 ZA Yo [] []) n (ZP3 v)
def ZP4:ZgG → St
 | (v0,v1,v2,v3,v4,v5) => St.mk (Zw [(48,Zl v0),(49,Zl v1),(47,Ym v2),(8,AV.bx 8192 0),(2,AV.bx 8194 0)]) (Zv [(8192,QQ [AV.own 8193,Zl v3]),(8193,rsA v4 false),(8194,QQ [AV.val (PV.v (Value.slice none (0:Nat) (0:Nat))),Zl v5])])
def Zuo (k:Nat) (L3:Zou):Zou
 | (v0,v1,v2,v3,v4,v5) => bif decide (v1 < v0) then bif decide (0 ≤ v1 ∧ v1 < Int.ofNat v2.length) then bif decide (v4.length + [IntKind.i64.wrap ((0:Int) - v2.getD v1.toNat 0)].length < 2147483648) then L3 (v0,IntKind.i64.wrap (v1 + 1),v2,v3,v4 ++ [IntKind.i64.wrap ((0:Int) - v2.getD v1.toNat 0)],v5) else none else none else some (((v4,v3,()),0,()),())
def ZwP (k:Nat):Zou:=Zm (fun L3 => Zuo k L3) k
noncomputable def ZzM (k:Nat) (n:Nat) (v:ZgG) :=
 Zr (Z4 k) ZwM [] [1,1,1,1,1,0,1,0] [] (Q7 Tryz.f171) (Wd (Z4 k) Tryz.f171 ZA Yo [] []) n (ZP4 v)
def ZP2:Wt → St
 | (v0,v1,v2,v3) => St.mk (Zw [(19,Zl v0),(20,Zl v1),(4,AV.own 8192),(2,AV.bx 8193 0)]) (Zv [(8192,rsA v2 false),(8193,QQ [AV.val (PV.v (Value.slice none (0:Nat) (0:Nat))),Zl v3])])
def Zun (k:Nat) (L2:Zot) (L3:Zou) (L1:ZgF):ZgF
 | (v0,v1,v2,v3) => bif decide (v1 < v0) then bif decide ((0:Nat) + v2.length < 2147483648) then bif decide (([] ++ v2).length + (1:Nat) < (2147483648:Nat)) then L2 (Int.ofNat v2.length,(0:Int),v1,v0,v2,[] ++ v2 ++ [(0:Int)],v3) else none else none else bif decide ((0:Int) ≤ 1 ∧ (1:Int) ≤ Int.ofNat v2.length ∧ Int.ofNat v2.length ≤ Int.ofNat v2.length) then L3 (Int.ofNat (List.drop 1 (List.take (Int.ofNat v2.length).toNat v2)).length,(0:Int),List.drop 1 (List.take (Int.ofNat v2.length).toNat v2),(0:Int),[],v3) else none
def ZwN (k:Nat):ZgF:=Zm (fun L1 => Zun k (ZwO k L1) (ZwP k) L1) k
noncomputable def Ze7 (k:Nat) (n:Nat) (v:Wt) :=
 Zr (Z4 k) ZwM [] [1,1,1,0,1,0] [] (Q7 Tryz.f171) (Wd (Z4 k) Tryz.f171 ZA Yo [] []) n (ZP2 v)
def Zum (k:Nat) (L1:ZgF):Int × Unit → Option (((List Int × Int × Unit) × Int × Unit) × Unit)
 | (a0,()) => bif decide (a0 < 0) then some ((([],(0:Int),()),1,()),()) else bif decide ((4:Int) < a0) then some ((([],(0:Int),()),1,()),()) else L1 (a0,(0:Int),[(1:Int)],(0:Int))
def Ze6 (k:Nat):=Zum k (ZwN k)
theorem ZHI (k:Nat) (n1:Nat):∀ n,ZjG k n1 n = Zm (fun L2 => Zmr k (Ze7 k n1) L2) n :=
 Zh (fun v => by kernel_rfl) (fun n v => by
  show ZjG k n1 (n + 1) v = Zmr k (Ze7 k n1) (ZjG k n1 n) v
  obtain ⟨v0,v1,v2,v3,v4,v5,v6⟩:=v
  kernel_rfl)
theorem ZHJ (k:Nat):∀ n,ZzM k n = Zm (fun L3 => Zuo k L3) n :=
 Zh (fun v => by kernel_rfl) (fun n v => by
  obtain ⟨v0,v1,v2,v3,v4,v5⟩:=v
  kernel_rfl)
theorem ZHH (k:Nat):∀ n,Ze7 k n = Zm (fun L1 => Zun k (ZwO k L1) (ZwP k) L1) n :=
 Zh (fun v => by kernel_rfl) (fun n v => by
  rw [show (ZwO k (Ze7 k n)) = ZjG k n k from (ZHI k n k).symm,show (ZwP k) = ZzM k k from (ZHJ k k).symm]
  obtain ⟨v0,v1,v2,v3⟩:=v
  kernel_rfl)
theorem ZP5 (k:Nat) (x:Kd.dens ZA):ZB (Z4 k) ZwM Tryz.f171 ZA Yo x = Ze6 k x:=by
 show _ = Zum k (ZwN k) x
 rw [show ZwN k = Ze7 k k from (ZHH k k).symm]
 obtain ⟨a0,⟨⟩⟩:=x
 kernel_rfl
theorem Zqn (k:Nat):Ctr Tryz.prog k 171 (mk ZA Yo Ze6) :=
 ZC (fn:=Tryz.f171) (Zg Zd) (by kernel_rfl) (by kernel_rfl) (ZP5 k)
noncomputable abbrev ZCU:Nat × Callee:=(171,mk ZA Yo Ze6)
def Zha (k:Nat):Int × Unit → Option (Bool × Unit)
 | (a0,()) => bif decide (a0 ≤ -2147483648) then some (true,()) else some (decide (2147483648 ≤ a0),())
def ZiM (k:Nat):=Zha k
theorem ZQL (k:Nat) (x:Kd.dens ZA):ZB (Z4 k) nA Tryz.f220 ZA ZE x = ZiM k x:=by
 show _ = Zha k x
 obtain ⟨a0,⟨⟩⟩:=x
 kernel_rfl
theorem ZqF (k:Nat):Ctr Tryz.prog k 220 (mk ZA ZE ZiM) :=
 ZC (fn:=Tryz.f220) (Zg Zd) (by kernel_rfl) (by kernel_rfl) (ZQL k)
noncomputable abbrev ZDc:Nat × Callee:=(220,mk ZA ZE ZiM)
abbrev XM:List Kd:=[.view (.sl (.int .i64)),.fn 220]
noncomputable def Zqy (k:Nat):=Wf k [ZDc]
abbrev Kn:=Int × Int × List Int
abbrev Wu:=Kn → Option (Int × Unit)
def ZIj:Kn → St
 | (v0,v1,v2) => St.mk (Zw [(7,Zl v0),(8,Zl v1),(1,AV.fn 220),(0,Ym v2)]) (Zv [])
def K0 (k:Nat) (L1:Wu):Wu
 | (v0,v1,v2) => bif decide (v1 < v0) then bif decide (0 ≤ v1 ∧ v1 < Int.ofNat v2.length) then (ZiM k (v2.getD v1.toNat 0,())).bind fun y => bif y.1 then some (v1,()) else L1 (v0,IntKind.i64.wrap (v1 + 1),v2) else none else some ((-1:Int),())
def ZmF (k:Nat):Wu:=Zm (fun L1 => K0 k L1) k
noncomputable def Zqz (k:Nat) (n:Nat) (v:Kn) :=
 Zr (Zqy k) X7 [] [1,0,1,0] [] (Q7 Tryz.f241) (Wd (Zqy k) Tryz.f241 XM Zi [] []) n (ZIj v)
def ZnO (k:Nat) (L1:Wu):List Int × Unit × Unit → Option (Int × Unit)
 | (a0,(),()) => L1 (Int.ofNat a0.length,(0:Int),a0)
def Zfd (k:Nat):=ZnO k (ZmF k)
theorem ZAa (k:Nat):∀ n,Zqz k n = Zm (fun L1 => K0 k L1) n :=
 Zh (fun v => by kernel_rfl) (fun n v => by
  obtain ⟨v0,v1,v2⟩:=v
  kernel_rfl)
theorem ZIk (k:Nat) (x:Kd.dens XM):ZB (Zqy k) X7 Tryz.f241 XM Zi x = Zfd k x:=by
 show _ = ZnO k (ZmF k) x
 rw [show ZmF k = Zqz k k from (ZAa k k).symm]
 obtain ⟨a0,⟨⟨⟩,⟨⟩⟩⟩:=x
 kernel_rfl
theorem ZC5 (k:Nat):Ctr Tryz.prog k 241 (mk XM Zi Zfd) :=
 ZC (fn:=Tryz.f241) (Zg (Za (ZqF k) Zd)) (by kernel_rfl) (by kernel_rfl) (ZIk k)
noncomputable abbrev ZLu:Nat × Callee:=(241,mk XM Zi Zfd)
noncomputable def ZKO (k:Nat):=Wf k [ZLu]
def ZbK (k:Nat):List Int × Unit × Unit → Option (Bool × Unit)
 | (a0,(),()) => (Zfd k (a0,(),())).bind fun y => some (decide ((0:Int) ≤ y.1),())
def KV (k:Nat):=ZbK k
theorem ZHA (k:Nat) (x:Kd.dens XM):ZB (ZKO k) nA Tryz.f193 XM ZE x = KV k x:=by
 show _ = ZbK k x
 obtain ⟨a0,⟨⟨⟩,⟨⟩⟩⟩:=x
 kernel_rfl
theorem ZiF (k:Nat):Ctr Tryz.prog k 193 (mk XM ZE KV) :=
 ZC (fn:=Tryz.f193) (Zg (Za (ZC5 k) Zd)) (by kernel_rfl) (by kernel_rfl) (ZHA k)
noncomputable abbrev Zqi:Nat × Callee:=(193,mk XM ZE KV)
def Zhu (k:Nat):Int × Unit → Option (Bool × Unit)
 | (a0,()) => bif decide (a0 < -2048) then some (true,()) else some (decide ((2047:Int) < a0),())
def ZqV (k:Nat):=Zhu k
theorem ZRi (k:Nat) (x:Kd.dens ZA):ZB (Z4 k) nA Tryz.f257 ZA ZE x = ZqV k x:=by
 show _ = Zhu k x
 obtain ⟨a0,⟨⟩⟩:=x
 kernel_rfl
theorem ZMb (k:Nat):Ctr Tryz.prog k 257 (mk ZA ZE ZqV) :=
 ZC (fn:=Tryz.f257) (Zg Zd) (by kernel_rfl) (by kernel_rfl) (ZRi k)
noncomputable abbrev ZU6:Nat × Callee:=(257,mk ZA ZE ZqV)
abbrev XO:List Kd:=[.view (.sl (.int .i64)),.fn 257]
noncomputable def ZqC (k:Nat):=Wf k [ZU6]
def ZIn:Kn → St
 | (v0,v1,v2) => St.mk (Zw [(7,Zl v0),(8,Zl v1),(1,AV.fn 257),(0,Ym v2)]) (Zv [])
def K2 (k:Nat) (L1:Wu):Wu
 | (v0,v1,v2) => bif decide (v1 < v0) then bif decide (0 ≤ v1 ∧ v1 < Int.ofNat v2.length) then (ZqV k (v2.getD v1.toNat 0,())).bind fun y => bif y.1 then some (v1,()) else L1 (v0,IntKind.i64.wrap (v1 + 1),v2) else none else some ((-1:Int),())
def ZmH (k:Nat):Wu:=Zm (fun L1 => K2 k L1) k
noncomputable def ZqD (k:Nat) (n:Nat) (v:Kn) :=
 Zr (ZqC k) X7 [] [1,0,1,0] [] (Q7 Tryz.f241) (Wd (ZqC k) Tryz.f241 XO Zi [] []) n (ZIn v)
def ZnQ (k:Nat) (L1:Wu):List Int × Unit × Unit → Option (Int × Unit)
 | (a0,(),()) => L1 (Int.ofNat a0.length,(0:Int),a0)
def Zff (k:Nat):=ZnQ k (ZmH k)
theorem ZAc (k:Nat):∀ n,ZqD k n = Zm (fun L1 => K2 k L1) n :=
 Zh (fun v => by kernel_rfl) (fun n v => by
  obtain ⟨v0,v1,v2⟩:=v
  kernel_rfl)
theorem ZIo (k:Nat) (x:Kd.dens XO):ZB (ZqC k) X7 Tryz.f241 XO Zi x = Zff k x:=by
 show _ = ZnQ k (ZmH k) x
 rw [show ZmH k = ZqD k k from (ZAc k k).symm]
 obtain ⟨a0,⟨⟨⟩,⟨⟩⟩⟩:=x
 kernel_rfl
theorem ZC7 (k:Nat):Ctr Tryz.prog k 241 (mk XO Zi Zff) :=
 ZC (fn:=Tryz.f241) (Zg (Za (ZMb k) Zd)) (by kernel_rfl) (by kernel_rfl) (ZIo k)
noncomputable abbrev ZLw:Nat × Callee:=(241,mk XO Zi Zff)
noncomputable def ZKR (k:Nat):=Wf k [ZLw]
def ZbN (k:Nat):List Int × Unit × Unit → Option (Bool × Unit)
 | (a0,(),()) => (Zff k (a0,(),())).bind fun y => some (decide ((0:Int) ≤ y.1),())
def Ze5 (k:Nat):=ZbN k
theorem ZHC (k:Nat) (x:Kd.dens XO):ZB (ZKR k) nA Tryz.f193 XO ZE x = Ze5 k x:=by
 show _ = ZbN k x
 obtain ⟨a0,⟨⟨⟩,⟨⟩⟩⟩:=x
 kernel_rfl
theorem ZCR (k:Nat):Ctr Tryz.prog k 193 (mk XO ZE Ze5) :=
 ZC (fn:=Tryz.f193) (Zg (Za (ZC7 k) Zd)) (by kernel_rfl) (by kernel_rfl) (ZHC k)
noncomputable abbrev ZKS:Nat × Callee:=(193,mk XO ZE Ze5)
abbrev Zo5:List Kd:=[.view ZiZ]
noncomputable def ZUO (k:Nat):=Wf k [ZKS]
def Zhm (k:Nat):(List Int × Int × Unit) × Unit → Option (Int × Unit)
 | ((a0,a1,()),()) => bif decide ((8:Int) < Int.ofNat a0.length) then some (2,()) else bif decide (a1 < 0) then some (2,()) else bif decide ((15:Int) < a1) then some (2,()) else (Ze5 k (a0,(),())).bind fun y => bif y.1 then some (2,()) else some (0,())
def ZmR (k:Nat):=Zhm k
theorem ZQ5 (k:Nat) (x:Kd.dens Zo5):ZB (ZUO k) nA Tryz.f219 Zo5 Zi x = ZmR k x:=by
 show _ = Zhm k x
 obtain ⟨⟨a0,⟨a1,⟨⟩⟩⟩,⟨⟩⟩:=x
 kernel_rfl
theorem ZAr (k:Nat):Ctr Tryz.prog k 219 (mk Zo5 Zi ZmR) :=
 ZC (fn:=Tryz.f219) (Zg (Za (ZCR k) Zd)) (by kernel_rfl) (by kernel_rfl) (ZQ5 k)
noncomputable abbrev ZLU:Nat × Callee:=(219,mk Zo5 Zi ZmR)
abbrev Xa:List Kd:=[.view ZiZ,.view (.sl (.int .i64))]
def ZLV:Nat → Ann:=fun id => bif Nat.beq id 3 then ⟨[10,11,9,5,1,2],[]⟩ else ⟨[],[]⟩
abbrev Zxi:=Int × Int × List Int × Int × List Int × List Int × Int
abbrev Zo6:=Zxi → Option (Int × Unit)
def ZQ6:Zxi → St
 | (v0,v1,v2,v3,v4,v5,v6) => St.mk (Zw [(10,Zl v0),(11,Zl v1),(9,Ym v2),(5,Zl v3),(1,Ym v4),(2,AV.bx 8192 0)]) (Zv [(8192,QQ [Ym v5,Zl v6])])
def ZcN (k:Nat) (L1:Zo6):Zo6
 | (v0,v1,v2,v3,v4,v5,v6) => bif decide (v1 < v0) then bif decide (0 ≤ v1 ∧ v1 < Int.ofNat v2.length) then bif decide (0 ≤ IntKind.i64.wrap (IntKind.i64.wrap (Int.ofNat v4.length - (1:Int)) - v1) ∧ IntKind.i64.wrap (IntKind.i64.wrap (Int.ofNat v4.length - (1:Int)) - v1) < Int.ofNat v4.length) then L1 (v0,IntKind.i64.wrap (v1 + 1),v2,IntKind.i64.wrap (v3 + IntKind.i64.wrap (v2.getD v1.toNat 0 * v4.getD (IntKind.i64.wrap (IntKind.i64.wrap (Int.ofNat v4.length - (1:Int)) - v1)).toNat 0)),v4,v5,v6) else none else none else bif decide (0 ≤ v6) then some (v3.fdiv ((2:Int) ^ min v6.toNat 64),()) else none
def Zo7 (k:Nat):Zo6:=Zm (fun L1 => ZcN k L1) k
noncomputable def ZAs (k:Nat) (n:Nat) (v:Zxi) :=
 Zr (Z4 k) ZLV [] [1,1,0,1,0] [] (Q7 Tryz.f222) (Wd (Z4 k) Tryz.f222 Xa Zi [] []) n (ZQ6 v)
def Zhn (k:Nat) (L1:Zo6):(List Int × Int × Unit) × List Int × Unit → Option (Int × Unit)
 | ((a0,a1,()),a2,()) => L1 (Int.ofNat a0.length,(0:Int),a0,(0:Int),a2,a0,a1)
def ZmS (k:Nat):=Zhn k (Zo7 k)
theorem ZIE (k:Nat):∀ n,ZAs k n = Zm (fun L1 => ZcN k L1) n :=
 Zh (fun v => by kernel_rfl) (fun n v => by
  obtain ⟨v0,v1,v2,v3,v4,v5,v6⟩:=v
  kernel_rfl)
theorem ZQ7 (k:Nat) (x:Kd.dens Xa):ZB (Z4 k) ZLV Tryz.f222 Xa Zi x = ZmS k x:=by
 show _ = Zhn k (Zo7 k) x
 rw [show Zo7 k = ZAs k k from (ZIE k k).symm]
 obtain ⟨⟨a0,⟨a1,⟨⟩⟩⟩,⟨a2,⟨⟩⟩⟩:=x
 kernel_rfl
theorem ZAt (k:Nat):Ctr Tryz.prog k 222 (mk Xa Zi ZmS) :=
 ZC (fn:=Tryz.f222) (Zg Zd) (by kernel_rfl) (by kernel_rfl) (ZQ7 k)
noncomputable abbrev ZLW:Nat × Callee:=(222,mk Xa Zi ZmS)
abbrev QX:Kd:=.tup [.view (.sl (.int .i64)),.view (.int .i64)]
noncomputable def ZC9 (k:Nat):=Wf k [Zqi,ZDc,ZLU,ZLW]
def ZLy:Nat → Ann:=fun id => bif Nat.beq id 9 then ⟨[7,1,2,6],[.slot 6 ((Ty.int IntKind.i64))]⟩ else ⟨[],[]⟩
abbrev Zxa:=Int × List Int × List Int × Int × List Int
abbrev ZoV:=Zxa → Option ((List Int × Int × Unit) × Unit)
def ZQH:Zxa → St
 | (v0,v1,v2,v3,v4) => St.mk (Zw [(7,Zl v0),(1,Ym v1),(2,AV.bx 8192 0),(6,AV.own 8193)]) (Zv [(8192,QQ [Ym v2,Zl v3]),(8193,rsA v4 false)])
def ZcG (k:Nat) (L1:ZoV):ZoV
 | (v0,v1,v2,v3,v4) => bif decide (v0 < Int.ofNat v1.length) then bif decide (0 ≤ v0 ∧ v0 < Int.ofNat v1.length) then bif decide ((0:Int) ≤ 0 ∧ (0:Int) ≤ v0 ∧ v0 ≤ Int.ofNat v1.length) then (ZmS k ((v2,v3,()),List.drop 0 (List.take v0.toNat v1),())).bind fun y => (ZiM k (IntKind.i64.wrap (v1.getD v0.toNat 0 - y.1),())).bind fun y_1 => bif y_1.1 then some (([],12,()),()) else bif decide (v4.length + [IntKind.i64.wrap (v1.getD v0.toNat 0 - y.1)].length < 2147483648) then L1 (IntKind.i64.wrap (v0 + 1),v1,v2,v3,v4 ++ [IntKind.i64.wrap (v1.getD v0.toNat 0 - y.1)]) else none else none else none else some ((v4,0,()),())
def ZoW (k:Nat):ZoV:=Zm (fun L1 => ZcG k L1) k
noncomputable def ZAd (k:Nat) (n:Nat) (v:Zxa) :=
 Zr (ZC9 k) ZLy [] [1,1,1,0,1,0] [] (Q7 Tryz.f243) (Wd (ZC9 k) Tryz.f243 Xa QX [] []) n (ZQH v)
def Zg8 (k:Nat) (L1:ZoV):(List Int × Int × Unit) × List Int × Unit → Option ((List Int × Int × Unit) × Unit)
 | ((a0,a1,()),a2,()) => (ZmR k ((a0,a1,()),())).bind fun y => bif y.1 != 0 then some (([],2,()),()) else bif decide (Int.ofNat a2.length < Int.ofNat a0.length) then some (([],1,()),()) else (KV k (a2,(),())).bind fun y => bif y.1 then some (([],12,()),()) else L1 (Int.ofNat a0.length,a2,a0,a1,[])
def ZmI (k:Nat):=Zg8 k (ZoW k)
theorem ZIp (k:Nat):∀ n,ZAd k n = Zm (fun L1 => ZcG k L1) n :=
 Zh (fun v => by kernel_rfl) (fun n v => by
  obtain ⟨v0,v1,v2,v3,v4⟩:=v
  kernel_rfl)
theorem ZQI (k:Nat) (x:Kd.dens Xa):ZB (ZC9 k) ZLy Tryz.f243 Xa QX x = ZmI k x:=by
 show _ = Zg8 k (ZoW k) x
 rw [show ZoW k = ZAd k k from (ZIp k k).symm]
 obtain ⟨⟨a0,⟨a1,⟨⟩⟩⟩,⟨a2,⟨⟩⟩⟩:=x
 kernel_rfl
theorem ZAe (k:Nat):Ctr Tryz.prog k 243 (mk Xa QX ZmI) :=
 ZC (fn:=Tryz.f243) (Zg (Za (ZiF k) (Za (ZqF k) (Za (ZAr k) (Za (ZAt k) Zd))))) (by kernel_rfl) (by kernel_rfl) (ZQI k)
noncomputable abbrev ZLz:Nat × Callee:=(243,mk Xa QX ZmI)
def Zhd (k:Nat):Int × Unit → Option (Bool × Unit)
 | (a0,()) => bif decide (a0 ≤ -2147483648) then some (true,()) else some (decide (2147483648 ≤ a0),())
def ZqI (k:Nat):=Zhd k
theorem ZQR (k:Nat) (x:Kd.dens ZA):ZB (Z4 k) nA Tryz.f247 ZA ZE x = ZqI k x:=by
 show _ = Zhd k x
 obtain ⟨a0,⟨⟩⟩:=x
 kernel_rfl
theorem ZLL (k:Nat):Ctr Tryz.prog k 247 (mk ZA ZE ZqI) :=
 ZC (fn:=Tryz.f247) (Zg Zd) (by kernel_rfl) (by kernel_rfl) (ZQR k)
noncomputable abbrev ZUE:Nat × Callee:=(247,mk ZA ZE ZqI)
abbrev XN:List Kd:=[.view (.sl (.int .i64)),.fn 247]
noncomputable def ZqA (k:Nat):=Wf k [ZUE]
def ZIl:Kn → St
 | (v0,v1,v2) => St.mk (Zw [(7,Zl v0),(8,Zl v1),(1,AV.fn 247),(0,Ym v2)]) (Zv [])
def K1 (k:Nat) (L1:Wu):Wu
 | (v0,v1,v2) => bif decide (v1 < v0) then bif decide (0 ≤ v1 ∧ v1 < Int.ofNat v2.length) then (ZqI k (v2.getD v1.toNat 0,())).bind fun y => bif y.1 then some (v1,()) else L1 (v0,IntKind.i64.wrap (v1 + 1),v2) else none else some ((-1:Int),())
def ZmG (k:Nat):Wu:=Zm (fun L1 => K1 k L1) k
noncomputable def ZqB (k:Nat) (n:Nat) (v:Kn) :=
 Zr (ZqA k) X7 [] [1,0,1,0] [] (Q7 Tryz.f241) (Wd (ZqA k) Tryz.f241 XN Zi [] []) n (ZIl v)
def ZnP (k:Nat) (L1:Wu):List Int × Unit × Unit → Option (Int × Unit)
 | (a0,(),()) => L1 (Int.ofNat a0.length,(0:Int),a0)
def Zfe (k:Nat):=ZnP k (ZmG k)
theorem ZAb (k:Nat):∀ n,ZqB k n = Zm (fun L1 => K1 k L1) n :=
 Zh (fun v => by kernel_rfl) (fun n v => by
  obtain ⟨v0,v1,v2⟩:=v
  kernel_rfl)
theorem ZIm (k:Nat) (x:Kd.dens XN):ZB (ZqA k) X7 Tryz.f241 XN Zi x = Zfe k x:=by
 show _ = ZnP k (ZmG k) x
 rw [show ZmG k = ZqB k k from (ZAb k k).symm]
 obtain ⟨a0,⟨⟨⟩,⟨⟩⟩⟩:=x
 kernel_rfl
theorem ZC6 (k:Nat):Ctr Tryz.prog k 241 (mk XN Zi Zfe) :=
 ZC (fn:=Tryz.f241) (Zg (Za (ZLL k) Zd)) (by kernel_rfl) (by kernel_rfl) (ZIm k)
noncomputable abbrev ZLv:Nat × Callee:=(241,mk XN Zi Zfe)
noncomputable def ZKP (k:Nat):=Wf k [ZLv]
def ZbM (k:Nat):List Int × Unit × Unit → Option (Bool × Unit)
 | (a0,(),()) => (Zfe k (a0,(),())).bind fun y => some (decide ((0:Int) ≤ y.1),())
def Ze4 (k:Nat):=ZbM k
theorem ZHB (k:Nat) (x:Kd.dens XN):ZB (ZKP k) nA Tryz.f193 XN ZE x = Ze4 k x:=by
 show _ = ZbM k x
 obtain ⟨a0,⟨⟨⟩,⟨⟩⟩⟩:=x
 kernel_rfl
theorem ZCQ (k:Nat):Ctr Tryz.prog k 193 (mk XN ZE Ze4) :=
 ZC (fn:=Tryz.f193) (Zg (Za (ZC6 k) Zd)) (by kernel_rfl) (by kernel_rfl) (ZHB k)
noncomputable abbrev ZKQ:Nat × Callee:=(193,mk XN ZE Ze4)
def Zhc (k:Nat):Int × Int × Unit → Option (Bool × Unit)
 | (a0,a1,()) => bif decide (1 ≤ a0) then bif decide (a0 ≤ 512) then bif decide (0 ≤ a1) then some (decide (a1 ≤ if a0 < 8 then a0 else (8:Int)),()) else some (false,()) else some (false,()) else some (false,())
def ZmO (k:Nat):=Zhc k
theorem ZQQ (k:Nat) (x:Kd.dens Zam):ZB (Z4 k) nA Tryz.f216 Zam ZE x = ZmO k x:=by
 show _ = Zhc k x
 obtain ⟨a0,⟨a1,⟨⟩⟩⟩:=x
 kernel_rfl
theorem ZAl (k:Nat):Ctr Tryz.prog k 216 (mk Zam ZE ZmO) :=
 ZC (fn:=Tryz.f216) (Zg Zd) (by kernel_rfl) (by kernel_rfl) (ZQQ k)
noncomputable abbrev ZLK:Nat × Callee:=(216,mk Zam ZE ZmO)
noncomputable def ZUi (k:Nat):=Wf k [ZKQ,ZLK]
def ZgM (k:Nat):List Int × Int × Unit → Option (Int × Unit)
 | (a0,a1,()) => bif decide (a1 < 0) then some (1,()) else bif decide ((8:Int) < a1) then some (1,()) else (ZmO k (IntKind.i64.wrap (Int.ofNat a0.length + a1),a1,())).bind fun y => bif !y.1 then some (1,()) else (Ze4 k (a0,(),())).bind fun y => bif y.1 then some (12,()) else some (0,())
def Zmu (k:Nat):=ZgM k
theorem ZQc (k:Nat) (x:Kd.dens Z3):ZB (ZUi k) nA Tryz.f201 Z3 Zi x = Zmu k x:=by
 show _ = ZgM k x
 obtain ⟨a0,⟨a1,⟨⟩⟩⟩:=x
 kernel_rfl
theorem ZzO (k:Nat):Ctr Tryz.prog k 201 (mk Z3 Zi Zmu) :=
 ZC (fn:=Tryz.f201) (Zg (Za (ZCQ k) (Za (ZAl k) Zd))) (by kernel_rfl) (by kernel_rfl) (ZQc k)
noncomputable abbrev ZK3:Nat × Callee:=(201,mk Z3 Zi Zmu)
abbrev ZjL:List Kd:=[.view (.sl (.int .i64)),.view (.int .i64),.view (.int .i64)]
abbrev ZoC:Kd:=.view (.sl (.sl (.int .i64)))
def ZK5:Nat → Ann:=fun id => bif Nat.beq id 4 then ⟨[8,2,9,7],[]⟩ else ⟨[],[]⟩
abbrev Zw0:=Int × List Int × Int × List (List Int)
abbrev ZoA:=Zw0 → Option (List (List Int) × Unit)
def ZQh:Zw0 → St
 | (v0,v1,v2,v3) => St.mk (Zw [(8,AV.own 8192),(2,Zl v0),(9,Ym v1),(7,Zl v2)]) (Zv [(8192,RS.live (Res.arr (Ty.int IntKind.i64).sl v3 false))])
def Zcw (k:Nat) (L1:ZoA):ZoA
 | (v0,v1,v2,v3) => bif decide (0 ≤ v0) then bif decide (Int.ofNat v3.length < IntKind.i64.wrap ((1:Int) * (2:Int) ^ min v0.toNat 64)) then bif decide ((0:Int) ≤ 0 ∧ (0:Int) ≤ v2 ∧ v2 ≤ Int.ofNat v1.length) then bif decide (v3.length + [List.drop 0 (List.take v2.toNat v1)].length < 2147483648) then bif decide (0 ≤ v2 ∧ v2 ≤ Int.ofNat v1.length ∧ Int.ofNat v1.length ≤ Int.ofNat v1.length) then L1 (v0,List.drop v2.toNat (List.take (Int.ofNat v1.length).toNat v1),v2,v3 ++ [List.drop 0 (List.take v2.toNat v1)]) else none else none else none else some (v3,()) else none
def ZoB (k:Nat):ZoA:=Zm (fun L1 => Zcw k L1) k
noncomputable def ZzQ (k:Nat) (n:Nat) (v:Zw0) :=
 Zr (Z4 k) ZK5 [] [1,1,1,0,1,0] [] (Q7 Tryz.f203) (Wd (Z4 k) Tryz.f203 ZjL ZoC [] []) n (ZQh v)
def ZgQ (k:Nat) (L1:ZoA):List Int × Int × Int × Unit → Option (List (List Int) × Unit)
 | (a0,a1,a2,()) => bif decide (0 ≤ a2) then bif decide ((0:Int) ≤ 0 ∧ (0:Int) ≤ IntKind.i64.wrap ((IntKind.i64.wrap (Int.ofNat a0.length + a1)).fdiv ((2:Int) ^ min a2.toNat 64) - a1) ∧ IntKind.i64.wrap ((IntKind.i64.wrap (Int.ofNat a0.length + a1)).fdiv ((2:Int) ^ min a2.toNat 64) - a1) ≤ Int.ofNat a0.length) then bif decide (0 ≤ IntKind.i64.wrap ((IntKind.i64.wrap (Int.ofNat a0.length + a1)).fdiv ((2:Int) ^ min a2.toNat 64) - a1) ∧ IntKind.i64.wrap ((IntKind.i64.wrap (Int.ofNat a0.length + a1)).fdiv ((2:Int) ^ min a2.toNat 64) - a1) ≤ Int.ofNat a0.length ∧ Int.ofNat a0.length ≤ Int.ofNat a0.length) then L1 (a2,List.drop (IntKind.i64.wrap ((IntKind.i64.wrap (Int.ofNat a0.length + a1)).fdiv ((2:Int) ^ min a2.toNat 64) - a1)).toNat (List.take (Int.ofNat a0.length).toNat a0),(IntKind.i64.wrap (Int.ofNat a0.length + a1)).fdiv ((2:Int) ^ min a2.toNat 64),[List.drop 0 (List.take (IntKind.i64.wrap ((IntKind.i64.wrap (Int.ofNat a0.length + a1)).fdiv ((2:Int) ^ min a2.toNat 64) - a1)).toNat a0)]) else none else none else none
def Zmw (k:Nat):=ZgQ k (ZoB k)
theorem ZHU (k:Nat):∀ n,ZzQ k n = Zm (fun L1 => Zcw k L1) n :=
 Zh (fun v => by kernel_rfl) (fun n v => by
  obtain ⟨v0,v1,v2,v3⟩:=v
  kernel_rfl)
theorem ZQi (k:Nat) (x:Kd.dens ZjL):ZB (Z4 k) ZK5 Tryz.f203 ZjL ZoC x = Zmw k x:=by
 show _ = ZgQ k (ZoB k) x
 rw [show ZoB k = ZzQ k k from (ZHU k k).symm]
 obtain ⟨a0,⟨a1,⟨a2,⟨⟩⟩⟩⟩:=x
 kernel_rfl
theorem ZzR (k:Nat):Ctr Tryz.prog k 203 (mk ZjL ZoC Zmw) :=
 ZC (fn:=Tryz.f203) (Zg Zd) (by kernel_rfl) (by kernel_rfl) (ZQi k)
noncomputable abbrev ZK6:Nat × Callee:=(203,mk ZjL ZoC Zmw)
def Zuu (k:Nat):Int × Unit → Option (Int × Unit)
 | (a0,()) => some (IntKind.i64.wrap ((4:Int) + a0),())
def ZdF (k:Nat):=Zuu k
theorem ZQj (k:Nat) (x:Kd.dens ZA):ZB (Z4 k) nA Tryz.f204 ZA Zi x = ZdF k x:=by
 show _ = Zuu k x
 obtain ⟨a0,⟨⟩⟩:=x
 kernel_rfl
theorem ZzS (k:Nat):Ctr Tryz.prog k 204 (mk ZA Zi ZdF) :=
 ZC (fn:=Tryz.f204) (Zg Zd) (by kernel_rfl) (by kernel_rfl) (ZQj k)
noncomputable abbrev ZUj:Nat × Callee:=(204,mk ZA Zi ZdF)
abbrev Zhe:List Kd:=[.view (.int .i64),.view (.int .i64),.view (.int .i64)]
def Zhf (k:Nat):Int × Int × Int × Unit → Option (Bool × Unit)
 | (a0,a1,a2,()) => bif decide (0 ≤ a2) then bif IntKind.i64.wrap (Int.ofNat (BitVec.ofInt 64 a0 &&& BitVec.ofInt 64 (IntKind.i64.wrap (IntKind.i64.wrap ((1:Int) * (2:Int) ^ min a2.toNat 64) - (1:Int)))).toNat) == 0 then bif decide (0 ≤ a2) then some (decide (a1 ≤ a0.fdiv ((2:Int) ^ min a2.toNat 64)),()) else none else some (false,()) else none
def ZdJ (k:Nat):=Zhf k
theorem ZQS (k:Nat) (x:Kd.dens Zhe):ZB (Z4 k) nA Tryz.f217 Zhe ZE x = ZdJ k x:=by
 show _ = Zhf k x
 obtain ⟨a0,⟨a1,⟨a2,⟨⟩⟩⟩⟩:=x
 kernel_rfl
theorem ZAm (k:Nat):Ctr Tryz.prog k 217 (mk Zhe ZE ZdJ) :=
 ZC (fn:=Tryz.f217) (Zg Zd) (by kernel_rfl) (by kernel_rfl) (ZQS k)
noncomputable abbrev ZUF:Nat × Callee:=(217,mk Zhe ZE ZdJ)
noncomputable def ZUk (k:Nat):=Wf k [ZUj]
def Zuw (k:Nat):Int × Unit → Option (Int × Unit)
 | (a0,()) => (ZdF k (a0,())).bind fun y => bif decide ((0:Int) ≤ y.1) then some (IntKind.i64.wrap (IntKind.i64.wrap ((1:Int) * (2:Int) ^ min (Int.toNat y.1) (64:Nat)) - (1:Int)),()) else none
def ZdH (k:Nat):=Zuw k
theorem ZQk (k:Nat) (x:Kd.dens ZA):ZB (ZUk k) nA Tryz.f205 ZA Zi x = ZdH k x:=by
 show _ = Zuw k x
 obtain ⟨a0,⟨⟩⟩:=x
 kernel_rfl
theorem ZK7 (k:Nat):Ctr Tryz.prog k 205 (mk ZA Zi ZdH) :=
 ZC (fn:=Tryz.f205) (Zg (Za (ZzS k) Zd)) (by kernel_rfl) (by kernel_rfl) (ZQk k)
noncomputable abbrev ZXT:Nat × Callee:=(205,mk ZA Zi ZdH)
def ZgR (k:Nat):Int × Unit → Option ((Int × Int × Unit) × Unit)
 | (a0,()) => bif decide (a0 < -1099511627776) then some ((0,12,()),()) else bif decide ((1099511627776:Int) < a0) then some ((0,12,()),()) else some ((IntKind.i64.wrap (Int.ofNat (BitVec.ofInt 64 (IntKind.i64.wrap (a0 * (2:Int))) ^^^ BitVec.ofInt 64 (a0.fdiv (9223372036854775808:Int))).toNat),0,()),())
def Ze8 (k:Nat):=ZgR k
theorem ZQl (k:Nat) (x:Kd.dens ZA):ZB (Z4 k) nA Tryz.f206 ZA Z5 x = Ze8 k x:=by
 show _ = ZgR k x
 obtain ⟨a0,⟨⟩⟩:=x
 kernel_rfl
theorem ZK8 (k:Nat):Ctr Tryz.prog k 206 (mk ZA Z5 Ze8) :=
 ZC (fn:=Tryz.f206) (Zg Zd) (by kernel_rfl) (by kernel_rfl) (ZQl k)
noncomputable abbrev ZXU:Nat × Callee:=(206,mk ZA Z5 Ze8)
def Zxr (k:Nat):Int × Unit → Option (Int × Unit):=fun x => ZOD x
def ZWk:Go.Shelf.Ren:=⟨fun n => match n with | 129 => 270 | _ => 0,fun n => match n with | 0 => 0 | 3 => 3 | 4 => 4 | 5 => 5 | 9 => 9 | 46 => 62 | 53 => 124 | _ => 0,fun n => n⟩
set_option maxRecDepth 100000 in
theorem ZSE:Go.Proofs.Lays.n129 Tryz.prog ZWk:=by
 constructor <;> first | kernel_rfl | (intro w; rfl)
set_option maxRecDepth 100000 in
theorem ZMd (k:Nat):Ctr Tryz.prog k 270 (mk ZoU Zi Zxr):=ZJC ZSE (fn:=Tryz.f270) (by kernel_rfl) (by kernel_rfl) (by kernel_rfl) (by kernel_rfl)
noncomputable abbrev ZU7:Nat × Callee:=(270,mk ZoU Zi Zxr)
noncomputable def ZUU (k:Nat):=Wf k [ZU7]
def Zho (k:Nat):Int × Unit → Option (Int × Unit)
 | (a0,()) => (Zxr k (IntKind.u64.wrap (IntKind.i64.wrap (Int.ofNat (BitVec.ofInt 64 a0 ^^^ BitVec.ofInt 64 (a0.fdiv (9223372036854775808:Int))).toNat)),())).bind fun y => some (IntKind.i64.wrap (y.1 + 1),())
def ZqP (k:Nat):=Zho k
theorem ZRb (k:Nat) (x:Kd.dens ZA):ZB (ZUU k) nA Tryz.f267 ZA Zi x = ZqP k x:=by
 show _ = Zho k x
 obtain ⟨a0,⟨⟩⟩:=x
 kernel_rfl
theorem ZL0 (k:Nat):Ctr Tryz.prog k 267 (mk ZA Zi ZqP) :=
 ZC (fn:=Tryz.f267) (Zg (Za (ZMd k) Zd)) (by kernel_rfl) (by kernel_rfl) (ZRb k)
noncomputable abbrev ZUV:Nat × Callee:=(267,mk ZA Zi ZqP)
def Zal (k:Nat):Int × Unit → Option (Int × Unit):=match k with | 0 => ZdH 0 | n + 1 => ZdH (n + 1)
theorem Zuv:Zal = ZdH:=by funext k; cases k <;> rfl
theorem Zmz (k:Nat):Ctr Tryz.prog k 205 (mk ZA Zi Zal):=by rw [Zuv]; exact ZK7 k
def ZiJ (k:Nat):Int × Unit → Option ((Int × Int × Unit) × Unit):=match k with | 0 => Ze8 0 | n + 1 => Ze8 (n + 1)
theorem Zux:ZiJ = Ze8:=by funext k; cases k <;> rfl
theorem Zuy (k:Nat):Ctr Tryz.prog k 206 (mk ZA Z5 ZiJ):=by rw [Zux]; exact ZK8 k
abbrev Zhi:Kd:=.tup [.view ZO6,.view .bool]
noncomputable def ZiN (k:Nat):=Wf k [(205,mk ZA Zi Zal),(206,mk ZA Z5 ZiJ),ZUV]
noncomputable def Zxe:Nat → Ann:=fun id => bif Nat.beq id 16 then ⟨[55,56,54,13,12,14,7,6,46,45,0,8,9,1,4],[]⟩ else bif Nat.beq id 12 then ⟨[45,46,0,8,7,6,9,1,4],[]⟩ else bif Nat.beq id 5 then ⟨[23,24,22,8,9,1,0,7,6,4],[]⟩ else ⟨[],[]⟩
abbrev Zxh:=Int × Int × Int × Int × Bool × Bool × Int × Int × List Int × Int × Int × List Int × Int × Int × Int × Int × Int × Int
abbrev Zo2:=Zxh → Option (((Int × Int × Int × Unit) × Bool × Unit) × Unit)
abbrev Zxg:=Int × Int × List Int × Bool × Int × Int × List Int × Int × Int × Int × Int × Int × Int
abbrev Zhg:=Zxg → Option (((Int × Int × Int × Unit) × Bool × Unit) × Unit)
abbrev Zxf:=Int × Int × List Int × Int × Int × List Int × Bool × List Int × Int × Int × Int × Int × Int × Int
abbrev Zo1:=Zxf → Option (((Int × Int × Int × Unit) × Bool × Unit) × Unit)
noncomputable def ZQV:Zxh → St
 | (v0,v1,v2,v3,v4,v5,v6,v7,v8,v9,v10,v11,v12,v13,v14,v15,v16,v17) => St.mk (Zw [(55,Zl v0),(56,Zl v1),(54,AV.own 8192),(13,Zl v2),(12,Zl v3),(14,avB v4),(7,avB v5),(6,AV.bx 8193 0),(46,Zl v6),(45,Zl v7),(0,Ym v8),(8,AV.own 8192),(9,Zl v9),(1,Zl v10),(4,AV.bx 8194 0)]) (Zv [(8192,rsA v11 false),(8193,QQ [Zl v12,Zl v13,Zl v14]),(8194,QQ [Zl v15,Zl v16,Zl v17])])
noncomputable def ZaP (k:Nat) (L2:Zhg) (L3:Zo2):Zo2
 | (v0,v1,v2,v3,v4,v5,v6,v7,v8,v9,v10,v11,v12,v13,v14,v15,v16,v17) => bif decide (v1 < v0) then bif decide (0 ≤ v1 ∧ v1 < Int.ofNat v11.length) then bif decide (v1.toNat < v11.length) then bif decide (0 ≤ v3) then bif v4 then L3 (v0,IntKind.i64.wrap (v1 + 1),IntKind.i64.wrap (v2 + Int.fdiv (v11.getD v1.toNat 0) ((2:Int) ^ min v3.toNat 64)),v3,true,v5,v6,v7,v8,v9,v10,v11,v12,v13,v14,v15,v16,v17) else bif decide (0 ≤ v3) then L3 (v0,IntKind.i64.wrap (v1 + 1),IntKind.i64.wrap (v2 + Int.fdiv (v11.getD v1.toNat 0) ((2:Int) ^ min v3.toNat 64)),v3,decide ((65536:Int) < Int.fdiv (v11.getD v1.toNat 0) ((2:Int) ^ min v3.toNat 64)),v5,v6,v7,v8,v9,v10,v11,v12,v13,v14,v15,v16,v17) else none else none else none else none else bif !v4 then bif !v5 then L2 (v7,IntKind.i64.wrap (v6 + 1),v8,true,v9,v10,v11,v3,(0:Int),v2,v15,v16,v17) else bif decide (v2 < v14) then L2 (v7,IntKind.i64.wrap (v6 + 1),v8,true,v9,v10,v11,v3,(0:Int),v2,v15,v16,v17) else L2 (v7,IntKind.i64.wrap (v6 + 1),v8,v5,v9,v10,v11,v12,v13,v14,v15,v16,v17) else L2 (v7,IntKind.i64.wrap (v6 + 1),v8,v5,v9,v10,v11,v12,v13,v14,v15,v16,v17)
noncomputable def ZjR (k:Nat) (L2:Zhg):Zo2:=Zm (fun L3 => ZaP k L2 L3) k
noncomputable def ZjS (k:Nat) (n2:Nat) (n:Nat) (v:Zxh):Option (((Int × Int × Int × Unit) × Bool × Unit) × Unit) :=
 Zr (ZiN k) Zxe [] [1,1,1,1,1,0,1,0,0,1,1,0,0,1,1,0,1,0] [n2] (Q7 Tryz.f248) (Wd (ZiN k) Tryz.f248 Z3 Zhi [] []) n (ZQV v)
noncomputable def ZQU:Zxg → St
 | (v0,v1,v2,v3,v4,v5,v6,v7,v8,v9,v10,v11,v12) => St.mk (Zw [(45,Zl v0),(46,Zl v1),(0,Ym v2),(8,AV.own 8192),(7,avB v3),(6,AV.bx 8193 0),(9,Zl v4),(1,Zl v5),(4,AV.bx 8194 0)]) (Zv [(8192,rsA v6 false),(8193,QQ [Zl v7,Zl v8,Zl v9]),(8194,QQ [Zl v10,Zl v11,Zl v12])])
noncomputable def ZcK (k:Nat) (L3:Zo2) (L2:Zhg):Zhg
 | (v0,v1,v2,v3,v4,v5,v6,v7,v8,v9,v10,v11,v12) => bif decide (v1 < v0) then L3 (Int.ofNat v6.length,(0:Int),IntKind.i64.wrap (IntKind.i64.wrap (v1 + 1) * Int.ofNat v2.length),v1,false,v3,v1,v0,v2,v4,v5,v6,v7,v8,v9,v10,v11,v12) else bif decide (v4 ≤ 31) then bif !v3 then (Zal k (v5,())).bind fun y => some (((y.1,v4,IntKind.i64.wrap ((5:Int) + IntKind.i64.wrap (v4 * Int.ofNat v2.length)),()),true,()),()) else bif decide (IntKind.i64.wrap ((5:Int) + IntKind.i64.wrap (v4 * Int.ofNat v2.length)) < v9) then (Zal k (v5,())).bind fun y => some (((y.1,v4,IntKind.i64.wrap ((5:Int) + IntKind.i64.wrap (v4 * Int.ofNat v2.length)),()),true,()),()) else some (((v7,v8,v9,()),v3,()),()) else some (((v7,v8,v9,()),v3,()),())
noncomputable def ZjQ (k:Nat):Zhg:=Zm (fun L2 => ZcK k (ZjR k L2) L2) k
noncomputable def Zfg (k:Nat) (n:Nat) (v:Zxg) :=
 Zr (ZiN k) Zxe [] [1,1,1,1,1,0,1,0] [] (Q7 Tryz.f248) (Wd (ZiN k) Tryz.f248 Z3 Zhi [] []) n (ZQU v)
noncomputable def ZQT:Zxf → St
 | (v0,v1,v2,v3,v4,v5,v6,v7,v8,v9,v10,v11,v12,v13) => St.mk (Zw [(23,Zl v0),(24,Zl v1),(22,Ym v2),(8,AV.own 8192),(9,Zl v3),(1,Zl v4),(0,Ym v5),(7,avB v6),(6,AV.bx 8193 0),(4,AV.bx 8194 0)]) (Zv [(8192,rsA v7 false),(8193,QQ [Zl v8,Zl v9,Zl v10]),(8194,QQ [Zl v11,Zl v12,Zl v13])])
noncomputable def ZcJ (k:Nat) (L2:Zhg) (L1:Zo1):Zo1
 | (v0,v1,v2,v3,v4,v5,v6,v7,v8,v9,v10,v11,v12,v13) => bif decide (v1 < v0) then bif decide (0 ≤ v1 ∧ v1 < Int.ofNat v2.length) then (ZiJ k (v2.getD v1.toNat 0,())).bind fun y => bif decide (0 ≤ v1 ∧ v1 < Int.ofNat v7.length) then bif decide (v1.toNat < v7.length) then bif v2.getD v1.toNat 0 != (0:Int) then (ZqP k (v2.getD v1.toNat 0,())).bind fun y_1 => L1 (v0,IntKind.i64.wrap (v1 + 1),v2,if v3 < y_1.1 then y_1.1 else v3,v4,v5,v6,v7.set v1.toNat y.1.1,v8,v9,v10,v11,v12,v13) else L1 (v0,IntKind.i64.wrap (v1 + 1),v2,v3,v4,v5,v6,v7.set v1.toNat y.1.1,v8,v9,v10,v11,v12,v13) else none else none else none else (Zal k (v4,())).bind fun y => L2 (y.1,(0:Int),v5,v6,v3,v4,v7,v8,v9,v10,v11,v12,v13)
noncomputable def Zo3 (k:Nat):Zo1:=Zm (fun L1 => ZcJ k (ZjQ k) L1) k
noncomputable def ZAn (k:Nat) (n:Nat) (v:Zxf) :=
 Zr (ZiN k) Zxe [] [1,1,1,1,0,1,0] [] (Q7 Tryz.f248) (Wd (ZiN k) Tryz.f248 Z3 Zhi [] []) n (ZQT v)
noncomputable def Zhh (k:Nat) (L1:Zo1):List Int × Int × Unit → Option (((Int × Int × Int × Unit) × Bool × Unit) × Unit)
 | (a0,a1,()) => bif decide ((0:Int) ≤ Int.ofNat a0.length ∧ Int.ofNat a0.length ≤ Int.ofNat a0.length ∧ Int.ofNat a0.length < (4294967296:Int)) then L1 (Int.ofNat a0.length,(0:Int),a0,(0:Int),a1,a0,false,List.replicate (Int.ofNat a0.length).toNat (0:Int),(0:Int),(0:Int),(0:Int),(0:Int),(0:Int),(0:Int)) else none
noncomputable def ZqK (k:Nat):=Zhh k (Zo3 k)
theorem ZIy (k:Nat) (n2:Nat):∀ n,ZjS k n2 n = Zm (fun L3 => ZaP k (Zfg k n2) L3) n :=
 Zh (fun v => by kernel_rfl) (fun n v => by
  show ZjS k n2 (n + 1) v = ZaP k (Zfg k n2) (ZjS k n2 n) v
  obtain ⟨v0,v1,v2,v3,v4,v5,v6,v7,v8,v9,v10,v11,v12,v13,v14,v15,v16,v17⟩:=v
  kernel_rfl)
theorem ZIx (k:Nat):∀ n,Zfg k n = Zm (fun L2 => ZcK k (ZjR k L2) L2) n :=
 Zh (fun v => by kernel_rfl) (fun n v => by
  rw [show (ZjR k (Zfg k n)) = ZjS k n k from (ZIy k n k).symm]
  obtain ⟨v0,v1,v2,v3,v4,v5,v6,v7,v8,v9,v10,v11,v12⟩:=v
  kernel_rfl)
theorem ZIw (k:Nat):∀ n,ZAn k n = Zm (fun L1 => ZcJ k (ZjQ k) L1) n :=
 Zh (fun v => by kernel_rfl) (fun n v => by
  rw [show (ZjQ k) = Zfg k k from (ZIx k k).symm]
  obtain ⟨v0,v1,v2,v3,v4,v5,v6,v7,v8,v9,v10,v11,v12,v13⟩:=v
  kernel_rfl)
theorem ZQW (k:Nat) (x:Kd.dens Z3):ZB (ZiN k) Zxe Tryz.f248 Z3 Zhi x = ZqK k x:=by
 show _ = Zhh k (Zo3 k) x
 rw [show Zo3 k = ZAn k k from (ZIw k k).symm]
 obtain ⟨a0,⟨a1,⟨⟩⟩⟩:=x
 kernel_rfl
theorem ZLM (k:Nat):Ctr Tryz.prog k 248 (mk Z3 Zhi ZqK) :=
 ZC (fn:=Tryz.f248) (Zg (Za (Zmz k) (Za (Zuy k) (Za (ZL0 k) Zd)))) (by kernel_rfl) (by kernel_rfl) (ZQW k)
noncomputable abbrev ZUG:Nat × Callee:=(248,mk Z3 Zhi ZqK)
def ZdG (k:Nat):Int × Unit → Option (Int × Unit):=match k with | 0 => ZdF 0 | n + 1 => ZdF (n + 1)
theorem Zut:ZdG = ZdF:=by funext k; cases k <;> rfl
theorem Zmx (k:Nat):Ctr Tryz.prog k 204 (mk ZA Zi ZdG):=by rw [Zut]; exact ZzS k
def ZqJ (k:Nat):Int × Int × Int × Unit → Option (Bool × Unit):=match k with | 0 => ZdJ 0 | n + 1 => ZdJ (n + 1)
theorem ZuI:ZqJ = ZdJ:=by funext k; cases k <;> rfl
theorem ZIv (k:Nat):Ctr Tryz.prog k 217 (mk Zhe ZE ZqJ):=by rw [ZuI]; exact ZAm k
abbrev ZgP:Kd:=.view ZWw
noncomputable def ZiI (k:Nat):=Wf k [ZK6,(204,mk ZA Zi ZdG),(217,mk Zhe ZE ZqJ),ZUG]
noncomputable def ZwW:Nat → Ann:=fun id => bif Nat.beq id 11 then ⟨[37,38,36,7,5,8,6,0,1,4,9],[.cell 8 2 (((Ty.int IntKind.i64).pair ((Ty.int IntKind.i64).pair ((Ty.int IntKind.i64).pair Ty.unit))))]⟩ else bif Nat.beq id 7 then ⟨[7,6,0,1,5,4],[.cell 5 2 (((Ty.int IntKind.i64).pair ((Ty.int IntKind.i64).pair ((Ty.int IntKind.i64).pair Ty.unit))))]⟩ else bif Nat.beq id 3 then ⟨[6,0,1,5,4],[.cell 5 2 (((Ty.int IntKind.i64).pair ((Ty.int IntKind.i64).pair ((Ty.int IntKind.i64).pair Ty.unit))))]⟩ else ⟨[],[]⟩
abbrev ZwZ:=Int × Int × List (List Int) × Int × Int × List Int × Int × Bool × Int × Int × Int × List (Int × Int × Int × Unit) × Int × Int × Int × List (Int × Int × Int × Unit) × Int × Int × Int
abbrev Zoy:=ZwZ → Option ((Int × Int × List (Int × Int × Int × Unit) × Int × Unit) × Unit)
abbrev ZwY:=Int × Int × List Int × Int × Int × Int × Int × List (Int × Int × Int × Unit) × Int × Int × Int
abbrev ZgN:=ZwY → Option ((Int × Int × List (Int × Int × Int × Unit) × Int × Unit) × Unit)
abbrev ZwX:=Int × List Int × Int × Int × Int × Int × List (Int × Int × Int × Unit) × Int × Int × Int
abbrev ZbP:=ZwX → Option ((Int × Int × List (Int × Int × Int × Unit) × Int × Unit) × Unit)
noncomputable def ZQf:ZwZ → St
 | (v0,v1,v2,v3,v4,v5,v6,v7,v8,v9,v10,v11,v12,v13,v14,v15,v16,v17,v18) => St.mk (Zw [(37,Zl v0),(38,Zl v1),(36,AV.val (PV.sl (Ty.int IntKind.i64).sl v2)),(7,Zl v3),(5,AV.bx 8192 0),(8,AV.bx 8194 0),(6,Zl v4),(0,Ym v5),(1,Zl v6),(4,AV.bx 8196 0),(9,avB v7)]) (Zv [(8192,QQ [Zl v8,Zl v9,AV.own 8193,Zl v10]),(8193,RS.live (Res.arr ((Ty.int IntKind.i64).pair ((Ty.int IntKind.i64).pair ((Ty.int IntKind.i64).pair Ty.unit))) v11 false)),(8194,QQ [Zl v12,Zl v13,AV.own 8195,Zl v14]),(8195,RS.live (Res.arr ((Ty.int IntKind.i64).pair ((Ty.int IntKind.i64).pair ((Ty.int IntKind.i64).pair Ty.unit))) v15 false)),(8196,QQ [Zl v16,Zl v17,AV.val (PV.v (Value.slice none (0:Nat) (0:Nat))),Zl v18])])
noncomputable def ZaN (k:Nat) (L1:ZbP) (L2:ZgN) (L3:Zoy):Zoy
 | (v0,v1,v2,v3,v4,v5,v6,v7,v8,v9,v10,v11,v12,v13,v14,v15,v16,v17,v18) => bif decide (v1 < v0) then bif decide (0 ≤ v1 ∧ v1 < Int.ofNat v2.length) then (ZqK k (v2.getD v1.toNat [],v3,())).bind fun y => bif !y.1.2.1 then bif y.1.2.1 then bif decide (v10 < 0) then L2 (IntKind.i64.wrap (v3 + 1),v4,v5,v6,v12,v13,v14,v15,v16,v17,v18) else bif decide (v14 < v10) then L2 (IntKind.i64.wrap (v3 + 1),v4,v5,v6,v12,v13,v14,v15,v16,v17,v18) else L2 (IntKind.i64.wrap (v3 + 1),v4,v5,v6,v8,v9,v10,v11,v16,v17,v18) else L2 (IntKind.i64.wrap (v3 + 1),v4,v5,v6,v8,v9,v10,v11,v16,v17,v18) else bif decide (v15.length + [(y.1.1.1,y.1.1.2.1,y.1.1.2.2.1,())].length < 2147483648) then (ZdG k (v3,())).bind fun y_1 => L3 (v0,IntKind.i64.wrap (v1 + 1),v2,v3,v4,v5,v6,y.1.2.1,v8,v9,v10,v11,v12,v13,IntKind.i64.wrap (v14 + IntKind.i64.wrap (y_1.1 + y.1.1.2.2.1)),v15 ++ [(y.1.1.1,y.1.1.2.1,y.1.1.2.2.1,())],v16,v17,v18) else none else none else bif v7 then bif decide (v10 < 0) then L2 (IntKind.i64.wrap (v3 + 1),v4,v5,v6,v12,v13,v14,v15,v16,v17,v18) else bif decide (v14 < v10) then L2 (IntKind.i64.wrap (v3 + 1),v4,v5,v6,v12,v13,v14,v15,v16,v17,v18) else L2 (IntKind.i64.wrap (v3 + 1),v4,v5,v6,v8,v9,v10,v11,v16,v17,v18) else L2 (IntKind.i64.wrap (v3 + 1),v4,v5,v6,v8,v9,v10,v11,v16,v17,v18)
noncomputable def ZbQ (k:Nat) (L1:ZbP) (L2:ZgN):Zoy:=Zm (fun L3 => ZaN k L1 L2 L3) k
noncomputable def ZjK (k:Nat) (n1 n2:Nat) (n:Nat) (v:ZwZ):Option ((Int × Int × List (Int × Int × Int × Unit) × Int × Unit) × Unit) :=
 Zr (ZiI k) ZwW [] [1,1,0,1,0,0,1,0,0,1,1,0,0,1,0,0,1,0,1,0] [n1,n2] (Q7 Tryz.f202) (Wd (ZiI k) Tryz.f202 Z3 ZgP [] []) n (ZQf v)
noncomputable def ZQe:ZwY → St
 | (v0,v1,v2,v3,v4,v5,v6,v7,v8,v9,v10) => St.mk (Zw [(7,Zl v0),(6,Zl v1),(0,Ym v2),(1,Zl v3),(5,AV.bx 8192 0),(4,AV.bx 8194 0)]) (Zv [(8192,QQ [Zl v4,Zl v5,AV.own 8193,Zl v6]),(8193,RS.live (Res.arr ((Ty.int IntKind.i64).pair ((Ty.int IntKind.i64).pair ((Ty.int IntKind.i64).pair Ty.unit))) v7 false)),(8194,QQ [Zl v8,Zl v9,AV.val (PV.v (Value.slice none (0:Nat) (0:Nat))),Zl v10])])
noncomputable def YI (k:Nat) (L3:Zoy) (L1:ZbP) (L2:ZgN):ZgN
 | (v0,v1,v2,v3,v4,v5,v6,v7,v8,v9,v10) => bif decide (v0 < 2) then (Zmw k (v2,v3,v1,())).bind fun y => L3 (Int.ofNat (List.length y.1),(0:Int),y.1,v0,v1,v2,v3,true,v4,v5,v6,v7,v0,v1,(6:Int),[],v8,v9,v10) else L1 (IntKind.i64.wrap (v1 + 1),v2,v3,v4,v5,v6,v7,v8,v9,v10)
noncomputable def ZjJ (k:Nat) (L1:ZbP):ZgN:=Zm (fun L2 => YI k (ZbQ k L1 L2) L1 L2) k
noncomputable def KX (k:Nat) (n1:Nat) (n:Nat) (v:ZwY):Option ((Int × Int × List (Int × Int × Int × Unit) × Int × Unit) × Unit) :=
 Zr (ZiI k) ZwW [] [1,1,0,1,0,0,1,0,0,1,1,0] [n1] (Q7 Tryz.f202) (Wd (ZiI k) Tryz.f202 Z3 ZgP [] []) n (ZQe v)
noncomputable def ZQd:ZwX → St
 | (v0,v1,v2,v3,v4,v5,v6,v7,v8,v9) => St.mk (Zw [(6,Zl v0),(0,Ym v1),(1,Zl v2),(5,AV.bx 8192 0),(4,AV.bx 8194 0)]) (Zv [(8192,QQ [Zl v3,Zl v4,AV.own 8193,Zl v5]),(8193,RS.live (Res.arr ((Ty.int IntKind.i64).pair ((Ty.int IntKind.i64).pair ((Ty.int IntKind.i64).pair Ty.unit))) v6 false)),(8194,QQ [Zl v7,Zl v8,AV.val (PV.v (Value.slice none (0:Nat) (0:Nat))),Zl v9])])
noncomputable def Zcv (k:Nat) (L2:ZgN) (L1:ZbP):ZbP
 | (v0,v1,v2,v3,v4,v5,v6,v7,v8,v9) => bif decide (v0 ≤ 4) then (ZqJ k (IntKind.i64.wrap (Int.ofNat v1.length + v2),v2,v0,())).bind fun y => bif !y.1 then L1 (IntKind.i64.wrap (v0 + 1),v1,v2,v3,v4,v5,v6,v7,v8,v9) else L2 (0,v0,v1,v2,v3,v4,v5,v6,v7,v8,v9) else some ((v3,v4,v6,v5,()),())
noncomputable def Zoz (k:Nat):ZbP:=Zm (fun L1 => Zcv k (ZjJ k L1) L1) k
noncomputable def X6 (k:Nat) (n:Nat) (v:ZwX) :=
 Zr (ZiI k) ZwW [] [1,1,0,1,0] [] (Q7 Tryz.f202) (Wd (ZiI k) Tryz.f202 Z3 ZgP [] []) n (ZQd v)
noncomputable def ZgO (k:Nat) (L1:ZbP):List Int × Int × Unit → Option ((Int × Int × List (Int × Int × Int × Unit) × Int × Unit) × Unit)
 | (a0,a1,()) => L1 (0,a0,a1,(0:Int),(0:Int),(-1:Int),[],(0:Int),(0:Int),(0:Int))
noncomputable def Zmv (k:Nat):=ZgO k (Zoz k)
theorem ZHT (k:Nat) (n1 n2:Nat):∀ n,ZjK k n1 n2 n = Zm (fun L3 => ZaN k (X6 k n1) (KX k n1 n2) L3) n :=
 Zh (fun v => by kernel_rfl) (fun n v => by
  show ZjK k n1 n2 (n + 1) v = ZaN k (X6 k n1) (KX k n1 n2) (ZjK k n1 n2 n) v
  obtain ⟨v0,v1,v2,v3,v4,v5,v6,v7,v8,v9,v10,v11,v12,v13,v14,v15,v16,v17,v18⟩:=v
  kernel_rfl)
theorem ZHS (k:Nat) (n1:Nat):∀ n,KX k n1 n = Zm (fun L2 => YI k (ZbQ k (X6 k n1) L2) (X6 k n1) L2) n :=
 Zh (fun v => by kernel_rfl) (fun n v => by
  show KX k n1 (n + 1) v = YI k (ZbQ k (X6 k n1) (KX k n1 n)) (X6 k n1) (KX k n1 n) v
  rw [show (ZbQ k (X6 k n1) (KX k n1 n)) = ZjK k n1 n k from (ZHT k n1 n k).symm]
  obtain ⟨v0,v1,v2,v3,v4,v5,v6,v7,v8,v9,v10⟩:=v
  kernel_rfl)
theorem ZHR (k:Nat):∀ n,X6 k n = Zm (fun L1 => Zcv k (ZjJ k L1) L1) n :=
 Zh (fun v => by kernel_rfl) (fun n v => by
  rw [show (ZjJ k (X6 k n)) = KX k n k from (ZHS k n k).symm]
  obtain ⟨v0,v1,v2,v3,v4,v5,v6,v7,v8,v9⟩:=v
  kernel_rfl)
theorem ZQg (k:Nat) (x:Kd.dens Z3):ZB (ZiI k) ZwW Tryz.f202 Z3 ZgP x = Zmv k x:=by
 show _ = ZgO k (Zoz k) x
 rw [show Zoz k = X6 k k from (ZHR k k).symm]
 obtain ⟨a0,⟨a1,⟨⟩⟩⟩:=x
 kernel_rfl
theorem ZzP (k:Nat):Ctr Tryz.prog k 202 (mk Z3 ZgP Zmv) :=
 ZC (fn:=Tryz.f202) (Zg (Za (ZzR k) (Za (Zmx k) (Za (ZIv k) (Za (ZLM k) Zd))))) (by kernel_rfl) (by kernel_rfl) (ZQg k)
noncomputable abbrev ZK4:Nat × Callee:=(202,mk Z3 ZgP Zmv)
noncomputable def ZUx (k:Nat):=Wf k [ZK3,ZK4]
noncomputable def Zg9 (k:Nat):List Int × Int × Unit → Option ((Int × Int × Unit) × Unit)
 | (a0,a1,()) => (Zmu k (a0,a1,())).bind fun y => bif y.1 != 0 then some ((0,y.1,()),()) else (Zmv k (a0,a1,())).bind fun y => some ((y.1.2.2.2.1,0,()),())
noncomputable def ZqE (k:Nat):=Zg9 k
theorem ZQJ (k:Nat) (x:Kd.dens Z3):ZB (ZUx k) nA Tryz.f244 Z3 Z5 x = ZqE k x:=by
 show _ = Zg9 k x
 obtain ⟨a0,⟨a1,⟨⟩⟩⟩:=x
 kernel_rfl
theorem ZLA (k:Nat):Ctr Tryz.prog k 244 (mk Z3 Z5 ZqE) :=
 ZC (fn:=Tryz.f244) (Zg (Za (ZzO k) (Za (ZzP k) Zd))) (by kernel_rfl) (by kernel_rfl) (ZQJ k)
noncomputable abbrev ZUy:Nat × Callee:=(244,mk Z3 Z5 ZqE)
abbrev Zov:List Kd:=[.view Zy0,.view (.int .i64),.view ZiZ,.view (.int .i64)]
abbrev ZwR:Kd:=.tup [.view Zy0,.view .bool]
noncomputable def ZUf (k:Nat):=Wf k [ZLz,ZUy]
noncomputable def ZgH (k:Nat):(Int × Int × Int × List Int × (List Int × Int × Unit) × List Int × Int × Unit) × Int × (List Int × Int × Unit) × Int × Unit → Option (((Int × Int × Int × List Int × (List Int × Int × Unit) × List Int × Int × Unit) × Bool × Unit) × Unit)
 | ((a0,a1,a2,a3,(a4,a5,()),a6,a7,()),a8,(a9,a10,()),a11,()) => (ZmI k ((a9,a10,()),a3,())).bind fun y => bif y.1.2.1 != 0 then some (((a0,a1,a2,a3,(a4,a5,()),a6,a7,()),false,()),()) else (ZqE k (y.1.1,Int.ofNat a9.length,())).bind fun y_1 => bif y_1.1.2.1 != 0 then some (((a0,a1,a2,a3,(a4,a5,()),a6,a7,()),false,()),()) else some (((a8,a1,a2,a3,(a9,a10,()),y.1.1,IntKind.i64.wrap (IntKind.i64.wrap (a11 + IntKind.i64.wrap (Int.ofNat a9.length * a2)) + y_1.1.1),()),true,()),())
noncomputable def ZiG (k:Nat):=ZgH k
theorem ZP6 (k:Nat) (x:Kd.dens Zov):ZB (ZUf k) nA Tryz.f198 Zov ZwR x = ZiG k x:=by
 show _ = ZgH k x
 obtain ⟨⟨a0,⟨a1,⟨a2,⟨a3,⟨⟨a4,⟨a5,⟨⟩⟩⟩,⟨a6,⟨a7,⟨⟩⟩⟩⟩⟩⟩⟩⟩,⟨a8,⟨⟨a9,⟨a10,⟨⟩⟩⟩,⟨a11,⟨⟩⟩⟩⟩⟩:=x
 kernel_rfl
theorem ZKZ (k:Nat):Ctr Tryz.prog k 198 (mk Zov ZwR ZiG) :=
 ZC (fn:=Tryz.f198) (Zg (Za (ZAe k) (Za (ZLA k) Zd))) (by kernel_rfl) (by kernel_rfl) (ZP6 k)
noncomputable abbrev ZUg:Nat × Callee:=(198,mk Zov ZwR ZiG)
abbrev ZoY:Kd:=.view ZiZ
noncomputable def ZDd (k:Nat):=Wf k [ZCU]
def ZLF:Nat → Ann:=fun id => bif Nat.beq id 4 then ⟨[19,20,18,3,2],[]⟩ else ⟨[],[]⟩
abbrev ZoX:=ZgG → Option ((List Int × Int × Unit) × Unit)
def ZQM:ZgG → St
 | (v0,v1,v2,v3,v4,v5) => St.mk (Zw [(19,Zl v0),(20,Zl v1),(18,Ym v2),(3,AV.bx 8192 0),(2,AV.bx 8194 0)]) (Zv [(8192,QQ [AV.own 8193,Zl v3]),(8193,rsA v4 false),(8194,QQ [AV.val (PV.v (Value.slice none (0:Nat) (0:Nat))),Zl v5])])
def ZuF (k:Nat) (L1:ZoX):ZoX
 | (v0,v1,v2,v3,v4,v5) => bif decide (v1 < v0) then bif decide (0 ≤ v1 ∧ v1 < Int.ofNat v2.length) then bif decide (0 ≤ v1 ∧ v1 < Int.ofNat v4.length) then bif decide (v1.toNat < v4.length) then L1 (v0,IntKind.i64.wrap (v1 + 1),v2,v3,v4.set v1.toNat (IntKind.i64.wrap (v2.getD v1.toNat 0 * (16:Int))),v5) else none else none else none else some ((v4,v3,()),())
def Zxd (k:Nat):ZoX:=Zm (fun L1 => ZuF k L1) k
noncomputable def ZAi (k:Nat) (n:Nat) (v:ZgG) :=
 Zr (ZDd k) ZLF [] [1,1,1,0,1,0] [] (Q7 Tryz.f245) (Wd (ZDd k) Tryz.f245 ZA ZoY [] []) n (ZQM v)
def ZuE (k:Nat) (L1:ZoX):Int × Unit → Option ((List Int × Int × Unit) × Unit)
 | (a0,()) => bif decide (0 ≤ a0 ∧ a0 ≤ a0 ∧ a0 < 4294967296) then (Ze6 k (if (4:Int) < a0 then (4:Int) else a0,())).bind fun y => L1 (Int.ofNat (List.length y.1.1.1),(0:Int),y.1.1.1,(4:Int),List.replicate a0.toNat (0:Int),(0:Int)) else none
def ZqG (k:Nat):=ZuE k (Zxd k)
theorem ZIr (k:Nat):∀ n,ZAi k n = Zm (fun L1 => ZuF k L1) n :=
 Zh (fun v => by kernel_rfl) (fun n v => by
  obtain ⟨v0,v1,v2,v3,v4,v5⟩:=v
  kernel_rfl)
theorem ZQN (k:Nat) (x:Kd.dens ZA):ZB (ZDd k) ZLF Tryz.f245 ZA ZoY x = ZqG k x:=by
 show _ = ZuE k (Zxd k) x
 rw [show Zxd k = ZAi k k from (ZIr k k).symm]
 obtain ⟨a0,⟨⟩⟩:=x
 kernel_rfl
theorem ZLG (k:Nat):Ctr Tryz.prog k 245 (mk ZA ZoY ZqG) :=
 ZC (fn:=Tryz.f245) (Zg (Za (Zqn k) Zd)) (by kernel_rfl) (by kernel_rfl) (ZQN k)
noncomputable abbrev ZUC:Nat × Callee:=(245,mk ZA ZoY ZqG)
noncomputable def ZDe (k:Nat):=Wf k [ZLz]
def ZLH:Nat → Ann:=fun id => bif Nat.beq id 4 then ⟨[18,19,17,8,7],[]⟩ else ⟨[],[]⟩
abbrev ZoZ:=Zeg → Option ((Int × Int × Unit) × Unit)
def ZQO:Zeg → St
 | (v0,v1,v2,v3,v4) => St.mk (Zw [(18,Zl v0),(19,Zl v1),(17,Ym v2),(8,Zl v3),(7,Zl v4)]) (Zv [])
def ZcI (k:Nat) (L1:ZoZ):ZoZ
 | (v0,v1,v2,v3,v4) => bif decide (v1 < v0) then bif decide (0 ≤ v1 ∧ v1 < Int.ofNat v2.length) then L1 (v0,IntKind.i64.wrap (v1 + 1),v2,IntKind.i64.wrap (v3 + if v2.getD v1.toNat 0 < IntKind.i64.wrap ((0:Int) - v2.getD v1.toNat 0) then IntKind.i64.wrap ((0:Int) - v2.getD v1.toNat 0) else v2.getD v1.toNat 0),v4) else none else some ((v3,v4,()),())
def Zo0 (k:Nat):ZoZ:=Zm (fun L1 => ZcI k L1) k
noncomputable def ZAj (k:Nat) (n:Nat) (v:Zeg) :=
 Zr (ZDe k) ZLH [] [1,1,1,0,1,0] [] (Q7 Tryz.f246) (Wd (ZDe k) Tryz.f246 Xa Z5 [] []) n (ZQO v)
def Zhb (k:Nat) (L1:ZoZ):(List Int × Int × Unit) × List Int × Unit → Option ((Int × Int × Unit) × Unit)
 | ((a0,a1,()),a2,()) => (ZmI k ((a0,a1,()),a2,())).bind fun y => L1 (Int.ofNat (List.length y.1.1),(0:Int),y.1.1,(0:Int),y.1.2.1)
def ZmM (k:Nat):=Zhb k (Zo0 k)
theorem ZIt (k:Nat):∀ n,ZAj k n = Zm (fun L1 => ZcI k L1) n :=
 Zh (fun v => by kernel_rfl) (fun n v => by
  obtain ⟨v0,v1,v2,v3,v4⟩:=v
  kernel_rfl)
theorem ZQP (k:Nat) (x:Kd.dens Xa):ZB (ZDe k) ZLH Tryz.f246 Xa Z5 x = ZmM k x:=by
 show _ = Zhb k (Zo0 k) x
 rw [show Zo0 k = ZAj k k from (ZIt k k).symm]
 obtain ⟨⟨a0,⟨a1,⟨⟩⟩⟩,⟨a2,⟨⟩⟩⟩:=x
 kernel_rfl
theorem ZLI (k:Nat):Ctr Tryz.prog k 246 (mk Xa Z5 ZmM) :=
 ZC (fn:=Tryz.f246) (Zg (Za (ZAe k) Zd)) (by kernel_rfl) (by kernel_rfl) (ZQP k)
noncomputable abbrev ZUD:Nat × Callee:=(246,mk Xa Z5 ZmM)
abbrev ZFx:Kd:=.own (.int .i64) false
def ZmN (k:Nat):List Int × Unit → Option (List Int × Unit):=fun x => YT x
noncomputable def ZqH:Code:=ZKr Tryz.f221
theorem ZAk (k:Nat):Ctr Tryz.prog k 221 (mk Zan ZFx ZmN) :=
 Zua (C:=ZTy k) (A:=fun _ => ⟨[],[]⟩) (Zg Zd) Zi4 (f:=221) (fn:=Tryz.f221) (o0:=Znf (Zb2 [0] ZqH) 0) (o1:=Znf (Zb2 [1,0,0] ZqH) 0) (o2:=Znf (Zb2 [1,0,0] ZqH) 1)
  (r0:=0) (r1:=1) (X:=Zb2 [1,0,1,0] ZqH) (Y:=Zb2 [1,1] ZqH) (T:=61) (E:=3) (U:=61) (t:=(.int .i64))
  (by kernel_rfl) (by kernel_rfl) (by kernel_rfl) (by kernel_rfl) (by kernel_rfl) (of_decide_eq_true (by kernel_rfl)) (by kernel_rfl) ⟨by kernel_rfl,by kernel_rfl,by kernel_rfl⟩ ⟨by kernel_rfl,by kernel_rfl,by kernel_rfl⟩ ⟨by kernel_rfl,by kernel_rfl,by kernel_rfl⟩ (fun xs => by kernel_rfl) (by kernel_rfl)
noncomputable abbrev ZLJ:Nat × Callee:=(221,mk Zan ZFx ZmN)
noncomputable def ZiH (k:Nat):=Wf k [Zqi,ZUC,ZUD,ZLJ]
def ZwS:Nat → Ann:=fun id => bif Nat.beq id 15 then ⟨[57,56,6,11,0,9,7,50,49,10,1,4],[.seen 6 0]⟩ else bif Nat.beq id 12 then ⟨[49,50,10,6,0,9,7,1,4],[]⟩ else bif Nat.beq id 9 then ⟨[10,1,6,0,9,7,4],[]⟩ else ⟨[],[]⟩
abbrev ZwV:=Int × Int × Int × Int × List Int × Bool × Int × Int × Int × Int × Int × List Int × Int × Int
abbrev Zow:=ZwV → Option (((List Int × Int × Unit) × Int × Unit) × Unit)
abbrev ZwU:=Int × Int × Int × List Int × Bool × Int × Int × List Int × Int × Int
abbrev ZgI:=ZwU → Option (((List Int × Int × Unit) × Int × Unit) × Unit)
abbrev ZwT:=Int × Int × List Int × Bool × Int × List Int × Int × Int
abbrev ZbO:=ZwT → Option (((List Int × Int × Unit) × Int × Unit) × Unit)
def ZP9:ZwV → St
 | (v0,v1,v2,v3,v4,v5,v6,v7,v8,v9,v10,v11,v12,v13) => St.mk (Zw [(57,Zl v0),(56,AV.agg [Zl v1,Zl v2]),(6,AV.bx 8192 0),(11,Zl v3),(0,Ym v4),(9,avB v5),(7,Zl v6),(50,Zl v7),(49,Zl v8),(10,Zl v9),(1,Zl v10),(4,AV.bx 8193 0)]) (Zv [(8192,QQ [Ym v11,Zl v12]),(8193,QQ [AV.val (PV.v (Value.slice none (0:Nat) (0:Nat))),Zl v13])])
def Km (k:Nat) (L1:ZbO) (L2:ZgI) (L3:Zow):Zow
 | (v0,v1,v2,v3,v4,v5,v6,v7,v8,v9,v10,v11,v12,v13) => bif decide (v0 < 2) then bif decide (0 ≤ v0 ∧ v0 < 2) then (ZmN k (v11,())).bind fun y => bif decide (0 ≤ v3 ∧ v3 < Int.ofNat (List.length y.1)) then bif decide (v3.toNat < List.length y.1) then bif decide (0 ≤ v3 ∧ v3 < Int.ofNat (List.length y.1)) then bif decide (v3.toNat < List.length y.1) then (ZmM k ((List.set y.1 v3.toNat (IntKind.i64.wrap (List.getD y.1 v3.toNat 0 + [v1,v2].getD v0.toNat (0:Int))),v12,()),v4,())).bind fun y_1 => bif y_1.1.2.1 == 0 then bif !v5 then L3 (IntKind.i64.wrap (v0 + 1),v1,v2,v3,v4,true,y_1.1.1,v7,v8,v9,v10,List.set y.1 v3.toNat (IntKind.i64.wrap (List.getD y.1 v3.toNat 0 + [v1,v2].getD v0.toNat (0:Int))),v12,v13) else bif decide (y_1.1.1 < v6) then L3 (IntKind.i64.wrap (v0 + 1),v1,v2,v3,v4,true,y_1.1.1,v7,v8,v9,v10,List.set y.1 v3.toNat (IntKind.i64.wrap (List.getD y.1 v3.toNat 0 + [v1,v2].getD v0.toNat (0:Int))),v12,v13) else L3 (IntKind.i64.wrap (v0 + 1),v1,v2,v3,v4,v5,v6,v7,v8,v9,v10,v11,v12,v13) else L3 (IntKind.i64.wrap (v0 + 1),v1,v2,v3,v4,v5,v6,v7,v8,v9,v10,v11,v12,v13) else none else none else none else none else none else L2 (v8,IntKind.i64.wrap (v7 + 1),v9,v4,v5,v6,v10,v11,v12,v13)
def ZgJ (k:Nat) (L1:ZbO) (L2:ZgI):Zow:=Zm (fun L3 => Km k L1 L2 L3) k
noncomputable def ZjI (k:Nat) (n1 n2:Nat) (n:Nat) (v:ZwV):Option (((List Int × Int × Unit) × Int × Unit) × Unit) :=
 Zr (ZiH k) ZwS [] [1,1,1,1,1,0,1,0,0,1,0,0,1,0,0,1,1,0,0,1,1,0] [n1,n2] (Q7 Tryz.f199) (Wd (ZiH k) Tryz.f199 Z3 Yo [] []) n (ZP9 v)
def ZP8:ZwU → St
 | (v0,v1,v2,v3,v4,v5,v6,v7,v8,v9) => St.mk (Zw [(49,Zl v0),(50,Zl v1),(10,Zl v2),(6,AV.bx 8192 0),(0,Ym v3),(9,avB v4),(7,Zl v5),(1,Zl v6),(4,AV.bx 8193 0)]) (Zv [(8192,QQ [Ym v7,Zl v8]),(8193,QQ [AV.val (PV.v (Value.slice none (0:Nat) (0:Nat))),Zl v9])])
def ZaM (k:Nat) (L3:Zow) (L1:ZbO) (L2:ZgI):ZgI
 | (v0,v1,v2,v3,v4,v5,v6,v7,v8,v9) => bif decide (v1 < v0) then L3 (0,v2,IntKind.i64.wrap ((0:Int) - v2),v1,v3,v4,v5,v1,v0,v2,v6,v7,v8,v9) else L1 (IntKind.i64.wrap (v2.tdiv (2:Int)),v6,v3,v4,v5,v7,v8,v9)
def ZjH (k:Nat) (L1:ZbO):ZgI:=Zm (fun L2 => ZaM k (ZgJ k L1 L2) L1 L2) k
noncomputable def KW (k:Nat) (n1:Nat) (n:Nat) (v:ZwU):Option (((List Int × Int × Unit) × Int × Unit) × Unit) :=
 Zr (ZiH k) ZwS [] [1,1,1,1,1,0,1,0,0,1,0,0,1,0] [n1] (Q7 Tryz.f199) (Wd (ZiH k) Tryz.f199 Z3 Yo [] []) n (ZP8 v)
def ZP7:ZwT → St
 | (v0,v1,v2,v3,v4,v5,v6,v7) => St.mk (Zw [(10,Zl v0),(1,Zl v1),(6,AV.bx 8192 0),(0,Ym v2),(9,avB v3),(7,Zl v4),(4,AV.bx 8193 0)]) (Zv [(8192,QQ [Ym v5,Zl v6]),(8193,QQ [AV.val (PV.v (Value.slice none (0:Nat) (0:Nat))),Zl v7])])
def ZaL (k:Nat) (L2:ZgI) (L1:ZbO):ZbO
 | (v0,v1,v2,v3,v4,v5,v6,v7) => bif decide ((0:Int) < v0) then L2 (v1,(0:Int),v0,v2,v3,v4,v1,v5,v6,v7) else some (((v5,v6,()),0,()),())
def Zox (k:Nat):ZbO:=Zm (fun L1 => ZaL k (ZjH k L1) L1) k
noncomputable def X5 (k:Nat) (n:Nat) (v:ZwT) :=
 Zr (ZiH k) ZwS [] [1,1,1,1,1,0,1,0] [] (Q7 Tryz.f199) (Wd (ZiH k) Tryz.f199 Z3 Yo [] []) n (ZP7 v)
def ZgK (k:Nat) (L1:ZbO):List Int × Int × Unit → Option (((List Int × Int × Unit) × Int × Unit) × Unit)
 | (a0,a1,()) => bif decide (a1 < 0) then some ((([],(0:Int),()),1,()),()) else bif decide ((8:Int) < a1) then some ((([],(0:Int),()),1,()),()) else bif decide (Int.ofNat a0.length < a1) then some ((([],(0:Int),()),1,()),()) else (KV k (a0,(),())).bind fun y => bif y.1 then some ((([],(0:Int),()),12,()),()) else (ZqG k (a1,())).bind fun y => (ZmM k ((y.1.1,y.1.2.1,()),a0,())).bind fun y_1 => L1 (8,a1,a0,y_1.1.2.1 == 0,y_1.1.1,y.1.1,y.1.2.1,(0:Int))
def Zqo (k:Nat):=ZgK k (Zox k)
theorem ZHO (k:Nat) (n1 n2:Nat):∀ n,ZjI k n1 n2 n = Zm (fun L3 => Km k (X5 k n1) (KW k n1 n2) L3) n :=
 Zh (fun v => by kernel_rfl) (fun n v => by
  show ZjI k n1 n2 (n + 1) v = Km k (X5 k n1) (KW k n1 n2) (ZjI k n1 n2 n) v
  obtain ⟨v0,v1,v2,v3,v4,v5,v6,v7,v8,v9,v10,v11,v12,v13⟩:=v
  kernel_rfl)
theorem ZHN (k:Nat) (n1:Nat):∀ n,KW k n1 n = Zm (fun L2 => ZaM k (ZgJ k (X5 k n1) L2) (X5 k n1) L2) n :=
 Zh (fun v => by kernel_rfl) (fun n v => by
  show KW k n1 (n + 1) v = ZaM k (ZgJ k (X5 k n1) (KW k n1 n)) (X5 k n1) (KW k n1 n) v
  rw [show (ZgJ k (X5 k n1) (KW k n1 n)) = ZjI k n1 n k from (ZHO k n1 n k).symm]
  obtain ⟨v0,v1,v2,v3,v4,v5,v6,v7,v8,v9⟩:=v
  kernel_rfl)
theorem ZHM (k:Nat):∀ n,X5 k n = Zm (fun L1 => ZaL k (ZjH k L1) L1) n :=
 Zh (fun v => by kernel_rfl) (fun n v => by
  rw [show (ZjH k (X5 k n)) = KW k n k from (ZHN k n k).symm]
  obtain ⟨v0,v1,v2,v3,v4,v5,v6,v7⟩:=v
  kernel_rfl)
theorem ZQa (k:Nat) (x:Kd.dens Z3):ZB (ZiH k) ZwS Tryz.f199 Z3 Yo x = Zqo k x:=by
 show _ = ZgK k (Zox k) x
 rw [show Zox k = X5 k k from (ZHM k k).symm]
 obtain ⟨a0,⟨a1,⟨⟩⟩⟩:=x
 kernel_rfl
theorem ZK0 (k:Nat):Ctr Tryz.prog k 199 (mk Z3 Yo Zqo) :=
 ZC (fn:=Tryz.f199) (Zg (Za (ZiF k) (Za (ZLG k) (Za (ZLI k) (Za (ZAk k) Zd))))) (by kernel_rfl) (by kernel_rfl) (ZQa k)
noncomputable abbrev ZUh:Nat × Callee:=(199,mk Z3 Yo Zqo)
abbrev Zor:List Kd:=[.view Zy0,.view .bool,.box [.view (.int .i64),.view (.int .i64),.view (.int .i64),.view (.sl (.int .i64)),.view (.sl (.int .i64)),.view (.int .i64),.view (.sl (.int .i64)),.view (.int .i64)]]
def Zul (k:Nat):(Int × Int × Int × List Int × (List Int × Int × Unit) × List Int × Int × Unit) × Bool × (Int × Int × Int × List Int × List Int × Int × List Int × Int × Unit) × Unit → Option (Unit × (Int × Int × Int × List Int × List Int × Int × List Int × Int × Unit) × Unit)
 | ((a0,a1,a2,a3,(a4,a5,()),a6,a7,()),a8,(a9,a10,a11,a12,a13,a14,a15,a16,()),()) => bif a8 then bif decide (a16 < 0) then some ((),(a0,a1,a2,a3,a4,a5,a6,a7,()),()) else bif decide (a7 < a16) then some ((),(a0,a1,a2,a3,a4,a5,a6,a7,()),()) else some ((),(a9,a10,a11,a12,a13,a14,a15,a16,()),()) else some ((),(a9,a10,a11,a12,a13,a14,a15,a16,()),())
def Zce (k:Nat):=Zul k
theorem ZP0 (k:Nat) (x:Kd.dens Zor):ZB (Z4 k) nA Tryz.f196 Zor QD x = Zce k x:=by
 show _ = Zul k x
 obtain ⟨⟨a0,⟨a1,⟨a2,⟨a3,⟨⟨a4,⟨a5,⟨⟩⟩⟩,⟨a6,⟨a7,⟨⟩⟩⟩⟩⟩⟩⟩⟩,⟨a8,⟨⟨a9,⟨a10,⟨a11,⟨a12,⟨a13,⟨a14,⟨a15,⟨a16,⟨⟩⟩⟩⟩⟩⟩⟩⟩⟩,⟨⟩⟩⟩⟩:=x
 kernel_rfl
theorem ZKX (k:Nat):Ctr Tryz.prog k 196 (mk Zor QD Zce) :=
 ZC (fn:=Tryz.f196) (Zg Zd) (by kernel_rfl) (by kernel_rfl) (ZP0 k)
noncomputable abbrev ZUd:Nat × Callee:=(196,mk Zor QD Zce)
abbrev Zm2:Kd:=.view Zy0
noncomputable def Zsu (k:Nat):=Wf k [ZKN,ZUc,ZCU,ZUg,ZUh,ZUd]
def ZGm:Nat → Ann:=fun id => bif Nat.beq id 21 then ⟨[82,81,11,6,10,12,9,4],[]⟩ else bif Nat.beq id 15 then ⟨[62,63,10,6,11,12,9,4],[]⟩ else bif Nat.beq id 4 then ⟨[28,29,27,6,5,4],[.cell 6 3 ((Ty.int IntKind.i64))]⟩ else ⟨[],[]⟩
abbrev ZEr:=Int × Int × Int × Int × Int × Int × Int × Int × List Int × List Int × Int × List Int × Int × Int × Int × Int × List Int × List Int × Int × List Int × Int × Int × Int × Int × Int × Int × List Int × Int × Int × Int × Int × Int
abbrev Zyb:=ZEr → Option ((Int × Int × Int × List Int × (List Int × Int × Unit) × List Int × Int × Unit) × Unit)
abbrev ZEq:=Int × Int × Int × Int × Int × Int × List Int × List Int × Int × List Int × Int × Int × Int × Int × List Int × List Int × Int × List Int × Int × Int × Int × Int × Int × Int × List Int × Int × Int × Int × Int × Int
abbrev Zya:=ZEq → Option ((Int × Int × Int × List Int × (List Int × Int × Unit) × List Int × Int × Unit) × Unit)
abbrev ZEp:=Int × Int × List Int × Int × Int × Int × Int × Int × Int × List Int × Int × Int × Int × Int × Int
abbrev Zx9:=ZEp → Option ((Int × Int × Int × List Int × (List Int × Int × Unit) × List Int × Int × Unit) × Unit)
def ZVU:ZEr → St
 | (v0,v1,v2,v3,v4,v5,v6,v7,v8,v9,v10,v11,v12,v13,v14,v15,v16,v17,v18,v19,v20,v21,v22,v23,v24,v25,v26,v27,v28,v29,v30,v31) => St.mk (Zw [(82,Zl v0),(81,AV.agg [Zl v1,Zl v2,Zl v3]),(11,Zl v4),(6,AV.bx 8192 0),(10,AV.clo 196 [AV.bx 8193 0]),(12,AV.bx 8194 0),(9,AV.bx 8193 0),(4,AV.bx 8196 0)]) (Zv [(8192,QQ [Zl v5,Zl v6,Zl v7,Ym v8,Ym v9,Zl v10,Ym v11,Zl v12]),(8193,QQ [Zl v13,Zl v14,Zl v15,Ym v16,Ym v17,Zl v18,Ym v19,Zl v20]),(8194,QQ [Zl v21,Zl v22,Zl v23,AV.own 8195,AV.val (PV.v (Value.slice none (0:Nat) (0:Nat))),Zl v24,AV.val (PV.v (Value.slice none (0:Nat) (0:Nat))),Zl v25]),(8195,rsA v26 true),(8196,QQ [Zl v27,Zl v28,Zl v29,AV.val (PV.v (Value.slice none (0:Nat) (0:Nat))),AV.val (PV.v (Value.slice none (0:Nat) (0:Nat))),Zl v30,AV.val (PV.v (Value.slice none (0:Nat) (0:Nat))),Zl v31])])
noncomputable def Zda (k:Nat) (L3:Zyb):Zyb
 | (v0,v1,v2,v3,v4,v5,v6,v7,v8,v9,v10,v11,v12,v13,v14,v15,v16,v17,v18,v19,v20,v21,v22,v23,v24,v25,v26,v27,v28,v29,v30,v31) => bif decide (v0 < 3) then bif decide (0 ≤ v0 ∧ v0 < 3) then bif decide ([v1,v2,v3].getD v0.toNat (0:Int) < v4) then (Zqo k (v8,[v1,v2,v3].getD v0.toNat (0:Int),())).bind fun y => (ZiG k ((v5,v6,v7,v8,(v9,v10,()),v11,v12,()),IntKind.i64.wrap ((31:Int) + [v1,v2,v3].getD v0.toNat (0:Int)),(y.1.1.1,y.1.1.2.1,()),IntKind.i64.wrap ((9:Int) + IntKind.i64.wrap ((12:Int) * [v1,v2,v3].getD v0.toNat (0:Int))),())).bind fun y => (Zce k ((y.1.1.1,y.1.1.2.1,y.1.1.2.2.1,y.1.1.2.2.2.1,(y.1.1.2.2.2.2.1.1,y.1.1.2.2.2.2.1.2.1,()),y.1.1.2.2.2.2.2.1,y.1.1.2.2.2.2.2.2.1,()),y.1.2.1,(v13,v14,v15,v16,v17,v18,v19,v20,()),())).bind fun y => L3 (IntKind.i64.wrap (v0 + 1),v1,v2,v3,v4,v5,v6,v7,v8,v9,v10,v11,v12,y.2.1.1,y.2.1.2.1,y.2.1.2.2.1,y.2.1.2.2.2.1,y.2.1.2.2.2.2.1,y.2.1.2.2.2.2.2.1,y.2.1.2.2.2.2.2.2.1,y.2.1.2.2.2.2.2.2.2.1,v21,v22,v23,v24,v25,v26,v27,v28,v29,v30,v31) else L3 (IntKind.i64.wrap (v0 + 1),v1,v2,v3,v4,v5,v6,v7,v8,v9,v10,v11,v12,v13,v14,v15,v16,v17,v18,v19,v20,v21,v22,v23,v24,v25,v26,v27,v28,v29,v30,v31) else none else (Zce k (((1:Int),v22,v23,v26,([],v24,()),[],IntKind.i64.wrap (v4 * v7),()),true,(v13,v14,v15,v16,v17,v18,v19,v20,()),())).bind fun y => some ((y.2.1.1,y.2.1.2.1,y.2.1.2.2.1,y.2.1.2.2.2.1,(y.2.1.2.2.2.2.1,y.2.1.2.2.2.2.2.1,()),y.2.1.2.2.2.2.2.2.1,y.2.1.2.2.2.2.2.2.2.1,()),())
noncomputable def Zm1 (k:Nat):Zyb:=Zm (fun L3 => Zda k L3) k
noncomputable def ZGp (k:Nat) (n:Nat) (v:ZEr) :=
 Zr (Zsu k) ZGm [] [1,1,1,1,1,1,1,1,1,1,1,0,1,0] [] (Q7 Tryz.f152) (Wd (Zsu k) Tryz.f152 Z3 Zm2 [] []) n (ZVU v)
def ZVT:ZEq → St
 | (v0,v1,v2,v3,v4,v5,v6,v7,v8,v9,v10,v11,v12,v13,v14,v15,v16,v17,v18,v19,v20,v21,v22,v23,v24,v25,v26,v27,v28,v29) => St.mk (Zw [(62,Zl v0),(63,Zl v1),(10,AV.clo 196 [AV.bx 8192 0]),(6,AV.bx 8193 0),(11,Zl v2),(12,AV.bx 8194 0),(9,AV.bx 8192 0),(4,AV.bx 8196 0)]) (Zv [(8192,QQ [Zl v3,Zl v4,Zl v5,Ym v6,Ym v7,Zl v8,Ym v9,Zl v10]),(8193,QQ [Zl v11,Zl v12,Zl v13,Ym v14,Ym v15,Zl v16,Ym v17,Zl v18]),(8194,QQ [Zl v19,Zl v20,Zl v21,AV.own 8195,AV.val (PV.v (Value.slice none (0:Nat) (0:Nat))),Zl v22,AV.val (PV.v (Value.slice none (0:Nat) (0:Nat))),Zl v23]),(8195,rsA v24 true),(8196,QQ [Zl v25,Zl v26,Zl v27,AV.val (PV.v (Value.slice none (0:Nat) (0:Nat))),AV.val (PV.v (Value.slice none (0:Nat) (0:Nat))),Zl v28,AV.val (PV.v (Value.slice none (0:Nat) (0:Nat))),Zl v29])])
noncomputable def ZfI (k:Nat) (L3:Zyb) (L2:Zya):Zya
 | (v0,v1,v2,v3,v4,v5,v6,v7,v8,v9,v10,v11,v12,v13,v14,v15,v16,v17,v18,v19,v20,v21,v22,v23,v24,v25,v26,v27,v28,v29) => bif decide (v1 < v0) then (Ze6 k (v1,())).bind fun y => (ZiG k ((v11,v12,v13,v14,(v15,v16,()),v17,v18,()),IntKind.i64.wrap ((8:Int) + v1),(y.1.1.1,y.1.1.2.1,()),0,())).bind fun y => (Zce k ((y.1.1.1,y.1.1.2.1,y.1.1.2.2.1,y.1.1.2.2.2.1,(y.1.1.2.2.2.2.1.1,y.1.1.2.2.2.2.1.2.1,()),y.1.1.2.2.2.2.2.1,y.1.1.2.2.2.2.2.2.1,()),y.1.2.1,(v3,v4,v5,v6,v7,v8,v9,v10,()),())).bind fun y => L2 (v0,IntKind.i64.wrap (v1 + 1),v2,y.2.1.1,y.2.1.2.1,y.2.1.2.2.1,y.2.1.2.2.2.1,y.2.1.2.2.2.2.1,y.2.1.2.2.2.2.2.1,y.2.1.2.2.2.2.2.2.1,y.2.1.2.2.2.2.2.2.2.1,v11,v12,v13,v14,v15,v16,v17,v18,v19,v20,v21,v22,v23,v24,v25,v26,v27,v28,v29) else L3 (0,(2:Int),(4:Int),(8:Int),v2,v11,v12,v13,v14,v15,v16,v17,v18,v3,v4,v5,v6,v7,v8,v9,v10,v19,v20,v21,v22,v23,v24,v25,v26,v27,v28,v29)
noncomputable def Zm0 (k:Nat):Zya:=Zm (fun L2 => ZfI k (Zm1 k) L2) k
noncomputable def ZGo (k:Nat) (n:Nat) (v:ZEq) :=
 Zr (Zsu k) ZGm [] [1,1,1,1,1,1,1,1,1,1,0,1,0] [] (Q7 Tryz.f152) (Wd (Zsu k) Tryz.f152 Z3 Zm2 [] []) n (ZVT v)
def ZVS:ZEp → St
 | (v0,v1,v2,v3,v4,v5,v6,v7,v8,v9,v10,v11,v12,v13,v14) => St.mk (Zw [(28,Zl v0),(29,Zl v1),(27,Ym v2),(6,AV.bx 8192 0),(5,Zl v3),(4,AV.bx 8194 0)]) (Zv [(8192,QQ [Zl v4,Zl v5,Zl v6,AV.own 8193,AV.val (PV.v (Value.slice none (0:Nat) (0:Nat))),Zl v7,AV.val (PV.v (Value.slice none (0:Nat) (0:Nat))),Zl v8]),(8193,rsA v9 false),(8194,QQ [Zl v10,Zl v11,Zl v12,AV.val (PV.v (Value.slice none (0:Nat) (0:Nat))),AV.val (PV.v (Value.slice none (0:Nat) (0:Nat))),Zl v13,AV.val (PV.v (Value.slice none (0:Nat) (0:Nat))),Zl v14])])
def Zaa (k:Nat) (L2:Zya) (L1:Zx9):Zx9
 | (v0,v1,v2,v3,v4,v5,v6,v7,v8,v9,v10,v11,v12,v13,v14) => bif decide (v1 < v0) then bif decide (0 ≤ v1 ∧ v1 < Int.ofNat v2.length) then bif decide (0 ≤ v3) then bif decide (v9.length + [Int.fdiv (v2.getD v1.toNat 0) ((2:Int) ^ min v3.toNat 64)].length < 2147483648) then L1 (v0,IntKind.i64.wrap (v1 + 1),v2,v3,v4,v5,v6,v7,v8,v9 ++ [Int.fdiv (v2.getD v1.toNat 0) ((2:Int) ^ min v3.toNat 64)],v10,v11,v12,v13,v14) else none else none else none else (Ze3 k (v9,((v4,v5,v6,v9,[],v7,[],v8,()),()),())).bind fun y => (Zce k (((0:Int),v5,v6,v9,([],v7,()),[],v6,()),!y.1,(0,0,0,[],[],0,[],(-1:Int),()),())).bind fun y_1 => L2 (IntKind.i64.wrap ((if Int.ofNat v9.length < (4:Int) then Int.ofNat v9.length else (4:Int)) + (1:Int)),(0:Int),Int.ofNat v9.length,y_1.2.1.1,y_1.2.1.2.1,y_1.2.1.2.2.1,y_1.2.1.2.2.2.1,y_1.2.1.2.2.2.2.1,y_1.2.1.2.2.2.2.2.1,y_1.2.1.2.2.2.2.2.2.1,y_1.2.1.2.2.2.2.2.2.2.1,y.2.1.1,y.2.1.2.1,y.2.1.2.2.1,y.2.1.2.2.2.1,y.2.1.2.2.2.2.1,y.2.1.2.2.2.2.2.1,y.2.1.2.2.2.2.2.2.1,y.2.1.2.2.2.2.2.2.2.1,(0:Int),v5,v6,v7,v6,v9,v10,v11,v12,v13,v14)
noncomputable def Zyc (k:Nat):Zx9:=Zm (fun L1 => Zaa k (Zm0 k) L1) k
noncomputable def ZGn (k:Nat) (n:Nat) (v:ZEp) :=
 Zr (Zsu k) ZGm [] [1,1,1,0,1,0] [] (Q7 Tryz.f152) (Wd (Zsu k) Tryz.f152 Z3 Zm2 [] []) n (ZVS v)
def Zlk (k:Nat) (L1:Zx9):List Int × Int × Unit → Option ((Int × Int × Int × List Int × (List Int × Int × Unit) × List Int × Int × Unit) × Unit)
 | (a0,a1,()) => (Zqk k (a0,())).bind fun y => L1 (Int.ofNat a0.length,(0:Int),a0,y.1,(0:Int),y.1,IntKind.i64.wrap (a1 - y.1),(0:Int),(0:Int),[],(0:Int),(0:Int),(0:Int),(0:Int),(0:Int))
noncomputable def Zvu (k:Nat):=Zlk k (Zyc k)
theorem ZN3 (k:Nat):∀ n,ZGp k n = Zm (fun L3 => Zda k L3) n :=
 Zh (fun v => by kernel_rfl) (fun n v => by
  obtain ⟨v0,v1,v2,v3,v4,v5,v6,v7,v8,v9,v10,v11,v12,v13,v14,v15,v16,v17,v18,v19,v20,v21,v22,v23,v24,v25,v26,v27,v28,v29,v30,v31⟩:=v
  kernel_rfl)
theorem ZN2 (k:Nat):∀ n,ZGo k n = Zm (fun L2 => ZfI k (Zm1 k) L2) n :=
 Zh (fun v => by kernel_rfl) (fun n v => by
  rw [show (Zm1 k) = ZGp k k from (ZN3 k k).symm]
  obtain ⟨v0,v1,v2,v3,v4,v5,v6,v7,v8,v9,v10,v11,v12,v13,v14,v15,v16,v17,v18,v19,v20,v21,v22,v23,v24,v25,v26,v27,v28,v29⟩:=v
  kernel_rfl)
theorem ZN1 (k:Nat):∀ n,ZGn k n = Zm (fun L1 => Zaa k (Zm0 k) L1) n :=
 Zh (fun v => by kernel_rfl) (fun n v => by
  rw [show (Zm0 k) = ZGo k k from (ZN2 k k).symm]
  obtain ⟨v0,v1,v2,v3,v4,v5,v6,v7,v8,v9,v10,v11,v12,v13,v14⟩:=v
  kernel_rfl)
theorem ZVV (k:Nat) (x:Kd.dens Z3):ZB (Zsu k) ZGm Tryz.f152 Z3 Zm2 x = Zvu k x:=by
 show _ = Zlk k (Zyc k) x
 rw [show Zyc k = ZGn k k from (ZN1 k k).symm]
 obtain ⟨a0,⟨a1,⟨⟩⟩⟩:=x
 kernel_rfl
theorem ZSn (k:Nat):Ctr Tryz.prog k 152 (mk Z3 Zm2 Zvu) :=
 ZC (fn:=Tryz.f152) (Zg (Za (ZCP k) (Za (ZKW k) (Za (Zqn k) (Za (ZKZ k) (Za (ZK0 k) (Za (ZKX k) Zd))))))) (by kernel_rfl) (by kernel_rfl) (ZVV k)
noncomputable abbrev ZXq:Nat × Callee:=(152,mk Z3 Zm2 Zvu)
def ZTA:Nat → Ann:=fun id => bif Nat.beq id 4 then ⟨[15,16,0],[]⟩ else ⟨[],[]⟩
abbrev Zyd:=Zef → Option (Int × (List Int × Int × Unit) × Unit)
def ZVW:Zef → St
 | (v0,v1,v2,v3) => St.mk (Zw [(15,Zl v0),(16,Zl v1),(0,AV.bx 0 0)]) (Zv [(0,QQ [AV.own 8192,Zl v2]),(8192,RS.live (Res.arr (Ty.int IntKind.u8) v3 false))])
def ZfJ (k:Nat) (L1:Zyd):Zyd
 | (v0,v1,v2,v3) => bif decide (v1 < v0) then (ZiE k ((v3,v2,()),0,())).bind fun y => L1 (v0,IntKind.i64.wrap (v1 + 1),y.2.1.2.1,y.2.1.1) else (ZiE k ((v3,v2,()),1,())).bind fun y => some (0,(y.2.1.1,y.2.1.2.1,()),())
def Zye (k:Nat):Zyd:=Zm (fun L1 => ZfJ k L1) k
noncomputable def ZGq (k:Nat) (n:Nat) (v:Zef) :=
 Zr (Zvr k) ZTA [0] [1,1,0,1,0] [] (Q7 Tryz.f153) (Wd (Zvr k) Tryz.f153 ZaA Zi [AV.bx (nat_lit 0) (nat_lit 0)] [[]]) n (ZVW v)
def Zll (k:Nat) (L1:Zyd):(List Int × Int × Unit) × Int × Unit → Option (Int × (List Int × Int × Unit) × Unit)
 | ((a0,a1,()),a2,()) => bif decide (a2 < 0) then some (1,(a0,a1,()),()) else bif decide ((65536:Int) < a2) then some (1,(a0,a1,()),()) else L1 (a2,(0:Int),a1,a0)
def ZnS (k:Nat):=Zll k (Zye k)
theorem ZN5 (k:Nat):∀ n,ZGq k n = Zm (fun L1 => ZfJ k L1) n :=
 Zh (fun v => by kernel_rfl) (fun n v => by
  obtain ⟨v0,v1,v2,v3⟩:=v
  kernel_rfl)
theorem ZVX (k:Nat) (x:Kd.dens ZaA):ZB (Zvr k) ZTA Tryz.f153 ZaA Zi x = ZnS k x:=by
 show _ = Zll k (Zye k) x
 rw [show Zye k = ZGq k k from (ZN5 k k).symm]
 obtain ⟨⟨a0,⟨a1,⟨⟩⟩⟩,⟨a2,⟨⟩⟩⟩:=x
 kernel_rfl
theorem ZGr (k:Nat):Ctr Tryz.prog k 153 (mk ZaA Zi ZnS) :=
 ZC (fn:=Tryz.f153) (Zg (Za (ZzG k) Zd)) (by kernel_rfl) (by kernel_rfl) (ZVX k)
noncomputable abbrev ZTB:Nat × Callee:=(153,mk ZaA Zi ZnS)
def ZgL (k:Nat):(List Int × Int × Unit) × Int × Int × Unit → Option (Int × (List Int × Int × Unit) × Unit)
 | ((a0,a1,()),a2,a3,()) => (Zsq k (a3,())).bind fun y => bif y.1 then some (1,(a0,a1,()),()) else bif a3 == 0 then bif a2 != 0 then some (12,(a0,a1,()),()) else bif decide ((0:Int) < a3) then bif decide (0 ≤ IntKind.i64.wrap (a3 - 1)) then bif a2.fdiv ((2:Int) ^ min (IntKind.i64.wrap (a3 - 1)).toNat 64) != (0:Int) then bif decide (0 ≤ IntKind.i64.wrap (a3 - 1)) then bif a2.fdiv ((2:Int) ^ min (IntKind.i64.wrap (a3 - 1)).toNat 64) != (-1:Int) then some (12,(a0,a1,()),()) else (ZeC k ((a0,a1,()),IntKind.u64.wrap a2,a3,())).bind fun y => some (0,(y.2.1.1,y.2.1.2.1,()),()) else none else (ZeC k ((a0,a1,()),IntKind.u64.wrap a2,a3,())).bind fun y => some (0,(y.2.1.1,y.2.1.2.1,()),()) else none else (ZeC k ((a0,a1,()),IntKind.u64.wrap a2,a3,())).bind fun y => some (0,(y.2.1.1,y.2.1.2.1,()),()) else bif decide ((0:Int) < a3) then bif decide (0 ≤ IntKind.i64.wrap (a3 - 1)) then bif a2.fdiv ((2:Int) ^ min (IntKind.i64.wrap (a3 - 1)).toNat 64) != (0:Int) then bif decide (0 ≤ IntKind.i64.wrap (a3 - 1)) then bif a2.fdiv ((2:Int) ^ min (IntKind.i64.wrap (a3 - 1)).toNat 64) != (-1:Int) then some (12,(a0,a1,()),()) else (ZeC k ((a0,a1,()),IntKind.u64.wrap a2,a3,())).bind fun y => some (0,(y.2.1.1,y.2.1.2.1,()),()) else none else (ZeC k ((a0,a1,()),IntKind.u64.wrap a2,a3,())).bind fun y => some (0,(y.2.1.1,y.2.1.2.1,()),()) else none else (ZeC k ((a0,a1,()),IntKind.u64.wrap a2,a3,())).bind fun y => some (0,(y.2.1.1,y.2.1.2.1,()),())
def Zmt (k:Nat):=ZgL k
theorem ZQb (k:Nat) (x:Kd.dens Zch):ZB (ZTi k) nA Tryz.f200 Zch Zi x = Zmt k x:=by
 show _ = ZgL k x
 obtain ⟨⟨a0,⟨a1,⟨⟩⟩⟩,⟨a2,⟨a3,⟨⟩⟩⟩⟩:=x
 kernel_rfl
theorem ZzN (k:Nat):Ctr Tryz.prog k 200 (mk Zch Zi Zmt) :=
 ZC (fn:=Tryz.f200) (Zg (Za (Zx2 k) (Za (ZGj k) Zd))) (by kernel_rfl) (by kernel_rfl) (ZQb k)
noncomputable abbrev ZK2:Nat × Callee:=(200,mk Zch Zi Zmt)
abbrev Yv:List Kd:=[.box [.own (.int .u8) false,.view (.int .i64)],.view (.sl (.int .i64)),.view (.int .i64)]
noncomputable def ZN6 (k:Nat):=Wf k [ZK2]
def ZTC:Nat → Ann:=fun id => bif Nat.beq id 1 then ⟨[9,10,8,0,2],[]⟩ else ⟨[],[]⟩
abbrev ZfK:=Int × Int × List Int × Int × Int × List Int
abbrev Zyf:=ZfK → Option (Unit × (List Int × Int × Unit) × Unit)
def ZVY:ZfK → St
 | (v0,v1,v2,v3,v4,v5) => St.mk (Zw [(9,Zl v0),(10,Zl v1),(8,Ym v2),(0,AV.bx 0 0),(2,Zl v3)]) (Zv [(0,QQ [AV.own 8192,Zl v4]),(8192,RS.live (Res.arr (Ty.int IntKind.u8) v5 false))])
def ZfL (k:Nat) (L1:Zyf):Zyf
 | (v0,v1,v2,v3,v4,v5) => bif decide (v1 < v0) then bif decide (0 ≤ v1 ∧ v1 < Int.ofNat v2.length) then (Zmt k ((v5,v4,()),v2.getD v1.toNat 0,v3,())).bind fun y => L1 (v0,IntKind.i64.wrap (v1 + 1),v2,v3,y.2.1.2.1,y.2.1.1) else none else some ((),(v5,v4,()),())
def Zyg (k:Nat):Zyf:=Zm (fun L1 => ZfL k L1) k
noncomputable def ZGs (k:Nat) (n:Nat) (v:ZfK) :=
 Zr (ZN6 k) ZTC [0] [1,0] [] (Q7 Tryz.f154) (Wd (ZN6 k) Tryz.f154 Yv QD [AV.bx (nat_lit 0) (nat_lit 0)] [[]]) n (ZVY v)
def Zlm (k:Nat) (L1:Zyf):(List Int × Int × Unit) × List Int × Int × Unit → Option (Unit × (List Int × Int × Unit) × Unit)
 | ((a0,a1,()),a2,a3,()) => L1 (Int.ofNat a2.length,(0:Int),a2,a3,a1,a0)
def Zas (k:Nat):=Zlm k (Zyg k)
theorem ZN7 (k:Nat):∀ n,ZGs k n = Zm (fun L1 => ZfL k L1) n :=
 Zh (fun v => by kernel_rfl) (fun n v => by
  obtain ⟨v0,v1,v2,v3,v4,v5⟩:=v
  kernel_rfl)
theorem ZVZ (k:Nat) (x:Kd.dens Yv):ZB (ZN6 k) ZTC Tryz.f154 Yv QD x = Zas k x:=by
 show _ = Zlm k (Zyg k) x
 rw [show Zyg k = ZGs k k from (ZN7 k k).symm]
 obtain ⟨⟨a0,⟨a1,⟨⟩⟩⟩,⟨a2,⟨a3,⟨⟩⟩⟩⟩:=x
 kernel_rfl
theorem ZSq (k:Nat):Ctr Tryz.prog k 154 (mk Yv QD Zas) :=
 ZC (fn:=Tryz.f154) (Zg (Za (ZzN k) Zd)) (by kernel_rfl) (by kernel_rfl) (ZVZ k)
noncomputable abbrev ZXr:Nat × Callee:=(154,mk Yv QD Zas)
noncomputable def ZA2 (k:Nat):=Wf k [ZNv,ZTB,ZK3,ZK4,ZK6,(204,mk ZA Zi ZdG),(205,mk ZA Zi Zal),(206,mk ZA Z5 ZiJ),ZK2]
noncomputable def ZN8:Nat → Ann:=fun id => bif Nat.beq id 17 then ⟨[69,70,68,11,8,0,41,40,39],[]⟩ else bif Nat.beq id 10 then ⟨[40,41,39,8,0],[]⟩ else ⟨[],[]⟩
abbrev ZEt:=Int × Int × List Int × Int × Int × List (List Int) × Int × List Int × Int × Int × Int × Int × Int × List (Int × Int × Int × Unit) × Int
abbrev Zyh:=ZEt → Option (Int × (List Int × Int × Unit) × Unit)
abbrev ZEs:=Int × Int × List (List Int) × Int × List Int × Int × Int × List (Int × Int × Int × Unit) × Int
abbrev Zm3:=ZEs → Option (Int × (List Int × Int × Unit) × Unit)
noncomputable def ZV1:ZEt → St
 | (v0,v1,v2,v3,v4,v5,v6,v7,v8,v9,v10,v11,v12,v13,v14) => St.mk (Zw [(69,Zl v0),(70,Zl v1),(68,Ym v2),(11,AV.bx 8193 0),(8,AV.bx 8194 0),(0,AV.bx 0 0),(41,Zl v3),(40,Zl v4),(39,AV.val (PV.sl (Ty.int IntKind.i64).sl v5))]) (Zv [(0,QQ [AV.own 8192,Zl v6]),(8192,RS.live (Res.arr (Ty.int IntKind.u8) v7 false)),(8193,QQ [Zl v8,Zl v9,Zl v10]),(8194,QQ [Zl v11,Zl v12,AV.val (PV.sl ((Ty.int IntKind.i64).pair ((Ty.int IntKind.i64).pair ((Ty.int IntKind.i64).pair Ty.unit))) v13),Zl v14])])
noncomputable def Zab (k:Nat) (L1:Zm3) (L2:Zyh):Zyh
 | (v0,v1,v2,v3,v4,v5,v6,v7,v8,v9,v10,v11,v12,v13,v14) => bif decide (v1 < v0) then bif decide (0 ≤ v1 ∧ v1 < Int.ofNat v2.length) then (Zal k (v11,())).bind fun y => bif v8 == y.1 then (Zmt k ((v7,v6,()),v2.getD v1.toNat 0,v9,())).bind fun y => L2 (v0,IntKind.i64.wrap (v1 + 1),v2,v3,v4,v5,y.2.1.2.1,y.2.1.1,v8,v9,v10,v11,v12,v13,v14) else (ZiJ k (v2.getD v1.toNat 0,())).bind fun y => bif decide (0 ≤ v8) then (ZnS k ((v7,v6,()),Int.fdiv y.1.1 ((2:Int) ^ min v8.toNat 64),())).bind fun y_1 => bif decide (0 ≤ v8) then (ZQ k ((y_1.2.1.1,y_1.2.1.2.1,()),IntKind.i64.wrap (Int.ofNat (BitVec.ofInt 64 y.1.1 &&& BitVec.ofInt 64 (IntKind.i64.wrap (IntKind.i64.wrap ((1:Int) * (2:Int) ^ min v8.toNat 64) - (1:Int)))).toNat),v8,())).bind fun y => L2 (v0,IntKind.i64.wrap (v1 + 1),v2,v3,v4,v5,y.2.1.2.1,y.2.1.1,v8,v9,v10,v11,v12,v13,v14) else none else none else none else L1 (v4,IntKind.i64.wrap (v3 + 1),v5,v6,v7,v11,v12,v13,v14)
noncomputable def Zm4 (k:Nat) (L1:Zm3):Zyh:=Zm (fun L2 => Zab k L1 L2) k
noncomputable def Zpq (k:Nat) (n1:Nat) (n:Nat) (v:ZEt):Option (Int × (List Int × Int × Unit) × Unit) :=
 Zr (ZA2 k) ZN8 [0] [1,1,1,1,1,1,0,1,0,0,1,1,0,0,1,1,1,1,1,0] [n1] (Q7 Tryz.f155) (Wd (ZA2 k) Tryz.f155 Yv Zi [AV.bx (nat_lit 0) (nat_lit 0)] [[]]) n (ZV1 v)
noncomputable def ZV0:ZEs → St
 | (v0,v1,v2,v3,v4,v5,v6,v7,v8) => St.mk (Zw [(40,Zl v0),(41,Zl v1),(39,AV.val (PV.sl (Ty.int IntKind.i64).sl v2)),(8,AV.bx 8193 0),(0,AV.bx 0 0)]) (Zv [(0,QQ [AV.own 8192,Zl v3]),(8192,RS.live (Res.arr (Ty.int IntKind.u8) v4 false)),(8193,QQ [Zl v5,Zl v6,AV.val (PV.sl ((Ty.int IntKind.i64).pair ((Ty.int IntKind.i64).pair ((Ty.int IntKind.i64).pair Ty.unit))) v7),Zl v8])])
noncomputable def ZfN (k:Nat) (L2:Zyh) (L1:Zm3):Zm3
 | (v0,v1,v2,v3,v4,v5,v6,v7,v8) => bif decide (v1 < v0) then bif decide (0 ≤ v1 ∧ v1 < Int.ofNat v2.length) then bif decide (0 ≤ v1 ∧ v1 < Int.ofNat v7.length) then (ZdG k (v5,())).bind fun y => (ZQ k ((v4,v3,()),(v7.getD v1.toNat (0,0,0,())).1,y.1,())).bind fun y => (Zal k (v5,())).bind fun y_1 => bif (v7.getD v1.toNat (0,0,0,())).1 == y_1.1 then (ZQ k ((y.2.1.1,y.2.1.2.1,()),(v7.getD v1.toNat (0,0,0,())).2.1,5,())).bind fun y => L2 (Int.ofNat (List.length (v2.getD v1.toNat [])),(0:Int),v2.getD v1.toNat [],v1,v0,v2,y.2.1.2.1,y.2.1.1,(v7.getD v1.toNat (0,0,0,())).1,(v7.getD v1.toNat (0,0,0,())).2.1,(v7.getD v1.toNat (0,0,0,())).2.2.1,v5,v6,v7,v8) else L2 (Int.ofNat (List.length (v2.getD v1.toNat [])),(0:Int),v2.getD v1.toNat [],v1,v0,v2,y.2.1.2.1,y.2.1.1,(v7.getD v1.toNat (0,0,0,())).1,(v7.getD v1.toNat (0,0,0,())).2.1,(v7.getD v1.toNat (0,0,0,())).2.2.1,v5,v6,v7,v8) else none else none else some (0,(v4,v3,()),())
noncomputable def Zyi (k:Nat):Zm3:=Zm (fun L1 => ZfN k (Zm4 k L1) L1) k
noncomputable def Zln (k:Nat) (n:Nat) (v:ZEs) :=
 Zr (ZA2 k) ZN8 [0] [1,1,1,1,1,1,0,1,0] [] (Q7 Tryz.f155) (Wd (ZA2 k) Tryz.f155 Yv Zi [AV.bx (nat_lit 0) (nat_lit 0)] [[]]) n (ZV0 v)
noncomputable def Zlo (k:Nat) (L1:Zm3):(List Int × Int × Unit) × List Int × Int × Unit → Option (Int × (List Int × Int × Unit) × Unit)
 | ((a0,a1,()),a2,a3,()) => (Zmu k (a2,a3,())).bind fun y => bif y.1 != 0 then some (y.1,(a0,a1,()),()) else (Zmv k (a2,a3,())).bind fun y => (ZQ k ((a0,a1,()),y.1.1,2,())).bind fun y_1 => (ZQ k ((y_1.2.1.1,y_1.2.1.2.1,()),y.1.2.1,4,())).bind fun y_2 => (Zmw k (a2,a3,y.1.2.1,())).bind fun y_3 => L1 (Int.ofNat (List.length y_3.1),(0:Int),y_3.1,y_2.2.1.2.1,y_2.2.1.1,y.1.1,y.1.2.1,y.1.2.2.1,y.1.2.2.2.1)
noncomputable def Zid (k:Nat):=Zlo k (Zyi k)
theorem ZOa (k:Nat) (n1:Nat):∀ n,Zpq k n1 n = Zm (fun L2 => Zab k (Zln k n1) L2) n :=
 Zh (fun v => by kernel_rfl) (fun n v => by
  show Zpq k n1 (n + 1) v = Zab k (Zln k n1) (Zpq k n1 n) v
  obtain ⟨v0,v1,v2,v3,v4,v5,v6,v7,v8,v9,v10,v11,v12,v13,v14⟩:=v
  kernel_rfl)
theorem ZN9 (k:Nat):∀ n,Zln k n = Zm (fun L1 => ZfN k (Zm4 k L1) L1) n :=
 Zh (fun v => by kernel_rfl) (fun n v => by
  rw [show (Zm4 k (Zln k n)) = Zpq k n k from (ZOa k n k).symm]
  obtain ⟨v0,v1,v2,v3,v4,v5,v6,v7,v8⟩:=v
  kernel_rfl)
theorem ZV2 (k:Nat) (x:Kd.dens Yv):ZB (ZA2 k) ZN8 Tryz.f155 Yv Zi x = Zid k x:=by
 show _ = Zlo k (Zyi k) x
 rw [show Zyi k = Zln k k from (ZN9 k k).symm]
 obtain ⟨⟨a0,⟨a1,⟨⟩⟩⟩,⟨a2,⟨a3,⟨⟩⟩⟩⟩:=x
 kernel_rfl
theorem ZSr (k:Nat):Ctr Tryz.prog k 155 (mk Yv Zi Zid) :=
 ZC (fn:=Tryz.f155) (Zg (Za (Zed k) (Za (ZGr k) (Za (ZzO k) (Za (ZzP k) (Za (ZzR k) (Za (Zmx k) (Za (Zmz k) (Za (Zuy k) (Za (ZzN k) Zd)))))))))) (by kernel_rfl) (by kernel_rfl) (ZV2 k)
noncomputable abbrev ZXs:Nat × Callee:=(155,mk Yv Zi Zid)
noncomputable def ZW6 (k:Nat):=Wf k [ZNv,ZXp,ZXq,ZTB,ZXr,ZXs]
noncomputable def ZAK (k:Nat):(List Int × Int × Unit) × List Int × Int × Unit → Option (Int × (List Int × Int × Unit) × Unit)
 | ((a0,a1,()),a2,a3,()) => (Zvt k (a2,a3,())).bind fun y => bif y.1 != 0 then some (y.1,(a0,a1,()),()) else (Zvu k (a2,a3,())).bind fun y => (ZQ k ((a0,a1,()),y.1.1,7,())).bind fun y_1 => bif decide ((0:Int) < y.1.2.1) then (ZQ k ((y_1.2.1.1,y_1.2.1.2.1,()),1,1,())).bind fun y_2 => (ZnS k ((y_2.2.1.1,y_2.2.1.2.1,()),IntKind.i64.wrap (y.1.2.1 - 1),())).bind fun y_3 => bif y.1.1 == 0 then bif decide ((0:Int) ≤ 0 ∧ (0:Int) ≤ 1 ∧ (1:Int) ≤ Int.ofNat (List.length y.1.2.2.2.1)) then (Zas k ((y_3.2.1.1,y_3.2.1.2.1,()),List.drop 0 (List.take 1 y.1.2.2.2.1),y.1.2.2.1,())).bind fun y => some (0,(y.2.1.1,y.2.1.2.1,()),()) else none else bif y.1.1 == 1 then (Zas k ((y_3.2.1.1,y_3.2.1.2.1,()),y.1.2.2.2.1,y.1.2.2.1,())).bind fun y => some (0,(y.2.1.1,y.2.1.2.1,()),()) else bif decide ((0:Int) ≤ 0 ∧ (0:Int) ≤ Int.ofNat (List.length y.1.2.2.2.2.1.1) ∧ Int.ofNat (List.length y.1.2.2.2.2.1.1) ≤ Int.ofNat (List.length y.1.2.2.2.1)) then (Zas k ((y_3.2.1.1,y_3.2.1.2.1,()),List.drop 0 (List.take (Int.ofNat (List.length y.1.2.2.2.2.1.1)).toNat y.1.2.2.2.1),y.1.2.2.1,())).bind fun y_4 => bif decide ((31:Int) < y.1.1) then (ZQ k ((y_4.2.1.1,y_4.2.1.2.1,()),11,4,())).bind fun y_5 => (ZQ k ((y_5.2.1.1,y_5.2.1.2.1,()),y.1.2.2.2.2.1.2.1,5,())).bind fun y_6 => (Zas k ((y_6.2.1.1,y_6.2.1.2.1,()),y.1.2.2.2.2.1.1,12,())).bind fun y_7 => (Zid k ((y_7.2.1.1,y_7.2.1.2.1,()),y.1.2.2.2.2.2.1,Int.ofNat (List.length y.1.2.2.2.2.1.1),())).bind fun y => some (y.1,(y.2.1.1,y.2.1.2.1,()),()) else (Zid k ((y_4.2.1.1,y_4.2.1.2.1,()),y.1.2.2.2.2.2.1,Int.ofNat (List.length y.1.2.2.2.2.1.1),())).bind fun y => some (y.1,(y.2.1.1,y.2.1.2.1,()),()) else none else (ZQ k ((y_1.2.1.1,y_1.2.1.2.1,()),0,1,())).bind fun y_2 => bif y.1.1 == 0 then bif decide ((0:Int) ≤ 0 ∧ (0:Int) ≤ 1 ∧ (1:Int) ≤ Int.ofNat (List.length y.1.2.2.2.1)) then (Zas k ((y_2.2.1.1,y_2.2.1.2.1,()),List.drop 0 (List.take 1 y.1.2.2.2.1),y.1.2.2.1,())).bind fun y => some (0,(y.2.1.1,y.2.1.2.1,()),()) else none else bif y.1.1 == 1 then (Zas k ((y_2.2.1.1,y_2.2.1.2.1,()),y.1.2.2.2.1,y.1.2.2.1,())).bind fun y => some (0,(y.2.1.1,y.2.1.2.1,()),()) else bif decide ((0:Int) ≤ 0 ∧ (0:Int) ≤ Int.ofNat (List.length y.1.2.2.2.2.1.1) ∧ Int.ofNat (List.length y.1.2.2.2.2.1.1) ≤ Int.ofNat (List.length y.1.2.2.2.1)) then (Zas k ((y_2.2.1.1,y_2.2.1.2.1,()),List.drop 0 (List.take (Int.ofNat (List.length y.1.2.2.2.2.1.1)).toNat y.1.2.2.2.1),y.1.2.2.1,())).bind fun y_3 => bif decide ((31:Int) < y.1.1) then (ZQ k ((y_3.2.1.1,y_3.2.1.2.1,()),11,4,())).bind fun y_4 => (ZQ k ((y_4.2.1.1,y_4.2.1.2.1,()),y.1.2.2.2.2.1.2.1,5,())).bind fun y_5 => (Zas k ((y_5.2.1.1,y_5.2.1.2.1,()),y.1.2.2.2.2.1.1,12,())).bind fun y_6 => (Zid k ((y_6.2.1.1,y_6.2.1.2.1,()),y.1.2.2.2.2.2.1,Int.ofNat (List.length y.1.2.2.2.2.1.1),())).bind fun y => some (y.1,(y.2.1.1,y.2.1.2.1,()),()) else (Zid k ((y_3.2.1.1,y_3.2.1.2.1,()),y.1.2.2.2.2.2.1,Int.ofNat (List.length y.1.2.2.2.2.1.1),())).bind fun y => some (y.1,(y.2.1.1,y.2.1.2.1,()),()) else none
noncomputable def Zvo (k:Nat):=ZAK k
theorem ZVo (k:Nat) (x:Kd.dens Yv):ZB (ZW6 k) nA Tryz.f98 Yv Zi x = Zvo k x:=by
 show _ = ZAK k x
 obtain ⟨⟨a0,⟨a1,⟨⟩⟩⟩,⟨a2,⟨a3,⟨⟩⟩⟩⟩:=x
 kernel_rfl
theorem ZSb (k:Nat):Ctr Tryz.prog k 98 (mk Yv Zi Zvo) :=
 ZC (fn:=Tryz.f98) (Zg (Za (Zed k) (Za (ZSm k) (Za (ZSn k) (Za (ZGr k) (Za (ZSq k) (Za (ZSr k) Zd))))))) (by kernel_rfl) (by kernel_rfl) (ZVo k)
noncomputable abbrev ZW7:Nat × Callee:=(98,mk Yv Zi Zvo)
def Zk2 (k:Nat):(List Int × Int × Unit) × Unit → Option (Int × (List Int × Int × Unit) × Unit)
 | ((a0,a1,()),()) => some (IntKind.i64.wrap (Int.ofNat (BitVec.ofInt 64 (IntKind.i64.wrap ((0:Int) - a1)) &&& BitVec.ofInt 64 (7:Int)).toNat),(a0,IntKind.i64.wrap (a1 + IntKind.i64.wrap (Int.ofNat (BitVec.ofInt 64 (IntKind.i64.wrap ((0:Int) - a1)) &&& BitVec.ofInt 64 (7:Int)).toNat)),()),())
def ZAL (k:Nat):=Zk2 k
theorem ZVp (k:Nat) (x:Kd.dens Zee):ZB (Z4 k) nA Tryz.f99 Zee Zi x = ZAL k x:=by
 show _ = Zk2 k x
 obtain ⟨⟨a0,⟨a1,⟨⟩⟩⟩,⟨⟩⟩:=x
 kernel_rfl
theorem ZSc (k:Nat):Ctr Tryz.prog k 99 (mk Zee Zi ZAL) :=
 ZC (fn:=Tryz.f99) (Zg Zd) (by kernel_rfl) (by kernel_rfl) (ZVp k)
noncomputable abbrev ZW8:Nat × Callee:=(99,mk Zee Zi ZAL)
def Zk3 (k:Nat):List Int × Unit → Option (Int × Unit)
 | (a0,()) => (Zic k (a0,16,32773,())).bind fun y => some (y.1,())
def Zvp (k:Nat):=Zk3 k
theorem ZVq (k:Nat) (x:Kd.dens WM):ZB (ZTj k) nA Tryz.f61 WM Zi x = Zvp k x:=by
 show _ = Zk3 k x
 obtain ⟨a0,⟨⟩⟩:=x
 kernel_rfl
theorem ZF6 (k:Nat):Ctr Tryz.prog k 61 (mk WM Zi Zvp) :=
 ZC (fn:=Tryz.f61) (Zg (Za (ZGl k) Zd)) (by kernel_rfl) (by kernel_rfl) (ZVq k)
noncomputable abbrev ZTm:Nat × Callee:=(61,mk WM Zi Zvp)
abbrev ZmK:Kd:=.tup [.own (.int .u8) false,.view (.int .i64)]
noncomputable def ZAf (k:Nat):=Wf k [ZTg,ZW1,ZTh,ZNv,ZW2,ZTk,ZW4,ZTl,ZW7,ZW8,ZTm]
def ZLB:Nat → Ann:=fun id => bif Nat.beq id 27 then ⟨[87,88,86,12,7],[]⟩ else bif Nat.beq id 20 then ⟨[61,62,60,12,10,11,2,8,7],[]⟩ else ⟨[],[]⟩
abbrev ZDb:=Int × Int × List Int × List (List Int) × Int × List Int
abbrev Zxc:=ZDb → Option ((List Int × Int × Unit) × Unit)
abbrev ZDa:=Int × Int × List Int × Int × Int × Int × List (List Int) × Int × List Int × Int × Int × Int
abbrev Zxb:=ZDa → Option ((List Int × Int × Unit) × Unit)
def ZUA:ZDb → St
 | (v0,v1,v2,v3,v4,v5) => St.mk (Zw [(87,Zl v0),(88,Zl v1),(86,Ym v2),(12,AV.bx 8192 0),(7,AV.val (PV.sl (Ty.int IntKind.i64).sl v3))]) (Zv [(8192,QQ [AV.own 8193,Zl v4]),(8193,RS.live (Res.arr (Ty.int IntKind.u8) v5 false))])
noncomputable def ZcH (k:Nat) (L2:Zxc):Zxc
 | (v0,v1,v2,v3,v4,v5) => bif decide (v1 < v0) then bif decide (0 ≤ v1 ∧ v1 < Int.ofNat v2.length) then bif decide (0 ≤ v1 ∧ v1 < Int.ofNat v3.length) then (Zvo k ((v5,v4,()),v3.getD v1.toNat [],v2.getD v1.toNat 0,())).bind fun y => bif y.1 != 0 then some (([],y.1,()),()) else L2 (v0,IntKind.i64.wrap (v1 + 1),v2,v3,y.2.1.2.1,y.2.1.1) else none else none else (ZAL k ((v5,v4,()),())).bind fun y => (ZkX k ((y.2.1.1,y.2.1.2.1,()),())).bind fun y => (Zvp k (y.1,())).bind fun y_1 => (ZQ k ((y.2.1.1,y.2.1.2.1,()),y_1.1,16,())).bind fun y => (ZkX k ((y.2.1.1,y.2.1.2.1,()),())).bind fun y => some ((y.1,0,()),())
noncomputable def ZiL (k:Nat):Zxc:=Zm (fun L2 => ZcH k L2) k
noncomputable def ZFw (k:Nat) (n:Nat) (v:ZDb) :=
 Zr (ZAf k) ZLB [] [1,1,1,1,1,1,1,1,1,1,1,1,1,1,1,1,1,0,1,0] [] (Q7 Tryz.f43) (Wd (ZAf k) Tryz.f43 YY ZmK [] []) n (ZUA v)
def ZUz:ZDa → St
 | (v0,v1,v2,v3,v4,v5,v6,v7,v8,v9,v10,v11) => St.mk (Zw [(61,Zl v0),(62,Zl v1),(60,AV.val (PV.sl (Ty.int IntKind.u8) v2)),(12,AV.bx 8192 0),(10,Zl v3),(11,Zl v4),(2,AV.bx 8194 0),(8,Zl v5),(7,AV.val (PV.sl (Ty.int IntKind.i64).sl v6))]) (Zv [(8192,QQ [AV.own 8193,Zl v7]),(8193,RS.live (Res.arr (Ty.int IntKind.u8) v8 false)),(8194,QQ [Zl v9,Zl v10,Zl v11])])
def K3 (k:Nat) (L2:Zxc) (L1:Zxb):Zxb
 | (v0,v1,v2,v3,v4,v5,v6,v7,v8,v9,v10,v11) => bif decide (v1 < v0) then bif decide (0 ≤ v1 ∧ v1 < Int.ofNat v2.length) then (ZQ k ((v8,v7,()),IntKind.i64.wrap (v2.getD v1.toNat 0),8,())).bind fun y => L1 (v0,IntKind.i64.wrap (v1 + 1),v2,v3,v4,v5,v6,y.2.1.2.1,y.2.1.1,v9,v10,v11) else none else (ZQ k ((v8,v7,()),IntKind.i64.wrap (v3 - 1),IntKind.i64.wrap ((8:Int) * IntKind.i64.wrap (IntKind.i64.wrap (v4 - 6) + (1:Int))),())).bind fun y => (ZkX k ((y.2.1.1,y.2.1.2.1,()),())).bind fun y => (Zvm k (y.1,())).bind fun y_1 => (ZQ k ((y.2.1.1,y.2.1.2.1,()),y_1.1,8,())).bind fun y => (Zvn k ((v9,v10,v11,()),v5,())).bind fun y_2 => L2 (Int.ofNat (List.length y_2.1),(0:Int),y_2.1,v6,y.2.1.2.1,y.2.1.1)
noncomputable def ZmJ (k:Nat):Zxb:=Zm (fun L1 => K3 k (ZiL k) L1) k
noncomputable def ZFv (k:Nat) (n:Nat) (v:ZDa) :=
 Zr (ZAf k) ZLB [] [1,1,1,1,1,1,1,1,1,1,1,1,1,1,0,1,0] [] (Q7 Tryz.f43) (Wd (ZAf k) Tryz.f43 YY ZmK [] []) n (ZUz v)
def ZjP (k:Nat) (L1:Zxb):(Int × Int × Int × Unit) × (Int × List (List Int) × Unit) × Unit → Option ((List Int × Int × Unit) × Unit)
 | ((a0,a1,a2,()),(a3,a4,()),()) => (Zh9 k ((a0,a1,a2,()),(a3,a4,()),())).bind fun y => bif y.1 != 0 then some (([],y.1,()),()) else (ZAD k ((a3,a4,()),())).bind fun y => bif y.1.2.2.1 != 0 then some (([],y.1.2.2.1,()),()) else bif decide ((0:Int) ≤ 0 ∧ (0:Int) < Int.ofNat (List.length y.1.1)) then bif decide ((256:Int) < Int.ofNat (List.length (List.getD y.1.1 (0:Nat) []))) then (ZnR k ()).bind fun y_1 => (ZQ k ((y_1.1.1,y_1.1.2.1,()),16382,14,())).bind fun y_2 => (ZQ k ((y_2.2.1.1,y_2.2.1.2.1,()),7,6,())).bind fun y_3 => (ZQ k ((y_3.2.1.1,y_3.2.1.2.1,()),y.1.2.1,8,())).bind fun y_4 => (ZQ k ((y_4.2.1.1,y_4.2.1.2.1,()),0,4,())).bind fun y_5 => (Zse k (a3,())).bind fun y_6 => bif y_6.1.2.1 != 0 then some (([],y_6.1.2.1,()),()) else L1 (Int.ofNat (List.length y_6.1.1),(0:Int),y_6.1.1,Int.ofNat (List.length (List.getD y.1.1 (0:Nat) [])),(7:Int),y.1.2.1,y.1.1,y_5.2.1.2.1,y_5.2.1.1,a0,a1,a2) else (ZnR k ()).bind fun y_1 => (ZQ k ((y_1.1.1,y_1.1.2.1,()),16382,14,())).bind fun y_2 => (ZQ k ((y_2.2.1.1,y_2.2.1.2.1,()),6,6,())).bind fun y_3 => (ZQ k ((y_3.2.1.1,y_3.2.1.2.1,()),y.1.2.1,8,())).bind fun y_4 => (ZQ k ((y_4.2.1.1,y_4.2.1.2.1,()),0,4,())).bind fun y_5 => (Zse k (a3,())).bind fun y_6 => bif y_6.1.2.1 != 0 then some (([],y_6.1.2.1,()),()) else L1 (Int.ofNat (List.length y_6.1.1),(0:Int),y_6.1.1,Int.ofNat (List.length (List.getD y.1.1 (0:Nat) [])),(6:Int),y.1.2.1,y.1.1,y_5.2.1.2.1,y_5.2.1.1,a0,a1,a2) else none
noncomputable def ZuD (k:Nat):=ZjP k (ZmJ k)
theorem ZLD (k:Nat):∀ n,ZFw k n = Zm (fun L2 => ZcH k L2) n :=
 Zh (fun v => by kernel_rfl) (fun n v => by
  obtain ⟨v0,v1,v2,v3,v4,v5⟩:=v
  kernel_rfl)
theorem ZLC (k:Nat):∀ n,ZFv k n = Zm (fun L1 => K3 k (ZiL k) L1) n :=
 Zh (fun v => by kernel_rfl) (fun n v => by
  rw [show (ZiL k) = ZFw k k from (ZLD k k).symm]
  obtain ⟨v0,v1,v2,v3,v4,v5,v6,v7,v8,v9,v10,v11⟩:=v
  kernel_rfl)
theorem ZUB (k:Nat) (x:Kd.dens YY):ZB (ZAf k) ZLB Tryz.f43 YY ZmK x = ZuD k x:=by
 show _ = ZjP k (ZmJ k) x
 rw [show ZmJ k = ZFv k k from (ZLC k k).symm]
 obtain ⟨⟨a0,⟨a1,⟨a2,⟨⟩⟩⟩⟩,⟨⟨a3,⟨a4,⟨⟩⟩⟩,⟨⟩⟩⟩:=x
 kernel_rfl
theorem ZQK (k:Nat):Ctr Tryz.prog k 43 (mk YY ZmK ZuD) :=
 ZC (fn:=Tryz.f43) (Zg (Za (ZFZ k) (Za (ZR9 k) (Za (ZF0 k) (Za (Zed k) (Za (ZSa k) (Za (ZF3 k) (Za (ZF4 k) (Za (ZF5 k) (Za (ZSb k) (Za (ZSc k) (Za (ZF6 k) Zd)))))))))))) (by kernel_rfl) (by kernel_rfl) (ZUB k)
noncomputable abbrev ZX9:Nat × Callee:=(43,mk YY ZmK ZuD)
abbrev ZxL:Kd:=.box [.view (.sl (.int .u8)),.view (.int .i64)]
noncomputable def ZW9 (k:Nat):=Wf k [ZTz]
def Zk4 (k:Nat):List Int × Unit → Option ((List Int × Int × Unit) × Unit)
 | (a0,()) => (Zli k (a0,())).bind fun y => some ((y.1,0,()),())
def Zsh (k:Nat):=Zk4 k
theorem ZVr (k:Nat) (x:Kd.dens WM):ZB (ZW9 k) nA Tryz.f48 WM ZxL x = Zsh k x:=by
 show _ = Zk4 k x
 obtain ⟨a0,⟨⟩⟩:=x
 kernel_rfl
theorem ZF7 (k:Nat):Ctr Tryz.prog k 48 (mk WM ZxL Zsh) :=
 ZC (fn:=Tryz.f48) (Zg (Za (Zx8 k) Zd)) (by kernel_rfl) (by kernel_rfl) (ZVr k)
noncomputable abbrev ZXa:Nat × Callee:=(48,mk WM ZxL Zsh)
abbrev Xb:List Kd:=[.box [.view (.sl (.int .u8)),.view (.int .i64)]]
def ZAT (k:Nat):(List Int × Int × Unit) × Unit → Option (Int × (List Int × Int × Unit) × Unit)
 | ((a0,a1,()),()) => some (a1,(a0,a1,()),())
def K8 (k:Nat):=ZAT k
theorem ZVB (k:Nat) (x:Kd.dens Xb):ZB (Z4 k) nA Tryz.f50 Xb Zi x = K8 k x:=by
 show _ = ZAT k x
 obtain ⟨⟨a0,⟨a1,⟨⟩⟩⟩,⟨⟩⟩:=x
 kernel_rfl
theorem Zla (k:Nat):Ctr Tryz.prog k 50 (mk Xb Zi K8) :=
 ZC (fn:=Tryz.f50) (Zg Zd) (by kernel_rfl) (by kernel_rfl) (ZVB k)
noncomputable abbrev ZGb:Nat × Callee:=(50,mk Xb Zi K8)
abbrev Zyj:List Kd:=[.box [.view (.sl (.int .u8)),.ref [.view (.sl (.int .u8)),.view (.int .i64)],.view (.int .i64)],.view .bool,.view (.int .i64)]
def Zlp (k:Nat):(List Int × (List Int × Int × Unit) × Int × Unit) × Bool × Int × Unit → Option (Unit × (List Int × (List Int × Int × Unit) × Int × Unit) × Unit)
 | ((a0,(a1,a2,()),a3,()),a4,a5,()) => bif a3 == 0 then bif !a4 then some ((),(a0,(a1,a2,()),a5,()),()) else some ((),(a0,(a1,a2,()),a3,()),()) else some ((),(a0,(a1,a2,()),a3,()),())
def Q9 (k:Nat):=Zlp k
theorem ZV3 (k:Nat) (x:Kd.dens Zyj):ZB (Z4 k) nA Tryz.f118 Zyj QD x = Q9 k x:=by
 show _ = Zlp k x
 obtain ⟨⟨a0,⟨⟨a1,⟨a2,⟨⟩⟩⟩,⟨a3,⟨⟩⟩⟩⟩,⟨a4,⟨a5,⟨⟩⟩⟩⟩:=x
 kernel_rfl
theorem Zpr (k:Nat):Ctr Tryz.prog k 118 (mk Zyj QD Q9) :=
 ZC (fn:=Tryz.f118) (Zg Zd) (by kernel_rfl) (by kernel_rfl) (ZV3 k)
noncomputable abbrev ZGt:Nat × Callee:=(118,mk Zyj QD Q9)
abbrev Xr:List Kd:=[.box [.view (.sl (.int .u8)),.view (.int .i64)],.view (.int .i64)]
def Zly (k:Nat):(List Int × Int × Unit) × Int × Unit → Option (Int × (List Int × Int × Unit) × Unit)
 | ((a0,a1,()),a2,()) => bif decide (0 ≤ IntKind.i64.wrap (a2.tdiv (8:Int)) ∧ IntKind.i64.wrap (a2.tdiv (8:Int)) < Int.ofNat a0.length) then bif decide (0 ≤ IntKind.i64.wrap ((7:Int) - a2.tmod (8:Int))) then some (IntKind.i64.wrap (Int.ofNat (BitVec.ofInt 64 (IntKind.i64.wrap (Int.fdiv (a0.getD (IntKind.i64.wrap (a2.tdiv (8:Int))).toNat 0) ((2:Int) ^ min (IntKind.i64.wrap ((7:Int) - a2.tmod (8:Int))).toNat 8))) &&& BitVec.ofInt 64 (1:Int)).toNat),(a0,a1,()),()) else none else none
def Zsx (k:Nat):=Zly k
theorem ZWc (k:Nat) (x:Kd.dens Xr):ZB (Z4 k) nA Tryz.f126 Xr Zi x = Zsx k x:=by
 show _ = Zly k x
 obtain ⟨⟨a0,⟨a1,⟨⟩⟩⟩,⟨a2,⟨⟩⟩⟩:=x
 kernel_rfl
theorem Zyo (k:Nat):Ctr Tryz.prog k 126 (mk Xr Zi Zsx) :=
 ZC (fn:=Tryz.f126) (Zg Zd) (by kernel_rfl) (by kernel_rfl) (ZWc k)
noncomputable abbrev ZTH:Nat × Callee:=(126,mk Xr Zi Zsx)
def Zhj (k:Nat):(List Int × Int × Unit) × Unit → Option (Int × (List Int × Int × Unit) × Unit)
 | ((a0,a1,()),()) => some (IntKind.i64.wrap (IntKind.i64.wrap ((8:Int) * Int.ofNat a0.length) - a1),(a0,a1,()),())
def ZqL (k:Nat):=Zhj k
theorem ZQX (k:Nat) (x:Kd.dens Xb):ZB (Z4 k) nA Tryz.f207 Xb Zi x = ZqL k x:=by
 show _ = Zhj k x
 obtain ⟨⟨a0,⟨a1,⟨⟩⟩⟩,⟨⟩⟩:=x
 kernel_rfl
theorem ZLO (k:Nat):Ctr Tryz.prog k 207 (mk Xb Zi ZqL) :=
 ZC (fn:=Tryz.f207) (Zg Zd) (by kernel_rfl) (by kernel_rfl) (ZQX k)
noncomputable abbrev ZUH:Nat × Callee:=(207,mk Xb Zi ZqL)
noncomputable def ZCW (k:Nat):=Wf k [ZTv,ZTH,ZUH]
def ZK9:Nat → Ann:=fun id => bif Nat.beq id 7 then ⟨[19,20,6,0],[]⟩ else ⟨[],[]⟩
abbrev Zw2:=Int × Int × Int × List Int × Int
abbrev ZoE:=Zw2 → Option ((Int × Int × Unit) × (List Int × Int × Unit) × Unit)
def ZQm:Zw2 → St
 | (v0,v1,v2,v3,v4) => St.mk (Zw [(19,Zl v0),(20,Zl v1),(6,Zl v2),(0,AV.bx 0 0)]) (Zv [(0,QQ [AV.val (PV.sl (Ty.int IntKind.u8) v3),Zl v4])])
def Zcz (k:Nat) (L1:ZoE):ZoE
 | (v0,v1,v2,v3,v4) => bif decide (v1 < v0) then (Zsx k ((v3,v4,()),v4,())).bind fun y => L1 (v0,IntKind.i64.wrap (v1 + 1),IntKind.i64.wrap (Int.ofNat (BitVec.ofInt 64 (IntKind.i64.wrap (v2 * (2:Int))) ||| BitVec.ofInt 64 y.1).toNat),y.2.1.1,IntKind.i64.wrap (y.2.1.2.1 + 1)) else some ((v2,0,()),(v3,v4,()),())
def ZoF (k:Nat):ZoE:=Zm (fun L1 => Zcz k L1) k
noncomputable def ZzU (k:Nat) (n:Nat) (v:Zw2) :=
 Zr (ZCW k) ZK9 [0] [1,1,1,0,1,0] [] (Q7 Tryz.f156) (Wd (ZCW k) Tryz.f156 Xr Z5 [AV.bx (nat_lit 0) (nat_lit 0)] [[]]) n (ZQm v)
def ZgS (k:Nat) (L1:ZoE):(List Int × Int × Unit) × Int × Unit → Option ((Int × Int × Unit) × (List Int × Int × Unit) × Unit)
 | ((a0,a1,()),a2,()) => (Zsq k (a2,())).bind fun y => bif y.1 then some ((0,1,()),(a0,a1,()),()) else (ZqL k ((a0,a1,()),())).bind fun y => bif decide (y.1 < a2) then some ((0,10,()),(y.2.1.1,y.2.1.2.1,()),()) else L1 (a2,(0:Int),(0:Int),y.2.1.1,y.2.1.2.1)
def XZ (k:Nat):=ZgS k (ZoF k)
theorem ZHY (k:Nat):∀ n,ZzU k n = Zm (fun L1 => Zcz k L1) n :=
 Zh (fun v => by kernel_rfl) (fun n v => by
  obtain ⟨v0,v1,v2,v3,v4⟩:=v
  kernel_rfl)
theorem ZQn (k:Nat) (x:Kd.dens Xr):ZB (ZCW k) ZK9 Tryz.f156 Xr Z5 x = XZ k x:=by
 show _ = ZgS k (ZoF k) x
 rw [show ZoF k = ZzU k k from (ZHY k k).symm]
 obtain ⟨⟨a0,⟨a1,⟨⟩⟩⟩,⟨a2,⟨⟩⟩⟩:=x
 kernel_rfl
theorem Za0 (k:Nat):Ctr Tryz.prog k 156 (mk Xr Z5 XZ) :=
 ZC (fn:=Tryz.f156) (Zg (Za (Zx2 k) (Za (Zyo k) (Za (ZLO k) Zd)))) (by kernel_rfl) (by kernel_rfl) (ZQn k)
noncomputable abbrev Zw3:Nat × Callee:=(156,mk Xr Z5 XZ)
abbrev Zyk:List Kd:=[.box [.view (.sl (.int .u8)),.ref [.view (.sl (.int .u8)),.view (.int .i64)],.view (.int .i64)],.view (.int .i64)]
noncomputable def ZOb (k:Nat):=Wf k [Zw3]
def Zlq (k:Nat):(List Int × (List Int × Int × Unit) × Int × Unit) × Int × Unit → Option (Int × (List Int × (List Int × Int × Unit) × Int × Unit) × Unit)
 | ((a0,(a1,a2,()),a3,()),a4,()) => bif a3 == 0 then (XZ k ((a1,a2,()),a4,())).bind fun y => some (y.1.1,(a0,(y.2.1.1,y.2.1.2.1,()),y.1.2.1,()),()) else some (0,(a0,(a1,a2,()),a3,()),())
def WB (k:Nat):=Zlq k
theorem ZV4 (k:Nat) (x:Kd.dens Zyk):ZB (ZOb k) nA Tryz.f119 Zyk Zi x = WB k x:=by
 show _ = Zlq k x
 obtain ⟨⟨a0,⟨⟨a1,⟨a2,⟨⟩⟩⟩,⟨a3,⟨⟩⟩⟩⟩,⟨a4,⟨⟩⟩⟩:=x
 kernel_rfl
theorem Zps (k:Nat):Ctr Tryz.prog k 119 (mk Zyk Zi WB) :=
 ZC (fn:=Tryz.f119) (Zg (Za (Za0 k) Zd)) (by kernel_rfl) (by kernel_rfl) (ZV4 k)
noncomputable abbrev ZGu:Nat × Callee:=(119,mk Zyk Zi WB)
abbrev ZxT:List Kd:=[.box [.view (.sl (.int .u8)),.ref [.view (.sl (.int .u8)),.view (.int .i64)],.view (.int .i64)],.view (.int .i64),.fn 96]
noncomputable def ZXf (k:Nat):=Wf k [ZGb,ZGt,ZGu,ZTk]
def Zk7 (k:Nat):(List Int × (List Int × Int × Unit) × Int × Unit) × Int × Unit × Unit → Option (Unit × (List Int × (List Int × Int × Unit) × Int × Unit) × Unit)
 | ((a0,(a1,a2,()),a3,()),a4,(),()) => (K8 k ((a1,a2,()),())).bind fun y => (WB k ((a0,(y.2.1.1,y.2.1.2.1,()),a3,()),a4,())).bind fun y_1 => bif y_1.2.1.2.2.1 != 0 then (Q9 k ((y_1.2.1.1,(y_1.2.1.2.1.1,y_1.2.1.2.1.2.1,()),y_1.2.1.2.2.1,()),true,16,())).bind fun y => some ((),(y.2.1.1,(y.2.1.2.1.1,y.2.1.2.1.2.1,()),y.2.1.2.2.1,()),()) else bif decide ((0:Int) ≤ 0 ∧ (0:Int) ≤ IntKind.i64.wrap (Int.tdiv y.1 (8:Int)) ∧ IntKind.i64.wrap (Int.tdiv y.1 (8:Int)) ≤ Int.ofNat (List.length y_1.2.1.1)) then (Zvm k (List.drop 0 (List.take (IntKind.i64.wrap (Int.tdiv y.1 (8:Int))).toNat y_1.2.1.1),())).bind fun y => (Q9 k ((y_1.2.1.1,(y_1.2.1.2.1.1,y_1.2.1.2.1.2.1,()),y_1.2.1.2.2.1,()),y_1.1 == y.1,16,())).bind fun y => some ((),(y.2.1.1,(y.2.1.2.1.1,y.2.1.2.1.2.1,()),y.2.1.2.2.1,()),()) else none
def Zib (k:Nat):=Zk7 k
theorem ZVx (k:Nat) (x:Kd.dens ZxT):ZB (ZXf k) nA Tryz.f60 ZxT QD x = Zib k x:=by
 show _ = Zk7 k x
 obtain ⟨⟨a0,⟨⟨a1,⟨a2,⟨⟩⟩⟩,⟨a3,⟨⟩⟩⟩⟩,⟨a4,⟨⟨⟩,⟨⟩⟩⟩⟩:=x
 kernel_rfl
theorem ZSg (k:Nat):Ctr Tryz.prog k 60 (mk ZxT QD Zib) :=
 ZC (fn:=Tryz.f60) (Zg (Za (Zla k) (Za (Zpr k) (Za (Zps k) (Za (ZF3 k) Zd))))) (by kernel_rfl) (by kernel_rfl) (ZVx k)
noncomputable abbrev ZXg:Nat × Callee:=(60,mk ZxT QD Zib)
def Zlr (k:Nat):(Int × Int × Int × Unit) × Int × Unit → Option (Bool × Unit)
 | ((a0,a1,a2,()),a3,()) => bif a0 == 1 then some (a3 == 0,()) else bif a3 == 1 then some (true,()) else bif decide (8 ≤ a3) then some (decide (a3 ≤ 10),()) else some (false,())
def Zsv (k:Nat):=Zlr k
theorem ZV5 (k:Nat) (x:Kd.dens ZfB):ZB (Z4 k) nA Tryz.f120 ZfB ZE x = Zsv k x:=by
 show _ = Zlr k x
 obtain ⟨⟨a0,⟨a1,⟨a2,⟨⟩⟩⟩⟩,⟨a3,⟨⟩⟩⟩:=x
 kernel_rfl
theorem ZSs (k:Nat):Ctr Tryz.prog k 120 (mk ZfB ZE Zsv) :=
 ZC (fn:=Tryz.f120) (Zg Zd) (by kernel_rfl) (by kernel_rfl) (ZV5 k)
noncomputable abbrev ZXt:Nat × Callee:=(120,mk ZfB ZE Zsv)
abbrev ZbT:List Kd:=[.view (.int .u8)]
def ZuS (k:Nat):Int × Unit → Option (Int × Unit)
 | (a0,()) => bif decide (0 ≤ a0 ∧ a0 < 256) then some (IntKind.i64.wrap (Int.ofNat ((ByteArray.mk (([0,1,2,2,3,3,3,3,4,4,4,4,4,4,4,4,5,5,5,5,5,5,5,5,5,5,5,5,5,5,5,5,6,6,6,6,6,6,6,6,6,6,6,6,6,6,6,6,6,6,6,6,6,6,6,6,6,6,6,6,6,6,6,6].append [7,7,7,7,7,7,7,7,7,7,7,7,7,7,7,7,7,7,7,7,7,7,7,7,7,7,7,7,7,7,7,7,7,7,7,7,7,7,7,7,7,7,7,7,7,7,7,7,7,7,7,7,7,7,7,7,7,7,7,7,7,7,7,7]).append ([8,8,8,8,8,8,8,8,8,8,8,8,8,8,8,8,8,8,8,8,8,8,8,8,8,8,8,8,8,8,8,8,8,8,8,8,8,8,8,8,8,8,8,8,8,8,8,8,8,8,8,8,8,8,8,8,8,8,8,8,8,8,8,8].append [8,8,8,8,8,8,8,8,8,8,8,8,8,8,8,8,8,8,8,8,8,8,8,8,8,8,8,8,8,8,8,8,8,8,8,8,8,8,8,8,8,8,8,8,8,8,8,8,8,8,8,8,8,8,8,8,8,8,8,8,8,8,8,8])).toArray).data.toList.getD a0.toNat 0).toNat),()) else none
def Zxl (k:Nat):=ZuS k
theorem ZRc (k:Nat) (x:Kd.dens ZbT):ZB (Z4 k) nA Tryz.f251 ZbT Zi x = Zxl k x:=by
 show _ = ZuS k x
 obtain ⟨a0,⟨⟩⟩:=x
 kernel_rfl
theorem ZL1 (k:Nat):Ctr Tryz.prog k 251 (mk ZbT Zi Zxl) :=
 ZC (fn:=Tryz.f251) (Zg Zd) (by kernel_rfl) (by kernel_rfl) (ZRc k)
noncomputable abbrev ZUW:Nat × Callee:=(251,mk ZbT Zi Zxl)
noncomputable def ZUI (k:Nat):=Wf k [ZUW]
def ZuK (k:Nat):Int × Unit → Option (Int × Unit)
 | (a0,()) => (Zxl k (a0,())).bind fun y => some (IntKind.i64.wrap ((8:Int) - y.1),())
def ZmP (k:Nat):=ZuK k
theorem ZQY (k:Nat) (x:Kd.dens ZbT):ZB (ZUI k) nA Tryz.f213 ZbT Zi x = ZmP k x:=by
 show _ = ZuK k x
 obtain ⟨a0,⟨⟩⟩:=x
 kernel_rfl
theorem ZLP (k:Nat):Ctr Tryz.prog k 213 (mk ZbT Zi ZmP) :=
 ZC (fn:=Tryz.f213) (Zg (Za (ZL1 k) Zd)) (by kernel_rfl) (by kernel_rfl) (ZQY k)
noncomputable abbrev ZUJ:Nat × Callee:=(213,mk ZbT Zi ZmP)
abbrev ZdI:Kd:=.tup [.view (.int .i64),.view (.int .i64),.view (.int .i64)]
noncomputable def ZCX (k:Nat):=Wf k [ZTx,ZUJ]
def ZLa:Nat → Ann:=fun id => bif Nat.beq id 10 then ⟨[8,5,0,6,7],[]⟩ else ⟨[],[]⟩
abbrev ZoG:=Zeg → Option ((Int × Int × Int × Unit) × Unit)
def ZQo:Zeg → St
 | (v0,v1,v2,v3,v4) => St.mk (Zw [(8,Zl v0),(5,Zl v1),(0,AV.val (PV.sl (Ty.int IntKind.u8) v2)),(6,Zl v3),(7,Zl v4)]) (Zv [])
def ZcA (k:Nat) (L1:ZoG):ZoG
 | (v0,v1,v2,v3,v4) => bif decide (v0 < v1) then bif decide (v0 < Int.ofNat v2.length) then bif decide (0 ≤ v0 ∧ v0 < Int.ofNat v2.length) then bif Int.fdiv (v2.getD v0.toNat 0) (64:Int) != 2 then some ((0,0,2,()),()) else bif decide (0 ≤ v0 ∧ v0 < Int.ofNat v2.length) then L1 (IntKind.i64.wrap (v0 + 1),v1,v2,IntKind.i64.wrap (Int.ofNat (BitVec.ofInt 64 (IntKind.i64.wrap (v3 * (64:Int))) ||| BitVec.ofInt 64 (IntKind.i64.wrap (Int.ofNat (BitVec.ofInt 64 (IntKind.i64.wrap (v2.getD v0.toNat 0)) &&& BitVec.ofInt 64 (63:Int)).toNat))).toNat),IntKind.i64.wrap (Int.ofNat (BitVec.ofInt 64 (IntKind.i64.wrap (v4 * (64:Int))) ||| BitVec.ofInt 64 (IntKind.i64.wrap (Int.ofNat (BitVec.ofInt 64 (IntKind.i64.wrap (v2.getD v0.toNat 0)) &&& BitVec.ofInt 64 (63:Int)).toNat))).toNat)) else none else none else L1 (IntKind.i64.wrap (v0 + 1),v1,v2,IntKind.i64.wrap (Int.ofNat (BitVec.ofInt 64 (IntKind.i64.wrap (v3 * (64:Int))) ||| BitVec.ofInt 64 (0:Int)).toNat),IntKind.i64.wrap (Int.ofNat (BitVec.ofInt 64 (IntKind.i64.wrap (v4 * (64:Int))) ||| BitVec.ofInt 64 (63:Int)).toNat)) else (Zvs k (IntKind.i64.wrap (v1 - 1),())).bind fun y => bif decide ((0:Int) ≤ y.1) then bif decide (v4 < IntKind.i64.wrap ((1:Int) * (2:Int) ^ min (Int.toNat y.1) (64:Nat))) then some ((0,0,2,()),()) else bif decide (Int.ofNat v2.length < v1) then some ((0,0,10,()),()) else some ((v3,v1,0,()),()) else none
def ZoH (k:Nat):ZoG:=Zm (fun L1 => ZcA k L1) k
noncomputable def ZzV (k:Nat) (n:Nat) (v:Zeg) :=
 Zr (ZCX k) ZLa [] [1,1,1,1,1,0,1,0] [] (Q7 Tryz.f164) (Wd (ZCX k) Tryz.f164 WM ZdI [] []) n (ZQo v)
def ZgT (k:Nat) (L1:ZoG):List Int × Unit → Option ((Int × Int × Int × Unit) × Unit)
 | (a0,()) => bif Int.ofNat a0.length == (0:Int) then some ((0,0,10,()),()) else bif decide ((0:Int) ≤ 0 ∧ (0:Int) < Int.ofNat a0.length) then (ZmP k (IntKind.u8.wrap (Int.ofNat (BitVec.ofInt 8 (255:Int) ^^^ BitVec.ofInt 8 (a0.getD 0 0)).toNat),())).bind fun y => bif y.1 == 0 then bif decide ((0:Int) ≤ 0 ∧ (0:Int) < Int.ofNat a0.length) then some ((IntKind.i64.wrap (a0.getD 0 0),1,0,()),()) else none else bif y.1 == 1 then some ((0,0,2,()),()) else bif decide ((7:Int) < y.1) then some ((0,0,2,()),()) else bif decide ((0:Int) ≤ 0 ∧ (0:Int) < Int.ofNat a0.length) then bif decide ((0:Int) ≤ y.1) then bif decide ((0:Int) ≤ 0 ∧ (0:Int) < Int.ofNat a0.length) then bif decide ((0:Int) ≤ y.1) then L1 (1,y.1,a0,IntKind.i64.wrap (Int.ofNat (BitVec.ofInt 64 (IntKind.i64.wrap (a0.getD 0 0)) &&& BitVec.ofInt 64 (Int.fdiv (127:Int) ((2:Int) ^ min (Int.toNat y.1) (64:Nat)))).toNat),IntKind.i64.wrap (Int.ofNat (BitVec.ofInt 64 (IntKind.i64.wrap (a0.getD 0 0)) &&& BitVec.ofInt 64 (Int.fdiv (127:Int) ((2:Int) ^ min (Int.toNat y.1) (64:Nat)))).toNat)) else none else none else none else none else none
def Zqp (k:Nat):=ZgT k (ZoH k)
theorem ZH0 (k:Nat):∀ n,ZzV k n = Zm (fun L1 => ZcA k L1) n :=
 Zh (fun v => by kernel_rfl) (fun n v => by
  obtain ⟨v0,v1,v2,v3,v4⟩:=v
  kernel_rfl)
theorem ZQp (k:Nat) (x:Kd.dens WM):ZB (ZCX k) ZLa Tryz.f164 WM ZdI x = Zqp k x:=by
 show _ = ZgT k (ZoH k) x
 rw [show ZoH k = ZzV k k from (ZH0 k k).symm]
 obtain ⟨a0,⟨⟩⟩:=x
 kernel_rfl
theorem ZLb (k:Nat):Ctr Tryz.prog k 164 (mk WM ZdI Zqp) :=
 ZC (fn:=Tryz.f164) (Zg (Za (ZGk k) (Za (ZLP k) Zd))) (by kernel_rfl) (by kernel_rfl) (ZQp k)
noncomputable abbrev ZUm:Nat × Callee:=(164,mk WM ZdI Zqp)
abbrev Zsw:List Kd:=[.box [.view (.sl (.int .u8)),.ref [.view (.sl (.int .u8)),.view (.int .i64)],.view (.int .i64)]]
noncomputable def ZOd (k:Nat):=Wf k [ZGb,ZGt,ZGu,ZUm]
def ZTD:Nat → Ann:=fun id => bif Nat.beq id 6 then ⟨[31,32,0,3],[]⟩ else ⟨[],[]⟩
abbrev ZEu:=Int × Int × Int × List Int × Int × List Int × Int
abbrev Zyl:=ZEu → Option (Int × (List Int × (List Int × Int × Unit) × Int × Unit) × Unit)
def ZV6:ZEu → St
 | (v0,v1,v2,v3,v4,v5,v6) => St.mk (Zw [(31,Zl v0),(32,Zl v1),(0,AV.bx 0 0),(3,Zl v2)]) (Zv [(0,QQ [AV.val (PV.sl (Ty.int IntKind.u8) v3),AV.bx 1 0,Zl v4]),(1,QQ [AV.val (PV.sl (Ty.int IntKind.u8) v5),Zl v6])])
def ZfO (k:Nat) (L1:Zyl):Zyl
 | (v0,v1,v2,v3,v4,v5,v6) => bif decide (v1 < v0) then (WB k ((v3,(v5,v6,()),v4,()),8,())).bind fun y => L1 (v0,IntKind.i64.wrap (v1 + 1),v2,y.2.1.1,y.2.1.2.2.1,y.2.1.2.1.1,y.2.1.2.1.2.1) else (Q9 k ((v3,(v5,v6,()),v4,()),decide (v2 ≤ 2147483647),2,())).bind fun y => some (v2,(y.2.1.1,(y.2.1.2.1.1,y.2.1.2.1.2.1,()),y.2.1.2.2.1,()),())
def Zym (k:Nat):Zyl:=Zm (fun L1 => ZfO k L1) k
noncomputable def ZGv (k:Nat) (n:Nat) (v:ZEu) :=
 Zr (ZOd k) ZTD [0,1] [1,1,1,1,0,1,0] [] (Q7 Tryz.f121) (Wd (ZOd k) Tryz.f121 Zsw Zi [AV.bx (nat_lit 0) (nat_lit 0)] [[1]]) n (ZV6 v)
def Zlt (k:Nat) (L1:Zyl):(List Int × (List Int × Int × Unit) × Int × Unit) × Unit → Option (Int × (List Int × (List Int × Int × Unit) × Int × Unit) × Unit)
 | ((a0,(a1,a2,()),a3,()),()) => bif a3 != 0 then some (0,(a0,(a1,a2,()),a3,()),()) else (K8 k ((a1,a2,()),())).bind fun y => bif decide (0 ≤ IntKind.i64.wrap (Int.tdiv y.1 (8:Int)) ∧ IntKind.i64.wrap (Int.tdiv y.1 (8:Int)) ≤ Int.ofNat a0.length ∧ Int.ofNat a0.length ≤ Int.ofNat a0.length) then (Zqp k (List.drop (IntKind.i64.wrap (Int.tdiv y.1 (8:Int))).toNat (List.take (Int.ofNat a0.length).toNat a0),())).bind fun y_1 => L1 (y_1.1.2.1,(0:Int),y_1.1.1,a0,y_1.1.2.2.1,y.2.1.1,y.2.1.2.1) else none
def Zls (k:Nat):=Zlt k (Zym k)
theorem ZOe (k:Nat):∀ n,ZGv k n = Zm (fun L1 => ZfO k L1) n :=
 Zh (fun v => by kernel_rfl) (fun n v => by
  obtain ⟨v0,v1,v2,v3,v4,v5,v6⟩:=v
  kernel_rfl)
theorem ZV7 (k:Nat) (x:Kd.dens Zsw):ZB (ZOd k) ZTD Tryz.f121 Zsw Zi x = Zls k x:=by
 show _ = Zlt k (Zym k) x
 rw [show Zym k = ZGv k k from (ZOe k k).symm]
 obtain ⟨⟨a0,⟨⟨a1,⟨a2,⟨⟩⟩⟩,⟨a3,⟨⟩⟩⟩⟩,⟨⟩⟩:=x
 kernel_rfl
theorem ZSt (k:Nat):Ctr Tryz.prog k 121 (mk Zsw Zi Zls) :=
 ZC (fn:=Tryz.f121) (Zg (Za (Zla k) (Za (Zpr k) (Za (Zps k) (Za (ZLb k) Zd))))) (by kernel_rfl) (by kernel_rfl) (ZV7 k)
noncomputable abbrev ZXu:Nat × Callee:=(121,mk Zsw Zi Zls)
abbrev ZxM:List Kd:=[.box [.view (.sl (.int .u8)),.ref [.view (.sl (.int .u8)),.view (.int .i64)],.view (.int .i64)],.view Znu]
noncomputable def ZXb (k:Nat):=Wf k [ZXg,ZGt,ZGu,ZXt,ZXu]
def ZAN (k:Nat):(List Int × (List Int × Int × Unit) × Int × Unit) × (Int × Int × Int × Unit) × Unit → Option ((Int × Int × Int × Unit) × (List Int × (List Int × Int × Unit) × Int × Unit) × Unit)
 | ((a0,(a1,a2,()),a3,()),(a4,a5,a6,()),()) => (WB k ((a0,(a1,a2,()),a3,()),15,())).bind fun y => (Q9 k ((y.2.1.1,(y.2.1.2.1.1,y.2.1.2.1.2.1,()),y.2.1.2.2.1,()),y.1 == 32764,11,())).bind fun y => (WB k ((y.2.1.1,(y.2.1.2.1.1,y.2.1.2.1.2.1,()),y.2.1.2.2.1,()),1,())).bind fun y => (Q9 k ((y.2.1.1,(y.2.1.2.1.1,y.2.1.2.1.2.1,()),y.2.1.2.2.1,()),y.1 == 0,2,())).bind fun y => (WB k ((y.2.1.1,(y.2.1.2.1.1,y.2.1.2.1.2.1,()),y.2.1.2.2.1,()),4,())).bind fun y => bif y.1 == 6 then (Q9 k ((y.2.1.1,(y.2.1.2.1.1,y.2.1.2.1.2.1,()),y.2.1.2.2.1,()),true,2,())).bind fun y_1 => (WB k ((y_1.2.1.1,(y_1.2.1.2.1.1,y_1.2.1.2.1.2.1,()),y_1.2.1.2.2.1,()),4,())).bind fun y_2 => (Q9 k ((y_2.2.1.1,(y_2.2.1.2.1.1,y_2.2.1.2.1.2.1,()),y_2.2.1.2.2.1,()),y_2.1 == 0,2,())).bind fun y_3 => (WB k ((y_3.2.1.1,(y_3.2.1.2.1.1,y_3.2.1.2.1.2.1,()),y_3.2.1.2.2.1,()),4,())).bind fun y_4 => (Zsv k ((a4,a5,a6,()),y_4.1,())).bind fun y_5 => (Q9 k ((y_4.2.1.1,(y_4.2.1.2.1.1,y_4.2.1.2.1.2.1,()),y_4.2.1.2.2.1,()),y_5.1,2,())).bind fun y_6 => (WB k ((y_6.2.1.1,(y_6.2.1.2.1.1,y_6.2.1.2.1.2.1,()),y_6.2.1.2.2.1,()),4,())).bind fun y_7 => (Q9 k ((y_7.2.1.1,(y_7.2.1.2.1.1,y_7.2.1.2.1.2.1,()),y_7.2.1.2.2.1,()),y_7.1 == 0,2,())).bind fun y_8 => (Zls k ((y_8.2.1.1,(y_8.2.1.2.1.1,y_8.2.1.2.1.2.1,()),y_8.2.1.2.2.1,()),())).bind fun y_9 => bif y_9.2.1.2.2.1 == 0 then (WB k ((y_9.2.1.1,(y_9.2.1.2.1.1,y_9.2.1.2.1.2.1,()),y_9.2.1.2.2.1,()),IntKind.i64.wrap ((8:Int) * IntKind.i64.wrap (IntKind.i64.wrap (y.1 - 6) + (1:Int))),())).bind fun y => (Q9 k ((y.2.1.1,(y.2.1.2.1.1,y.2.1.2.1.2.1,()),y.2.1.2.2.1,()),decide (IntKind.i64.wrap (y.1 + 1) ≤ (512:Int)),1,())).bind fun y_10 => (Zib k ((y_10.2.1.1,(y_10.2.1.2.1.1,y_10.2.1.2.1.2.1,()),y_10.2.1.2.2.1,()),8,(),())).bind fun y_11 => some ((y_4.1,y_9.1,IntKind.i64.wrap (y.1 + 1),()),(y_11.2.1.1,(y_11.2.1.2.1.1,y_11.2.1.2.1.2.1,()),y_11.2.1.2.2.1,()),()) else (Q9 k ((y_9.2.1.1,(y_9.2.1.2.1.1,y_9.2.1.2.1.2.1,()),y_9.2.1.2.2.1,()),decide ((0:Int) ≤ 512),1,())).bind fun y => (Zib k ((y.2.1.1,(y.2.1.2.1.1,y.2.1.2.1.2.1,()),y.2.1.2.2.1,()),8,(),())).bind fun y => some ((y_4.1,y_9.1,0,()),(y.2.1.1,(y.2.1.2.1.1,y.2.1.2.1.2.1,()),y.2.1.2.2.1,()),()) else (Q9 k ((y.2.1.1,(y.2.1.2.1.1,y.2.1.2.1.2.1,()),y.2.1.2.2.1,()),y.1 == 7,2,())).bind fun y_1 => (WB k ((y_1.2.1.1,(y_1.2.1.2.1.1,y_1.2.1.2.1.2.1,()),y_1.2.1.2.2.1,()),4,())).bind fun y_2 => (Q9 k ((y_2.2.1.1,(y_2.2.1.2.1.1,y_2.2.1.2.1.2.1,()),y_2.2.1.2.2.1,()),y_2.1 == 0,2,())).bind fun y_3 => (WB k ((y_3.2.1.1,(y_3.2.1.2.1.1,y_3.2.1.2.1.2.1,()),y_3.2.1.2.2.1,()),4,())).bind fun y_4 => (Zsv k ((a4,a5,a6,()),y_4.1,())).bind fun y_5 => (Q9 k ((y_4.2.1.1,(y_4.2.1.2.1.1,y_4.2.1.2.1.2.1,()),y_4.2.1.2.2.1,()),y_5.1,2,())).bind fun y_6 => (WB k ((y_6.2.1.1,(y_6.2.1.2.1.1,y_6.2.1.2.1.2.1,()),y_6.2.1.2.2.1,()),4,())).bind fun y_7 => (Q9 k ((y_7.2.1.1,(y_7.2.1.2.1.1,y_7.2.1.2.1.2.1,()),y_7.2.1.2.2.1,()),y_7.1 == 0,2,())).bind fun y_8 => (Zls k ((y_8.2.1.1,(y_8.2.1.2.1.1,y_8.2.1.2.1.2.1,()),y_8.2.1.2.2.1,()),())).bind fun y_9 => bif y_9.2.1.2.2.1 == 0 then (WB k ((y_9.2.1.1,(y_9.2.1.2.1.1,y_9.2.1.2.1.2.1,()),y_9.2.1.2.2.1,()),IntKind.i64.wrap ((8:Int) * IntKind.i64.wrap (IntKind.i64.wrap (y.1 - 6) + (1:Int))),())).bind fun y => (Q9 k ((y.2.1.1,(y.2.1.2.1.1,y.2.1.2.1.2.1,()),y.2.1.2.2.1,()),decide (IntKind.i64.wrap (y.1 + 1) ≤ (512:Int)),1,())).bind fun y_10 => (Zib k ((y_10.2.1.1,(y_10.2.1.2.1.1,y_10.2.1.2.1.2.1,()),y_10.2.1.2.2.1,()),8,(),())).bind fun y_11 => some ((y_4.1,y_9.1,IntKind.i64.wrap (y.1 + 1),()),(y_11.2.1.1,(y_11.2.1.2.1.1,y_11.2.1.2.1.2.1,()),y_11.2.1.2.2.1,()),()) else (Q9 k ((y_9.2.1.1,(y_9.2.1.2.1.1,y_9.2.1.2.1.2.1,()),y_9.2.1.2.2.1,()),decide ((0:Int) ≤ 512),1,())).bind fun y => (Zib k ((y.2.1.1,(y.2.1.2.1.1,y.2.1.2.1.2.1,()),y.2.1.2.2.1,()),8,(),())).bind fun y => some ((y_4.1,y_9.1,0,()),(y.2.1.1,(y.2.1.2.1.1,y.2.1.2.1.2.1,()),y.2.1.2.2.1,()),())
def Zvq (k:Nat):=ZAN k
theorem ZVs (k:Nat) (x:Kd.dens ZxM):ZB (ZXb k) nA Tryz.f56 ZxM ZdI x = Zvq k x:=by
 show _ = ZAN k x
 obtain ⟨⟨a0,⟨⟨a1,⟨a2,⟨⟩⟩⟩,⟨a3,⟨⟩⟩⟩⟩,⟨⟨a4,⟨a5,⟨a6,⟨⟩⟩⟩⟩,⟨⟩⟩⟩:=x
 kernel_rfl
theorem ZSd (k:Nat):Ctr Tryz.prog k 56 (mk ZxM ZdI Zvq) :=
 ZC (fn:=Tryz.f56) (Zg (Za (ZSg k) (Za (Zpr k) (Za (Zps k) (Za (ZSs k) (Za (ZSt k) Zd)))))) (by kernel_rfl) (by kernel_rfl) (ZVs k)
noncomputable abbrev ZXc:Nat × Callee:=(56,mk ZxM ZdI Zvq)
abbrev ZoI:List Kd:=[.box [.ref [.view (.sl (.int .u8)),.view (.int .i64)],.view (.int .i64)],.view .bool]
def ZgU (k:Nat):((List Int × Int × Unit) × Int × Unit) × Bool × Unit → Option (Unit × ((List Int × Int × Unit) × Int × Unit) × Unit)
 | (((a0,a1,()),a2,()),a3,()) => bif a2 == 0 then bif !a3 then some ((),((a0,a1,()),2,()),()) else some ((),((a0,a1,()),a2,()),()) else some ((),((a0,a1,()),a2,()),())
def W9 (k:Nat):=ZgU k
theorem ZQq (k:Nat) (x:Kd.dens ZoI):ZB (Z4 k) nA Tryz.f165 ZoI QD x = W9 k x:=by
 show _ = ZgU k x
 obtain ⟨⟨⟨a0,⟨a1,⟨⟩⟩⟩,⟨a2,⟨⟩⟩⟩,⟨a3,⟨⟩⟩⟩:=x
 kernel_rfl
theorem ZzW (k:Nat):Ctr Tryz.prog k 165 (mk ZoI QD W9) :=
 ZC (fn:=Tryz.f165) (Zg Zd) (by kernel_rfl) (by kernel_rfl) (ZQq k)
noncomputable abbrev ZLc:Nat × Callee:=(165,mk ZoI QD W9)
abbrev ZbR:List Kd:=[.box [.ref [.view (.sl (.int .u8)),.view (.int .i64)],.view (.int .i64)],.view (.int .i64)]
def ZgV (k:Nat):((List Int × Int × Unit) × Int × Unit) × Int × Unit → Option (Int × ((List Int × Int × Unit) × Int × Unit) × Unit)
 | (((a0,a1,()),a2,()),a3,()) => bif a2 == 0 then (XZ k ((a0,a1,()),a3,())).bind fun y => some (y.1.1,((y.2.1.1,y.2.1.2.1,()),y.1.2.1,()),()) else some (0,((a0,a1,()),a2,()),())
def YU (k:Nat):=ZgV k
theorem ZQr (k:Nat) (x:Kd.dens ZbR):ZB (ZOb k) nA Tryz.f166 ZbR Zi x = YU k x:=by
 show _ = ZgV k x
 obtain ⟨⟨⟨a0,⟨a1,⟨⟩⟩⟩,⟨a2,⟨⟩⟩⟩,⟨a3,⟨⟩⟩⟩:=x
 kernel_rfl
theorem ZzX (k:Nat):Ctr Tryz.prog k 166 (mk ZbR Zi YU) :=
 ZC (fn:=Tryz.f166) (Zg (Za (Za0 k) Zd)) (by kernel_rfl) (by kernel_rfl) (ZQr k)
noncomputable abbrev ZLd:Nat × Callee:=(166,mk ZbR Zi YU)
def ZgW (k:Nat):Int × Unit → Option (Bool × Unit)
 | (a0,()) => bif a0 == 0 then some (true,()) else bif a0 == 1 then some (true,()) else bif decide (8 ≤ a0) then bif decide (a0 ≤ 12) then some (true,()) else bif decide ((31:Int) < a0) then some (decide (a0 ≤ 39),()) else some (false,()) else bif decide ((31:Int) < a0) then some (decide (a0 ≤ 39),()) else some (false,())
def Zqq (k:Nat):=ZgW k
theorem ZQs (k:Nat) (x:Kd.dens ZA):ZB (Z4 k) nA Tryz.f167 ZA ZE x = Zqq k x:=by
 show _ = ZgW k x
 obtain ⟨a0,⟨⟩⟩:=x
 kernel_rfl
theorem ZLe (k:Nat):Ctr Tryz.prog k 167 (mk ZA ZE Zqq) :=
 ZC (fn:=Tryz.f167) (Zg Zd) (by kernel_rfl) (by kernel_rfl) (ZQs k)
noncomputable abbrev ZUn:Nat × Callee:=(167,mk ZA ZE Zqq)
noncomputable def ZmA (k:Nat):=Wf k [ZTH]
def ZLf:Nat → Ann:=fun id => bif Nat.beq id 4 then ⟨[4,0],[]⟩ else ⟨[],[]⟩
abbrev Zw4:=Int × List Int × Int
abbrev ZoJ:=Zw4 → Option ((Int × Int × Unit) × (List Int × Int × Unit) × Unit)
def ZQt:Zw4 → St
 | (v0,v1,v2) => St.mk (Zw [(4,Zl v0),(0,AV.bx 0 0)]) (Zv [(0,QQ [AV.val (PV.sl (Ty.int IntKind.u8) v1),Zl v2])])
def ZcC (k:Nat) (L1:ZoJ):ZoJ
 | (v0,v1,v2) => bif decide (v0 < IntKind.i64.wrap ((8:Int) * Int.ofNat v1.length)) then (Zsx k ((v1,v2,()),v0,())).bind fun y => bif y.1 == 1 then some ((IntKind.i64.wrap (v0 - y.2.1.2.1),0,()),(y.2.1.1,IntKind.i64.wrap (v0 + 1),()),()) else L1 (IntKind.i64.wrap (v0 + 1),y.2.1.1,y.2.1.2.1) else some ((0,10,()),(v1,v2,()),())
def ZoK (k:Nat):ZoJ:=Zm (fun L1 => ZcC k L1) k
noncomputable def ZzY (k:Nat) (n:Nat) (v:Zw4) :=
 Zr (ZmA k) ZLf [0] [1,1,0,1,0] [] (Q7 Tryz.f168) (Wd (ZmA k) Tryz.f168 Xb Z5 [AV.bx (nat_lit 0) (nat_lit 0)] [[]]) n (ZQt v)
def ZgX (k:Nat) (L1:ZoJ):(List Int × Int × Unit) × Unit → Option ((Int × Int × Unit) × (List Int × Int × Unit) × Unit)
 | ((a0,a1,()),()) => L1 (a1,a0,a1)
def ZiK (k:Nat):=ZgX k (ZoK k)
theorem ZH4 (k:Nat):∀ n,ZzY k n = Zm (fun L1 => ZcC k L1) n :=
 Zh (fun v => by kernel_rfl) (fun n v => by
  obtain ⟨v0,v1,v2⟩:=v
  kernel_rfl)
theorem ZQu (k:Nat) (x:Kd.dens Xb):ZB (ZmA k) ZLf Tryz.f168 Xb Z5 x = ZiK k x:=by
 show _ = ZgX k (ZoK k) x
 rw [show ZoK k = ZzY k k from (ZH4 k k).symm]
 obtain ⟨⟨a0,⟨a1,⟨⟩⟩⟩,⟨⟩⟩:=x
 kernel_rfl
theorem ZzZ (k:Nat):Ctr Tryz.prog k 168 (mk Xb Z5 ZiK) :=
 ZC (fn:=Tryz.f168) (Zg (Za (Zyo k) Zd)) (by kernel_rfl) (by kernel_rfl) (ZQu k)
noncomputable abbrev ZLg:Nat × Callee:=(168,mk Xb Z5 ZiK)
noncomputable def ZXv (k:Nat):=Wf k [ZLc,ZLd,ZUn,ZLg]
def Zlv (k:Nat):((List Int × Int × Unit) × Int × Unit) × Int × Unit → Option ((Int × Int × Unit) × ((List Int × Int × Unit) × Int × Unit) × Unit)
 | (((a0,a1,()),a2,()),a3,()) => (YU k (((a0,a1,()),a2,()),1,())).bind fun y => (W9 k (((y.2.1.1.1,y.2.1.1.2.1,()),y.2.1.2.1,()),y.1 == 0,())).bind fun y => (YU k (((y.2.1.1.1,y.2.1.1.2.1,()),y.2.1.2.1,()),6,())).bind fun y => (Zqq k (y.1,())).bind fun y_1 => (W9 k (((y.2.1.1.1,y.2.1.1.2.1,()),y.2.1.2.1,()),y_1.1,())).bind fun y_2 => (YU k (((y_2.2.1.1.1,y_2.2.1.1.2.1,()),y_2.2.1.2.1,()),1,())).bind fun y_3 => bif y_3.1 == 1 then bif y_3.2.1.2.1 == 0 then (ZiK k ((y_3.2.1.1.1,y_3.2.1.1.2.1,()),())).bind fun y_4 => (W9 k (((y_4.2.1.1,y_4.2.1.2.1,()),y_4.1.2.1,()),decide (IntKind.i64.wrap (y_4.1.1 + 1) < a3),())).bind fun y_5 => some ((y.1,IntKind.i64.wrap (y_4.1.1 + 1),()),((y_5.2.1.1.1,y_5.2.1.1.2.1,()),y_5.2.1.2.1,()),()) else (W9 k (((y_3.2.1.1.1,y_3.2.1.1.2.1,()),y_3.2.1.2.1,()),decide ((0:Int) < a3),())).bind fun y_4 => some ((y.1,0,()),((y_4.2.1.1.1,y_4.2.1.1.2.1,()),y_4.2.1.2.1,()),()) else (W9 k (((y_3.2.1.1.1,y_3.2.1.1.2.1,()),y_3.2.1.2.1,()),decide ((0:Int) < a3),())).bind fun y_4 => some ((y.1,0,()),((y_4.2.1.1.1,y_4.2.1.1.2.1,()),y_4.2.1.2.1,()),())
def ZA6 (k:Nat):=Zlv k
theorem ZV9 (k:Nat) (x:Kd.dens ZbR):ZB (ZXv k) nA Tryz.f123 ZbR Z5 x = ZA6 k x:=by
 show _ = Zlv k x
 obtain ⟨⟨⟨a0,⟨a1,⟨⟩⟩⟩,⟨a2,⟨⟩⟩⟩,⟨a3,⟨⟩⟩⟩:=x
 kernel_rfl
theorem ZSu (k:Nat):Ctr Tryz.prog k 123 (mk ZbR Z5 ZA6) :=
 ZC (fn:=Tryz.f123) (Zg (Za (ZzW k) (Za (ZzX k) (Za (ZLe k) (Za (ZzZ k) Zd))))) (by kernel_rfl) (by kernel_rfl) (ZV9 k)
noncomputable abbrev ZXw:Nat × Callee:=(123,mk ZbR Z5 ZA6)
abbrev Zo8:List Kd:=[.view (.int .u32),.view (.int .u32)]
abbrev Zxm:Kd:=.tup [.view (.int .u32),.view (.int .u32)]
def ZuT (k:Nat):Int × Int × Unit → Option ((Int × Int × Unit) × Unit)
 | (a0,a1,()) => some ((IntKind.u32.wrap ((IntKind.u64.wrap (IntKind.u64.wrap a0 * IntKind.u64.wrap a1)).fdiv (4294967296:Int)),IntKind.u32.wrap (IntKind.u64.wrap (IntKind.u64.wrap a0 * IntKind.u64.wrap a1)),()),())
def ZDi (k:Nat):=ZuT k
theorem ZRd (k:Nat) (x:Kd.dens Zo8):ZB (Z4 k) nA Tryz.f252 Zo8 Zxm x = ZDi k x:=by
 show _ = ZuT k x
 obtain ⟨a0,⟨a1,⟨⟩⟩⟩:=x
 kernel_rfl
theorem ZL2 (k:Nat):Ctr Tryz.prog k 252 (mk Zo8 Zxm ZDi) :=
 ZC (fn:=Tryz.f252) (Zg Zd) (by kernel_rfl) (by kernel_rfl) (ZRd k)
noncomputable abbrev ZUX:Nat × Callee:=(252,mk Zo8 Zxm ZDi)
abbrev ZbU:List Kd:=[.view (.int .u64),.view (.int .u64)]
abbrev Zhq:Kd:=.tup [.view (.int .u64),.view (.int .u64)]
def Zhp (k:Nat):Int × Int × Unit → Option ((Int × Int × Unit) × Unit)
 | (a0,a1,()) => some ((IntKind.u64.wrap (IntKind.u64.wrap (IntKind.u64.wrap (a0.fdiv (4294967296:Int) * a1.fdiv (4294967296:Int)) + (IntKind.u64.wrap (IntKind.u64.wrap (a0.fdiv (4294967296:Int) * IntKind.u64.wrap (Int.ofNat (BitVec.ofInt 64 a1 &&& BitVec.ofInt 64 (4294967295:Int)).toNat)) + (IntKind.u64.wrap (IntKind.u64.wrap (Int.ofNat (BitVec.ofInt 64 a0 &&& BitVec.ofInt 64 (4294967295:Int)).toNat) * IntKind.u64.wrap (Int.ofNat (BitVec.ofInt 64 a1 &&& BitVec.ofInt 64 (4294967295:Int)).toNat))).fdiv (4294967296:Int))).fdiv (4294967296:Int)) + (IntKind.u64.wrap (IntKind.u64.wrap (Int.ofNat (BitVec.ofInt 64 (IntKind.u64.wrap (IntKind.u64.wrap (a0.fdiv (4294967296:Int) * IntKind.u64.wrap (Int.ofNat (BitVec.ofInt 64 a1 &&& BitVec.ofInt 64 (4294967295:Int)).toNat)) + (IntKind.u64.wrap (IntKind.u64.wrap (Int.ofNat (BitVec.ofInt 64 a0 &&& BitVec.ofInt 64 (4294967295:Int)).toNat) * IntKind.u64.wrap (Int.ofNat (BitVec.ofInt 64 a1 &&& BitVec.ofInt 64 (4294967295:Int)).toNat))).fdiv (4294967296:Int))) &&& BitVec.ofInt 64 (4294967295:Int)).toNat) + IntKind.u64.wrap (IntKind.u64.wrap (Int.ofNat (BitVec.ofInt 64 a0 &&& BitVec.ofInt 64 (4294967295:Int)).toNat) * a1.fdiv (4294967296:Int)))).fdiv (4294967296:Int)),IntKind.u64.wrap (a0 * a1),()),())
def Zxn (k:Nat):=Zhp k
theorem ZRe (k:Nat) (x:Kd.dens ZbU):ZB (Z4 k) nA Tryz.f253 ZbU Zhq x = Zxn k x:=by
 show _ = Zhp k x
 obtain ⟨a0,⟨a1,⟨⟩⟩⟩:=x
 kernel_rfl
theorem ZL3 (k:Nat):Ctr Tryz.prog k 253 (mk ZbU Zhq Zxn) :=
 ZC (fn:=Tryz.f253) (Zg Zd) (by kernel_rfl) (by kernel_rfl) (ZRe k)
noncomputable abbrev ZUY:Nat × Callee:=(253,mk ZbU Zhq Zxn)
noncomputable def ZUK (k:Nat):=Wf k [ZUX,ZUY]
def ZuL (k:Nat):Int × Int × Unit → Option ((Int × Int × Unit) × Unit)
 | (a0,a1,()) => (Zxn k (a0,a1,())).bind fun y => some ((y.1.1,y.1.2.1,()),())
def ZqM (k:Nat):=ZuL k
theorem ZQZ (k:Nat) (x:Kd.dens ZbU):ZB (ZUK k) nA Tryz.f214 ZbU Zhq x = ZqM k x:=by
 show _ = ZuL k x
 obtain ⟨a0,⟨a1,⟨⟩⟩⟩:=x
 kernel_rfl
theorem ZLQ (k:Nat):Ctr Tryz.prog k 214 (mk ZbU Zhq ZqM) :=
 ZC (fn:=Tryz.f214) (Zg (Za (ZL2 k) (Za (ZL3 k) Zd))) (by kernel_rfl) (by kernel_rfl) (ZQZ k)
noncomputable abbrev ZUL:Nat × Callee:=(214,mk ZbU Zhq ZqM)
noncomputable def ZCY (k:Nat):=Wf k [ZUL] (fun r => bif Nat.beq r 999999 then [1] else [])
def ZLh:Nat → Ann:=fun id => bif Nat.beq id 8 then ⟨[8,7],[]⟩ else ⟨[],[]⟩
abbrev Zw5:=Int × List Int
abbrev ZoL:=Zw5 → Option (List Int × Unit)
def ZQv:Zw5 → St
 | (v0,v1) => St.mk (Zw [(8,Zl v0),(7,AV.own 8192)]) (Zv [(8192,rsA v1 false)])
def ZgZ (k:Nat) (L1:ZoL):ZoL
 | (v0,v1) => bif decide (v0 < Int.ofNat v1.length) then bif decide (0 ≤ v0 ∧ v0 ≤ Int.ofNat v1.length ∧ Int.ofNat v1.length ≤ Int.ofNat v1.length) then bif decide ((0:Int) ≤ 0 ∧ (0:Int) ≤ v0 ∧ v0 ≤ Int.ofNat v1.length) then bif decide (v0.toNat ≤ (Int.ofNat v1.length).toNat ∧ (Int.ofNat v1.length).toNat ≤ v1.length) then bif decide ((0:Nat) ≤ v0.toNat ∧ v0.toNat ≤ v1.length) then L1 (IntKind.i64.wrap (v0 + Int.ofNat (min (List.drop 0 (List.take v0.toNat v1)).length ((Int.ofNat v1.length).toNat - v0.toNat))),List.take v0.toNat v1 ++ List.take ((Int.ofNat v1.length).toNat - v0.toNat) (List.drop 0 (List.take v0.toNat v1)) ++ List.drop (v0.toNat + min (List.drop 0 (List.take v0.toNat v1)).length ((Int.ofNat v1.length).toNat - v0.toNat)) v1) else none else none else none else none else some (v1,())
def ZoM (k:Nat):ZoL:=Zm (fun L1 => ZgZ k L1) k
noncomputable def Zz0 (k:Nat) (n:Nat) (v:Zw5) :=
 Zr (ZCY k) ZLh [] [1,1,1,1,1,1,0,0] [] (Q7 Tryz.f169) (Wd (ZCY k) Tryz.f169 Z3 YZ [] []) n (ZQv v)
def ZgY (k:Nat) (L1:ZoL):List Int × Int × Unit → Option (List Int × Unit)
 | (a0,a1,()) => bif decide (a1 < 0) then none else (ZqM k (IntKind.u64.wrap (Int.ofNat a0.length),IntKind.u64.wrap a1,())).bind fun y => bif decide ((0:Int) < y.1.1) then none else bif decide ((9223372036854775807:Int) < y.1.2.1) then none else bif decide (0 ≤ IntKind.i64.wrap y.1.2.1 ∧ IntKind.i64.wrap y.1.2.1 ≤ IntKind.i64.wrap y.1.2.1 ∧ IntKind.i64.wrap y.1.2.1 < 4294967296) then L1 (Int.ofNat (min a0.length ((List.replicate (IntKind.i64.wrap y.1.2.1).toNat (0:Int)).length - (0:Nat))),List.take 0 (List.replicate (IntKind.i64.wrap y.1.2.1).toNat (0:Int)) ++ List.take ((List.replicate (IntKind.i64.wrap y.1.2.1).toNat (0:Int)).length - (0:Nat)) a0 ++ List.drop ((0:Nat) + min a0.length ((List.replicate (IntKind.i64.wrap y.1.2.1).toNat (0:Int)).length - (0:Nat))) (List.replicate (IntKind.i64.wrap y.1.2.1).toNat (0:Int))) else none
def Zqr (k:Nat):=ZgY k (ZoM k)
theorem ZH6 (k:Nat):∀ n,Zz0 k n = Zm (fun L1 => ZgZ k L1) n :=
 Zh (fun v => by kernel_rfl) (fun n v => by
  obtain ⟨v0,v1⟩:=v
  kernel_rfl)
theorem ZQw (k:Nat) (x:Kd.dens Z3):ZB (ZCY k) ZLh Tryz.f169 Z3 YZ x = Zqr k x:=by
 show _ = ZgY k (ZoM k) x
 rw [show ZoM k = Zz0 k k from (ZH6 k k).symm]
 obtain ⟨a0,⟨a1,⟨⟩⟩⟩:=x
 kernel_rfl
theorem ZLi (k:Nat):Ctr Tryz.prog k 169 (mk Z3 YZ Zqr) :=
 ZC (fn:=Tryz.f169) (Zg (Za (ZLQ k) Zd)) (by kernel_rfl) (by kernel_rfl) (ZQw k)
noncomputable abbrev ZUo:Nat × Callee:=(169,mk Z3 YZ Zqr)
def Zhk (k:Nat):(List Int × Int × Unit) × Int × Unit → Option ((Int × Int × Unit) × (List Int × Int × Unit) × Unit)
 | ((a0,a1,()),a2,()) => (XZ k ((a0,a1,()),a2,())).bind fun y => bif y.1.2.1 == 0 then bif decide ((0:Int) < a2) then bif decide (0 ≤ IntKind.i64.wrap (a2 - 1)) then bif Int.fdiv y.1.1 ((2:Int) ^ min (IntKind.i64.wrap (a2 - 1)).toNat 64) == (1:Int) then bif decide (0 ≤ a2) then some ((IntKind.i64.wrap (y.1.1 - IntKind.i64.wrap ((1:Int) * (2:Int) ^ min a2.toNat 64)),y.1.2.1,()),(y.2.1.1,y.2.1.2.1,()),()) else none else some ((y.1.1,y.1.2.1,()),(y.2.1.1,y.2.1.2.1,()),()) else none else some ((y.1.1,y.1.2.1,()),(y.2.1.1,y.2.1.2.1,()),()) else some ((y.1.1,y.1.2.1,()),(y.2.1.1,y.2.1.2.1,()),())
def ZmQ (k:Nat):=Zhk k
theorem ZQ0 (k:Nat) (x:Kd.dens Xr):ZB (ZOb k) nA Tryz.f215 Xr Z5 x = ZmQ k x:=by
 show _ = Zhk k x
 obtain ⟨⟨a0,⟨a1,⟨⟩⟩⟩,⟨a2,⟨⟩⟩⟩:=x
 kernel_rfl
theorem ZAo (k:Nat):Ctr Tryz.prog k 215 (mk Xr Z5 ZmQ) :=
 ZC (fn:=Tryz.f215) (Zg (Za (Za0 k) Zd)) (by kernel_rfl) (by kernel_rfl) (ZQ0 k)
noncomputable abbrev ZUM:Nat × Callee:=(215,mk Xr Z5 ZmQ)
abbrev ZjN:List Kd:=[.box [.ref [.view (.sl (.int .u8)),.view (.int .i64)],.view (.int .i64)],.view (.int .i64),.view (.int .i64)]
noncomputable def Zw6 (k:Nat):=Wf k [ZUM]
def ZLj:Nat → Ann:=fun id => bif Nat.beq id 3 then ⟨[9,10,0,2,7],[.slot 7 ((Ty.int IntKind.i64))]⟩ else ⟨[],[]⟩
abbrev Zw7:=Int × Int × Int × Int × List Int × Int × List Int
abbrev ZoN:=Zw7 → Option (List Int × ((List Int × Int × Unit) × Int × Unit) × Unit)
def ZQx:Zw7 → St
 | (v0,v1,v2,v3,v4,v5,v6) => St.mk (Zw [(9,Zl v0),(10,Zl v1),(0,AV.bx 0 0),(2,Zl v2),(7,AV.own 8192)]) (Zv [(0,QQ [AV.bx 1 0,Zl v3]),(1,QQ [AV.val (PV.sl (Ty.int IntKind.u8) v4),Zl v5]),(8192,rsA v6 false)])
def ZcD (k:Nat) (L1:ZoN):ZoN
 | (v0,v1,v2,v3,v4,v5,v6) => bif decide (v1 < v0) then bif v3 == 0 then (ZmQ k ((v4,v5,()),v2,())).bind fun y => bif decide (v6.length + [y.1.1].length < 2147483648) then L1 (v0,IntKind.i64.wrap (v1 + 1),v2,y.1.2.1,y.2.1.1,y.2.1.2.1,v6 ++ [y.1.1]) else none else bif decide (v6.length + (1:Nat) < (2147483648:Nat)) then L1 (v0,IntKind.i64.wrap (v1 + 1),v2,v3,v4,v5,v6 ++ [(0:Int)]) else none else some (v6,((v4,v5,()),v3,()),())
def ZoO (k:Nat):ZoN:=Zm (fun L1 => ZcD k L1) k
noncomputable def Zz1 (k:Nat) (n:Nat) (v:Zw7) :=
 Zr (Zw6 k) ZLj [0,1] [1,1,0,1,0] [] (Q7 Tryz.f170) (Wd (Zw6 k) Tryz.f170 ZjN YZ [AV.bx (nat_lit 0) (nat_lit 0)] [[1]]) n (ZQx v)
def Zg0 (k:Nat) (L1:ZoN):((List Int × Int × Unit) × Int × Unit) × Int × Int × Unit → Option (List Int × ((List Int × Int × Unit) × Int × Unit) × Unit)
 | (((a0,a1,()),a2,()),a3,a4,()) => L1 (a3,(0:Int),a4,a2,a0,a1,[])
def Za1 (k:Nat):=Zg0 k (ZoO k)
theorem ZH9 (k:Nat):∀ n,Zz1 k n = Zm (fun L1 => ZcD k L1) n :=
 Zh (fun v => by kernel_rfl) (fun n v => by
  obtain ⟨v0,v1,v2,v3,v4,v5,v6⟩:=v
  kernel_rfl)
theorem ZQy (k:Nat) (x:Kd.dens ZjN):ZB (Zw6 k) ZLj Tryz.f170 ZjN YZ x = Za1 k x:=by
 show _ = Zg0 k (ZoO k) x
 rw [show ZoO k = Zz1 k k from (ZH9 k k).symm]
 obtain ⟨⟨⟨a0,⟨a1,⟨⟩⟩⟩,⟨a2,⟨⟩⟩⟩,⟨a3,⟨a4,⟨⟩⟩⟩⟩:=x
 kernel_rfl
theorem ZLk (k:Nat):Ctr Tryz.prog k 170 (mk ZjN YZ Za1) :=
 ZC (fn:=Tryz.f170) (Zg (Za (ZAo k) Zd)) (by kernel_rfl) (by kernel_rfl) (ZQy k)
noncomputable abbrev ZUp:Nat × Callee:=(170,mk ZjN YZ Za1)
def Zhv (k:Nat):Int × Unit → Option ((Int × Int × Unit) × Unit)
 | (a0,()) => bif decide (a0 < 0) then some ((0,12,()),()) else bif decide ((2199023255552:Int) < a0) then some ((0,12,()),()) else some ((IntKind.i64.wrap (Int.ofNat (BitVec.ofInt 64 (a0.fdiv (2:Int)) ^^^ BitVec.ofInt 64 (IntKind.i64.wrap ((0:Int) - IntKind.i64.wrap (Int.ofNat (BitVec.ofInt 64 a0 &&& BitVec.ofInt 64 (1:Int)).toNat)))).toNat),0,()),())
def ZqX (k:Nat):=Zhv k
theorem ZRk (k:Nat) (x:Kd.dens ZA):ZB (Z4 k) nA Tryz.f268 ZA Z5 x = ZqX k x:=by
 show _ = Zhv k x
 obtain ⟨a0,⟨⟩⟩:=x
 kernel_rfl
theorem ZMe (k:Nat):Ctr Tryz.prog k 268 (mk ZA Z5 ZqX) :=
 ZC (fn:=Tryz.f268) (Zg Zd) (by kernel_rfl) (by kernel_rfl) (ZRk k)
noncomputable abbrev ZU8:Nat × Callee:=(268,mk ZA Z5 ZqX)
noncomputable def ZU3 (k:Nat):=Wf k [Zw3,ZLg,ZU8]
def Zhs (k:Nat):(List Int × Int × Unit) × Int × Unit → Option ((Int × Int × Unit) × (List Int × Int × Unit) × Unit)
 | ((a0,a1,()),a2,()) => (ZiK k ((a0,a1,()),())).bind fun y => bif y.1.2.1 != 0 then some ((0,y.1.2.1,()),(y.2.1.1,y.2.1.2.1,()),()) else (XZ k ((y.2.1.1,y.2.1.2.1,()),a2,())).bind fun y_1 => bif y_1.1.2.1 != 0 then some ((0,y_1.1.2.1,()),(y_1.2.1.1,y_1.2.1.2.1,()),()) else bif decide (0 ≤ a2) then bif decide (4294967295 ≤ IntKind.i64.wrap (Int.ofNat (BitVec.ofInt 64 (IntKind.i64.wrap (y.1.1 * (2:Int) ^ min a2.toNat 64)) ||| BitVec.ofInt 64 y_1.1.1).toNat)) then some ((0,12,()),(y_1.2.1.1,y_1.2.1.2.1,()),()) else (ZqX k (IntKind.i64.wrap (Int.ofNat (BitVec.ofInt 64 (IntKind.i64.wrap (y.1.1 * (2:Int) ^ min a2.toNat 64)) ||| BitVec.ofInt 64 y_1.1.1).toNat),())).bind fun y => some ((y.1.1,y.1.2.1,()),(y_1.2.1.1,y_1.2.1.2.1,()),()) else none
def ZqT (k:Nat):=Zhs k
theorem ZRg (k:Nat) (x:Kd.dens Xr):ZB (ZU3 k) nA Tryz.f255 Xr Z5 x = ZqT k x:=by
 show _ = Zhs k x
 obtain ⟨⟨a0,⟨a1,⟨⟩⟩⟩,⟨a2,⟨⟩⟩⟩:=x
 kernel_rfl
theorem ZL9 (k:Nat):Ctr Tryz.prog k 255 (mk Xr Z5 ZqT) :=
 ZC (fn:=Tryz.f255) (Zg (Za (Za0 k) (Za (ZzZ k) (Za (ZMe k) Zd)))) (by kernel_rfl) (by kernel_rfl) (ZRg k)
noncomputable abbrev ZU4:Nat × Callee:=(255,mk Xr Z5 ZqT)
abbrev ZbV:List Kd:=[.box [.ref [.view (.sl (.int .u8)),.view (.int .i64)]],.box [.view (.int .i64)]]
noncomputable def ZUZ (k:Nat):=Wf k [ZU4]
def Zhr (k:Nat):((List Int × Int × Unit) × Unit) × (Int × Unit) × Unit → Option ((Int × Int × Unit) × ((List Int × Int × Unit) × Unit) × (Int × Unit) × Unit)
 | (((a0,a1,()),()),(a2,()),()) => (ZqT k ((a0,a1,()),a2,())).bind fun y => some ((y.1.1,y.1.2.1,()),((y.2.1.1,y.2.1.2.1,()),()),(a2,()),())
def ZqQ (k:Nat):=Zhr k
theorem ZRf (k:Nat) (x:Kd.dens ZbV):ZB (ZUZ k) nA Tryz.f254 ZbV Z5 x = ZqQ k x:=by
 show _ = Zhr k x
 obtain ⟨⟨⟨a0,⟨a1,⟨⟩⟩⟩,⟨⟩⟩,⟨⟨a2,⟨⟩⟩,⟨⟩⟩⟩:=x
 kernel_rfl
theorem ZL4 (k:Nat):Ctr Tryz.prog k 254 (mk ZbV Z5 ZqQ) :=
 ZC (fn:=Tryz.f254) (Zg (Za (ZL9 k) Zd)) (by kernel_rfl) (by kernel_rfl) (ZRf k)
noncomputable abbrev ZU0:Nat × Callee:=(254,mk ZbV Z5 ZqQ)
def Zht (k:Nat):((List Int × Int × Unit) × Unit) × (Int × Unit) × Unit → Option ((Int × Int × Unit) × ((List Int × Int × Unit) × Unit) × (Int × Unit) × Unit)
 | (((a0,a1,()),()),(a2,()),()) => (ZmQ k ((a0,a1,()),a2,())).bind fun y => some ((y.1.1,y.1.2.1,()),((y.2.1.1,y.2.1.2.1,()),()),(a2,()),())
def ZqU (k:Nat):=Zht k
theorem ZRh (k:Nat) (x:Kd.dens ZbV):ZB (Zw6 k) nA Tryz.f256 ZbV Z5 x = ZqU k x:=by
 show _ = Zht k x
 obtain ⟨⟨⟨a0,⟨a1,⟨⟩⟩⟩,⟨⟩⟩,⟨⟨a2,⟨⟩⟩,⟨⟩⟩⟩:=x
 kernel_rfl
theorem ZMa (k:Nat):Ctr Tryz.prog k 256 (mk ZbV Z5 ZqU) :=
 ZC (fn:=Tryz.f256) (Zg (Za (ZAo k) Zd)) (by kernel_rfl) (by kernel_rfl) (ZRh k)
noncomputable abbrev ZU5:Nat × Callee:=(256,mk ZbV Z5 ZqU)
abbrev WV:List Kd:=[.box [.view (.sl (.int .u8)),.view (.int .i64)],.view (.int .i64),.view (.int .i64)]
noncomputable def ZqN (k:Nat):=Wf k [(204,mk ZA Zi ZdG),(205,mk ZA Zi Zal),Zw3,ZU0,ZU5]
noncomputable def ZDg:Nat → Ann:=fun id => bif Nat.beq id 12 then ⟨[40,41,10,13],[.slot 13 ((Ty.int IntKind.i64))]⟩ else ⟨[],[]⟩
abbrev ZbS:=ZfK → Option ((List Int × Int × Unit) × (List Int × Int × Unit) × Unit)
noncomputable def ZQ1:ZfK → St
 | (v0,v1,v2,v3,v4,v5) => St.mk (Zw [(40,Zl v0),(41,Zl v1),(10,AV.clo 256 [AV.bx 8192 0,AV.bx 8193 0]),(13,AV.own 8194)]) (Zv [(0,QQ [AV.val (PV.sl (Ty.int IntKind.u8) v2),Zl v3]),(8192,QQ [AV.bx 0 0]),(8193,QQ [Zl v4]),(8194,rsA v5 false)])
noncomputable def ZcL (k:Nat) (L1:ZbS):ZbS
 | (v0,v1,v2,v3,v4,v5) => bif decide (v1 < v0) then (ZqU k (((v2,v3,()),()),(v4,()),())).bind fun y => bif y.1.2.1 != 0 then some (([],y.1.2.1,()),(y.2.1.1.1,y.2.1.1.2.1,()),()) else bif decide (v5.length + [y.1.1].length < 2147483648) then L1 (v0,IntKind.i64.wrap (v1 + 1),y.2.1.1.1,y.2.1.1.2.1,y.2.2.1.1,v5 ++ [y.1.1]) else none else some ((v5,0,()),(v2,v3,()),())
noncomputable def Zo4 (k:Nat):ZbS:=Zm (fun L1 => ZcL k L1) k
noncomputable def ZAp (k:Nat) (n:Nat) (v:ZfK) :=
 Zr (ZqN k) ZDg [0] [1,1,1,1,1,1,0,1,0] [] (Q7 Tryz.f218) (Wd (ZqN k) Tryz.f218 WV QX [AV.bx (nat_lit 0) (nat_lit 0)] [[]]) n (ZQ1 v)
noncomputable def ZQ2:ZfK → St
 | (v0,v1,v2,v3,v4,v5) => St.mk (Zw [(40,Zl v0),(41,Zl v1),(10,AV.clo 254 [AV.bx 8192 0,AV.bx 8193 0]),(13,AV.own 8194)]) (Zv [(0,QQ [AV.val (PV.sl (Ty.int IntKind.u8) v2),Zl v3]),(8192,QQ [AV.bx 0 0]),(8193,QQ [Zl v4]),(8194,rsA v5 false)])
noncomputable def ZcM (k:Nat) (L2:ZbS):ZbS
 | (v0,v1,v2,v3,v4,v5) => bif decide (v1 < v0) then (ZqQ k (((v2,v3,()),()),(v4,()),())).bind fun y => bif y.1.2.1 != 0 then some (([],y.1.2.1,()),(y.2.1.1.1,y.2.1.1.2.1,()),()) else bif decide (v5.length + [y.1.1].length < 2147483648) then L2 (v0,IntKind.i64.wrap (v1 + 1),y.2.1.1.1,y.2.1.1.2.1,y.2.2.1.1,v5 ++ [y.1.1]) else none else some ((v5,0,()),(v2,v3,()),())
noncomputable def ZjT (k:Nat):ZbS:=Zm (fun L2 => ZcM k L2) k
noncomputable def ZAq (k:Nat) (n:Nat) (v:ZfK) :=
 Zr (ZqN k) ZDg [0] [1,1,1,1,1,1,0,1,0] [] (Q7 Tryz.f218) (Wd (ZqN k) Tryz.f218 WV QX [AV.bx (nat_lit 0) (nat_lit 0)] [[]]) n (ZQ2 v)
noncomputable def Zhl (k:Nat) (L1:ZbS) (L2:ZbS):(List Int × Int × Unit) × Int × Int × Unit → Option ((List Int × Int × Unit) × (List Int × Int × Unit) × Unit)
 | ((a0,a1,()),a2,a3,()) => (ZdG k (a2,())).bind fun y => (XZ k ((a0,a1,()),y.1,())).bind fun y => bif y.1.2.1 != 0 then some (([],y.1.2.1,()),(y.2.1.1,y.2.1.2.1,()),()) else (Zal k (a2,())).bind fun y_1 => bif y.1.1 == y_1.1 then (XZ k ((y.2.1.1,y.2.1.2.1,()),5,())).bind fun y => bif y.1.2.1 != 0 then some (([],y.1.2.1,()),(y.2.1.1,y.2.1.2.1,()),()) else L1 (a3,(0:Int),y.2.1.1,y.2.1.2.1,y.1.1,[]) else L2 (a3,(0:Int),y.2.1.1,y.2.1.2.1,y.1.1,[])
noncomputable def ZiO (k:Nat):=Zhl k (Zo4 k) (ZjT k)
theorem ZIB (k:Nat):∀ n,ZAp k n = Zm (fun L1 => ZcL k L1) n :=
 Zh (fun v => by kernel_rfl) (fun n v => by
  obtain ⟨v0,v1,v2,v3,v4,v5⟩:=v
  kernel_rfl)
theorem ZIC (k:Nat):∀ n,ZAq k n = Zm (fun L2 => ZcM k L2) n :=
 Zh (fun v => by kernel_rfl) (fun n v => by
  obtain ⟨v0,v1,v2,v3,v4,v5⟩:=v
  kernel_rfl)
theorem ZQ3 (k:Nat) (x:Kd.dens WV):ZB (ZqN k) ZDg Tryz.f218 WV QX x = ZiO k x:=by
 show _ = Zhl k (Zo4 k) (ZjT k) x
 rw [show Zo4 k = ZAp k k from (ZIB k k).symm,show ZjT k = ZAq k k from (ZIC k k).symm]
 obtain ⟨⟨a0,⟨a1,⟨⟩⟩⟩,⟨a2,⟨a3,⟨⟩⟩⟩⟩:=x
 kernel_rfl
theorem ZLS (k:Nat):Ctr Tryz.prog k 218 (mk WV QX ZiO) :=
 ZC (fn:=Tryz.f218) (Zg (Za (Zmx k) (Za (Zmz k) (Za (Za0 k) (Za (ZL4 k) (Za (ZMa k) Zd)))))) (by kernel_rfl) (by kernel_rfl) (ZQ3 k)
noncomputable abbrev ZUN:Nat × Callee:=(218,mk WV QX ZiO)
noncomputable def ZCZ (k:Nat):=Wf k [Zw3,ZLK,ZUF,ZUN]
def ZLl:Nat → Ann:=fun id => bif Nat.beq id 15 then ⟨[52,53,1,10,2,0,8,11],[.slot 11 ((Ty.int IntKind.i64))]⟩ else ⟨[],[]⟩
abbrev Zw8:=Int × Int × Int × Int × Int × Int × List Int × Int × List Int
abbrev ZoP:=Zw8 → Option ((List Int × Int × Unit) × (List Int × Int × Unit) × Unit)
def ZQz:Zw8 → St
 | (v0,v1,v2,v3,v4,v5,v6,v7,v8) => St.mk (Zw [(52,Zl v0),(53,Zl v1),(1,Zl v2),(10,Zl v3),(2,Zl v4),(0,AV.bx 0 0),(8,Zl v5),(11,AV.own 8192)]) (Zv [(0,QQ [AV.val (PV.sl (Ty.int IntKind.u8) v6),Zl v7]),(8192,rsA v8 false)])
noncomputable def ZaO (k:Nat) (L1:ZoP):ZoP
 | (v0,v1,v2,v3,v4,v5,v6,v7,v8) => bif decide (v1 < v0) then bif decide (0 ≤ v3) then bif v1 == 0 then (ZiO k ((v6,v7,()),v5,IntKind.i64.wrap (v2.fdiv ((2:Int) ^ min v3.toNat 64) - v4),())).bind fun y => bif y.1.2.1 != 0 then some (([],y.1.2.1,()),(y.2.1.1,y.2.1.2.1,()),()) else bif decide (v8.length + List.length y.1.1 < 2147483648) then L1 (v0,IntKind.i64.wrap (v1 + 1),v2,v3,v4,v5,y.2.1.1,y.2.1.2.1,v8 ++ y.1.1) else none else (ZiO k ((v6,v7,()),v5,v2.fdiv ((2:Int) ^ min v3.toNat 64),())).bind fun y => bif y.1.2.1 != 0 then some (([],y.1.2.1,()),(y.2.1.1,y.2.1.2.1,()),()) else bif decide (v8.length + List.length y.1.1 < 2147483648) then L1 (v0,IntKind.i64.wrap (v1 + 1),v2,v3,v4,v5,y.2.1.1,y.2.1.2.1,v8 ++ y.1.1) else none else none else some ((v8,0,()),(v6,v7,()),())
noncomputable def ZoQ (k:Nat):ZoP:=Zm (fun L1 => ZaO k L1) k
noncomputable def Zz2 (k:Nat) (n:Nat) (v:Zw8) :=
 Zr (ZCZ k) ZLl [0] [1,1,1,1,1,1,1,0,1,0] [] (Q7 Tryz.f172) (Wd (ZCZ k) Tryz.f172 WV QX [AV.bx (nat_lit 0) (nat_lit 0)] [[]]) n (ZQz v)
def Zg1 (k:Nat) (L1:ZoP):(List Int × Int × Unit) × Int × Int × Unit → Option ((List Int × Int × Unit) × (List Int × Int × Unit) × Unit)
 | ((a0,a1,()),a2,a3,()) => (ZmO k (a2,a3,())).bind fun y => bif !y.1 then some (([],1,()),(a0,a1,()),()) else (XZ k ((a0,a1,()),2,())).bind fun y => bif y.1.2.1 != 0 then some (([],y.1.2.1,()),(y.2.1.1,y.2.1.2.1,()),()) else bif decide ((1:Int) < y.1.1) then some (([],2,()),(y.2.1.1,y.2.1.2.1,()),()) else (XZ k ((y.2.1.1,y.2.1.2.1,()),4,())).bind fun y_1 => bif y_1.1.2.1 != 0 then some (([],y_1.1.2.1,()),(y_1.2.1.1,y_1.2.1.2.1,()),()) else (ZdJ k (a2,a3,y_1.1.1,())).bind fun y_2 => bif !y_2.1 then some (([],2,()),(y_1.2.1.1,y_1.2.1.2.1,()),()) else bif decide ((0:Int) ≤ y_1.1.1) then L1 (IntKind.i64.wrap ((1:Int) * (2:Int) ^ min (Int.toNat y_1.1.1) (64:Nat)),(0:Int),a2,y_1.1.1,a3,y.1.1,y_1.2.1.1,y_1.2.1.2.1,[]) else none
noncomputable def Zcf (k:Nat):=Zg1 k (ZoQ k)
theorem ZIa (k:Nat):∀ n,Zz2 k n = Zm (fun L1 => ZaO k L1) n :=
 Zh (fun v => by kernel_rfl) (fun n v => by
  obtain ⟨v0,v1,v2,v3,v4,v5,v6,v7,v8⟩:=v
  kernel_rfl)
theorem ZQA (k:Nat) (x:Kd.dens WV):ZB (ZCZ k) ZLl Tryz.f172 WV QX x = Zcf k x:=by
 show _ = Zg1 k (ZoQ k) x
 rw [show ZoQ k = Zz2 k k from (ZIa k k).symm]
 obtain ⟨⟨a0,⟨a1,⟨⟩⟩⟩,⟨a2,⟨a3,⟨⟩⟩⟩⟩:=x
 kernel_rfl
theorem ZLm (k:Nat):Ctr Tryz.prog k 172 (mk WV QX Zcf) :=
 ZC (fn:=Tryz.f172) (Zg (Za (Za0 k) (Za (ZAl k) (Za (ZAm k) (Za (ZLS k) Zd))))) (by kernel_rfl) (by kernel_rfl) (ZQA k)
noncomputable abbrev ZUq:Nat × Callee:=(172,mk WV QX Zcf)
abbrev ZjO:List Kd:=[.view ZiZ,.view (.sl (.int .i64)),.view (.sl (.int .i64))]
noncomputable def ZC0 (k:Nat):=Wf k [Zqi,ZDc,ZLJ,ZLU,ZLW]
def ZLn:Nat → Ann:=fun id => bif Nat.beq id 9 then ⟨[32,33,31,3,8],[.«show» 8]⟩ else ⟨[],[]⟩
abbrev Zw9:=Int × Int × List Int × List Int × Int × List Int
abbrev ZoR:=Zw9 → Option ((List Int × Int × Unit) × Unit)
def ZQB:Zw9 → St
 | (v0,v1,v2,v3,v4,v5) => St.mk (Zw [(32,Zl v0),(33,Zl v1),(31,Ym v2),(3,AV.bx 8192 0),(8,AV.own 8193)]) (Zv [(8192,QQ [Ym v3,Zl v4]),(8193,rsA v5 true)])
def ZcF (k:Nat) (L1:ZoR):ZoR
 | (v0,v1,v2,v3,v4,v5) => bif decide (v1 < v0) then bif decide (0 ≤ v1 ∧ v1 < Int.ofNat v2.length) then (ZmS k ((v3,v4,()),v5,())).bind fun y => (ZiM k (IntKind.i64.wrap (v2.getD v1.toNat 0 + y.1),())).bind fun y_1 => bif y_1.1 then some (([],12,()),()) else bif decide (v5.length + [IntKind.i64.wrap (v2.getD v1.toNat 0 + y.1)].length < 2147483648) then L1 (v0,IntKind.i64.wrap (v1 + 1),v2,v3,v4,v5 ++ [IntKind.i64.wrap (v2.getD v1.toNat 0 + y.1)]) else none else none else some ((v5,0,()),())
def ZoS (k:Nat):ZoR:=Zm (fun L1 => ZcF k L1) k
noncomputable def Zz3 (k:Nat) (n:Nat) (v:Zw9) :=
 Zr (ZC0 k) ZLn [] [1,1,1,0,1,0] [] (Q7 Tryz.f173) (Wd (ZC0 k) Tryz.f173 ZjO QX [] []) n (ZQB v)
def Zg2 (k:Nat) (L1:ZoR):(List Int × Int × Unit) × List Int × List Int × Unit → Option ((List Int × Int × Unit) × Unit)
 | ((a0,a1,()),a2,a3,()) => (ZmR k ((a0,a1,()),())).bind fun y => bif y.1 != 0 then some (([],2,()),()) else bif Int.ofNat a2.length != Int.ofNat a0.length then some (([],1,()),()) else (KV k (a2,(),())).bind fun y => bif y.1 then some (([],12,()),()) else (KV k (a3,(),())).bind fun y => bif y.1 then some (([],12,()),()) else (ZmN k (a2,())).bind fun y => L1 (Int.ofNat a3.length,(0:Int),a3,a0,a1,y.1)
def Zcg (k:Nat):=Zg2 k (ZoS k)
theorem ZId (k:Nat):∀ n,Zz3 k n = Zm (fun L1 => ZcF k L1) n :=
 Zh (fun v => by kernel_rfl) (fun n v => by
  obtain ⟨v0,v1,v2,v3,v4,v5⟩:=v
  kernel_rfl)
theorem ZQC (k:Nat) (x:Kd.dens ZjO):ZB (ZC0 k) ZLn Tryz.f173 ZjO QX x = Zcg k x:=by
 show _ = Zg2 k (ZoS k) x
 rw [show ZoS k = Zz3 k k from (ZId k k).symm]
 obtain ⟨⟨a0,⟨a1,⟨⟩⟩⟩,⟨a2,⟨a3,⟨⟩⟩⟩⟩:=x
 kernel_rfl
theorem ZLo (k:Nat):Ctr Tryz.prog k 173 (mk ZjO QX Zcg) :=
 ZC (fn:=Tryz.f173) (Zg (Za (ZiF k) (Za (ZqF k) (Za (ZAk k) (Za (ZAr k) (Za (ZAt k) Zd)))))) (by kernel_rfl) (by kernel_rfl) (ZQC k)
noncomputable abbrev ZUr:Nat × Callee:=(173,mk ZjO QX Zcg)
abbrev Zyn:List Kd:=[.box [.ref [.view (.sl (.int .u8)),.view (.int .i64)],.view (.int .i64)],.view (.int .i64),.view (.int .i64),.view (.int .i64)]
noncomputable def ZXx (k:Nat):=Wf k [ZCU,ZLc,ZLd,ZUo,ZUp,ZUq,ZUr]
noncomputable def Zlw (k:Nat):((List Int × Int × Unit) × Int × Unit) × Int × Int × Int × Unit → Option (List Int × ((List Int × Int × Unit) × Int × Unit) × Unit)
 | (((a0,a1,()),a2,()),a3,a4,a5,()) => bif a3 == 0 then (Za1 k (((a0,a1,()),a2,()),1,a5,())).bind fun y => (Zqr k (y.1,a4,())).bind fun y_1 => some (y_1.1,((y.2.1.1.1,y.2.1.1.2.1,()),y.2.1.2.1,()),()) else bif a3 == 1 then (Za1 k (((a0,a1,()),a2,()),a4,a5,())).bind fun y => some (y.1,((y.2.1.1.1,y.2.1.1.2.1,()),y.2.1.2.1,()),()) else bif decide ((31:Int) < a3) then (W9 k (((a0,a1,()),a2,()),decide (IntKind.i64.wrap (a3 - 31) ≤ a4),())).bind fun y => bif y.2.1.2.1 != 0 then some ([],((y.2.1.1.1,y.2.1.1.2.1,()),y.2.1.2.1,()),()) else (Za1 k (((y.2.1.1.1,y.2.1.1.2.1,()),y.2.1.2.1,()),IntKind.i64.wrap (a3 - 31),a5,())).bind fun y => (Ze6 k (if (4:Int) < IntKind.i64.wrap (a3 - 31) then (4:Int) else IntKind.i64.wrap (a3 - 31),())).bind fun y_1 => bif decide ((31:Int) < a3) then (YU k (((y.2.1.1.1,y.2.1.1.2.1,()),y.2.1.2.1,()),4,())).bind fun y_2 => (W9 k (((y_2.2.1.1.1,y_2.2.1.1.2.1,()),y_2.2.1.2.1,()),y_2.1 == 11,())).bind fun y_3 => (YU k (((y_3.2.1.1.1,y_3.2.1.1.2.1,()),y_3.2.1.2.1,()),5,())).bind fun y_4 => (W9 k (((y_4.2.1.1.1,y_4.2.1.1.2.1,()),y_4.2.1.2.1,()),decide (y_4.1 ≤ 15),())).bind fun y_5 => (Za1 k (((y_5.2.1.1.1,y_5.2.1.1.2.1,()),y_5.2.1.2.1,()),IntKind.i64.wrap (a3 - 31),12,())).bind fun y_6 => bif y_6.2.1.2.1 != 0 then some ([],((y_6.2.1.1.1,y_6.2.1.1.2.1,()),y_6.2.1.2.1,()),()) else (Zcf k ((y_6.2.1.1.1,y_6.2.1.1.2.1,()),a4,IntKind.i64.wrap (a3 - 31),())).bind fun y_7 => bif y_7.1.2.1 != 0 then some ([],((y_7.2.1.1,y_7.2.1.2.1,()),y_7.1.2.1,()),()) else (Zcg k ((y_6.1,y_4.1,()),y.1,y_7.1.1,())).bind fun y => some (y.1.1,((y_7.2.1.1,y_7.2.1.2.1,()),y.1.2.1,()),()) else bif y.2.1.2.1 != 0 then some ([],((y.2.1.1.1,y.2.1.1.2.1,()),y.2.1.2.1,()),()) else (Zcf k ((y.2.1.1.1,y.2.1.1.2.1,()),a4,IntKind.i64.wrap (a3 - 31),())).bind fun y_2 => bif y_2.1.2.1 != 0 then some ([],((y_2.2.1.1,y_2.2.1.2.1,()),y_2.1.2.1,()),()) else (Zcg k ((y_1.1.1.1,y_1.1.1.2.1,()),y.1,y_2.1.1,())).bind fun y => some (y.1.1,((y_2.2.1.1,y_2.2.1.2.1,()),y.1.2.1,()),()) else (W9 k (((a0,a1,()),a2,()),decide (IntKind.i64.wrap (a3 - 8) ≤ a4),())).bind fun y => bif y.2.1.2.1 != 0 then some ([],((y.2.1.1.1,y.2.1.1.2.1,()),y.2.1.2.1,()),()) else (Za1 k (((y.2.1.1.1,y.2.1.1.2.1,()),y.2.1.2.1,()),IntKind.i64.wrap (a3 - 8),a5,())).bind fun y => (Ze6 k (if (4:Int) < IntKind.i64.wrap (a3 - 8) then (4:Int) else IntKind.i64.wrap (a3 - 8),())).bind fun y_1 => bif decide ((31:Int) < a3) then (YU k (((y.2.1.1.1,y.2.1.1.2.1,()),y.2.1.2.1,()),4,())).bind fun y_2 => (W9 k (((y_2.2.1.1.1,y_2.2.1.1.2.1,()),y_2.2.1.2.1,()),y_2.1 == 11,())).bind fun y_3 => (YU k (((y_3.2.1.1.1,y_3.2.1.1.2.1,()),y_3.2.1.2.1,()),5,())).bind fun y_4 => (W9 k (((y_4.2.1.1.1,y_4.2.1.1.2.1,()),y_4.2.1.2.1,()),decide (y_4.1 ≤ 15),())).bind fun y_5 => (Za1 k (((y_5.2.1.1.1,y_5.2.1.1.2.1,()),y_5.2.1.2.1,()),IntKind.i64.wrap (a3 - 8),12,())).bind fun y_6 => bif y_6.2.1.2.1 != 0 then some ([],((y_6.2.1.1.1,y_6.2.1.1.2.1,()),y_6.2.1.2.1,()),()) else (Zcf k ((y_6.2.1.1.1,y_6.2.1.1.2.1,()),a4,IntKind.i64.wrap (a3 - 8),())).bind fun y_7 => bif y_7.1.2.1 != 0 then some ([],((y_7.2.1.1,y_7.2.1.2.1,()),y_7.1.2.1,()),()) else (Zcg k ((y_6.1,y_4.1,()),y.1,y_7.1.1,())).bind fun y => some (y.1.1,((y_7.2.1.1,y_7.2.1.2.1,()),y.1.2.1,()),()) else bif y.2.1.2.1 != 0 then some ([],((y.2.1.1.1,y.2.1.1.2.1,()),y.2.1.2.1,()),()) else (Zcf k ((y.2.1.1.1,y.2.1.1.2.1,()),a4,IntKind.i64.wrap (a3 - 8),())).bind fun y_2 => bif y_2.1.2.1 != 0 then some ([],((y_2.2.1.1,y_2.2.1.2.1,()),y_2.1.2.1,()),()) else (Zcg k ((y_1.1.1.1,y_1.1.1.2.1,()),y.1,y_2.1.1,())).bind fun y => some (y.1.1,((y_2.2.1.1,y_2.2.1.2.1,()),y.1.2.1,()),())
noncomputable def ZA7 (k:Nat):=Zlw k
theorem ZWa (k:Nat) (x:Kd.dens Zyn):ZB (ZXx k) nA Tryz.f124 Zyn YZ x = ZA7 k x:=by
 show _ = Zlw k x
 obtain ⟨⟨⟨a0,⟨a1,⟨⟩⟩⟩,⟨a2,⟨⟩⟩⟩,⟨a3,⟨a4,⟨a5,⟨⟩⟩⟩⟩⟩:=x
 kernel_rfl
theorem ZSv (k:Nat):Ctr Tryz.prog k 124 (mk Zyn YZ ZA7) :=
 ZC (fn:=Tryz.f124) (Zg (Za (Zqn k) (Za (ZzW k) (Za (ZzX k) (Za (ZLi k) (Za (ZLk k) (Za (ZLm k) (Za (ZLo k) Zd)))))))) (by kernel_rfl) (by kernel_rfl) (ZWa k)
noncomputable abbrev ZXy:Nat × Callee:=(124,mk Zyn YZ ZA7)
noncomputable def ZND (k:Nat):=Wf k [ZTE,ZXw,ZXy,ZTG]
def ZTn:Nat → Ann:=fun id => bif Nat.beq id 12 then ⟨[58,59,57,2,10,12],[.slot 12 ((Ty.int IntKind.i64))]⟩ else ⟨[],[]⟩
abbrev ZEf:=Int × Int × List Int × Int × Int × List Int × Int × List Int
abbrev ZxP:=ZEf → Option ((List Int × Int × Unit) × (List Int × Int × Unit) × Unit)
def ZVt:ZEf → St
 | (v0,v1,v2,v3,v4,v5,v6,v7) => St.mk (Zw [(58,Zl v0),(59,Zl v1),(57,Ym v2),(2,Zl v3),(10,Zl v4),(12,AV.own 8192)]) (Zv [(0,QQ [AV.val (PV.sl (Ty.int IntKind.u8) v5),Zl v6]),(8192,rsA v7 false)])
def ZfC (k:Nat) (L1:ZxP):ZxP
 | (v0,v1,v2,v3,v4,v5,v6,v7) => bif decide (v1 < v0) then bif decide (0 ≤ v1 ∧ v1 < Int.ofNat v2.length) then (Zvw k (v2.getD v1.toNat 0,IntKind.i64.wrap (v3 - v4),())).bind fun y => bif !y.1 then some (([],12,()),(v5,v6,()),()) else bif decide (0 ≤ v4) then bif decide (v7.length + [IntKind.i64.wrap (v2.getD v1.toNat 0 * (2:Int) ^ min v4.toNat 64)].length < 2147483648) then L1 (v0,IntKind.i64.wrap (v1 + 1),v2,v3,v4,v5,v6,v7 ++ [IntKind.i64.wrap (v2.getD v1.toNat 0 * (2:Int) ^ min v4.toNat 64)]) else none else none else none else some ((v7,0,()),(v5,v6,()),())
def ZxQ (k:Nat):ZxP:=Zm (fun L1 => ZfC k L1) k
noncomputable def ZF8 (k:Nat) (n:Nat) (v:ZEf) :=
 Zr (ZND k) ZTn [0] [1,1,1,1,1,1,1,1,0,1,0] [] (Q7 Tryz.f58) (Wd (ZND k) Tryz.f58 WV QX [AV.bx (nat_lit 0) (nat_lit 0)] [[]]) n (ZVt v)
noncomputable def Zk5 (k:Nat) (L1:ZxP):(List Int × Int × Unit) × Int × Int × Unit → Option ((List Int × Int × Unit) × (List Int × Int × Unit) × Unit)
 | ((a0,a1,()),a2,a3,()) => (Zvv k (a2,a3,())).bind fun y => bif !y.1 then some (([],1,()),(a0,a1,()),()) else (ZA6 k (((a0,a1,()),0,()),a3,())).bind fun y => bif y.2.1.2.1 != 0 then some (([],y.2.1.2.1,()),(y.2.1.1.1,y.2.1.1.2.1,()),()) else (ZA7 k (((y.2.1.1.1,y.2.1.1.2.1,()),y.2.1.2.1,()),y.1.1,a2,IntKind.i64.wrap (a3 - y.1.2.1),())).bind fun y_1 => bif y_1.2.1.2.1 != 0 then some (([],y_1.2.1.2.1,()),(y_1.2.1.1.1,y_1.2.1.1.2.1,()),()) else L1 (Int.ofNat (List.length y_1.1),(0:Int),y_1.1,a3,y.1.2.1,y_1.2.1.1.1,y_1.2.1.1.2.1,[])
noncomputable def ZAQ (k:Nat):=Zk5 k (ZxQ k)
theorem ZNE (k:Nat):∀ n,ZF8 k n = Zm (fun L1 => ZfC k L1) n :=
 Zh (fun v => by kernel_rfl) (fun n v => by
  obtain ⟨v0,v1,v2,v3,v4,v5,v6,v7⟩:=v
  kernel_rfl)
theorem ZVu (k:Nat) (x:Kd.dens WV):ZB (ZND k) ZTn Tryz.f58 WV QX x = ZAQ k x:=by
 show _ = Zk5 k (ZxQ k) x
 rw [show ZxQ k = ZF8 k k from (ZNE k k).symm]
 obtain ⟨⟨a0,⟨a1,⟨⟩⟩⟩,⟨a2,⟨a3,⟨⟩⟩⟩⟩:=x
 kernel_rfl
theorem ZSe (k:Nat):Ctr Tryz.prog k 58 (mk WV QX ZAQ) :=
 ZC (fn:=Tryz.f58) (Zg (Za (ZGw k) (Za (ZSu k) (Za (ZSv k) (Za (ZGx k) Zd))))) (by kernel_rfl) (by kernel_rfl) (ZVu k)
noncomputable abbrev ZXd:Nat × Callee:=(58,mk WV QX ZAQ)
def ZTo:Nat → Ann:=fun id => bif Nat.beq id 5 then ⟨[4,3,0],[]⟩ else ⟨[],[]⟩
abbrev ZxR:=Wt → Option (Int × (List Int × Int × Unit) × Unit)
def ZVv:Wt → St
 | (v0,v1,v2,v3) => St.mk (Zw [(4,Zl v0),(3,Zl v1),(0,AV.bx 0 0)]) (Zv [(0,QQ [AV.val (PV.sl (Ty.int IntKind.u8) v2),Zl v3])])
def ZfD (k:Nat) (L1:ZxR):ZxR
 | (v0,v1,v2,v3) => bif decide (v0 < v1) then (Zsx k ((v2,v3,()),v0,())).bind fun y => bif y.1 == 1 then some (2,(y.2.1.1,y.2.1.2.1,()),()) else L1 (IntKind.i64.wrap (v0 + 1),v1,y.2.1.1,y.2.1.2.1) else some (0,(v2,v1,()),())
def ZxS (k:Nat):ZxR:=Zm (fun L1 => ZfD k L1) k
noncomputable def ZF9 (k:Nat) (n:Nat) (v:Wt) :=
 Zr (ZmA k) ZTo [0] [1,1,1,0,1,0] [] (Q7 Tryz.f59) (Wd (ZmA k) Tryz.f59 Xb Zi [AV.bx (nat_lit 0) (nat_lit 0)] [[]]) n (ZVv v)
def Zk6 (k:Nat) (L1:ZxR):(List Int × Int × Unit) × Unit → Option (Int × (List Int × Int × Unit) × Unit)
 | ((a0,a1,()),()) => L1 (a1,IntKind.i64.wrap (Int.ofNat (BitVec.ofInt 64 (IntKind.i64.wrap (a1 + 7)) &&& ~~~BitVec.ofInt 64 (7:Int)).toNat),a0,a1)
def ZAR (k:Nat):=Zk6 k (ZxS k)
theorem ZNG (k:Nat):∀ n,ZF9 k n = Zm (fun L1 => ZfD k L1) n :=
 Zh (fun v => by kernel_rfl) (fun n v => by
  obtain ⟨v0,v1,v2,v3⟩:=v
  kernel_rfl)
theorem ZVw (k:Nat) (x:Kd.dens Xb):ZB (ZmA k) ZTo Tryz.f59 Xb Zi x = ZAR k x:=by
 show _ = Zk6 k (ZxS k) x
 rw [show ZxS k = ZF9 k k from (ZNG k k).symm]
 obtain ⟨⟨a0,⟨a1,⟨⟩⟩⟩,⟨⟩⟩:=x
 kernel_rfl
theorem ZSf (k:Nat):Ctr Tryz.prog k 59 (mk Xb Zi ZAR) :=
 ZC (fn:=Tryz.f59) (Zg (Za (Zyo k) Zd)) (by kernel_rfl) (by kernel_rfl) (ZVw k)
noncomputable abbrev ZXe:Nat × Callee:=(59,mk Xb Zi ZAR)
abbrev ZjF:List Kd:=[.box [.view (.sl (.int .u8)),.ref [.view (.sl (.int .u8)),.view (.int .i64)],.view (.int .i64)],.view (.int .i64),.fn 61]
noncomputable def ZPV (k:Nat):=Wf k [ZGb,ZGt,ZGu,ZTm]
def ZdE (k:Nat):(List Int × (List Int × Int × Unit) × Int × Unit) × Int × Unit × Unit → Option (Unit × (List Int × (List Int × Int × Unit) × Int × Unit) × Unit)
 | ((a0,(a1,a2,()),a3,()),a4,(),()) => (K8 k ((a1,a2,()),())).bind fun y => (WB k ((a0,(y.2.1.1,y.2.1.2.1,()),a3,()),a4,())).bind fun y_1 => bif y_1.2.1.2.2.1 != 0 then (Q9 k ((y_1.2.1.1,(y_1.2.1.2.1.1,y_1.2.1.2.1.2.1,()),y_1.2.1.2.2.1,()),true,16,())).bind fun y => some ((),(y.2.1.1,(y.2.1.2.1.1,y.2.1.2.1.2.1,()),y.2.1.2.2.1,()),()) else bif decide ((0:Int) ≤ 0 ∧ (0:Int) ≤ IntKind.i64.wrap (Int.tdiv y.1 (8:Int)) ∧ IntKind.i64.wrap (Int.tdiv y.1 (8:Int)) ≤ Int.ofNat (List.length y_1.2.1.1)) then (Zvp k (List.drop 0 (List.take (IntKind.i64.wrap (Int.tdiv y.1 (8:Int))).toNat y_1.2.1.1),())).bind fun y => (Q9 k ((y_1.2.1.1,(y_1.2.1.2.1.1,y_1.2.1.2.1.2.1,()),y_1.2.1.2.2.1,()),y_1.1 == y.1,16,())).bind fun y => some ((),(y.2.1.1,(y.2.1.2.1.1,y.2.1.2.1.2.1,()),y.2.1.2.2.1,()),()) else none
def ZjE (k:Nat):=ZdE k
theorem ZKT (k:Nat) (x:Kd.dens ZjF):ZB (ZPV k) nA Tryz.f60 ZjF QD x = ZjE k x:=by
 show _ = ZdE k x
 obtain ⟨⟨a0,⟨⟨a1,⟨a2,⟨⟩⟩⟩,⟨a3,⟨⟩⟩⟩⟩,⟨a4,⟨⟨⟩,⟨⟩⟩⟩⟩:=x
 kernel_rfl
theorem ZHD (k:Nat):Ctr Tryz.prog k 60 (mk ZjF QD ZjE) :=
 ZC (fn:=Tryz.f60) (Zg (Za (Zla k) (Za (Zpr k) (Za (Zps k) (Za (ZF6 k) Zd))))) (by kernel_rfl) (by kernel_rfl) (ZKT k)
noncomputable abbrev ZPW:Nat × Callee:=(60,mk ZjF QD ZjE)
abbrev Zsj:List Kd:=[.view (.sl (.int .i64)),.view (.sl (.int .i64)),.view (.int .i64)]
noncomputable def ZNJ (k:Nat):=Wf k [ZTs,ZTI]
def ZTp:Nat → Ann:=fun id => bif Nat.beq id 7 then ⟨[36,37,35,1,2,8,9],[]⟩ else ⟨[],[]⟩
abbrev ZEg:=Int × Int × List Int × List Int × Int × List Int × List Int
abbrev ZxU:=ZEg → Option ((List (Nat × Nat) × Int × Unit) × Unit)
def ZVy:ZEg → St
 | (v0,v1,v2,v3,v4,v5,v6) => St.mk (Zw [(36,Zl v0),(37,Zl v1),(35,Ym v2),(1,Ym v3),(2,Zl v4),(8,AV.own 8192),(9,AV.own 8193)]) (Zv [(8192,rsA v5 false),(8193,rsA v6 false)])
def Zc6 (k:Nat) (L1:ZxU):ZxU
 | (v0,v1,v2,v3,v4,v5,v6) => bif decide (v1 < v0) then bif decide (0 ≤ v1 ∧ v1 < Int.ofNat v2.length) then bif decide (0 ≤ v1 ∧ v1 < Int.ofNat v3.length) then bif decide ((if v3.getD v1.toNat 0 < v2.getD v1.toNat 0 then v3.getD v1.toNat 0 else v2.getD v1.toNat 0) < -67108864) then some (([],12,()),()) else bif decide ((67108864:Int) < if v2.getD v1.toNat 0 < v3.getD v1.toNat 0 then v3.getD v1.toNat 0 else v2.getD v1.toNat 0) then some (([],12,()),()) else bif v4 == 0 then bif decide (0 ≤ v1 ∧ v1 < Int.ofNat v5.length) then bif decide (v1.toNat < v5.length) then bif decide (0 ≤ v1 ∧ v1 < Int.ofNat v6.length) then bif decide (v1.toNat < v6.length) then L1 (v0,IntKind.i64.wrap (v1 + 1),v2,v3,v4,v5.set v1.toNat (v2.getD v1.toNat 0),v6.set v1.toNat (v3.getD v1.toNat 0)) else none else none else none else none else bif v4 == 8 then bif decide (0 ≤ v1 ∧ v1 < Int.ofNat v5.length) then bif decide (v1.toNat < v5.length) then bif decide (0 ≤ v1 ∧ v1 < Int.ofNat v6.length) then bif decide (v1.toNat < v6.length) then L1 (v0,IntKind.i64.wrap (v1 + 1),v2,v3,v4,v5.set v1.toNat (v2.getD v1.toNat 0),v6.set v1.toNat (IntKind.i64.wrap (v2.getD v1.toNat 0 - v3.getD v1.toNat 0))) else none else none else none else none else bif v4 == 9 then bif decide (0 ≤ v1 ∧ v1 < Int.ofNat v5.length) then bif decide (v1.toNat < v5.length) then bif decide (0 ≤ v1 ∧ v1 < Int.ofNat v6.length) then bif decide (v1.toNat < v6.length) then L1 (v0,IntKind.i64.wrap (v1 + 1),v2,v3,v4,v5.set v1.toNat (IntKind.i64.wrap (v2.getD v1.toNat 0 + v3.getD v1.toNat 0)),v6.set v1.toNat (v3.getD v1.toNat 0)) else none else none else none else none else bif v4 == 10 then bif decide (0 ≤ v1 ∧ v1 < Int.ofNat v5.length) then bif decide (v1.toNat < v5.length) then bif decide (0 ≤ v1 ∧ v1 < Int.ofNat v6.length) then bif decide (v1.toNat < v6.length) then L1 (v0,IntKind.i64.wrap (v1 + 1),v2,v3,v4,v5.set v1.toNat ((IntKind.i64.wrap (IntKind.i64.wrap (Int.ofNat (BitVec.ofInt 64 (IntKind.i64.wrap (v2.getD v1.toNat 0 * (2:Int))) ||| BitVec.ofInt 64 (IntKind.i64.wrap (Int.ofNat (BitVec.ofInt 64 (v3.getD v1.toNat 0) &&& BitVec.ofInt 64 (1:Int)).toNat))).toNat) + v3.getD v1.toNat 0)).fdiv (2:Int)),v6.set v1.toNat ((IntKind.i64.wrap (IntKind.i64.wrap (Int.ofNat (BitVec.ofInt 64 (IntKind.i64.wrap (v2.getD v1.toNat 0 * (2:Int))) ||| BitVec.ofInt 64 (IntKind.i64.wrap (Int.ofNat (BitVec.ofInt 64 (v3.getD v1.toNat 0) &&& BitVec.ofInt 64 (1:Int)).toNat))).toNat) - v3.getD v1.toNat 0)).fdiv (2:Int))) else none else none else none else none else L1 (v0,IntKind.i64.wrap (v1 + 1),v2,v3,v4,v5,v6) else none else none else (Zsl k (v5,v6,())).bind fun y => some ((y.1.1,y.1.2.1,()),())
def ZxV (k:Nat):ZxU:=Zm (fun L1 => Zc6 k L1) k
noncomputable def ZGa (k:Nat) (n:Nat) (v:ZEg) :=
 Zr (ZNJ k) ZTp [] [1,1,1,0,1,0] [] (Q7 Tryz.f62) (Wd (ZNJ k) Tryz.f62 Zsj ZfE [] []) n (ZVy v)
def Zk8 (k:Nat) (L1:ZxU):List Int × List Int × Int × Unit → Option ((List (Nat × Nat) × Int × Unit) × Unit)
 | (a0,a1,a2,()) => (Zvx k (a2,())).bind fun y => bif !y.1 then some (([],1,()),()) else bif Int.ofNat a0.length != Int.ofNat a1.length then some (([],1,()),()) else bif decide ((8192:Int) < Int.ofNat a0.length) then some (([],14,()),()) else bif decide ((0:Int) ≤ Int.ofNat a0.length ∧ Int.ofNat a0.length ≤ Int.ofNat a0.length ∧ Int.ofNat a0.length < (4294967296:Int)) then bif decide ((0:Int) ≤ Int.ofNat a0.length ∧ Int.ofNat a0.length ≤ Int.ofNat a0.length ∧ Int.ofNat a0.length < (4294967296:Int)) then L1 (Int.ofNat a0.length,(0:Int),a0,a1,a2,List.replicate (Int.ofNat a0.length).toNat (0:Int),List.replicate (Int.ofNat a0.length).toNat (0:Int)) else none else none
def Zsi (k:Nat):=Zk8 k (ZxV k)
theorem ZNK (k:Nat):∀ n,ZGa k n = Zm (fun L1 => Zc6 k L1) n :=
 Zh (fun v => by kernel_rfl) (fun n v => by
  obtain ⟨v0,v1,v2,v3,v4,v5,v6⟩:=v
  kernel_rfl)
theorem ZVz (k:Nat) (x:Kd.dens Zsj):ZB (ZNJ k) ZTp Tryz.f62 Zsj ZfE x = Zsi k x:=by
 show _ = Zk8 k (ZxV k) x
 rw [show ZxV k = ZGa k k from (ZNK k k).symm]
 obtain ⟨a0,⟨a1,⟨a2,⟨⟩⟩⟩⟩:=x
 kernel_rfl
theorem ZSh (k:Nat):Ctr Tryz.prog k 62 (mk Zsj ZfE Zsi) :=
 ZC (fn:=Tryz.f62) (Zg (Za (ZGf k) (Za (ZGy k) Zd))) (by kernel_rfl) (by kernel_rfl) (ZVz k)
noncomputable abbrev ZXh:Nat × Callee:=(62,mk Zsj ZfE Zsi)
noncomputable def ZXi (k:Nat):=Wf k [ZNV]
def Zk9 (k:Nat):List (Nat × Nat) × Unit → Option ((List Int × List Int × Int × Unit) × Unit)
 | (a0,()) => (Zsn k (a0,0,())).bind fun y => some ((y.1.1,y.1.2.1,y.1.2.2.1,()),())
def Zsk (k:Nat):=Zk9 k
theorem ZVA (k:Nat) (x:Kd.dens WU):ZB (ZXi k) nA Tryz.f63 WU ZiT x = Zsk k x:=by
 show _ = Zk9 k x
 obtain ⟨a0,⟨⟩⟩:=x
 kernel_rfl
theorem ZSi (k:Nat):Ctr Tryz.prog k 63 (mk WU ZiT Zsk) :=
 ZC (fn:=Tryz.f63) (Zg (Za (Zx1 k) Zd)) (by kernel_rfl) (by kernel_rfl) (ZVA k)
noncomputable abbrev ZXj:Nat × Callee:=(63,mk WU ZiT Zsk)
abbrev ZqS:List Kd:=[.view Znu,.view (.sl (.int .u8))]
abbrev Zxq:Kd:=.tup [.view Zm6,.view (.int .i64),.view (.int .i64)]
noncomputable def ZL5 (k:Nat):=Wf k [ZFu,ZTg,ZTl,ZXa,ZXc,ZXd,ZXe,ZPW,ZXh,ZXj,ZGb]
def ZTd:Nat → Ann:=fun id => bif Nat.beq id 10 then ⟨[55,56,54,8,11,4,12,2,9],[.cell 12 1 ((Ty.int IntKind.i64).sl)]⟩ else ⟨[],[]⟩
abbrev ZDj:=Int × Int × List Int × Int × Int × List Int × Int × List Int × Int × Int × Int × List (List Int) × Int × Int × Int
abbrev Zxo:=ZDj → Option (((Int × List (List Int) × Unit) × Int × Int × Unit) × Unit)
def ZU1:ZDj → St
 | (v0,v1,v2,v3,v4,v5,v6,v7,v8,v9,v10,v11,v12,v13,v14) => St.mk (Zw [(55,Zl v0),(56,Zl v1),(54,Ym v2),(8,AV.bx 8192 0),(11,Zl v3),(4,AV.bx 8194 0),(12,AV.bx 8195 0),(2,AV.bx 8197 0),(9,Zl v4)]) (Zv [(8192,QQ [AV.val (PV.sl (Ty.int IntKind.u8) v5),AV.bx 8193 0,Zl v6]),(8193,QQ [AV.val (PV.sl (Ty.int IntKind.u8) v7),Zl v8]),(8194,QQ [Zl v9,AV.val (PV.v (Value.slice none (0:Nat) (0:Nat)))]),(8195,QQ [Zl v10,AV.own 8196]),(8196,RS.live (Res.arr (Ty.int IntKind.i64).sl v11 false)),(8197,QQ [Zl v12,Zl v13,Zl v14])])
noncomputable def Zfh (k:Nat) (L1:Zxo):Zxo
 | (v0,v1,v2,v3,v4,v5,v6,v7,v8,v9,v10,v11,v12,v13,v14) => bif decide (v1 < v0) then bif decide (0 ≤ v1 ∧ v1 < Int.ofNat v2.length) then (ZAQ k ((v7,v8,()),v3,v2.getD v1.toNat 0,())).bind fun y => bif y.1.2.1 != 0 then some ((((0:Int),[],()),0,y.1.2.1,()),()) else bif decide (v11.length + [y.1.1].length < 2147483648) then L1 (v0,IntKind.i64.wrap (v1 + 1),v2,v3,v4,v5,v6,y.2.1.1,y.2.1.2.1,v9,v10,v11 ++ [y.1.1],v12,v13,v14) else none else none else (ZAR k ((v7,v8,()),())).bind fun y => (ZjE k ((v5,(y.2.1.1,y.2.1.2.1,()),y.1,()),16,(),())).bind fun y => bif y.2.1.2.2.1 != 0 then some ((((0:Int),[],()),0,y.2.1.2.2.1,()),()) else bif decide ((1:Int) < v12) then bif v4 == 1 then bif decide ((0:Int) ≤ 0 ∧ (0:Int) < Int.ofNat v11.length) then bif decide ((0:Nat) < v11.length) then bif decide ((0:Int) ≤ 1 ∧ (1:Int) < Int.ofNat v11.length) then bif decide ((1:Nat) < v11.length) then (Zsi k (v11.getD 0 [],v11.getD 1 [],0,())).bind fun y_1 => bif y_1.1.2.1 != 0 then some ((((0:Int),[],()),0,y_1.1.2.1,()),()) else (Zsk k (y_1.1.1,())).bind fun y_2 => bif y_2.1.2.2.1 != 0 then some ((((0:Int),[],()),0,y_2.1.2.2.1,()),()) else (Zh9 k ((v12,v13,v14,()),(v10,[y_2.1.1,y_2.1.2.1],()),())).bind fun y_3 => bif y_3.1 != 0 then some ((((0:Int),[],()),0,y_3.1,()),()) else (K8 k ((y.2.1.2.1.1,y.2.1.2.1.2.1,()),())).bind fun y => some (((v10,[y_2.1.1,y_2.1.2.1],()),IntKind.i64.wrap (Int.tdiv y.1 (8:Int)),0,()),()) else none else none else none else none else bif decide ((0:Int) ≤ 0 ∧ (0:Int) < Int.ofNat v11.length) then bif decide ((0:Nat) < v11.length) then bif decide ((0:Int) ≤ 1 ∧ (1:Int) < Int.ofNat v11.length) then bif decide ((1:Nat) < v11.length) then (Zsi k (v11.getD 0 [],v11.getD 1 [],v4,())).bind fun y_1 => bif y_1.1.2.1 != 0 then some ((((0:Int),[],()),0,y_1.1.2.1,()),()) else (Zsk k (y_1.1.1,())).bind fun y_2 => bif y_2.1.2.2.1 != 0 then some ((((0:Int),[],()),0,y_2.1.2.2.1,()),()) else (Zh9 k ((v12,v13,v14,()),(v10,[y_2.1.1,y_2.1.2.1],()),())).bind fun y_3 => bif y_3.1 != 0 then some ((((0:Int),[],()),0,y_3.1,()),()) else (K8 k ((y.2.1.2.1.1,y.2.1.2.1.2.1,()),())).bind fun y => some (((v10,[y_2.1.1,y_2.1.2.1],()),IntKind.i64.wrap (Int.tdiv y.1 (8:Int)),0,()),()) else none else none else none else none else (Zh9 k ((v12,v13,v14,()),(v10,v11,()),())).bind fun y_1 => bif y_1.1 != 0 then some ((((0:Int),[],()),0,y_1.1,()),()) else (K8 k ((y.2.1.2.1.1,y.2.1.2.1.2.1,()),())).bind fun y => some (((v10,v11,()),IntKind.i64.wrap (Int.tdiv y.1 (8:Int)),0,()),())
noncomputable def Zxp (k:Nat):Zxo:=Zm (fun L1 => Zfh k L1) k
noncomputable def ZFy (k:Nat) (n:Nat) (v:ZDj) :=
 Zr (ZL5 k) ZTd [] [1,1,1,1,1,1,0,1,0] [] (Q7 Tryz.f27) (Wd (ZL5 k) Tryz.f27 ZqS Zxq [] []) n (ZU1 v)
def ZjU (k:Nat) (L1:Zxo):(Int × Int × Int × Unit) × List Int × Unit → Option (((Int × List (List Int) × Unit) × Int × Int × Unit) × Unit)
 | ((a0,a1,a2,()),a3,()) => (ZjM k ((a0,a1,a2,()),())).bind fun y => bif y.1 != 0 then some ((((0:Int),[],()),0,y.1,()),()) else (Zsh k (a3,())).bind fun y => (Zvq k ((a3,(y.1.1,y.1.2.1,()),0,()),(a0,a1,a2,()),())).bind fun y => bif y.2.1.2.2.1 != 0 then some ((((0:Int),[],()),0,y.2.1.2.2.1,()),()) else (Zvn k ((a0,a1,a2,()),y.1.1,())).bind fun y_1 => L1 (Int.ofNat (List.length y_1.1),(0:Int),y_1.1,y.1.2.2.1,y.1.1,y.2.1.1,y.2.1.2.2.1,y.2.1.2.1.1,y.2.1.2.1.2.1,(0:Int),y.1.2.1,[],a0,a1,a2)
noncomputable def ZqR (k:Nat):=ZjU k (Zxp k)
theorem ZL6 (k:Nat):∀ n,ZFy k n = Zm (fun L1 => Zfh k L1) n :=
 Zh (fun v => by kernel_rfl) (fun n v => by
  obtain ⟨v0,v1,v2,v3,v4,v5,v6,v7,v8,v9,v10,v11,v12,v13,v14⟩:=v
  kernel_rfl)
theorem ZU2 (k:Nat) (x:Kd.dens ZqS):ZB (ZL5 k) ZTd Tryz.f27 ZqS Zxq x = ZqR k x:=by
 show _ = ZjU k (Zxp k) x
 rw [show Zxp k = ZFy k k from (ZL6 k k).symm]
 obtain ⟨⟨a0,⟨a1,⟨a2,⟨⟩⟩⟩⟩,⟨a3,⟨⟩⟩⟩:=x
 kernel_rfl
theorem ZFz (k:Nat):Ctr Tryz.prog k 27 (mk ZqS Zxq ZqR) :=
 ZC (fn:=Tryz.f27) (Zg (Za (ZoD k) (Za (ZFZ k) (Za (ZF5 k) (Za (ZF7 k) (Za (ZSd k) (Za (ZSe k) (Za (ZSf k) (Za (ZHD k) (Za (ZSh k) (Za (ZSi k) (Za (Zla k) Zd)))))))))))) (by kernel_rfl) (by kernel_rfl) (ZU2 k)
noncomputable abbrev ZTe:Nat × Callee:=(27,mk ZqS Zxq ZqR)
def ZTq:Nat → Ann:=fun id => bif Nat.beq id 4 then ⟨[5,0,1],[]⟩ else ⟨[],[]⟩
abbrev ZEi:=Int × List Int × List Int
abbrev ZxW:=ZEi → Option (Bool × Unit)
def ZVC:ZEi → St
 | (v0,v1,v2) => St.mk (Zw [(5,Zl v0),(0,Ym v1),(1,Ym v2)]) (Zv [])
def ZAV (k:Nat) (L1:ZxW):ZxW
 | (v0,v1,v2) => bif decide (v0 < Int.ofNat v1.length) then bif decide (0 ≤ v0 ∧ v0 < Int.ofNat v1.length) then bif decide (0 ≤ v0 ∧ v0 < Int.ofNat v2.length) then bif v1.getD v0.toNat 0 != v2.getD v0.toNat 0 then some (false,()) else L1 (IntKind.i64.wrap (v0 + 1),v1,v2) else none else none else some (true,())
def ZEh (k:Nat):ZxW:=Zm (fun L1 => ZAV k L1) k
noncomputable def ZGd (k:Nat) (n:Nat) (v:ZEi) :=
 Zr (Z4 k) ZTq [] [1,1,0,1,0] [] (Q7 Tryz.f117) (Wd (Z4 k) Tryz.f117 Zci ZE [] []) n (ZVC v)
def ZAU (k:Nat) (L1:ZxW):List Int × List Int × Unit → Option (Bool × Unit)
 | (a0,a1,()) => bif Int.ofNat a0.length != Int.ofNat a1.length then some (false,()) else L1 (0,a0,a1)
def ZGc (k:Nat):=ZAU k (ZEh k)
theorem ZNN (k:Nat):∀ n,ZGd k n = Zm (fun L1 => ZAV k L1) n :=
 Zh (fun v => by kernel_rfl) (fun n v => by
  obtain ⟨v0,v1,v2⟩:=v
  kernel_rfl)
theorem ZVD (k:Nat) (x:Kd.dens Zci):ZB (Z4 k) ZTq Tryz.f117 Zci ZE x = ZGc k x:=by
 show _ = ZAU k (ZEh k) x
 rw [show ZEh k = ZGd k k from (ZNN k k).symm]
 obtain ⟨a0,⟨a1,⟨⟩⟩⟩:=x
 kernel_rfl
theorem ZSj (k:Nat):Ctr Tryz.prog k 117 (mk Zci ZE ZGc) :=
 ZC (fn:=Tryz.f117) (Zg Zd) (by kernel_rfl) (by kernel_rfl) (ZVD k)
noncomputable abbrev ZXk:Nat × Callee:=(117,mk Zci ZE ZGc)
abbrev ZmV:List Kd:=[.view Zm6,.view Zm6]
noncomputable def ZNa (k:Nat):=Wf k [ZXk]
def ZTf:Nat → Ann:=fun id => bif Nat.beq id 4 then ⟨[5,2,3],[]⟩ else ⟨[],[]⟩
abbrev ZDZ:=Int × Int × List (List Int) × Int × List (List Int)
abbrev ZxD:=ZDZ → Option (Bool × Unit)
def ZU9:ZDZ → St
 | (v0,v1,v2,v3,v4) => St.mk (Zw [(5,Zl v0),(2,AV.bx 8192 0),(3,AV.bx 8193 0)]) (Zv [(8192,QQ [Zl v1,AV.val (PV.sl (Ty.int IntKind.i64).sl v2)]),(8193,QQ [Zl v3,AV.val (PV.sl (Ty.int IntKind.i64).sl v4)])])
def ZAA (k:Nat) (L1:ZxD):ZxD
 | (v0,v1,v2,v3,v4) => bif decide (v0 < Int.ofNat v2.length) then bif decide (0 ≤ v0 ∧ v0 < Int.ofNat v2.length) then bif decide (0 ≤ v0 ∧ v0 < Int.ofNat v4.length) then (ZGc k (v2.getD v0.toNat [],v4.getD v0.toNat [],())).bind fun y => bif !y.1 then some (false,()) else L1 (IntKind.i64.wrap (v0 + 1),v1,v2,v3,v4) else none else none else some (true,())
def ZDY (k:Nat):ZxD:=Zm (fun L1 => ZAA k L1) k
noncomputable def ZFQ (k:Nat) (n:Nat) (v:ZDZ) :=
 Zr (ZNa k) ZTf [] [1,1,0,1,0] [] (Q7 Tryz.f55) (Wd (ZNa k) Tryz.f55 ZmV ZE [] []) n (ZU9 v)
def ZAz (k:Nat) (L1:ZxD):(Int × List (List Int) × Unit) × (Int × List (List Int) × Unit) × Unit → Option (Bool × Unit)
 | ((a0,a1,()),(a2,a3,()),()) => bif a0 != a2 then some (false,()) else bif Int.ofNat a1.length != Int.ofNat a3.length then some (false,()) else L1 (0,a0,a1,a2,a3)
def ZAy (k:Nat):=ZAz k (ZDY k)
theorem ZNb (k:Nat):∀ n,ZFQ k n = Zm (fun L1 => ZAA k L1) n :=
 Zh (fun v => by kernel_rfl) (fun n v => by
  obtain ⟨v0,v1,v2,v3,v4⟩:=v
  kernel_rfl)
theorem ZVa (k:Nat) (x:Kd.dens ZmV):ZB (ZNa k) ZTf Tryz.f55 ZmV ZE x = ZAy k x:=by
 show _ = ZAz k (ZDY k) x
 rw [show ZDY k = ZFQ k k from (ZNb k k).symm]
 obtain ⟨⟨a0,⟨a1,⟨⟩⟩⟩,⟨⟨a2,⟨a3,⟨⟩⟩⟩,⟨⟩⟩⟩:=x
 kernel_rfl
theorem ZRX (k:Nat):Ctr Tryz.prog k 55 (mk ZmV ZE ZAy) :=
 ZC (fn:=Tryz.f55) (Zg (Za (ZSj k) Zd)) (by kernel_rfl) (by kernel_rfl) (ZVa k)
noncomputable abbrev ZYa:Nat × Callee:=(55,mk ZmV ZE ZAy)
end Go.Sh
