/-
  What the row needs, part 8.
-/
import Derived.Test.YtmeahimfdhdggaaGreatDoorXFrameReads7
import Derived.Test.YtmeahimfdhdggaaGreatDoorProg
set_option linter.unusedSimpArgs false
set_option linter.unusedVariables false
set_option linter.unusedSectionVars false
namespace Go.Sh
open Go Go.Proofs
def deBruijnT:List Int:=[0,1,56,2,57,49,28,3,61,58,42,50,38,29,17,4,62,47,59,36,45,43,51,22,53,39,33,30,24,18,12,5,63,55,48,27,60,41,37,16,46,35,44,21,52,32,23,11,54,26,40,15,34,20,31,10,25,14,19,9,13,8,7,6]
instance frameGl:Gl:=⟨fun g => bif Nat.beq g 1 then (.u8,deBruijnT) else (.u8,[])⟩
abbrev shapeT:Ty:=.pair (.int .i64) (.pair (.int .i64) (.pair (.int .i64) .unit))
abbrev Zhl:Ty:=.pair (.int .i64) (.pair (.sl (.sl (.int .i64))) .unit)
abbrev ZO9:Ty:=.pair (.sl (.int .i64)) (.pair (.sl (.int .i64)) .unit)
abbrev ZeI:Ty:=.pair (.sl (.int .i64)) (.pair (.int .i64) .unit)
abbrev ZvR:Ty:=.pair (.int .i64) (.pair (.int .i64) (.pair (.int .i64) (.pair (.sl (.int .i64)) (.pair ZeI (.pair (.sl (.int .i64)) (.pair (.int .i64) .unit))))))
abbrev ZKv:Ty:=.pair (.int .i64) (.pair (.int .i64) (.pair (.int .i64) .unit))
abbrev ZSF:Ty:=.pair (.int .i64) (.pair (.int .i64) (.pair (.sl ZKv) (.pair (.int .i64) .unit)))
theorem Zhv:Tryz.prog.follows .mixedOrders = true:=by kernel_rfl
abbrev Zq (v:Int):AV:=AV.val (PV.v (Value.int IntKind.i64 v))
abbrev Xn (v:List Int):AV:=AV.val (PV.sl (Ty.int IntKind.i64) v)
abbrev avB (v:Bool):AV:=AV.val (PV.v (Value.bool v))
noncomputable abbrev Wh (f:Func):Code:=f.body.getD .skip
noncomputable def Wd (k:Nat) (l:List (Nat × Callee)) (live:Nat → List Nat:=fun _ => []):Ctx:={ P:=Tryz.prog,Φ:=phi l,k:=k,live:=live }
def nA:Nat → Ann:=fun _ => ⟨[],[]⟩
noncomputable abbrev ZF (C:Ctx) (A:Nat → Ann) (fn:Func) (pk:List Kd) (rk:Kd) (x:Kd.dens pk):=ZBg C A fn.ntmps (Wh fn) fn.results.toList pk rk (Xs pk x) (ZGi pk rk)
noncomputable abbrev Wp (C:Ctx) (fn:Func) (pk:List Kd) (rk:Kd) (a:List AV) (b:List (List Nat)):=Y3 C fn.results.toList pk a b rk (ZGi pk rk)
noncomputable def ZUf (fn:Func):Bool:=fn.body.isSome && (!(fn.name == "runtime.NumGoroutine") && XZ Tryz.prog fn.ntmps (Wh fn))
abbrev Wb (l:List AV):RS:=RS.live (Res.box l)
abbrev rsA (v:List Int) (b:Bool):RS:=RS.live (Res.arr (Ty.int IntKind.i64) v b)
theorem ZG {l:List (Nat × Callee)} {live:Nat → List Nat} {A:Nat → Ann} {f k:Nat} {fn:Func} {pk:List Kd} {rk:Kd} {F:Nat → Kd.dens pk → Option (Ans pk rk)} (hC:∀ f cal,phi l f = some cal → Ctr Tryz.prog k f cal)
  (hf:Tryz.prog.funcs[f]? = some fn) (hq:ZUf fn = true)
  (h:∀ x,ZF (Wd k l live) A fn pk rk x = F k x):Ctr Tryz.prog k f (mk pk rk F) :=
 have hq1:(fn.body.isSome && (!(fn.name == "runtime.NumGoroutine") && XZ Tryz.prog fn.ntmps (Wh fn))) = true:=hq
 have hq2:=Bool.and_eq_true_iff.1 hq1
 have hq3:=Bool.and_eq_true_iff.1 hq2.2
 have hb:fn.body = some (Wh fn):=by
  cases e:fn.body with
  | none => rw [e] at hq2; exact absurd hq2.1 (by simp)
  | some c => show some c = some (fn.body.getD .skip); rw [e]; rfl
 ZNK (C:=Wd k l live) hC Zhv hf hb (by simpa using hq3.1) hq3.2 (fun x y e => (h x).trans e)
abbrev ZdJ:List Kd:=[.view shapeT]
abbrev Zf:Kd:=.view (.int .i64)
noncomputable def ZH (k:Nat):=Wd k []
def Zh8 (k:Nat):(Int × Int × Int × Unit) × Unit → Option (Int × Unit)
 | ((a0,a1,a2,()),()) => bif decide (a0 < 1) then some (2,()) else bif decide ((2:Int) < a0) then some (2,()) else bif decide (a1 < 4) then some (2,()) else bif decide ((24:Int) < a1) then some (2,()) else bif decide (a2 < 1) then some (2,()) else bif decide ((655350:Int) < a2) then some (2,()) else some (0,())
def Zru (k:Nat):=Zh8 k
theorem ZPB (k:Nat) (x:Kd.dens ZdJ):ZF (ZH k) nA Tryz.f11 ZdJ Zf x = Zru k x:=by
 show _ = Zh8 k x
 obtain ⟨⟨a0,⟨a1,⟨a2,⟨⟩⟩⟩⟩,⟨⟩⟩:=x
 kernel_rfl
theorem ZBC (k:Nat):Ctr Tryz.prog k 11 (mk ZdJ Zf Zru) :=
 ZG (fn:=Tryz.f11) (Zh Zd) (by kernel_rfl) (by kernel_rfl) (ZPB k)
noncomputable abbrev ZOj:Nat × Callee:=(11,mk ZdJ Zf Zru)
abbrev W1:List Kd:=[.view shapeT,.view Zhl]
noncomputable def ZoV (k:Nat):=Wd k [ZOj]
def ZBM:Nat → Ann:=fun id => bif Nat.beq id 17 then ⟨[68,69,67,2,63,62,61],[]⟩ else bif Nat.beq id 14 then ⟨[62,63,61,2],[]⟩ else bif Nat.beq id 8 then ⟨[42,43,41,6,3,2],[]⟩ else ⟨[],[]⟩
abbrev ZAk:=Int × Int × List Int × Int × Int × List (List Int) × Int × Int × Int
abbrev Zt7:=ZAk → Option (Int × Unit)
abbrev ZAj:=Int × Int × List (List Int) × Int × Int × Int
abbrev ZkQ:=ZAj → Option (Int × Unit)
abbrev ZAi:=Int × Int × List (List Int) × Int × Int × List (List Int) × Int × Int × Int
abbrev Zt6:=ZAi → Option (Int × Unit)
def ZQN:ZAk → St
 | (v0,v1,v2,v3,v4,v5,v6,v7,v8) => St.mk (ZC [(68,Zq v0),(69,Zq v1),(67,Xn v2),(2,AV.bx 8192 0),(63,Zq v3),(62,Zq v4),(61,AV.val (PV.sl (Ty.int IntKind.i64).sl v5))]) (ZA [(8192,Wb [Zq v6,Zq v7,Zq v8])])
def Zb9 (k:Nat) (L2:ZkQ) (L3:Zt7):Zt7
 | (v0,v1,v2,v3,v4,v5,v6,v7,v8) => bif decide (v1 < v0) then bif decide (0 ≤ v1 ∧ v1 < Int.ofNat v2.length) then bif decide (0 ≤ IntKind.i64.wrap (v7 - 1)) then bif Int.fdiv (v2.getD v1.toNat 0) ((2:Int) ^ min (IntKind.i64.wrap (v7 - 1)).toNat 64) != (0:Int) then bif Int.fdiv (v2.getD v1.toNat 0) ((2:Int) ^ min (IntKind.i64.wrap (v7 - 1)).toNat 64) != (-1:Int) then some (12,()) else L3 (v0,IntKind.i64.wrap (v1 + 1),v2,v3,v4,v5,v6,v7,v8) else L3 (v0,IntKind.i64.wrap (v1 + 1),v2,v3,v4,v5,v6,v7,v8) else none else none else L2 (v4,IntKind.i64.wrap (v3 + 1),v5,v6,v7,v8)
def ZoX (k:Nat) (L2:ZkQ):Zt7:=Zp (fun L3 => Zb9 k L2 L3) k
noncomputable def Zng (k:Nat) (n2:Nat) (n:Nat) (v:ZAk):Option (Int × Unit) :=
 Zy (ZoV k) ZBM [] [1,1,1,1,1,0,1,0,0,1,1,0,0,1,1,0] [n2] (Wh Tryz.f23) (Wp (ZoV k) Tryz.f23 W1 Zf [] []) n (ZQN v)
def ZQM:ZAj → St
 | (v0,v1,v2,v3,v4,v5) => St.mk (ZC [(62,Zq v0),(63,Zq v1),(61,AV.val (PV.sl (Ty.int IntKind.i64).sl v2)),(2,AV.bx 8192 0)]) (ZA [(8192,Wb [Zq v3,Zq v4,Zq v5])])
def Zb8 (k:Nat) (L3:Zt7) (L2:ZkQ):ZkQ
 | (v0,v1,v2,v3,v4,v5) => bif decide (v1 < v0) then bif decide (0 ≤ v1 ∧ v1 < Int.ofNat v2.length) then L3 (Int.ofNat (List.length (v2.getD v1.toNat [])),(0:Int),v2.getD v1.toNat [],v1,v0,v2,v3,v4,v5) else none else some (0,())
def ZdY (k:Nat):ZkQ:=Zp (fun L2 => Zb8 k (ZoX k L2) L2) k
noncomputable def Zip (k:Nat) (n:Nat) (v:ZAj) :=
 Zy (ZoV k) ZBM [] [1,1,1,1,1,0,1,0] [] (Wh Tryz.f23) (Wp (ZoV k) Tryz.f23 W1 Zf [] []) n (ZQM v)
def ZQL:ZAi → St
 | (v0,v1,v2,v3,v4,v5,v6,v7,v8) => St.mk (ZC [(42,Zq v0),(43,Zq v1),(41,AV.val (PV.sl (Ty.int IntKind.i64).sl v2)),(6,Zq v3),(3,AV.bx 8192 0),(2,AV.bx 8193 0)]) (ZA [(8192,Wb [Zq v4,AV.val (PV.sl (Ty.int IntKind.i64).sl v5)]),(8193,Wb [Zq v6,Zq v7,Zq v8])])
def Zb7 (k:Nat) (L2:ZkQ) (L1:Zt6):Zt6
 | (v0,v1,v2,v3,v4,v5,v6,v7,v8) => bif decide (v1 < v0) then bif decide (0 ≤ v1 ∧ v1 < Int.ofNat v2.length) then bif Int.ofNat (List.length (v2.getD v1.toNat [])) != v3 then some (1,()) else bif decide (v3 < 1) then some (1,()) else bif decide ((512:Int) < v3) then some (1,()) else L1 (v0,IntKind.i64.wrap (v1 + 1),v2,v3,v4,v5,v6,v7,v8) else none else L2 (Int.ofNat v5.length,(0:Int),v5,v6,v7,v8)
def ZoW (k:Nat):Zt6:=Zp (fun L1 => Zb7 k (ZdY k) L1) k
noncomputable def ZBN (k:Nat) (n:Nat) (v:ZAi) :=
 Zy (ZoV k) ZBM [] [1,1,1,1,0,1,0] [] (Wh Tryz.f23) (Wp (ZoV k) Tryz.f23 W1 Zf [] []) n (ZQL v)
def Ziq (k:Nat) (L1:Zt6):(Int × Int × Int × Unit) × (Int × List (List Int) × Unit) × Unit → Option (Int × Unit)
 | ((a0,a1,a2,()),(a3,a4,()),()) => (Zru k ((a0,a1,a2,()),())).bind fun y => bif y.1 != 0 then some (y.1,()) else bif decide (a3 < 0) then some (1,()) else bif decide ((2147483647:Int) < a3) then some (1,()) else bif Int.ofNat a4.length != a0 then some (1,()) else bif decide ((0:Int) ≤ 0 ∧ (0:Int) < Int.ofNat a4.length) then L1 (Int.ofNat a4.length,(0:Int),a4,Int.ofNat (List.length (a4.getD 0 [])),a3,a4,a0,a1,a2) else none
def ZgC (k:Nat):=Ziq k (ZoW k)
theorem ZIn (k:Nat) (n2:Nat):∀ n,Zng k n2 n = Zp (fun L3 => Zb9 k (Zip k n2) L3) n :=
 Zl (fun v => by kernel_rfl) (fun n v => by
  show Zng k n2 (n + 1) v = Zb9 k (Zip k n2) (Zng k n2 n) v
  obtain ⟨v0,v1,v2,v3,v4,v5,v6,v7,v8⟩:=v
  kernel_rfl)
theorem ZIm (k:Nat):∀ n,Zip k n = Zp (fun L2 => Zb8 k (ZoX k L2) L2) n :=
 Zl (fun v => by kernel_rfl) (fun n v => by
  rw [show (ZoX k (Zip k n)) = Zng k n k from (ZIn k n k).symm]
  obtain ⟨v0,v1,v2,v3,v4,v5⟩:=v
  kernel_rfl)
theorem ZIl (k:Nat):∀ n,ZBN k n = Zp (fun L1 => Zb7 k (ZdY k) L1) n :=
 Zl (fun v => by kernel_rfl) (fun n v => by
  rw [show (ZdY k) = Zip k k from (ZIm k k).symm]
  obtain ⟨v0,v1,v2,v3,v4,v5,v6,v7,v8⟩:=v
  kernel_rfl)
theorem ZQO (k:Nat) (x:Kd.dens W1):ZF (ZoV k) ZBM Tryz.f23 W1 Zf x = ZgC k x:=by
 show _ = Ziq k (ZoW k) x
 rw [show ZoW k = ZBN k k from (ZIl k k).symm]
 obtain ⟨⟨a0,⟨a1,⟨a2,⟨⟩⟩⟩⟩,⟨⟨a3,⟨a4,⟨⟩⟩⟩,⟨⟩⟩⟩:=x
 kernel_rfl
theorem ZBO (k:Nat):Ctr Tryz.prog k 23 (mk W1 Zf ZgC) :=
 ZG (fn:=Tryz.f23) (Zh (Za (ZBC k) Zd)) (by kernel_rfl) (by kernel_rfl) (ZQO k)
noncomputable abbrev ZOp:Nat × Callee:=(23,mk W1 Zf ZgC)
abbrev Zbn:List Kd:=[.view (.sl (.int .i64)),.view (.sl (.int .i64))]
abbrev KK:Kd:=.tup [.view (.sl (.cx .f64)),.view (.int .i64)]
def ZOI:Nat → Ann:=fun id => bif Nat.beq id 7 then ⟨[21,22,20,1,6],[.slot 6 ((Ty.cx FloatKind.f64))]⟩ else ⟨[],[]⟩
abbrev ZAw:=Int × Int × List Int × List Int × List (Nat × Nat)
abbrev ZuC:=ZAw → Option ((List (Nat × Nat) × Int × Unit) × Unit)
def ZRw:ZAw → St
 | (v0,v1,v2,v3,v4) => St.mk (ZC [(21,Zq v0),(22,Zq v1),(20,Xn v2),(1,Xn v3),(6,AV.own 8192)]) (ZA [(8192,RS.live (Res.arr (Ty.cx FloatKind.f64) v4 false))])
def Kr (k:Nat) (L1:ZuC):ZuC
 | (v0,v1,v2,v3,v4) => bif decide (v1 < v0) then bif decide (0 ≤ v1 ∧ v1 < Int.ofNat v2.length) then bif decide (0 ≤ v1 ∧ v1 < Int.ofNat v3.length) then bif decide (v2.getD v1.toNat 0 < (-16777216:Int)) then some (([],12,()),()) else bif decide ((16777216:Int) < v2.getD v1.toNat 0) then some (([],12,()),()) else bif decide (v3.getD v1.toNat 0 < (-16777216:Int)) then some (([],12,()),()) else bif decide ((16777216:Int) < v3.getD v1.toNat 0) then some (([],12,()),()) else bif decide (v4.length + [(FloatKind.f64.nearest (v2.getD v1.toNat 0),FloatKind.f64.nearest (v3.getD v1.toNat 0))].length < 2147483648) then L1 (v0,IntKind.i64.wrap (v1 + 1),v2,v3,v4 ++ [(FloatKind.f64.nearest (v2.getD v1.toNat 0),FloatKind.f64.nearest (v3.getD v1.toNat 0))]) else none else none else none else some ((v4,0,()),())
def Zpe (k:Nat):ZuC:=Zp (fun L1 => Kr k L1) k
noncomputable def ZB7 (k:Nat) (n:Nat) (v:ZAw) :=
 Zy (ZH k) ZOI [] [1,1,1,0,1,0] [] (Wh Tryz.f59) (Wp (ZH k) Tryz.f59 Zbn KK [] []) n (ZRw v)
def Zcb (k:Nat) (L1:ZuC):List Int × List Int × Unit → Option ((List (Nat × Nat) × Int × Unit) × Unit)
 | (a0,a1,()) => bif Int.ofNat a0.length != Int.ofNat a1.length then some (([],1,()),()) else bif decide ((8192:Int) < Int.ofNat a0.length) then some (([],14,()),()) else L1 (Int.ofNat a0.length,(0:Int),a0,a1,[])
def Zpd (k:Nat):=Zcb k (Zpe k)
theorem ZI7 (k:Nat):∀ n,ZB7 k n = Zp (fun L1 => Kr k L1) n :=
 Zl (fun v => by kernel_rfl) (fun n v => by
  obtain ⟨v0,v1,v2,v3,v4⟩:=v
  kernel_rfl)
theorem ZRx (k:Nat) (x:Kd.dens Zbn):ZF (ZH k) ZOI Tryz.f59 Zbn KK x = Zpd k x:=by
 show _ = Zcb k (Zpe k) x
 rw [show Zpe k = ZB7 k k from (ZI7 k k).symm]
 obtain ⟨a0,⟨a1,⟨⟩⟩⟩:=x
 kernel_rfl
theorem ZB8 (k:Nat):Ctr Tryz.prog k 59 (mk Zbn KK Zpd) :=
 ZG (fn:=Tryz.f59) (Zh Zd) (by kernel_rfl) (by kernel_rfl) (ZRx k)
noncomputable abbrev ZOJ:Nat × Callee:=(59,mk Zbn KK Zpd)
abbrev Zt:List Kd:=[.view (.int .i64)]
abbrev Zs:Kd:=.view .bool
def Zyk (k:Nat):Int × Unit → Option (Bool × Unit)
 | (a0,()) => bif a0 == 0 then some (true,()) else bif decide (8 ≤ a0) then some (decide (a0 ≤ 10),()) else some (false,())
def Zsc (k:Nat):=Zyk k
theorem ZSb (k:Nat) (x:Kd.dens Zt):ZF (ZH k) nA Tryz.f91 Zt Zs x = Zsc k x:=by
 show _ = Zyk k x
 obtain ⟨a0,⟨⟩⟩:=x
 kernel_rfl
theorem ZCt (k:Nat):Ctr Tryz.prog k 91 (mk Zt Zs Zsc) :=
 ZG (fn:=Tryz.f91) (Zh Zd) (by kernel_rfl) (by kernel_rfl) (ZSb k)
noncomputable abbrev ZOZ:Nat × Callee:=(91,mk Zt Zs Zsc)
abbrev Qb:List Kd:=[.view (.fl .f64)]
abbrev QV:Kd:=.view (.fl .f64)
def ZfJ (k:Nat):Nat × Unit → Option (Nat × Unit)
 | (a0,()) => some ((IntKind.u64.wrap (Int.ofNat (BitVec.ofInt 64 (Int.ofNat a0) &&& ~~~BitVec.ofInt 64 (9223372036854775808:Int)).toNat)).toNat,())
def ZdO (k:Nat):=ZfJ k
theorem ZL2 (k:Nat) (x:Kd.dens Qb):ZF (ZH k) nA Tryz.f143 Qb QV x = ZdO k x:=by
 show _ = ZfJ k x
 obtain ⟨a0,⟨⟩⟩:=x
 kernel_rfl
theorem Zok (k:Nat):Ctr Tryz.prog k 143 (mk Qb QV ZdO) :=
 ZG (fn:=Tryz.f143) (Zh Zd) (by kernel_rfl) (by kernel_rfl) (ZL2 k)
noncomputable abbrev ZzW:Nat × Callee:=(143,mk Qb QV ZdO)
abbrev Znf:List Kd:=[.view (.fl .f64),.view (.fl .f64)]
def ZrS (k:Nat):Nat × Nat × Unit → Option (Nat × Unit)
 | (a0,a1,()) => some ((IntKind.u64.wrap (Int.ofNat (BitVec.ofInt 64 (IntKind.u64.wrap (Int.ofNat (BitVec.ofInt 64 (Int.ofNat a0) &&& ~~~BitVec.ofInt 64 (9223372036854775808:Int)).toNat)) ||| BitVec.ofInt 64 (IntKind.u64.wrap (Int.ofNat (BitVec.ofInt 64 (Int.ofNat a1) &&& BitVec.ofInt 64 (9223372036854775808:Int)).toNat))).toNat)).toNat,())
def ZoS (k:Nat):=ZrS k
theorem ZMR (k:Nat) (x:Kd.dens Znf):ZF (ZH k) nA Tryz.f193 Znf QV x = ZoS k x:=by
 show _ = ZrS k x
 obtain ⟨a0,⟨a1,⟨⟩⟩⟩:=x
 kernel_rfl
theorem ZxC (k:Nat):Ctr Tryz.prog k 193 (mk Znf QV ZoS) :=
 ZG (fn:=Tryz.f193) (Zh Zd) (by kernel_rfl) (by kernel_rfl) (ZMR k)
noncomputable abbrev ZIe:Nat × Callee:=(193,mk Znf QV ZoS)
noncomputable def ZQl (k:Nat):=Wd k [ZzW,ZIe]
def ZrM (k:Nat):Nat × Unit → Option (Nat × Unit)
 | (a0,()) => (ZdO k (a0,())).bind fun y => bif FloatKind.f64.format.order y.1 (4607182418800017408:Nat) == some Ordering.lt then (ZoS k (0,a0,())).bind fun y => some (y.1,()) else bif decide (IntKind.u64.wrap (IntKind.u64.wrap (Int.ofNat (BitVec.ofInt 64 ((Int.ofNat a0).fdiv (4503599627370496:Int)) &&& BitVec.ofInt 64 (2047:Int)).toNat) - 1023) < (52:Int)) then bif decide (0 ≤ IntKind.u64.wrap ((52:Int) - IntKind.u64.wrap (IntKind.u64.wrap (Int.ofNat (BitVec.ofInt 64 ((Int.ofNat a0).fdiv (4503599627370496:Int)) &&& BitVec.ofInt 64 (2047:Int)).toNat) - 1023))) then some ((IntKind.u64.wrap (Int.ofNat (BitVec.ofInt 64 (Int.ofNat a0) &&& ~~~BitVec.ofInt 64 (IntKind.u64.wrap (IntKind.u64.wrap ((1:Int) * (2:Int) ^ min (IntKind.u64.wrap ((52:Int) - IntKind.u64.wrap (IntKind.u64.wrap (Int.ofNat (BitVec.ofInt 64 ((Int.ofNat a0).fdiv (4503599627370496:Int)) &&& BitVec.ofInt 64 (2047:Int)).toNat) - 1023))).toNat 64) - (1:Int)))).toNat)).toNat,()) else none else some ((Int.ofNat a0).toNat,())
def ZAd (k:Nat):=ZrM k
theorem ZMF (k:Nat) (x:Kd.dens Qb):ZF (ZQl k) nA Tryz.f177 Qb QV x = ZAd k x:=by
 show _ = ZrM k x
 obtain ⟨a0,⟨⟩⟩:=x
 kernel_rfl
theorem ZHZ (k:Nat):Ctr Tryz.prog k 177 (mk Qb QV ZAd) :=
 ZG (fn:=Tryz.f177) (Zh (Za (Zok k) (Za (ZxC k) Zd))) (by kernel_rfl) (by kernel_rfl) (ZMF k)
noncomputable abbrev ZQm:Nat × Callee:=(177,mk Qb QV ZAd)
noncomputable def ZPS (k:Nat):=Wd k [ZQm]
def ZfH (k:Nat):Nat × Unit → Option (Nat × Unit)
 | (a0,()) => (WB Ieee.Toward.zero a0).bind fun y => some (y,())
def ZdN (k:Nat):=ZfH k
theorem ZL0 (k:Nat) (x:Kd.dens Qb):ZF (ZPS k) nA Tryz.f141 Qb QV x = ZdN k x:=by
 show _ = ZfH k x
 obtain ⟨a0,⟨⟩⟩:=x
 kernel_rfl
theorem Zw5 (k:Nat):Ctr Tryz.prog k 141 (mk Qb QV ZdN) :=
 ZG (fn:=Tryz.f141) (Zh (Za (ZHZ k) Zd)) (by kernel_rfl) (by kernel_rfl) (ZL0 k)
noncomputable abbrev ZHi:Nat × Callee:=(141,mk Qb QV ZdN)
abbrev ZmT:List Kd:=[.view (.fl .f64),.view (.int .i64)]
noncomputable def ZPT (k:Nat):=Wd k [ZzW]
def ZfI (k:Nat):Nat × Int × Unit → Option (Bool × Unit)
 | (a0,a1,()) => bif a1 == 0 then (ZdO k (a0,())).bind fun y => some (FloatKind.f64.format.order y.1 (9218868437227405311:Nat) == some Ordering.gt,()) else bif decide (a1 < 0) then some (FloatKind.f64.format.order (a0 ^^^ (9223372036854775808:Nat)) (9218868437227405311:Nat) == some Ordering.gt,()) else some (FloatKind.f64.format.order a0 (9218868437227405311:Nat) == some Ordering.gt,())
def Zky (k:Nat):=ZfI k
theorem ZL1 (k:Nat) (x:Kd.dens ZmT):ZF (ZPT k) nA Tryz.f142 ZmT Zs x = Zky k x:=by
 show _ = ZfI k x
 obtain ⟨a0,⟨a1,⟨⟩⟩⟩:=x
 kernel_rfl
theorem Zw7 (k:Nat):Ctr Tryz.prog k 142 (mk ZmT Zs Zky) :=
 ZG (fn:=Tryz.f142) (Zh (Za (Zok k) Zd)) (by kernel_rfl) (by kernel_rfl) (ZL1 k)
noncomputable abbrev ZHj:Nat × Callee:=(142,mk ZmT Zs Zky)
abbrev QU:List Kd:=[.view (.sl (.cx .f64))]
noncomputable def Zg6 (k:Nat):=Wd k [ZHi,ZHj,ZzW]
def Zti:Nat → Ann:=fun id => bif Nat.beq id 14 then ⟨[37,38,36],[]⟩ else bif Nat.beq id 7 then ⟨[23,22,14,13,12,0],[]⟩ else bif Nat.beq id 4 then ⟨[13,14,12,0],[]⟩ else ⟨[],[]⟩
abbrev Ztk:=Int × Nat × Nat × Int × Int × List (Nat × Nat) × List (Nat × Nat)
abbrev Zme:=Ztk → Option (Int × Unit)
abbrev Ztl:=Int × Int × List (Nat × Nat)
abbrev Zmf:=Ztl → Option (Int × Unit)
abbrev Ztj:=Int × Int × List (Nat × Nat) × List (Nat × Nat)
abbrev Ze3:=Ztj → Option (Int × Unit)
def ZKZ:Ztk → St
 | (v0,v1,v2,v3,v4,v5,v6) => St.mk (ZC [(23,Zq v0),(22,AV.agg [AV.val (PV.v (Value.float FloatKind.f64 v1)),AV.val (PV.v (Value.float FloatKind.f64 v2))]),(14,Zq v3),(13,Zq v4),(12,AV.val (PV.sl (Ty.cx FloatKind.f64) v5)),(0,AV.val (PV.sl (Ty.cx FloatKind.f64) v6))]) (ZA [])
def YV (k:Nat) (L1:Ze3) (L2:Zme):Zme
 | (v0,v1,v2,v3,v4,v5,v6) => bif decide (v0 < 2) then bif decide (0 ≤ v0 ∧ v0 < 2) then (ZdN k ([v1,v2].getD v0.toNat 0,())).bind fun y => bif FloatKind.f64.format.order y.1 ([v1,v2].getD v0.toNat 0) != some Ordering.eq then some (2,()) else (Zky k ([v1,v2].getD v0.toNat 0,0,())).bind fun y => bif y.1 then some (2,()) else L2 (IntKind.i64.wrap (v0 + 1),v1,v2,v3,v4,v5,v6) else none else L1 (v4,IntKind.i64.wrap (v3 + 1),v5,v6)
def ZhX (k:Nat) (L1:Ze3):Zme:=Zp (fun L2 => YV k L1 L2) k
noncomputable def ZhZ (k:Nat) (n1:Nat) (n:Nat) (v:Ztk):Option (Int × Unit) :=
 Zy (Zg6 k) Zti [] [1,1,0,1,0,0,1,1,0,0,1,1,0] [n1] (Wh Tryz.f100) (Wp (Zg6 k) Tryz.f100 QU Zf [] []) n (ZKZ v)
def ZK0:Ztl → St
 | (v0,v1,v2) => St.mk (ZC [(37,Zq v0),(38,Zq v1),(36,AV.val (PV.sl (Ty.cx FloatKind.f64) v2))]) (ZA [])
def ZbG (k:Nat) (L3:Zmf):Zmf
 | (v0,v1,v2) => bif decide (v1 < v0) then bif decide (0 ≤ v1 ∧ v1 < Int.ofNat v2.length) then (ZdO k ((v2.getD v1.toNat ((0:Nat),(0:Nat))).1,())).bind fun y => (ZdO k ((v2.getD v1.toNat ((0:Nat),(0:Nat))).2,())).bind fun y_1 => (ZyN FloatKind.f64 y.1 y_1.1).bind fun y => bif FloatKind.f64.format.order y (4715268809856909312:Nat) == some Ordering.gt then some (12,()) else L3 (v0,IntKind.i64.wrap (v1 + 1),v2) else none else some (0,())
def ZhY (k:Nat):Zmf:=Zp (fun L3 => ZbG k L3) k
noncomputable def ZwA (k:Nat) (n:Nat) (v:Ztl) :=
 Zy (Zg6 k) Zti [] [1,1,1,0,1,0] [] (Wh Tryz.f100) (Wp (Zg6 k) Tryz.f100 QU Zf [] []) n (ZK0 v)
def ZKY:Ztj → St
 | (v0,v1,v2,v3) => St.mk (ZC [(13,Zq v0),(14,Zq v1),(12,AV.val (PV.sl (Ty.cx FloatKind.f64) v2)),(0,AV.val (PV.sl (Ty.cx FloatKind.f64) v3))]) (ZA [])
def ZbF (k:Nat) (L2:Zme) (L3:Zmf) (L1:Ze3):Ze3
 | (v0,v1,v2,v3) => bif decide (v1 < v0) then bif decide (0 ≤ v1 ∧ v1 < Int.ofNat v2.length) then L2 (0,(v2.getD v1.toNat ((0:Nat),(0:Nat))).1,(v2.getD v1.toNat ((0:Nat),(0:Nat))).2,v1,v0,v2,v3) else none else L3 (Int.ofNat v3.length,(0:Int),v3)
def Zmg (k:Nat):Ze3:=Zp (fun L1 => ZbF k (ZhX k L1) (ZhY k) L1) k
noncomputable def ZdC (k:Nat) (n:Nat) (v:Ztj) :=
 Zy (Zg6 k) Zti [] [1,1,0,1,0] [] (Wh Tryz.f100) (Wp (Zg6 k) Tryz.f100 QU Zf [] []) n (ZKY v)
def Ze4 (k:Nat) (L1:Ze3):List (Nat × Nat) × Unit → Option (Int × Unit)
 | (a0,()) => bif decide ((8192:Int) < Int.ofNat a0.length) then some (14,()) else L1 (Int.ofNat a0.length,(0:Int),a0,a0)
def Zn2 (k:Nat):=Ze4 k (Zmg k)
theorem ZDv (k:Nat) (n1:Nat):∀ n,ZhZ k n1 n = Zp (fun L2 => YV k (ZdC k n1) L2) n :=
 Zl (fun v => by kernel_rfl) (fun n v => by
  show ZhZ k n1 (n + 1) v = YV k (ZdC k n1) (ZhZ k n1 n) v
  obtain ⟨v0,v1,v2,v3,v4,v5,v6⟩:=v
  kernel_rfl)
theorem ZDw (k:Nat):∀ n,ZwA k n = Zp (fun L3 => ZbG k L3) n :=
 Zl (fun v => by kernel_rfl) (fun n v => by
  obtain ⟨v0,v1,v2⟩:=v
  kernel_rfl)
theorem ZDu (k:Nat):∀ n,ZdC k n = Zp (fun L1 => ZbF k (ZhX k L1) (ZhY k) L1) n :=
 Zl (fun v => by kernel_rfl) (fun n v => by
  rw [show (ZhX k (ZdC k n)) = ZhZ k n k from (ZDv k n k).symm,show (ZhY k) = ZwA k k from (ZDw k k).symm]
  obtain ⟨v0,v1,v2,v3⟩:=v
  kernel_rfl)
theorem ZK1 (k:Nat) (x:Kd.dens QU):ZF (Zg6 k) Zti Tryz.f100 QU Zf x = Zn2 k x:=by
 show _ = Ze4 k (Zmg k) x
 rw [show Zmg k = ZdC k k from (ZDu k k).symm]
 obtain ⟨a0,⟨⟩⟩:=x
 kernel_rfl
theorem ZGn (k:Nat):Ctr Tryz.prog k 100 (mk QU Zf Zn2) :=
 ZG (fn:=Tryz.f100) (Zh (Za (Zw5 k) (Za (Zw7 k) (Za (Zok k) Zd)))) (by kernel_rfl) (by kernel_rfl) (ZK1 k)
noncomputable abbrev ZPk:Nat × Callee:=(100,mk QU Zf Zn2)
abbrev Zmh:List Kd:=[.view (.cx .f64)]
def Ze5 (k:Nat):(Nat × Nat) × Unit → Option (Nat × Unit)
 | (a0,()) => (cMulBits a0.1 a0.2 (4607182418800017408:Nat) (4607182418800017408:Nat)).bind fun y => some (y.1,())
def Zg7 (k:Nat):=Ze5 k
theorem ZK2 (k:Nat) (x:Kd.dens Zmh):ZF (ZH k) nA Tryz.f101 Zmh QV x = Zg7 k x:=by
 show _ = Ze5 k x
 obtain ⟨a0,⟨⟩⟩:=x
 kernel_rfl
theorem ZGo (k:Nat):Ctr Tryz.prog k 101 (mk Zmh QV Zg7) :=
 ZG (fn:=Tryz.f101) (Zh Zd) (by kernel_rfl) (by kernel_rfl) (ZK2 k)
noncomputable abbrev ZPl:Nat × Callee:=(101,mk Zmh QV Zg7)
def ZrN (k:Nat):Nat × Unit → Option (Bool × Unit)
 | (a0,()) => some (FloatKind.f64.format.order a0 a0 != some Ordering.eq,())
def ZtV (k:Nat):=ZrN k
theorem ZMG (k:Nat) (x:Kd.dens Qb):ZF (ZH k) nA Tryz.f180 Qb Zs x = ZtV k x:=by
 show _ = ZrN k x
 obtain ⟨a0,⟨⟩⟩:=x
 kernel_rfl
theorem ZH0 (k:Nat):Ctr Tryz.prog k 180 (mk Qb Zs ZtV) :=
 ZG (fn:=Tryz.f180) (Zh Zd) (by kernel_rfl) (by kernel_rfl) (ZMG k)
noncomputable abbrev ZQn:Nat × Callee:=(180,mk Qb Zs ZtV)
abbrev ZtW:Kd:=.tup [.view (.fl .f64),.view (.fl .f64)]
noncomputable def ZQo (k:Nat):=Wd k [ZHi,ZIe]
def ZrO (k:Nat):Nat × Unit → Option ((Nat × Nat × Unit) × Unit)
 | (a0,()) => (ZdN k (a0,())).bind fun y => (floatBits BinOp.sub FloatKind.f64 a0 y.1).bind fun y_1 => (ZoS k (y_1,a0,())).bind fun y_2 => some ((y.1,y_2.1,()),())
def ZoL (k:Nat):=ZrO k
theorem ZMH (k:Nat) (x:Kd.dens Qb):ZF (ZQo k) nA Tryz.f181 Qb ZtW x = ZoL k x:=by
 show _ = ZrO k x
 obtain ⟨a0,⟨⟩⟩:=x
 kernel_rfl
theorem ZH1 (k:Nat):Ctr Tryz.prog k 181 (mk Qb ZtW ZoL) :=
 ZG (fn:=Tryz.f181) (Zh (Za (Zw5 k) (Za (ZxC k) Zd))) (by kernel_rfl) (by kernel_rfl) (ZMH k)
noncomputable abbrev ZQp:Nat × Callee:=(181,mk Qb ZtW ZoL)
noncomputable def ZPU (k:Nat):=Wd k [ZHj,ZQn,ZQp]
def Zry (k:Nat):Nat × Unit → Option (Nat × Unit)
 | (a0,()) => bif FloatKind.f64.format.order a0 (0:Nat) == some Ordering.eq then some (a0,()) else (ZtV k (a0,())).bind fun y => bif y.1 then some (a0,()) else (Zky k (a0,0,())).bind fun y => bif y.1 then some (a0,()) else bif FloatKind.f64.format.order a0 (0:Nat) == some Ordering.lt then (ZoL k (a0 ^^^ (9223372036854775808:Nat),())).bind fun y => bif FloatKind.f64.format.order y.1.2.1 (0:Nat) != some Ordering.eq then (floatBits BinOp.add FloatKind.f64 y.1.1 (4607182418800017408:Nat)).bind fun y => some (y ^^^ (9223372036854775808:Nat),()) else some (y.1.1 ^^^ (9223372036854775808:Nat),()) else (ZoL k (a0,())).bind fun y => some (y.1.1,())
def ZzX (k:Nat):=Zry k
theorem ZL3 (k:Nat) (x:Kd.dens Qb):ZF (ZPU k) nA Tryz.f145 Qb QV x = ZzX k x:=by
 show _ = Zry k x
 obtain ⟨a0,⟨⟩⟩:=x
 kernel_rfl
theorem ZHk (k:Nat):Ctr Tryz.prog k 145 (mk Qb QV ZzX) :=
 ZG (fn:=Tryz.f145) (Zh (Za (Zw7 k) (Za (ZH0 k) (Za (ZH1 k) Zd)))) (by kernel_rfl) (by kernel_rfl) (ZL3 k)
noncomputable abbrev ZPV:Nat × Callee:=(145,mk Qb QV ZzX)
noncomputable def ZPm (k:Nat):=Wd k [ZPV]
def Ze6 (k:Nat):Nat × Unit → Option (Nat × Unit)
 | (a0,()) => (WB Ieee.Toward.down a0).bind fun y => some (y,())
def Zn4 (k:Nat):=Ze6 k
theorem ZK3 (k:Nat) (x:Kd.dens Qb):ZF (ZPm k) nA Tryz.f102 Qb QV x = Zn4 k x:=by
 show _ = Ze6 k x
 obtain ⟨a0,⟨⟩⟩:=x
 kernel_rfl
theorem ZGp (k:Nat):Ctr Tryz.prog k 102 (mk Qb QV Zn4) :=
 ZG (fn:=Tryz.f102) (Zh (Za (ZHk k) Zd)) (by kernel_rfl) (by kernel_rfl) (ZK3 k)
noncomputable abbrev ZPn:Nat × Callee:=(102,mk Qb QV Zn4)
abbrev Zpg:List Kd:=[.view (.sl (.cx .f64)),.view (.int .i64)]
abbrev Zhk:Kd:=.tup [.view (.sl (.int .i64)),.view (.sl (.int .i64)),.view (.int .i64)]
noncomputable def ZJc (k:Nat):=Wd k [ZOZ,ZPk,ZPl,ZPn]
def ZOL:Nat → Ann:=fun id => bif Nat.beq id 8 then ⟨[23,24,22,1,8,9],[.slot 8 ((Ty.int IntKind.i64)),.slot 9 ((Ty.int IntKind.i64))]⟩ else ⟨[],[]⟩
abbrev ZAz:=Int × Int × List (Nat × Nat) × Int × List Int × List Int
abbrev ZuE:=ZAz → Option ((List Int × List Int × Int × Unit) × Unit)
def ZRA:ZAz → St
 | (v0,v1,v2,v3,v4,v5) => St.mk (ZC [(23,Zq v0),(24,Zq v1),(22,AV.val (PV.sl (Ty.cx FloatKind.f64) v2)),(1,Zq v3),(8,AV.own 8192),(9,AV.own 8193)]) (ZA [(8192,rsA v4 false),(8193,rsA v5 false)])
def Zeg (k:Nat) (L1:ZuE):ZuE
 | (v0,v1,v2,v3,v4,v5) => bif decide (v1 < v0) then bif decide (0 ≤ v1 ∧ v1 < Int.ofNat v2.length) then bif v3 == 8 then (Zg7 k (((v2.getD v1.toNat ((0:Nat),(0:Nat))).1,(v2.getD v1.toNat ((0:Nat),(0:Nat))).2),())).bind fun y => (floatToIntVal FloatKind.f64 (v2.getD v1.toNat ((0:Nat),(0:Nat))).1 IntKind.i64).bind fun y_1 => bif decide (v4.length + [y_1].length < 2147483648) then (floatToIntVal FloatKind.f64 y.1 IntKind.i64).bind fun y => bif decide (v5.length + [y].length < 2147483648) then L1 (v0,IntKind.i64.wrap (v1 + 1),v2,v3,v4 ++ [y_1],v5 ++ [y]) else none else none else bif v3 == 9 then (Zg7 k (((v2.getD v1.toNat ((0:Nat),(0:Nat))).1,(v2.getD v1.toNat ((0:Nat),(0:Nat))).2),())).bind fun y => (floatToIntVal FloatKind.f64 y.1 IntKind.i64).bind fun y => bif decide (v4.length + [y].length < 2147483648) then (floatToIntVal FloatKind.f64 (v2.getD v1.toNat ((0:Nat),(0:Nat))).2 IntKind.i64).bind fun y_1 => bif decide (v5.length + [y_1].length < 2147483648) then L1 (v0,IntKind.i64.wrap (v1 + 1),v2,v3,v4 ++ [y],v5 ++ [y_1]) else none else none else bif v3 == 10 then (floatBits BinOp.add FloatKind.f64 (v2.getD v1.toNat ((0:Nat),(0:Nat))).1 (v2.getD v1.toNat ((0:Nat),(0:Nat))).2).bind fun y => (floatBits BinOp.quo FloatKind.f64 y (4611686018427387904:Nat)).bind fun y => (Zn4 k (y,())).bind fun y => (Zg7 k (((v2.getD v1.toNat ((0:Nat),(0:Nat))).1,(v2.getD v1.toNat ((0:Nat),(0:Nat))).2),())).bind fun y_1 => (floatToIntVal FloatKind.f64 y.1 IntKind.i64).bind fun y => bif decide (v4.length + [y].length < 2147483648) then (floatToIntVal FloatKind.f64 y_1.1 IntKind.i64).bind fun y_2 => bif decide (v5.length + [y_2].length < 2147483648) then L1 (v0,IntKind.i64.wrap (v1 + 1),v2,v3,v4 ++ [y],v5 ++ [y_2]) else none else none else (floatToIntVal FloatKind.f64 (v2.getD v1.toNat ((0:Nat),(0:Nat))).1 IntKind.i64).bind fun y => bif decide (v4.length + [y].length < 2147483648) then (floatToIntVal FloatKind.f64 (v2.getD v1.toNat ((0:Nat),(0:Nat))).2 IntKind.i64).bind fun y_1 => bif decide (v5.length + [y_1].length < 2147483648) then L1 (v0,IntKind.i64.wrap (v1 + 1),v2,v3,v4 ++ [y],v5 ++ [y_1]) else none else none else none else some ((v4,v5,0,()),())
def ZuF (k:Nat):ZuE:=Zp (fun L1 => Zeg k L1) k
noncomputable def ZCa (k:Nat) (n:Nat) (v:ZAz) :=
 Zy (ZJc k) ZOL [] [1,1,1,1,0,1,0] [] (Wh Tryz.f61) (Wp (ZJc k) Tryz.f61 Zpg Zhk [] []) n (ZRA v)
def ZiT (k:Nat) (L1:ZuE):List (Nat × Nat) × Int × Unit → Option ((List Int × List Int × Int × Unit) × Unit)
 | (a0,a1,()) => (Zsc k (a1,())).bind fun y => bif !y.1 then some (([],[],1,()),()) else (Zn2 k (a0,())).bind fun y => bif y.1 != 0 then some (([],[],y.1,()),()) else L1 (Int.ofNat a0.length,(0:Int),a0,a1,[],[])
def Zpf (k:Nat):=ZiT k (ZuF k)
theorem ZJd (k:Nat):∀ n,ZCa k n = Zp (fun L1 => Zeg k L1) n :=
 Zl (fun v => by kernel_rfl) (fun n v => by
  obtain ⟨v0,v1,v2,v3,v4,v5⟩:=v
  kernel_rfl)
theorem ZRB (k:Nat) (x:Kd.dens Zpg):ZF (ZJc k) ZOL Tryz.f61 Zpg Zhk x = Zpf k x:=by
 show _ = ZiT k (ZuF k) x
 rw [show ZuF k = ZCa k k from (ZJd k k).symm]
 obtain ⟨a0,⟨a1,⟨⟩⟩⟩:=x
 kernel_rfl
theorem ZuG (k:Nat):Ctr Tryz.prog k 61 (mk Zpg Zhk Zpf) :=
 ZG (fn:=Tryz.f61) (Zh (Za (ZCt k) (Za (ZGn k) (Za (ZGo k) (Za (ZGp k) Zd))))) (by kernel_rfl) (by kernel_rfl) (ZRB k)
noncomputable abbrev ZJe:Nat × Callee:=(61,mk Zpg Zhk Zpf)
abbrev Xv:List Kd:=[.view (.sl (.int .i64))]
def ZO5:Nat → Ann:=fun id => bif Nat.beq id 3 then ⟨[8,9,7,3,4],[]⟩ else ⟨[],[]⟩
abbrev ZcV:=Int × Int × List Int × Int × Int
abbrev Zvk:=ZcV → Option (Int × Unit)
def ZSr:ZcV → St
 | (v0,v1,v2,v3,v4) => St.mk (ZC [(8,Zq v0),(9,Zq v1),(7,Xn v2),(3,Zq v3),(4,Zq v4)]) (ZA [])
def Zey (k:Nat) (L1:Zvk):Zvk
 | (v0,v1,v2,v3,v4) => bif decide (v1 < v0) then bif decide (0 ≤ v1 ∧ v1 < Int.ofNat v2.length) then L1 (v0,IntKind.i64.wrap (v1 + 1),v2,IntKind.i64.wrap (v3 + if IntKind.i64.wrap (v2.getD v1.toNat 0 - v4) < IntKind.i64.wrap (v4 - v2.getD v1.toNat 0) then IntKind.i64.wrap (v4 - v2.getD v1.toNat 0) else IntKind.i64.wrap (v2.getD v1.toNat 0 - v4)),v2.getD v1.toNat 0) else none else some (v3,())
def Zvl (k:Nat):Zvk:=Zp (fun L1 => Zey k L1) k
noncomputable def ZCD (k:Nat) (n:Nat) (v:ZcV) :=
 Zy (ZH k) ZO5 [] [1,1,0,1,0] [] (Wh Tryz.f99) (Wp (ZH k) Tryz.f99 Xv Zf [] []) n (ZSr v)
def Zjr (k:Nat) (L1:Zvk):List Int × Unit → Option (Int × Unit)
 | (a0,()) => L1 (Int.ofNat a0.length,(0:Int),a0,(0:Int),(0:Int))
def Zsf (k:Nat):=Zjr k (Zvl k)
theorem ZJU (k:Nat):∀ n,ZCD k n = Zp (fun L1 => Zey k L1) n :=
 Zl (fun v => by kernel_rfl) (fun n v => by
  obtain ⟨v0,v1,v2,v3,v4⟩:=v
  kernel_rfl)
theorem ZSs (k:Nat) (x:Kd.dens Xv):ZF (ZH k) ZO5 Tryz.f99 Xv Zf x = Zsf k x:=by
 show _ = Zjr k (Zvl k) x
 rw [show Zvl k = ZCD k k from (ZJU k k).symm]
 obtain ⟨a0,⟨⟩⟩:=x
 kernel_rfl
theorem ZNG (k:Nat):Ctr Tryz.prog k 99 (mk Xv Zf Zsf) :=
 ZG (fn:=Tryz.f99) (Zh Zd) (by kernel_rfl) (by kernel_rfl) (ZSs k)
noncomputable abbrev ZTY:Nat × Callee:=(99,mk Xv Zf Zsf)
abbrev ZQ:Kd:=.tup [.view (.int .i64),.view (.int .i64)]
noncomputable def ZI9 (k:Nat):=Wd k [ZJe,ZTY]
def ZOK:Nat → Ann:=fun id => bif Nat.beq id 3 then ⟨[13,12,0,5,4],[]⟩ else ⟨[],[]⟩
abbrev ZAy:=Int × Int × Int × Int × Int × List (Nat × Nat) × Int × Int
abbrev ZuD:=ZAy → Option ((Int × Int × Unit) × Unit)
def ZRy:ZAy → St
 | (v0,v1,v2,v3,v4,v5,v6,v7) => St.mk (ZC [(13,Zq v0),(12,AV.agg [Zq v1,Zq v2,Zq v3,Zq v4]),(0,AV.val (PV.sl (Ty.cx FloatKind.f64) v5)),(5,Zq v6),(4,Zq v7)]) (ZA [])
def Zcc (k:Nat) (L1:ZuD):ZuD
 | (v0,v1,v2,v3,v4,v5,v6,v7) => bif decide (v0 < 4) then bif decide (0 ≤ v0 ∧ v0 < 4) then (Zpf k (v5,[v1,v2,v3,v4].getD v0.toNat (0:Int),())).bind fun y => bif y.1.2.2.1 != 0 then some ((0,y.1.2.2.1,()),()) else (Zsf k (y.1.1,())).bind fun y_1 => (Zsf k (y.1.2.1,())).bind fun y => bif decide (v6 < 0) then L1 (IntKind.i64.wrap (v0 + 1),v1,v2,v3,v4,v5,IntKind.i64.wrap (y_1.1 + y.1),[v1,v2,v3,v4].getD v0.toNat (0:Int)) else bif decide (IntKind.i64.wrap (y_1.1 + y.1) < v6) then L1 (IntKind.i64.wrap (v0 + 1),v1,v2,v3,v4,v5,IntKind.i64.wrap (y_1.1 + y.1),[v1,v2,v3,v4].getD v0.toNat (0:Int)) else L1 (IntKind.i64.wrap (v0 + 1),v1,v2,v3,v4,v5,v6,v7) else none else some ((v7,0,()),())
def ZAx (k:Nat):ZuD:=Zp (fun L1 => Zcc k L1) k
noncomputable def ZB9 (k:Nat) (n:Nat) (v:ZAy) :=
 Zy (ZI9 k) ZOK [] [1,1,0,1,0] [] (Wh Tryz.f60) (Wp (ZI9 k) Tryz.f60 QU ZQ [] []) n (ZRy v)
def Zx5 (k:Nat) (L1:ZuD):List (Nat × Nat) × Unit → Option ((Int × Int × Unit) × Unit)
 | (a0,()) => L1 (0,(0:Int),(8:Int),(9:Int),(10:Int),a0,(-1:Int),(0:Int))
def Zx4 (k:Nat):=Zx5 k (ZAx k)
theorem ZJa (k:Nat):∀ n,ZB9 k n = Zp (fun L1 => Zcc k L1) n :=
 Zl (fun v => by kernel_rfl) (fun n v => by
  obtain ⟨v0,v1,v2,v3,v4,v5,v6,v7⟩:=v
  kernel_rfl)
theorem ZRz (k:Nat) (x:Kd.dens QU):ZF (ZI9 k) ZOK Tryz.f60 QU ZQ x = Zx4 k x:=by
 show _ = Zx5 k (ZAx k) x
 rw [show ZAx k = ZB9 k k from (ZJa k k).symm]
 obtain ⟨a0,⟨⟩⟩:=x
 kernel_rfl
theorem ZNm (k:Nat):Ctr Tryz.prog k 60 (mk QU ZQ Zx4) :=
 ZG (fn:=Tryz.f60) (Zh (Za (ZuG k) (Za (ZNG k) Zd))) (by kernel_rfl) (by kernel_rfl) (ZRz k)
noncomputable abbrev ZTB:Nat × Callee:=(60,mk QU ZQ Zx4)
abbrev ZdZ:List Kd:=[.view Zhl]
abbrev ZAl:Kd:=.tup [.view (.sl (.sl (.int .i64))),.view (.int .i64),.view (.int .i64)]
noncomputable def ZS4 (k:Nat):=Wd k [ZOJ,ZTB,ZJe]
def Zir (k:Nat):(Int × List (List Int) × Unit) × Unit → Option ((List (List Int) × Int × Int × Unit) × Unit)
 | ((a0,a1,()),()) => bif Int.ofNat a1.length == (1:Int) then some ((a1,0,0,()),()) else bif decide ((0:Int) ≤ 0 ∧ (0:Int) < Int.ofNat a1.length) then bif decide ((0:Int) ≤ 1 ∧ (1:Int) < Int.ofNat a1.length) then (Zpd k (a1.getD 0 [],a1.getD 1 [],())).bind fun y => bif y.1.2.1 != 0 then some (([],0,y.1.2.1,()),()) else (Zx4 k (y.1.1,())).bind fun y_1 => bif y_1.1.2.1 != 0 then some (([],0,y_1.1.2.1,()),()) else (Zpf k (y.1.1,y_1.1.1,())).bind fun y => bif y_1.1.1 == 0 then some (([y.1.1,y.1.2.1],1,y.1.2.2.1,()),()) else some (([y.1.1,y.1.2.1],y_1.1.1,y.1.2.2.1,()),()) else none else none
def ZxJ (k:Nat):=Zir k
theorem ZQP (k:Nat) (x:Kd.dens ZdZ):ZF (ZS4 k) nA Tryz.f24 ZdZ ZAl x = ZxJ k x:=by
 show _ = Zir k x
 obtain ⟨⟨a0,⟨a1,⟨⟩⟩⟩,⟨⟩⟩:=x
 kernel_rfl
theorem ZMW (k:Nat):Ctr Tryz.prog k 24 (mk ZdZ ZAl ZxJ) :=
 ZG (fn:=Tryz.f24) (Zh (Za (ZB8 k) (Za (ZNm k) (Za (ZuG k) Zd)))) (by kernel_rfl) (by kernel_rfl) (ZQP k)
noncomputable abbrev ZS5:Nat × Callee:=(24,mk ZdZ ZAl ZxJ)
abbrev Zd0:List Kd:=[]
abbrev ZAm:Kd:=.box [.own (.int .u8) false,.view (.int .i64)]
def ZxK (k:Nat):Unit → Option ((List Int × Int × Unit) × Unit)
 | () => some (([],0,()),())
def ZoY (k:Nat):=ZxK k
theorem ZQQ (k:Nat) (x:Kd.dens Zd0):ZF (ZH k) nA Tryz.f25 Zd0 ZAm x = ZoY k x:=by
 show _ = ZxK k x
 obtain ⟨⟩:=x
 kernel_rfl
theorem ZMX (k:Nat):Ctr Tryz.prog k 25 (mk Zd0 ZAm ZoY) :=
 ZG (fn:=Tryz.f25) (Zh Zd) (by kernel_rfl) (by kernel_rfl) (ZQQ k)
noncomputable abbrev ZS6:Nat × Callee:=(25,mk Zd0 ZAm ZoY)
def ZiU (k:Nat):Int × Unit → Option (Bool × Unit)
 | (a0,()) => bif decide (a0 < 0) then some (true,()) else some (decide ((32:Int) < a0),())
def Zpi (k:Nat):=ZiU k
theorem ZRC (k:Nat) (x:Kd.dens Zt):ZF (ZH k) nA Tryz.f62 Zt Zs x = Zpi k x:=by
 show _ = ZiU k x
 obtain ⟨a0,⟨⟩⟩:=x
 kernel_rfl
theorem ZuH (k:Nat):Ctr Tryz.prog k 62 (mk Zt Zs Zpi) :=
 ZG (fn:=Tryz.f62) (Zh Zd) (by kernel_rfl) (by kernel_rfl) (ZRC k)
noncomputable abbrev ZOM:Nat × Callee:=(62,mk Zt Zs Zpi)
abbrev K0:List Kd:=[.box [.own (.int .u8) false,.view (.int .i64)],.view (.int .i64)]
abbrev Qy:Kd:=.tup []
def Ze7 (k:Nat):(List Int × Int × Unit) × Int × Unit → Option (Unit × (List Int × Int × Unit) × Unit)
 | ((a0,a1,()),a2,()) => bif a1.tmod (8:Int) == 0 then bif decide (a0.length + (1:Nat) < (2147483648:Nat)) then bif decide (0 ≤ IntKind.i64.wrap (a1.tdiv (8:Int)) ∧ IntKind.i64.wrap (a1.tdiv (8:Int)) < Int.ofNat (a0 ++ [(0:Int)]).length) then bif decide ((IntKind.i64.wrap (a1.tdiv (8:Int))).toNat < (a0 ++ [(0:Int)]).length) then bif decide (0 ≤ IntKind.i64.wrap ((7:Int) - a1.tmod (8:Int))) then bif decide (0 ≤ IntKind.i64.wrap (a1.tdiv (8:Int)) ∧ IntKind.i64.wrap (a1.tdiv (8:Int)) < Int.ofNat (a0 ++ [(0:Int)]).length) then bif decide ((IntKind.i64.wrap (a1.tdiv (8:Int))).toNat < (a0 ++ [(0:Int)]).length) then some ((),((a0 ++ [(0:Int)]).set (IntKind.i64.wrap (a1.tdiv (8:Int))).toNat (IntKind.u8.wrap (Int.ofNat (BitVec.ofInt 8 ((a0 ++ [(0:Int)]).getD (IntKind.i64.wrap (a1.tdiv (8:Int))).toNat 0) ||| BitVec.ofInt 8 (IntKind.u8.wrap (IntKind.i64.wrap (a2 * (2:Int) ^ min (IntKind.i64.wrap ((7:Int) - a1.tmod (8:Int))).toNat 64)))).toNat)),IntKind.i64.wrap (a1 + 1),()),()) else none else none else none else none else none else none else bif decide (0 ≤ IntKind.i64.wrap (a1.tdiv (8:Int)) ∧ IntKind.i64.wrap (a1.tdiv (8:Int)) < Int.ofNat a0.length) then bif decide ((IntKind.i64.wrap (a1.tdiv (8:Int))).toNat < a0.length) then bif decide (0 ≤ IntKind.i64.wrap ((7:Int) - a1.tmod (8:Int))) then bif decide (0 ≤ IntKind.i64.wrap (a1.tdiv (8:Int)) ∧ IntKind.i64.wrap (a1.tdiv (8:Int)) < Int.ofNat a0.length) then bif decide ((IntKind.i64.wrap (a1.tdiv (8:Int))).toNat < a0.length) then some ((),(a0.set (IntKind.i64.wrap (a1.tdiv (8:Int))).toNat (IntKind.u8.wrap (Int.ofNat (BitVec.ofInt 8 (a0.getD (IntKind.i64.wrap (a1.tdiv (8:Int))).toNat 0) ||| BitVec.ofInt 8 (IntKind.u8.wrap (IntKind.i64.wrap (a2 * (2:Int) ^ min (IntKind.i64.wrap ((7:Int) - a1.tmod (8:Int))).toNat 64)))).toNat)),IntKind.i64.wrap (a1 + 1),()),()) else none else none else none else none else none
def Zg8 (k:Nat):=Ze7 k
theorem ZK4 (k:Nat) (x:Kd.dens K0):ZF (ZH k) nA Tryz.f103 K0 Qy x = Zg8 k x:=by
 show _ = Ze7 k x
 obtain ⟨⟨a0,⟨a1,⟨⟩⟩⟩,⟨a2,⟨⟩⟩⟩:=x
 kernel_rfl
theorem ZwB (k:Nat):Ctr Tryz.prog k 103 (mk K0 Qy Zg8) :=
 ZG (fn:=Tryz.f103) (Zh Zd) (by kernel_rfl) (by kernel_rfl) (ZK4 k)
noncomputable abbrev ZPo:Nat × Callee:=(103,mk K0 Qy Zg8)
abbrev Zpk:List Kd:=[.box [.own (.int .u8) false,.view (.int .i64)],.view (.int .u64),.view (.int .i64)]
noncomputable def Zr2 (k:Nat):=Wd k [ZPo]
def ZON:Nat → Ann:=fun id => bif Nat.beq id 1 then ⟨[6,0,1],[]⟩ else ⟨[],[]⟩
abbrev ZcT:=Int × Int × Int × List Int
abbrev ZuI:=ZcT → Option (Unit × (List Int × Int × Unit) × Unit)
def ZRD:ZcT → St
 | (v0,v1,v2,v3) => St.mk (ZC [(6,Zq v0),(0,AV.bx 0 0),(1,AV.val (PV.v (Value.int IntKind.u64 v1)))]) (ZA [(0,Wb [AV.own 8192,Zq v2]),(8192,RS.live (Res.arr (Ty.int IntKind.u8) v3 false))])
def Zeh (k:Nat) (L1:ZuI):ZuI
 | (v0,v1,v2,v3) => bif decide (0 ≤ v0) then bif decide (0 ≤ v0) then (Zg8 k ((v3,v2,()),IntKind.i64.wrap (IntKind.u64.wrap (Int.ofNat (BitVec.ofInt 64 (v1.fdiv ((2:Int) ^ min v0.toNat 64)) &&& BitVec.ofInt 64 (1:Int)).toNat)),())).bind fun y => L1 (IntKind.i64.wrap (v0 - 1),v1,y.2.1.2.1,y.2.1.1) else none else some ((),(v3,v2,()),())
def ZuJ (k:Nat):ZuI:=Zp (fun L1 => Zeh k L1) k
noncomputable def ZCb (k:Nat) (n:Nat) (v:ZcT) :=
 Zy (Zr2 k) ZON [0] [1,0] [] (Wh Tryz.f63) (Wp (Zr2 k) Tryz.f63 Zpk Qy [AV.bx (nat_lit 0) (nat_lit 0)] [[]]) n (ZRD v)
def ZiV (k:Nat) (L1:ZuI):(List Int × Int × Unit) × Int × Int × Unit → Option (Unit × (List Int × Int × Unit) × Unit)
 | ((a0,a1,()),a2,a3,()) => L1 (IntKind.i64.wrap (a3 - 1),a2,a1,a0)
def Zdh (k:Nat):=ZiV k (ZuJ k)
theorem ZJf (k:Nat):∀ n,ZCb k n = Zp (fun L1 => Zeh k L1) n :=
 Zl (fun v => by kernel_rfl) (fun n v => by
  obtain ⟨v0,v1,v2,v3⟩:=v
  kernel_rfl)
theorem ZRE (k:Nat) (x:Kd.dens Zpk):ZF (Zr2 k) ZON Tryz.f63 Zpk Qy x = Zdh k x:=by
 show _ = ZiV k (ZuJ k) x
 rw [show ZuJ k = ZCb k k from (ZJf k k).symm]
 obtain ⟨⟨a0,⟨a1,⟨⟩⟩⟩,⟨a2,⟨a3,⟨⟩⟩⟩⟩:=x
 kernel_rfl
theorem ZCc (k:Nat):Ctr Tryz.prog k 63 (mk Zpk Qy Zdh) :=
 ZG (fn:=Tryz.f63) (Zh (Za (ZwB k) Zd)) (by kernel_rfl) (by kernel_rfl) (ZRE k)
noncomputable abbrev ZTC:Nat × Callee:=(63,mk Zpk Qy Zdh)
abbrev Zd1:List Kd:=[.box [.own (.int .u8) false,.view (.int .i64)],.view (.int .i64),.view (.int .i64)]
noncomputable def ZOq (k:Nat):=Wd k [ZOM,ZTC]
def Zis (k:Nat):(List Int × Int × Unit) × Int × Int × Unit → Option (Int × (List Int × Int × Unit) × Unit)
 | ((a0,a1,()),a2,a3,()) => (Zpi k (a3,())).bind fun y => bif y.1 then some (1,(a0,a1,()),()) else bif decide (a2 < 0) then some (12,(a0,a1,()),()) else bif decide (0 ≤ a3) then bif a2.fdiv ((2:Int) ^ min a3.toNat 64) != (0:Int) then some (12,(a0,a1,()),()) else (Zdh k ((a0,a1,()),IntKind.u64.wrap a2,a3,())).bind fun y => some (0,(y.2.1.1,y.2.1.2.1,()),()) else none
def QM (k:Nat):=Zis k
theorem ZQR (k:Nat) (x:Kd.dens Zd1):ZF (ZOq k) nA Tryz.f26 Zd1 Zf x = QM k x:=by
 show _ = Zis k x
 obtain ⟨⟨a0,⟨a1,⟨⟩⟩⟩,⟨a2,⟨a3,⟨⟩⟩⟩⟩:=x
 kernel_rfl
theorem Zt8 (k:Nat):Ctr Tryz.prog k 26 (mk Zd1 Zf QM) :=
 ZG (fn:=Tryz.f26) (Zh (Za (ZuH k) (Za (ZCc k) Zd))) (by kernel_rfl) (by kernel_rfl) (ZQR k)
noncomputable abbrev ZIq:Nat × Callee:=(26,mk Zd1 Zf QM)
def ZiW (k:Nat):Int × Unit → Option (Int × Unit)
 | (a0,()) => bif a0 == 1 then some (7,()) else some (IntKind.i64.wrap (IntKind.i64.wrap ((5:Int) * a0) + 1),())
def Zr3 (k:Nat):=ZiW k
theorem ZRF (k:Nat) (x:Kd.dens Zt):ZF (ZH k) nA Tryz.f64 Zt Zf x = Zr3 k x:=by
 show _ = ZiW k x
 obtain ⟨a0,⟨⟩⟩:=x
 kernel_rfl
theorem ZCd (k:Nat):Ctr Tryz.prog k 64 (mk Zt Zf Zr3) :=
 ZG (fn:=Tryz.f64) (Zh Zd) (by kernel_rfl) (by kernel_rfl) (ZRF k)
noncomputable abbrev ZOO:Nat × Callee:=(64,mk Zt Zf Zr3)
abbrev Zo1:Kd:=.tup [.view (.sl (.int .u8)),.view (.int .i64)]
noncomputable def ZxL (k:Nat):=Wd k [ZOO]
def ZIr:Nat → Ann:=fun id => bif Nat.beq id 10 then ⟨[6,5,0,4],[]⟩ else bif Nat.beq id 6 then ⟨[0,4],[]⟩ else ⟨[],[]⟩
abbrev Zua:=ZcT → Option ((List Int × Int × Unit) × Unit)
abbrev ZAn:=Int × Int
abbrev Zt9:=ZAn → Option ((List Int × Int × Unit) × Unit)
def ZQT:ZcT → St
 | (v0,v1,v2,v3) => St.mk (ZC [(6,Zq v0),(5,AV.own 8192),(0,Zq v1),(4,Zq v2)]) (ZA [(8192,RS.live (Res.arr (Ty.int IntKind.u8) v3 false))])
def Zd3 (k:Nat) (L2:Zua):Zua
 | (v0,v1,v2,v3) => bif decide ((0:Int) < v0) then bif decide (0 ≤ v0 ∧ v0 < Int.ofNat v3.length) then bif decide (v0.toNat < v3.length) then L2 (IntKind.i64.wrap (v0 - 1),v1.fdiv (64:Int),v2,v3.set v0.toNat (IntKind.u8.wrap (Int.ofNat (BitVec.ofInt 8 (128:Int) ||| BitVec.ofInt 8 (IntKind.u8.wrap (IntKind.i64.wrap (Int.ofNat (BitVec.ofInt 64 v1 &&& BitVec.ofInt 64 (63:Int)).toNat)))).toNat))) else none else none else bif decide (0 ≤ v2) then bif decide ((0:Int) ≤ 0 ∧ (0:Int) < Int.ofNat v3.length) then bif decide ((0:Nat) < v3.length) then some ((v3.set (0:Nat) (IntKind.u8.wrap (Int.ofNat (BitVec.ofInt 8 (IntKind.u8.wrap (Int.fdiv (65280:Int) ((2:Int) ^ min v2.toNat 64))) ||| BitVec.ofInt 8 (IntKind.u8.wrap v1)).toNat)),0,()),()) else none else none else none
def Zo0 (k:Nat):Zua:=Zp (fun L2 => Zd3 k L2) k
noncomputable def ZBQ (k:Nat) (n:Nat) (v:ZcT) :=
 Zy (ZxL k) ZIr [] [1,1,1,1,1,1,0,1,0] [] (Wh Tryz.f27) (Wp (ZxL k) Tryz.f27 Zt Zo1 [] []) n (ZQT v)
def ZQS:ZAn → St
 | (v0,v1) => St.mk (ZC [(0,Zq v0),(4,Zq v1)]) (ZA [])
def Zd2 (k:Nat) (L2:Zua) (L1:Zt9):Zt9
 | (v0,v1) => (Zr3 k (v1,())).bind fun y => bif decide ((0:Int) ≤ y.1) then bif decide ((0:Int) < v0.fdiv ((2:Int) ^ min (Int.toNat y.1) (64:Nat))) then L1 (v0,IntKind.i64.wrap (v1 + 1)) else bif decide (0 ≤ v1 ∧ v1 ≤ v1 ∧ v1 < 4294967296) then L2 (IntKind.i64.wrap (v1 - 1),v0,v1,List.replicate v1.toNat (0:Int)) else none else none
def Zub (k:Nat):Zt9:=Zp (fun L1 => Zd2 k (Zo0 k) L1) k
noncomputable def ZBP (k:Nat) (n:Nat) (v:ZAn) :=
 Zy (ZxL k) ZIr [] [1,1,1,1,0,0] [] (Wh Tryz.f27) (Wp (ZxL k) Tryz.f27 Zt Zo1 [] []) n (ZQS v)
def Zit (k:Nat) (L1:Zt9):Int × Unit → Option ((List Int × Int × Unit) × Unit)
 | (a0,()) => bif decide (a0 < 0) then some (([],12,()),()) else bif decide ((68719476735:Int) < a0) then some (([],12,()),()) else bif decide (a0 < 128) then some (([IntKind.u8.wrap a0],0,()),()) else L1 (a0,(2:Int))
def ZoZ (k:Nat):=Zit k (Zub k)
theorem ZIt (k:Nat):∀ n,ZBQ k n = Zp (fun L2 => Zd3 k L2) n :=
 Zl (fun v => by kernel_rfl) (fun n v => by
  obtain ⟨v0,v1,v2,v3⟩:=v
  kernel_rfl)
theorem ZIs (k:Nat):∀ n,ZBP k n = Zp (fun L1 => Zd2 k (Zo0 k) L1) n :=
 Zl (fun v => by kernel_rfl) (fun n v => by
  rw [show (Zo0 k) = ZBQ k k from (ZIt k k).symm]
  obtain ⟨v0,v1⟩:=v
  kernel_rfl)
theorem ZQU (k:Nat) (x:Kd.dens Zt):ZF (ZxL k) ZIr Tryz.f27 Zt Zo1 x = ZoZ k x:=by
 show _ = Zit k (Zub k) x
 rw [show Zub k = ZBP k k from (ZIs k k).symm]
 obtain ⟨a0,⟨⟩⟩:=x
 kernel_rfl
theorem ZMY (k:Nat):Ctr Tryz.prog k 27 (mk Zt Zo1 ZoZ) :=
 ZG (fn:=Tryz.f27) (Zh (Za (ZCd k) Zd)) (by kernel_rfl) (by kernel_rfl) (ZQU k)
noncomputable abbrev ZS7:Nat × Callee:=(27,mk Zt Zo1 ZoZ)
abbrev ZkS:List Kd:=[.view (.sl (.int .u8)),.view (.int .i64),.view (.int .u64)]
def ZJg:Nat → Ann:=fun id => bif Nat.beq id 7 then ⟨[24,7,1,2,13,12,11],[]⟩ else bif Nat.beq id 3 then ⟨[12,13,11,7,1,2],[]⟩ else ⟨[],[]⟩
abbrev ZAB:=Int × Int × Int × Int × Int × Int × List Int
abbrev ZuK:=ZAB → Option (Int × Unit)
abbrev ZAA:=Int × Int × List Int × Int × Int × Int
abbrev ZkR:=ZAA → Option (Int × Unit)
def ZRH:ZAB → St
 | (v0,v1,v2,v3,v4,v5,v6) => St.mk (ZC [(24,Zq v0),(7,AV.val (PV.v (Value.int IntKind.u64 v1))),(1,Zq v2),(2,AV.val (PV.v (Value.int IntKind.u64 v3))),(13,Zq v4),(12,Zq v5),(11,AV.val (PV.sl (Ty.int IntKind.u8) v6))]) (ZA [])
def Zcd (k:Nat) (L1:ZkR) (L2:ZuK):ZuK
 | (v0,v1,v2,v3,v4,v5,v6) => bif decide (v0 < 8) then bif decide (0 ≤ IntKind.i64.wrap (v2 - 1)) then bif decide (0 ≤ v2) then L2 (IntKind.i64.wrap (v0 + 1),IntKind.u64.wrap (Int.ofNat (BitVec.ofInt 64 (IntKind.u64.wrap (Int.ofNat (BitVec.ofInt 64 (IntKind.u64.wrap (v1 * (2:Int))) &&& BitVec.ofInt 64 (IntKind.u64.wrap (IntKind.u64.wrap ((1:Int) * (2:Int) ^ min v2.toNat 64) - (1:Int)))).toNat)) ^^^ BitVec.ofInt 64 (IntKind.u64.wrap (IntKind.u64.wrap (Int.ofNat (BitVec.ofInt 64 (v1.fdiv ((2:Int) ^ min (IntKind.i64.wrap (v2 - 1)).toNat 64)) &&& BitVec.ofInt 64 (1:Int)).toNat) * v3))).toNat),v2,v3,v4,v5,v6) else none else none else L1 (v5,IntKind.i64.wrap (v4 + 1),v6,v1,v2,v3)
def ZuM (k:Nat) (L1:ZkR):ZuK:=Zp (fun L2 => Zcd k L1 L2) k
noncomputable def Zni (k:Nat) (n1:Nat) (n:Nat) (v:ZAB):Option (Int × Unit) :=
 Zy (ZH k) ZJg [] [1,1,0,1,0,0,1,1,0,0,1,1,1,0] [n1] (Wh Tryz.f65) (Wp (ZH k) Tryz.f65 ZkS Zf [] []) n (ZRH v)
def ZRG:ZAA → St
 | (v0,v1,v2,v3,v4,v5) => St.mk (ZC [(12,Zq v0),(13,Zq v1),(11,AV.val (PV.sl (Ty.int IntKind.u8) v2)),(7,AV.val (PV.v (Value.int IntKind.u64 v3))),(1,Zq v4),(2,AV.val (PV.v (Value.int IntKind.u64 v5)))]) (ZA [])
def Zei (k:Nat) (L2:ZuK) (L1:ZkR):ZkR
 | (v0,v1,v2,v3,v4,v5) => bif decide (v1 < v0) then bif decide (0 ≤ v1 ∧ v1 < Int.ofNat v2.length) then bif decide (0 ≤ IntKind.i64.wrap (v4 - 8)) then L2 (0,IntKind.u64.wrap (Int.ofNat (BitVec.ofInt 64 v3 ^^^ BitVec.ofInt 64 (IntKind.u64.wrap (IntKind.u64.wrap (v2.getD v1.toNat 0) * (2:Int) ^ min (IntKind.i64.wrap (v4 - 8)).toNat 64))).toNat),v4,v5,v1,v0,v2) else none else none else some (IntKind.i64.wrap v3,())
def ZuL (k:Nat):ZkR:=Zp (fun L1 => Zei k (ZuM k L1) L1) k
noncomputable def ZiX (k:Nat) (n:Nat) (v:ZAA) :=
 Zy (ZH k) ZJg [] [1,1,0,1,0] [] (Wh Tryz.f65) (Wp (ZH k) Tryz.f65 ZkS Zf [] []) n (ZRG v)
def ZiY (k:Nat) (L1:ZkR):List Int × Int × Int × Unit → Option (Int × Unit)
 | (a0,a1,a2,()) => L1 (Int.ofNat a0.length,(0:Int),a0,(0:Int),a1,a2)
def ZgF (k:Nat):=ZiY k (ZuL k)
theorem ZJi (k:Nat) (n1:Nat):∀ n,Zni k n1 n = Zp (fun L2 => Zcd k (ZiX k n1) L2) n :=
 Zl (fun v => by kernel_rfl) (fun n v => by
  show Zni k n1 (n + 1) v = Zcd k (ZiX k n1) (Zni k n1 n) v
  obtain ⟨v0,v1,v2,v3,v4,v5,v6⟩:=v
  kernel_rfl)
theorem ZJh (k:Nat):∀ n,ZiX k n = Zp (fun L1 => Zei k (ZuM k L1) L1) n :=
 Zl (fun v => by kernel_rfl) (fun n v => by
  rw [show (ZuM k (ZiX k n)) = Zni k n k from (ZJi k n k).symm]
  obtain ⟨v0,v1,v2,v3,v4,v5⟩:=v
  kernel_rfl)
theorem ZRI (k:Nat) (x:Kd.dens ZkS):ZF (ZH k) ZJg Tryz.f65 ZkS Zf x = ZgF k x:=by
 show _ = ZiY k (ZuL k) x
 rw [show ZuL k = ZiX k k from (ZJh k k).symm]
 obtain ⟨a0,⟨a1,⟨a2,⟨⟩⟩⟩⟩:=x
 kernel_rfl
theorem ZCe (k:Nat):Ctr Tryz.prog k 65 (mk ZkS Zf ZgF) :=
 ZG (fn:=Tryz.f65) (Zh Zd) (by kernel_rfl) (by kernel_rfl) (ZRI k)
noncomputable abbrev ZTD:Nat × Callee:=(65,mk ZkS Zf ZgF)
abbrev Q3:List Kd:=[.view (.sl (.int .u8))]
noncomputable def ZOr (k:Nat):=Wd k [ZTD]
def Ziu (k:Nat):List Int × Unit → Option (Int × Unit)
 | (a0,()) => (ZgF k (a0,8,7,())).bind fun y => some (y.1,())
def ZrV (k:Nat):=Ziu k
theorem ZQV (k:Nat) (x:Kd.dens Q3):ZF (ZOr k) nA Tryz.f28 Q3 Zf x = ZrV k x:=by
 show _ = Ziu k x
 obtain ⟨a0,⟨⟩⟩:=x
 kernel_rfl
theorem ZBR (k:Nat):Ctr Tryz.prog k 28 (mk Q3 Zf ZrV) :=
 ZG (fn:=Tryz.f28) (Zh (Za (ZCe k) Zd)) (by kernel_rfl) (by kernel_rfl) (ZQV k)
noncomputable abbrev ZOs:Nat × Callee:=(28,mk Q3 Zf ZrV)
abbrev Zpm:Kd:=.own (.int .u8) false
def Zr4 (k:Nat):List Int × Unit → Option (List Int × Unit):=fun x => KH x
noncomputable def ZOP (k:Nat):Ctx:={ P:=Tryz.prog,Φ:=phi [],k:=k,live:=fun _ => [] }
noncomputable def Zx8:Code:=ZF7 Tryz.f66
theorem ZCf (k:Nat):Ctr Tryz.prog k 66 (mk Q3 Zpm Zr4) :=
 Zq6 (C:=ZOP k) (A:=fun _ => ⟨[],[]⟩) (Zh Zd) Zhv (f:=66) (fn:=Tryz.f66) (o0:=Zlc (Zba [0] Zx8) 0) (o1:=Zlc (Zba [1,0,0] Zx8) 0) (o2:=Zlc (Zba [1,0,0] Zx8) 1)
  (r0:=0) (r1:=1) (X:=Zba [1,0,1,0] Zx8) (Y:=Zba [1,1] Zx8) (T:=32) (E:=5) (U:=32) (t:=(.int .u8))
  (by kernel_rfl) (by kernel_rfl) (by kernel_rfl) (by kernel_rfl) (by kernel_rfl) (of_decide_eq_true (by kernel_rfl)) (by kernel_rfl) ⟨by kernel_rfl,by kernel_rfl,by kernel_rfl⟩ ⟨by kernel_rfl,by kernel_rfl,by kernel_rfl⟩ ⟨by kernel_rfl,by kernel_rfl,by kernel_rfl⟩ (fun xs => by kernel_rfl) (by kernel_rfl)
noncomputable abbrev ZOQ:Nat × Callee:=(66,mk Q3 Zpm Zr4)
abbrev Zd4:List Kd:=[.box [.own (.int .u8) false,.view (.int .i64)]]
noncomputable def ZS8 (k:Nat):=Wd k [ZOQ] (fun r => bif Nat.beq r 999998 then [66] else [])
def Ziv (k:Nat):(List Int × Int × Unit) × Unit → Option (List Int × (List Int × Int × Unit) × Unit)
 | ((a0,a1,()),()) => (Zr4 k (a0,())).bind fun y => some (y.1,(a0,a1,()),())
def Zo2 (k:Nat):=Ziv k
theorem ZQW (k:Nat) (x:Kd.dens Zd4):ZF (ZS8 k) nA Tryz.f29 Zd4 Zpm x = Zo2 k x:=by
 show _ = Ziv k x
 obtain ⟨⟨a0,⟨a1,⟨⟩⟩⟩,⟨⟩⟩:=x
 kernel_rfl
theorem ZMZ (k:Nat):Ctr Tryz.prog k 29 (mk Zd4 Zpm Zo2) :=
 ZG (fn:=Tryz.f29) (Zh (Za (ZCf k) Zd)) (by kernel_rfl) (by kernel_rfl) (ZQW k)
noncomputable abbrev ZS9:Nat × Callee:=(29,mk Zd4 Zpm Zo2)
abbrev Zd5:List Kd:=[.view shapeT,.view (.int .i64)]
abbrev Yz:Kd:=.view (.sl (.int .i64))
noncomputable def ZTa (k:Nat):=Wd k [] (fun r => bif Nat.beq r 999999 then [1] else [])
def Ziw (k:Nat):(Int × Int × Int × Unit) × Int × Unit → Option (List Int × Unit)
 | ((a0,a1,a2,()),a3,()) => bif decide ((0:Int) ≤ 0 ∧ (0:Int) ≤ a0 ∧ a0 ≤ Int.ofNat [a1,a1].length) then bif a3 == 8 then bif decide ((0:Nat) ≤ a0.toNat ∧ a0.toNat ≤ [a1,a1].length ∧ (0:Int) ≤ 1 ∧ (1:Nat) < a0.toNat - (0:Nat)) then bif decide ((0:Nat) ≤ a0.toNat ∧ a0.toNat ≤ [a1,a1].length ∧ (0:Int) ≤ 1 ∧ (1:Nat) < a0.toNat - (0:Nat)) then bif decide ((0:Nat) ≤ a0.toNat ∧ a0.toNat ≤ ([a1,a1].set (1:Nat) (IntKind.i64.wrap ([a1,a1].getD 1 0 + (1:Int)))).length) then some (List.drop 0 (List.take a0.toNat ([a1,a1].set (1:Nat) (IntKind.i64.wrap ([a1,a1].getD 1 0 + (1:Int))))),()) else none else none else none else bif a3 == 10 then bif decide ((0:Nat) ≤ a0.toNat ∧ a0.toNat ≤ [a1,a1].length ∧ (0:Int) ≤ 1 ∧ (1:Nat) < a0.toNat - (0:Nat)) then bif decide ((0:Nat) ≤ a0.toNat ∧ a0.toNat ≤ [a1,a1].length ∧ (0:Int) ≤ 1 ∧ (1:Nat) < a0.toNat - (0:Nat)) then bif decide ((0:Nat) ≤ a0.toNat ∧ a0.toNat ≤ ([a1,a1].set (1:Nat) (IntKind.i64.wrap ([a1,a1].getD 1 0 + (1:Int)))).length) then some (List.drop 0 (List.take a0.toNat ([a1,a1].set (1:Nat) (IntKind.i64.wrap ([a1,a1].getD 1 0 + (1:Int))))),()) else none else none else none else bif a3 == 9 then bif decide ((0:Nat) ≤ a0.toNat ∧ a0.toNat ≤ [a1,a1].length ∧ (0:Int) ≤ 0 ∧ (0:Nat) < a0.toNat - (0:Nat)) then bif decide ((0:Nat) ≤ a0.toNat ∧ a0.toNat ≤ [a1,a1].length ∧ (0:Int) ≤ 0 ∧ (0:Nat) < a0.toNat - (0:Nat)) then bif decide ((0:Nat) ≤ a0.toNat ∧ a0.toNat ≤ ([a1,a1].set (0:Nat) (IntKind.i64.wrap ([a1,a1].getD 0 0 + (1:Int)))).length) then some (List.drop 0 (List.take a0.toNat ([a1,a1].set (0:Nat) (IntKind.i64.wrap ([a1,a1].getD 0 0 + (1:Int))))),()) else none else none else none else bif decide ((0:Nat) ≤ a0.toNat ∧ a0.toNat ≤ [a1,a1].length) then some (List.drop 0 (List.take a0.toNat [a1,a1]),()) else none else none
def ZrW (k:Nat):=Ziw k
theorem ZQX (k:Nat) (x:Kd.dens Zd5):ZF (ZTa k) nA Tryz.f30 Zd5 Yz x = ZrW k x:=by
 show _ = Ziw k x
 obtain ⟨⟨a0,⟨a1,⟨a2,⟨⟩⟩⟩⟩,⟨a3,⟨⟩⟩⟩:=x
 kernel_rfl
theorem ZBS (k:Nat):Ctr Tryz.prog k 30 (mk Zd5 Yz ZrW) :=
 ZG (fn:=Tryz.f30) (Zh Zd) (by kernel_rfl) (by kernel_rfl) (ZQX k)
noncomputable abbrev ZOt:Nat × Callee:=(30,mk Zd5 Yz ZrW)
abbrev Qw:List Kd:=[.view (.int .i64),.view (.int .i64)]
def Zje (k:Nat):Int × Int × Unit → Option (Bool × Unit)
 | (a0,a1,()) => bif decide (1 ≤ a0) then bif decide (a0 ≤ 512) then bif decide (4 ≤ a1) then some (decide (a1 ≤ 25),()) else some (false,()) else some (false,()) else some (false,())
def Zsa (k:Nat):=Zje k
theorem ZR6 (k:Nat) (x:Kd.dens Qw):ZF (ZH k) nA Tryz.f86 Qw Zs x = Zsa k x:=by
 show _ = Zje k x
 obtain ⟨a0,⟨a1,⟨⟩⟩⟩:=x
 kernel_rfl
theorem ZCr (k:Nat):Ctr Tryz.prog k 86 (mk Qw Zs Zsa) :=
 ZG (fn:=Tryz.f86) (Zh Zd) (by kernel_rfl) (by kernel_rfl) (ZR6 k)
noncomputable abbrev ZOV:Nat × Callee:=(86,mk Qw Zs Zsa)
def Zjh (k:Nat):Int × Int × Unit → Option (Bool × Unit)
 | (a0,a1,()) => bif decide (0 ≤ IntKind.i64.wrap (a1 - 1)) then bif a0.fdiv ((2:Int) ^ min (IntKind.i64.wrap (a1 - 1)).toNat 64) == (0:Int) then some (true,()) else bif decide (0 ≤ IntKind.i64.wrap (a1 - 1)) then some (a0.fdiv ((2:Int) ^ min (IntKind.i64.wrap (a1 - 1)).toNat 64) == (-1:Int),()) else none else none
def Zsb (k:Nat):=Zjh k
theorem ZR9 (k:Nat) (x:Kd.dens Qw):ZF (ZH k) nA Tryz.f89 Qw Zs x = Zsb k x:=by
 show _ = Zjh k x
 obtain ⟨a0,⟨a1,⟨⟩⟩⟩:=x
 kernel_rfl
theorem ZCs (k:Nat):Ctr Tryz.prog k 89 (mk Qw Zs Zsb) :=
 ZG (fn:=Tryz.f89) (Zh Zd) (by kernel_rfl) (by kernel_rfl) (ZR9 k)
noncomputable abbrev ZOX:Nat × Callee:=(89,mk Qw Zs Zsb)
abbrev Zmi:List Kd:=[.view (.int .i64),.box [.view (.int .i64)]]
noncomputable def ZPp (k:Nat):=Wd k [ZOX]
def Ze8 (k:Nat):Int × (Int × Unit) × Unit → Option (Bool × (Int × Unit) × Unit)
 | (a0,(a1,()),()) => (Zsb k (a0,a1,())).bind fun y => some (!y.1,(a1,()),())
def Zn6 (k:Nat):=Ze8 k
theorem ZK7 (k:Nat) (x:Kd.dens Zmi):ZF (ZPp k) nA Tryz.f105 Zmi Zs x = Zn6 k x:=by
 show _ = Ze8 k x
 obtain ⟨a0,⟨⟨a1,⟨⟩⟩,⟨⟩⟩⟩:=x
 kernel_rfl
theorem ZGB (k:Nat):Ctr Tryz.prog k 105 (mk Zmi Zs Zn6) :=
 ZG (fn:=Tryz.f105) (Zh (Za (ZCs k) Zd)) (by kernel_rfl) (by kernel_rfl) (ZK7 k)
noncomputable abbrev ZPq:Nat × Callee:=(105,mk Zmi Zs Zn6)
abbrev XF:List Kd:=[.view (.sl (.int .i64)),.clo 105 [.box [.view (.int .i64)]]]
noncomputable def Zom (k:Nat):=Wd k [ZPq]
def XX:Nat → Ann:=fun id => bif Nat.beq id 2 then ⟨[7,8,1,0],[]⟩ else ⟨[],[]⟩
abbrev Wn:=Int × Int × List Int × Int
abbrev ZfK:=Wn → Option (Int × (Int × Unit) × Unit)
def ZEn:Wn → St
 | (v0,v1,v2,v3) => St.mk (ZC [(7,Zq v0),(8,Zq v1),(1,AV.clo 105 [AV.bx 0 0]),(0,Xn v2)]) (ZA [(0,Wb [Zq v3])])
def Kk (k:Nat) (L1:ZfK):ZfK
 | (v0,v1,v2,v3) => bif decide (v1 < v0) then bif decide (0 ≤ v1 ∧ v1 < Int.ofNat v2.length) then (Zn6 k (v2.getD v1.toNat 0,(v3,()),())).bind fun y => bif y.1 then some (v1,(y.2.1.1,()),()) else L1 (v0,IntKind.i64.wrap (v1 + 1),v2,y.2.1.1) else none else some ((-1:Int),(v3,()),())
def Zkz (k:Nat):ZfK:=Zp (fun L1 => Kk k L1) k
noncomputable def Zon (k:Nat) (n:Nat) (v:Wn) :=
 Zy (Zom k) XX [0] [1,0,1,0] [] (Wh Tryz.f146) (Wp (Zom k) Tryz.f146 XF Zf [AV.bx (nat_lit 0) (nat_lit 0)] [[]]) n (ZEn v)
def ZlF (k:Nat) (L1:ZfK):List Int × ((Int × Unit) × Unit) × Unit → Option (Int × (Int × Unit) × Unit)
 | (a0,((a1,()),()),()) => L1 (Int.ofNat a0.length,(0:Int),a0,a1)
def ZdP (k:Nat):=ZlF k (Zkz k)
theorem Zw9 (k:Nat):∀ n,Zon k n = Zp (fun L1 => Kk k L1) n :=
 Zl (fun v => by kernel_rfl) (fun n v => by
  obtain ⟨v0,v1,v2,v3⟩:=v
  kernel_rfl)
theorem ZEo (k:Nat) (x:Kd.dens XF):ZF (Zom k) XX Tryz.f146 XF Zf x = ZdP k x:=by
 show _ = ZlF k (Zkz k) x
 rw [show Zkz k = Zon k k from (Zw9 k k).symm]
 obtain ⟨a0,⟨⟨⟨a1,⟨⟩⟩,⟨⟩⟩,⟨⟩⟩⟩:=x
 kernel_rfl
theorem ZzY (k:Nat):Ctr Tryz.prog k 146 (mk XF Zf ZdP) :=
 ZG (fn:=Tryz.f146) (Zh (Za (ZGB k) Zd)) (by kernel_rfl) (by kernel_rfl) (ZEo k)
noncomputable abbrev ZHl:Nat × Callee:=(146,mk XF Zf ZdP)
noncomputable def ZGr (k:Nat):=Wd k [ZHl]
def ZaO (k:Nat):List Int × ((Int × Unit) × Unit) × Unit → Option (Bool × (Int × Unit) × Unit)
 | (a0,((a1,()),()),()) => (ZdP k (a0,((a1,()),()),())).bind fun y => some (decide ((0:Int) ≤ y.1),(y.2.1.1,()),())
def ZdD (k:Nat):=ZaO k
theorem ZDy (k:Nat) (x:Kd.dens XF):ZF (ZGr k) nA Tryz.f104 XF Zs x = ZdD k x:=by
 show _ = ZaO k x
 obtain ⟨a0,⟨⟨⟨a1,⟨⟩⟩,⟨⟩⟩,⟨⟩⟩⟩:=x
 kernel_rfl
theorem ZzC (k:Nat):Ctr Tryz.prog k 104 (mk XF Zs ZdD) :=
 ZG (fn:=Tryz.f104) (Zh (Za (ZzY k) Zd)) (by kernel_rfl) (by kernel_rfl) (ZDy k)
noncomputable abbrev ZGs:Nat × Callee:=(104,mk XF Zs ZdD)
abbrev Z5:List Kd:=[.view (.sl (.int .i64)),.view (.int .i64)]
noncomputable def ZTE (k:Nat):=Wd k [ZOV,ZGs]
def ZiZ (k:Nat):List Int × Int × Unit → Option (Int × Unit)
 | (a0,a1,()) => (Zsa k (Int.ofNat a0.length,a1,())).bind fun y => bif !y.1 then some (1,()) else (ZdD k (a0,((a1,()),()),())).bind fun y => bif y.1 then some (12,()) else some (0,())
def Zr5 (k:Nat):=ZiZ k
theorem ZRJ (k:Nat) (x:Kd.dens Z5):ZF (ZTE k) nA Tryz.f67 Z5 Zf x = Zr5 k x:=by
 show _ = ZiZ k x
 obtain ⟨a0,⟨a1,⟨⟩⟩⟩:=x
 kernel_rfl
theorem ZNn (k:Nat):Ctr Tryz.prog k 67 (mk Z5 Zf Zr5) :=
 ZG (fn:=Tryz.f67) (Zh (Za (ZCr k) (Za (ZzC k) Zd))) (by kernel_rfl) (by kernel_rfl) (ZRJ k)
noncomputable abbrev ZTF:Nat × Callee:=(67,mk Z5 Zf Zr5)
abbrev Zmm:List Kd:=[.view (.int .i64),.box [.view (.int .i64),.view (.int .i64),.view (.int .i64),.view (.sl (.int .i64)),.view (.sl (.int .i64)),.view (.int .i64),.view (.sl (.int .i64)),.view (.int .i64)]]
def Zfa (k:Nat):Int × (Int × Int × Int × List Int × List Int × Int × List Int × Int × Unit) × Unit → Option (Bool × (Int × Int × Int × List Int × List Int × Int × List Int × Int × Unit) × Unit)
 | (a0,(a1,a2,a3,a4,a5,a6,a7,a8,()),()) => bif decide ((0:Int) ≤ 0 ∧ (0:Int) < Int.ofNat a4.length) then some (a0 != a4.getD 0 0,(a1,a2,a3,a4,a5,a6,a7,a8,()),()) else none
def Zn9 (k:Nat):=Zfa k
theorem ZLb (k:Nat) (x:Kd.dens Zmm):ZF (ZH k) nA Tryz.f108 Zmm Zs x = Zn9 k x:=by
 show _ = Zfa k x
 obtain ⟨a0,⟨⟨a1,⟨a2,⟨a3,⟨a4,⟨a5,⟨a6,⟨a7,⟨a8,⟨⟩⟩⟩⟩⟩⟩⟩⟩⟩,⟨⟩⟩⟩:=x
 kernel_rfl
theorem ZGF (k:Nat):Ctr Tryz.prog k 108 (mk Zmm Zs Zn9) :=
 ZG (fn:=Tryz.f108) (Zh Zd) (by kernel_rfl) (by kernel_rfl) (ZLb k)
noncomputable abbrev ZPt:Nat × Callee:=(108,mk Zmm Zs Zn9)
abbrev XG:List Kd:=[.view (.sl (.int .i64)),.clo 108 [.box [.view (.int .i64),.view (.int .i64),.view (.int .i64),.view (.sl (.int .i64)),.view (.sl (.int .i64)),.view (.int .i64),.view (.sl (.int .i64)),.view (.int .i64)]]]
noncomputable def Zoo (k:Nat):=Wd k [ZPt]
abbrev ZkB:=Int × Int × List Int × Int × Int × Int × List Int × List Int × Int × List Int × Int
abbrev ZfL:=ZkB → Option (Int × (Int × Int × Int × List Int × List Int × Int × List Int × Int × Unit) × Unit)
def ZEp:ZkB → St
 | (v0,v1,v2,v3,v4,v5,v6,v7,v8,v9,v10) => St.mk (ZC [(7,Zq v0),(8,Zq v1),(1,AV.clo 108 [AV.bx 0 0]),(0,Xn v2)]) (ZA [(0,Wb [Zq v3,Zq v4,Zq v5,Xn v6,Xn v7,Zq v8,Xn v9,Zq v10])])
def Kl (k:Nat) (L1:ZfL):ZfL
 | (v0,v1,v2,v3,v4,v5,v6,v7,v8,v9,v10) => bif decide (v1 < v0) then bif decide (0 ≤ v1 ∧ v1 < Int.ofNat v2.length) then (Zn9 k (v2.getD v1.toNat 0,(v3,v4,v5,v6,v7,v8,v9,v10,()),())).bind fun y => bif y.1 then some (v1,(y.2.1.1,y.2.1.2.1,y.2.1.2.2.1,y.2.1.2.2.2.1,y.2.1.2.2.2.2.1,y.2.1.2.2.2.2.2.1,y.2.1.2.2.2.2.2.2.1,y.2.1.2.2.2.2.2.2.2.1,()),()) else L1 (v0,IntKind.i64.wrap (v1 + 1),v2,y.2.1.1,y.2.1.2.1,y.2.1.2.2.1,y.2.1.2.2.2.1,y.2.1.2.2.2.2.1,y.2.1.2.2.2.2.2.1,y.2.1.2.2.2.2.2.2.1,y.2.1.2.2.2.2.2.2.2.1) else none else some ((-1:Int),(v3,v4,v5,v6,v7,v8,v9,v10,()),())
def ZkA (k:Nat):ZfL:=Zp (fun L1 => Kl k L1) k
noncomputable def Zop (k:Nat) (n:Nat) (v:ZkB) :=
 Zy (Zoo k) XX [0] [1,0,1,0] [] (Wh Tryz.f146) (Wp (Zoo k) Tryz.f146 XG Zf [AV.bx (nat_lit 0) (nat_lit 0)] [[]]) n (ZEp v)
def ZlG (k:Nat) (L1:ZfL):List Int × ((Int × Int × Int × List Int × List Int × Int × List Int × Int × Unit) × Unit) × Unit → Option (Int × (Int × Int × Int × List Int × List Int × Int × List Int × Int × Unit) × Unit)
 | (a0,((a1,a2,a3,a4,a5,a6,a7,a8,()),()),()) => L1 (Int.ofNat a0.length,(0:Int),a0,a1,a2,a3,a4,a5,a6,a7,a8)
def ZdQ (k:Nat):=ZlG k (ZkA k)
theorem Zxa (k:Nat):∀ n,Zop k n = Zp (fun L1 => Kl k L1) n :=
 Zl (fun v => by kernel_rfl) (fun n v => by
  obtain ⟨v0,v1,v2,v3,v4,v5,v6,v7,v8,v9,v10⟩:=v
  kernel_rfl)
theorem ZEq (k:Nat) (x:Kd.dens XG):ZF (Zoo k) XX Tryz.f146 XG Zf x = ZdQ k x:=by
 show _ = ZlG k (ZkA k) x
 rw [show ZkA k = Zop k k from (Zxa k k).symm]
 obtain ⟨a0,⟨⟨⟨a1,⟨a2,⟨a3,⟨a4,⟨a5,⟨a6,⟨a7,⟨a8,⟨⟩⟩⟩⟩⟩⟩⟩⟩⟩,⟨⟩⟩,⟨⟩⟩⟩:=x
 kernel_rfl
theorem ZzZ (k:Nat):Ctr Tryz.prog k 146 (mk XG Zf ZdQ) :=
 ZG (fn:=Tryz.f146) (Zh (Za (ZGF k) Zd)) (by kernel_rfl) (by kernel_rfl) (ZEq k)
noncomputable abbrev ZHm:Nat × Callee:=(146,mk XG Zf ZdQ)
noncomputable def ZGt (k:Nat):=Wd k [ZHm]
def ZaP (k:Nat):List Int × ((Int × Int × Int × List Int × List Int × Int × List Int × Int × Unit) × Unit) × Unit → Option (Bool × (Int × Int × Int × List Int × List Int × Int × List Int × Int × Unit) × Unit)
 | (a0,((a1,a2,a3,a4,a5,a6,a7,a8,()),()),()) => (ZdQ k (a0,((a1,a2,a3,a4,a5,a6,a7,a8,()),()),())).bind fun y => some (decide ((0:Int) ≤ y.1),(y.2.1.1,y.2.1.2.1,y.2.1.2.2.1,y.2.1.2.2.2.1,y.2.1.2.2.2.2.1,y.2.1.2.2.2.2.2.1,y.2.1.2.2.2.2.2.2.1,y.2.1.2.2.2.2.2.2.2.1,()),())
def ZdE (k:Nat):=ZaP k
theorem ZDz (k:Nat) (x:Kd.dens XG):ZF (ZGt k) nA Tryz.f104 XG Zs x = ZdE k x:=by
 show _ = ZaP k x
 obtain ⟨a0,⟨⟨⟨a1,⟨a2,⟨a3,⟨a4,⟨a5,⟨a6,⟨a7,⟨a8,⟨⟩⟩⟩⟩⟩⟩⟩⟩⟩,⟨⟩⟩,⟨⟩⟩⟩:=x
 kernel_rfl
theorem ZzD (k:Nat):Ctr Tryz.prog k 104 (mk XG Zs ZdE) :=
 ZG (fn:=Tryz.f104) (Zh (Za (ZzZ k) Zd)) (by kernel_rfl) (by kernel_rfl) (ZDz k)
noncomputable abbrev ZGu:Nat × Callee:=(104,mk XG Zs ZdE)
abbrev ZmU:List Kd:=[.view (.int .u64)]
def Zz3 (k:Nat):Int × Unit → Option (Int × Unit):=fun x => tzF x
def ZT6:Go.Shelf.Ren:=⟨fun n => match n with | 29 => 147 | _ => 0,fun n => match n with | 0 => 0 | 3 => 3 | 4 => 4 | 5 => 5 | 22 => 49 | 25 => 114 | 54 => 216 | _ => 0,fun n => n⟩
set_option maxRecDepth 100000 in
theorem ZSI:Go.Proofs.Lays7.n29 Tryz.prog ZT6:=by
 constructor <;> first | kernel_rfl | (intro w; rfl)
set_option maxRecDepth 100000 in
theorem ZHq (k:Nat):Ctr Tryz.prog k 147 (mk ZmU Zf Zz3):=ZSJ ZSI (fn:=Tryz.f147) (by kernel_rfl) rfl (by kernel_rfl) (by kernel_rfl) (by kernel_rfl)
noncomputable abbrev ZPW:Nat × Callee:=(147,mk ZmU Zf Zz3)
noncomputable def ZzH (k:Nat):=Wd k [ZPW]
def ZGC:Nat → Ann:=fun id => bif Nat.beq id 3 then ⟨[7,8,6,3],[]⟩ else ⟨[],[]⟩
abbrev Zmj:=Wn → Option (Int × Unit)
def ZK8:Wn → St
 | (v0,v1,v2,v3) => St.mk (ZC [(7,Zq v0),(8,Zq v1),(6,Xn v2),(3,Zq v3)]) (ZA [])
def ZbH (k:Nat) (L1:Zmj):Zmj
 | (v0,v1,v2,v3) => bif decide (v1 < v0) then bif decide (0 ≤ v1 ∧ v1 < Int.ofNat v2.length) then L1 (v0,IntKind.i64.wrap (v1 + 1),v2,IntKind.i64.wrap (Int.ofNat (BitVec.ofInt 64 v3 ||| BitVec.ofInt 64 (v2.getD v1.toNat 0)).toNat)) else none else bif v3 == 0 then some (0,()) else (Zz3 k (IntKind.u64.wrap v3,())).bind fun y => some (y.1,())
def Zmk (k:Nat):Zmj:=Zp (fun L1 => ZbH k L1) k
noncomputable def ZwG (k:Nat) (n:Nat) (v:Wn) :=
 Zy (ZzH k) ZGC [] [1,1,0,1,0] [] (Wh Tryz.f106) (Wp (ZzH k) Tryz.f106 Xv Zf [] []) n (ZK8 v)
def Ze9 (k:Nat) (L1:Zmj):List Int × Unit → Option (Int × Unit)
 | (a0,()) => L1 (Int.ofNat a0.length,(0:Int),a0,(0:Int))
def Zn7 (k:Nat):=Ze9 k (Zmk k)
theorem ZDF (k:Nat):∀ n,ZwG k n = Zp (fun L1 => ZbH k L1) n :=
 Zl (fun v => by kernel_rfl) (fun n v => by
  obtain ⟨v0,v1,v2,v3⟩:=v
  kernel_rfl)
theorem ZK9 (k:Nat) (x:Kd.dens Xv):ZF (ZzH k) ZGC Tryz.f106 Xv Zf x = Zn7 k x:=by
 show _ = Ze9 k (Zmk k) x
 rw [show Zmk k = ZwG k k from (ZDF k k).symm]
 obtain ⟨a0,⟨⟩⟩:=x
 kernel_rfl
theorem ZGD (k:Nat):Ctr Tryz.prog k 106 (mk Xv Zf Zn7) :=
 ZG (fn:=Tryz.f106) (Zh (Za (ZHq k) Zd)) (by kernel_rfl) (by kernel_rfl) (ZK9 k)
noncomputable abbrev ZPr:Nat × Callee:=(106,mk Xv Zf Zn7)
abbrev WY:Kd:=.tup [.view ZeI,.view (.int .i64)]
def Ztm:Nat → Ann:=fun id => bif Nat.beq id 17 then ⟨[48,49,47,8,2],[.cell 8 0 ((Ty.int IntKind.i64))]⟩ else bif Nat.beq id 9 then ⟨[29,30,28,5,20,19,2],[]⟩ else bif Nat.beq id 5 then ⟨[19,20,4,2],[]⟩ else ⟨[],[]⟩
abbrev Ztq:=Int × Int × Int × Int × List Int × List Int × Int
abbrev Zmn:=Ztq → Option (((List Int × Int × Unit) × Int × Unit) × Unit)
abbrev K1:=Int × Int × List Int × Int × List Int × Int
abbrev Zmo:=K1 → Option (((List Int × Int × Unit) × Int × Unit) × Unit)
abbrev Zfb:=Wn → Option (((List Int × Int × Unit) × Int × Unit) × Unit)
def ZLd:Ztq → St
 | (v0,v1,v2,v3,v4,v5,v6) => St.mk (ZC [(29,Zq v0),(30,Zq v1),(28,AV.own 8192),(5,AV.own 8193),(20,Zq v2),(19,Zq v3),(2,AV.bx 8194 0)]) (ZA [(8192,rsA v4 false),(8193,rsA v5 false),(8194,Wb [AV.val (PV.v (Value.slice none (0:Nat) (0:Nat))),Zq v6])])
def Zkj (k:Nat) (L1:Zfb) (L2:Zmn):Zmn
 | (v0,v1,v2,v3,v4,v5,v6) => bif decide (v1 < v0) then bif decide (0 ≤ v1 ∧ v1 < Int.ofNat v4.length) then bif decide (v1.toNat < v4.length) then bif decide (0 ≤ IntKind.i64.wrap (v1 + 1) ∧ IntKind.i64.wrap (v1 + 1) < Int.ofNat v5.length) then bif decide ((IntKind.i64.wrap (v1 + 1)).toNat < v5.length) then bif decide (0 ≤ IntKind.i64.wrap (v1 + 1) ∧ IntKind.i64.wrap (v1 + 1) < Int.ofNat v5.length) then bif decide ((IntKind.i64.wrap (v1 + 1)).toNat < v5.length) then L2 (v0,IntKind.i64.wrap (v1 + 1),v2,v3,v4,v5.set (IntKind.i64.wrap (v1 + 1)).toNat (IntKind.i64.wrap (v5.getD (IntKind.i64.wrap (v1 + 1)).toNat 0 - v4.getD v1.toNat 0)),v6) else none else none else none else none else none else none else L1 (v3,IntKind.i64.wrap (v2 + 1),v5,v6)
def Zto (k:Nat) (L1:Zfb):Zmn:=Zp (fun L2 => Zkj k L1 L2) k
noncomputable def Zh2 (k:Nat) (n1:Nat) (n:Nat) (v:Ztq):Option (((List Int × Int × Unit) × Int × Unit) × Unit) :=
 Zy (ZH k) Ztm [] [1,1,1,0,1,0,0,1,1,0,0,1,1,0,1,0] [n1] (Wh Tryz.f109) (Wp (ZH k) Tryz.f109 Zt WY [] []) n (ZLd v)
def ZLe:K1 → St
 | (v0,v1,v2,v3,v4,v5) => St.mk (ZC [(48,Zq v0),(49,Zq v1),(47,Xn v2),(8,AV.bx 8192 0),(2,AV.bx 8194 0)]) (ZA [(8192,Wb [AV.own 8193,Zq v3]),(8193,rsA v4 false),(8194,Wb [AV.val (PV.v (Value.slice none (0:Nat) (0:Nat))),Zq v5])])
def Zri (k:Nat) (L3:Zmo):Zmo
 | (v0,v1,v2,v3,v4,v5) => bif decide (v1 < v0) then bif decide (0 ≤ v1 ∧ v1 < Int.ofNat v2.length) then bif decide (v4.length + [IntKind.i64.wrap ((0:Int) - v2.getD v1.toNat 0)].length < 2147483648) then L3 (v0,IntKind.i64.wrap (v1 + 1),v2,v3,v4 ++ [IntKind.i64.wrap ((0:Int) - v2.getD v1.toNat 0)],v5) else none else none else some (((v4,v3,()),0,()),())
def Ztp (k:Nat):Zmo:=Zp (fun L3 => Zri k L3) k
noncomputable def ZwH (k:Nat) (n:Nat) (v:K1) :=
 Zy (ZH k) Ztm [] [1,1,1,1,1,0,1,0] [] (Wh Tryz.f109) (Wp (ZH k) Tryz.f109 Zt WY [] []) n (ZLe v)
def ZLc:Wn → St
 | (v0,v1,v2,v3) => St.mk (ZC [(19,Zq v0),(20,Zq v1),(4,AV.own 8192),(2,AV.bx 8193 0)]) (ZA [(8192,rsA v2 false),(8193,Wb [AV.val (PV.v (Value.slice none (0:Nat) (0:Nat))),Zq v3])])
def Zrh (k:Nat) (L2:Zmn) (L3:Zmo) (L1:Zfb):Zfb
 | (v0,v1,v2,v3) => bif decide (v1 < v0) then bif decide ((0:Nat) + v2.length < 2147483648) then bif decide (([] ++ v2).length + (1:Nat) < (2147483648:Nat)) then L2 (Int.ofNat v2.length,(0:Int),v1,v0,v2,[] ++ v2 ++ [(0:Int)],v3) else none else none else bif decide ((0:Int) ≤ 1 ∧ (1:Int) ≤ Int.ofNat v2.length ∧ Int.ofNat v2.length ≤ Int.ofNat v2.length) then L3 (Int.ofNat (List.drop 1 (List.take (Int.ofNat v2.length).toNat v2)).length,(0:Int),List.drop 1 (List.take (Int.ofNat v2.length).toNat v2),(0:Int),[],v3) else none
def Ztn (k:Nat):Zfb:=Zp (fun L1 => Zrh k (Zto k L1) (Ztp k) L1) k
noncomputable def ZdI (k:Nat) (n:Nat) (v:Wn) :=
 Zy (ZH k) Ztm [] [1,1,1,0,1,0] [] (Wh Tryz.f109) (Wp (ZH k) Tryz.f109 Zt WY [] []) n (ZLc v)
def Zrg (k:Nat) (L1:Zfb):Int × Unit → Option (((List Int × Int × Unit) × Int × Unit) × Unit)
 | (a0,()) => bif decide (a0 < 0) then some ((([],(0:Int),()),1,()),()) else bif decide ((4:Int) < a0) then some ((([],(0:Int),()),1,()),()) else L1 (a0,(0:Int),[(1:Int)],(0:Int))
def ZdH (k:Nat):=Zrg k (Ztn k)
theorem ZDI (k:Nat) (n1:Nat):∀ n,Zh2 k n1 n = Zp (fun L2 => Zkj k (ZdI k n1) L2) n :=
 Zl (fun v => by kernel_rfl) (fun n v => by
  show Zh2 k n1 (n + 1) v = Zkj k (ZdI k n1) (Zh2 k n1 n) v
  obtain ⟨v0,v1,v2,v3,v4,v5,v6⟩:=v
  kernel_rfl)
theorem ZDJ (k:Nat):∀ n,ZwH k n = Zp (fun L3 => Zri k L3) n :=
 Zl (fun v => by kernel_rfl) (fun n v => by
  obtain ⟨v0,v1,v2,v3,v4,v5⟩:=v
  kernel_rfl)
theorem ZDH (k:Nat):∀ n,ZdI k n = Zp (fun L1 => Zrh k (Zto k L1) (Ztp k) L1) n :=
 Zl (fun v => by kernel_rfl) (fun n v => by
  rw [show (Zto k (ZdI k n)) = Zh2 k n k from (ZDI k n k).symm,show (Ztp k) = ZwH k k from (ZDJ k k).symm]
  obtain ⟨v0,v1,v2,v3⟩:=v
  kernel_rfl)
theorem ZLf (k:Nat) (x:Kd.dens Zt):ZF (ZH k) Ztm Tryz.f109 Zt WY x = ZdH k x:=by
 show _ = Zrg k (Ztn k) x
 rw [show Ztn k = ZdI k k from (ZDH k k).symm]
 obtain ⟨a0,⟨⟩⟩:=x
 kernel_rfl
theorem Zoa (k:Nat):Ctr Tryz.prog k 109 (mk Zt WY ZdH) :=
 ZG (fn:=Tryz.f109) (Zh Zd) (by kernel_rfl) (by kernel_rfl) (ZLf k)
noncomputable abbrev ZzI:Nat × Callee:=(109,mk Zt WY ZdH)
def ZfO (k:Nat):Int × Unit → Option (Bool × Unit)
 | (a0,()) => bif decide (a0 ≤ -2147483648) then some (true,()) else some (decide (2147483648 ≤ a0),())
def Zhg (k:Nat):=ZfO k
theorem ZL8 (k:Nat) (x:Kd.dens Zt):ZF (ZH k) nA Tryz.f150 Zt Zs x = Zhg k x:=by
 show _ = ZfO k x
 obtain ⟨a0,⟨⟩⟩:=x
 kernel_rfl
theorem Zoy (k:Nat):Ctr Tryz.prog k 150 (mk Zt Zs Zhg) :=
 ZG (fn:=Tryz.f150) (Zh Zd) (by kernel_rfl) (by kernel_rfl) (ZL8 k)
noncomputable abbrev Zz7:Nat × Callee:=(150,mk Zt Zs Zhg)
abbrev XH:List Kd:=[.view (.sl (.int .i64)),.fn 150]
noncomputable def Zoq (k:Nat):=Wd k [Zz7]
abbrev Xb:=Int × Int × List Int
abbrev Wo:=Xb → Option (Int × Unit)
def ZEr:Xb → St
 | (v0,v1,v2) => St.mk (ZC [(7,Zq v0),(8,Zq v1),(1,AV.fn 150),(0,Xn v2)]) (ZA [])
def Km (k:Nat) (L1:Wo):Wo
 | (v0,v1,v2) => bif decide (v1 < v0) then bif decide (0 ≤ v1 ∧ v1 < Int.ofNat v2.length) then (Zhg k (v2.getD v1.toNat 0,())).bind fun y => bif y.1 then some (v1,()) else L1 (v0,IntKind.i64.wrap (v1 + 1),v2) else none else some ((-1:Int),())
def ZkC (k:Nat):Wo:=Zp (fun L1 => Km k L1) k
noncomputable def Zor (k:Nat) (n:Nat) (v:Xb) :=
 Zy (Zoq k) XX [] [1,0,1,0] [] (Wh Tryz.f146) (Wp (Zoq k) Tryz.f146 XH Zf [] []) n (ZEr v)
def ZlH (k:Nat) (L1:Wo):List Int × Unit × Unit → Option (Int × Unit)
 | (a0,(),()) => L1 (Int.ofNat a0.length,(0:Int),a0)
def ZdR (k:Nat):=ZlH k (ZkC k)
theorem Zxb (k:Nat):∀ n,Zor k n = Zp (fun L1 => Km k L1) n :=
 Zl (fun v => by kernel_rfl) (fun n v => by
  obtain ⟨v0,v1,v2⟩:=v
  kernel_rfl)
theorem ZEs (k:Nat) (x:Kd.dens XH):ZF (Zoq k) XX Tryz.f146 XH Zf x = ZdR k x:=by
 show _ = ZlH k (ZkC k) x
 rw [show ZkC k = Zor k k from (Zxb k k).symm]
 obtain ⟨a0,⟨⟨⟩,⟨⟩⟩⟩:=x
 kernel_rfl
theorem Zz0 (k:Nat):Ctr Tryz.prog k 146 (mk XH Zf ZdR) :=
 ZG (fn:=Tryz.f146) (Zh (Za (Zoy k) Zd)) (by kernel_rfl) (by kernel_rfl) (ZEs k)
noncomputable abbrev ZHn:Nat × Callee:=(146,mk XH Zf ZdR)
noncomputable def ZGv (k:Nat):=Wd k [ZHn]
def ZaQ (k:Nat):List Int × Unit × Unit → Option (Bool × Unit)
 | (a0,(),()) => (ZdR k (a0,(),())).bind fun y => some (decide ((0:Int) ≤ y.1),())
def Kh (k:Nat):=ZaQ k
theorem ZDA (k:Nat) (x:Kd.dens XH):ZF (ZGv k) nA Tryz.f104 XH Zs x = Kh k x:=by
 show _ = ZaQ k x
 obtain ⟨a0,⟨⟨⟩,⟨⟩⟩⟩:=x
 kernel_rfl
theorem Zg9 (k:Nat):Ctr Tryz.prog k 104 (mk XH Zs Kh) :=
 ZG (fn:=Tryz.f104) (Zh (Za (Zz0 k) Zd)) (by kernel_rfl) (by kernel_rfl) (ZDA k)
noncomputable abbrev Zn5:Nat × Callee:=(104,mk XH Zs Kh)
def Zge (k:Nat):Int × Unit → Option (Bool × Unit)
 | (a0,()) => bif decide (a0 < -2048) then some (true,()) else some (decide ((2047:Int) < a0),())
def ZoR (k:Nat):=Zge k
theorem ZMQ (k:Nat) (x:Kd.dens Zt):ZF (ZH k) nA Tryz.f192 Zt Zs x = ZoR k x:=by
 show _ = Zge k x
 obtain ⟨a0,⟨⟩⟩:=x
 kernel_rfl
theorem ZId (k:Nat):Ctr Tryz.prog k 192 (mk Zt Zs ZoR) :=
 ZG (fn:=Tryz.f192) (Zh Zd) (by kernel_rfl) (by kernel_rfl) (ZMQ k)
noncomputable abbrev ZQD:Nat × Callee:=(192,mk Zt Zs ZoR)
abbrev XJ:List Kd:=[.view (.sl (.int .i64)),.fn 192]
noncomputable def Zou (k:Nat):=Wd k [ZQD]
def ZEv:Xb → St
 | (v0,v1,v2) => St.mk (ZC [(7,Zq v0),(8,Zq v1),(1,AV.fn 192),(0,Xn v2)]) (ZA [])
def Ko (k:Nat) (L1:Wo):Wo
 | (v0,v1,v2) => bif decide (v1 < v0) then bif decide (0 ≤ v1 ∧ v1 < Int.ofNat v2.length) then (ZoR k (v2.getD v1.toNat 0,())).bind fun y => bif y.1 then some (v1,()) else L1 (v0,IntKind.i64.wrap (v1 + 1),v2) else none else some ((-1:Int),())
def ZkE (k:Nat):Wo:=Zp (fun L1 => Ko k L1) k
noncomputable def Zov (k:Nat) (n:Nat) (v:Xb) :=
 Zy (Zou k) XX [] [1,0,1,0] [] (Wh Tryz.f146) (Wp (Zou k) Tryz.f146 XJ Zf [] []) n (ZEv v)
def ZlJ (k:Nat) (L1:Wo):List Int × Unit × Unit → Option (Int × Unit)
 | (a0,(),()) => L1 (Int.ofNat a0.length,(0:Int),a0)
def ZdT (k:Nat):=ZlJ k (ZkE k)
theorem Zxd (k:Nat):∀ n,Zov k n = Zp (fun L1 => Ko k L1) n :=
 Zl (fun v => by kernel_rfl) (fun n v => by
  obtain ⟨v0,v1,v2⟩:=v
  kernel_rfl)
theorem ZEw (k:Nat) (x:Kd.dens XJ):ZF (Zou k) XX Tryz.f146 XJ Zf x = ZdT k x:=by
 show _ = ZlJ k (ZkE k) x
 rw [show ZkE k = Zov k k from (Zxd k k).symm]
 obtain ⟨a0,⟨⟨⟩,⟨⟩⟩⟩:=x
 kernel_rfl
theorem Zz2 (k:Nat):Ctr Tryz.prog k 146 (mk XJ Zf ZdT) :=
 ZG (fn:=Tryz.f146) (Zh (Za (ZId k) Zd)) (by kernel_rfl) (by kernel_rfl) (ZEw k)
noncomputable abbrev ZHp:Nat × Callee:=(146,mk XJ Zf ZdT)
noncomputable def ZGy (k:Nat):=Wd k [ZHp]
def ZaT (k:Nat):List Int × Unit × Unit → Option (Bool × Unit)
 | (a0,(),()) => (ZdT k (a0,(),())).bind fun y => some (decide ((0:Int) ≤ y.1),())
def ZdG (k:Nat):=ZaT k
theorem ZDC (k:Nat) (x:Kd.dens XJ):ZF (ZGy k) nA Tryz.f104 XJ Zs x = ZdG k x:=by
 show _ = ZaT k x
 obtain ⟨a0,⟨⟨⟩,⟨⟩⟩⟩:=x
 kernel_rfl
theorem ZzF (k:Nat):Ctr Tryz.prog k 104 (mk XJ Zs ZdG) :=
 ZG (fn:=Tryz.f104) (Zh (Za (Zz2 k) Zd)) (by kernel_rfl) (by kernel_rfl) (ZDC k)
noncomputable abbrev ZGz:Nat × Callee:=(104,mk XJ Zs ZdG)
abbrev K2:List Kd:=[.view ZeI]
noncomputable def ZQh (k:Nat):=Wd k [ZGz]
def Zf4 (k:Nat):(List Int × Int × Unit) × Unit → Option (Int × Unit)
 | ((a0,a1,()),()) => bif decide ((8:Int) < Int.ofNat a0.length) then some (2,()) else bif decide (a1 < 0) then some (2,()) else bif decide ((15:Int) < a1) then some (2,()) else (ZdG k (a0,(),())).bind fun y => bif y.1 then some (2,()) else some (0,())
def ZkO (k:Nat):=Zf4 k
theorem ZMz (k:Nat) (x:Kd.dens K2):ZF (ZQh k) nA Tryz.f172 K2 Zf x = ZkO k x:=by
 show _ = Zf4 k x
 obtain ⟨⟨a0,⟨a1,⟨⟩⟩⟩,⟨⟩⟩:=x
 kernel_rfl
theorem Zxx (k:Nat):Ctr Tryz.prog k 172 (mk K2 Zf ZkO) :=
 ZG (fn:=Tryz.f172) (Zh (Za (ZzF k) Zd)) (by kernel_rfl) (by kernel_rfl) (ZMz k)
noncomputable abbrev ZHT:Nat × Callee:=(172,mk K2 Zf ZkO)
abbrev W0:List Kd:=[.view ZeI,.view (.sl (.int .i64))]
def ZHU:Nat → Ann:=fun id => bif Nat.beq id 3 then ⟨[10,11,9,5,1,2],[]⟩ else ⟨[],[]⟩
abbrev ZtU:=Int × Int × List Int × Int × List Int × List Int × Int
abbrev Znb:=ZtU → Option (Int × Unit)
def ZMA:ZtU → St
 | (v0,v1,v2,v3,v4,v5,v6) => St.mk (ZC [(10,Zq v0),(11,Zq v1),(9,Xn v2),(5,Zq v3),(1,Xn v4),(2,AV.bx 8192 0)]) (ZA [(8192,Wb [Xn v5,Zq v6])])
def Zb6 (k:Nat) (L1:Znb):Znb
 | (v0,v1,v2,v3,v4,v5,v6) => bif decide (v1 < v0) then bif decide (0 ≤ v1 ∧ v1 < Int.ofNat v2.length) then bif decide (0 ≤ IntKind.i64.wrap (IntKind.i64.wrap (Int.ofNat v4.length - (1:Int)) - v1) ∧ IntKind.i64.wrap (IntKind.i64.wrap (Int.ofNat v4.length - (1:Int)) - v1) < Int.ofNat v4.length) then L1 (v0,IntKind.i64.wrap (v1 + 1),v2,IntKind.i64.wrap (v3 + IntKind.i64.wrap (v2.getD v1.toNat 0 * v4.getD (IntKind.i64.wrap (IntKind.i64.wrap (Int.ofNat v4.length - (1:Int)) - v1)).toNat 0)),v4,v5,v6) else none else none else bif decide (0 ≤ v6) then some (v3.fdiv ((2:Int) ^ min v6.toNat 64),()) else none
def Znc (k:Nat):Znb:=Zp (fun L1 => Zb6 k L1) k
noncomputable def Zxy (k:Nat) (n:Nat) (v:ZtU) :=
 Zy (ZH k) ZHU [] [1,1,0,1,0] [] (Wh Tryz.f173) (Wp (ZH k) Tryz.f173 W0 Zf [] []) n (ZMA v)
def Zf5 (k:Nat) (L1:Znb):(List Int × Int × Unit) × List Int × Unit → Option (Int × Unit)
 | ((a0,a1,()),a2,()) => L1 (Int.ofNat a0.length,(0:Int),a0,(0:Int),a2,a0,a1)
def ZkP (k:Nat):=Zf5 k (Znc k)
theorem ZET (k:Nat):∀ n,Zxy k n = Zp (fun L1 => Zb6 k L1) n :=
 Zl (fun v => by kernel_rfl) (fun n v => by
  obtain ⟨v0,v1,v2,v3,v4,v5,v6⟩:=v
  kernel_rfl)
theorem ZMB (k:Nat) (x:Kd.dens W0):ZF (ZH k) ZHU Tryz.f173 W0 Zf x = ZkP k x:=by
 show _ = Zf5 k (Znc k) x
 rw [show Znc k = Zxy k k from (ZET k k).symm]
 obtain ⟨⟨a0,⟨a1,⟨⟩⟩⟩,⟨a2,⟨⟩⟩⟩:=x
 kernel_rfl
theorem Zxz (k:Nat):Ctr Tryz.prog k 173 (mk W0 Zf ZkP) :=
 ZG (fn:=Tryz.f173) (Zh Zd) (by kernel_rfl) (by kernel_rfl) (ZMB k)
noncomputable abbrev ZHV:Nat × Callee:=(173,mk W0 Zf ZkP)
abbrev Ql:Kd:=.tup [.view (.sl (.int .i64)),.view (.int .i64)]
noncomputable def Zz4 (k:Nat):=Wd k [Zn5,Zz7,ZHT,ZHV]
def ZHr:Nat → Ann:=fun id => bif Nat.beq id 9 then ⟨[7,1,2,6],[.slot 6 ((Ty.int IntKind.i64))]⟩ else ⟨[],[]⟩
abbrev Zif:=Int × List Int × List Int × Int × List Int
abbrev ZaY:=Zif → Option ((List Int × Int × Unit) × Unit)
def ZL4:Zif → St
 | (v0,v1,v2,v3,v4) => St.mk (ZC [(7,Zq v0),(1,Xn v1),(2,AV.bx 8192 0),(6,AV.own 8193)]) (ZA [(8192,Wb [Xn v2,Zq v3]),(8193,rsA v4 false)])
def ZbX (k:Nat) (L1:ZaY):ZaY
 | (v0,v1,v2,v3,v4) => bif decide (v0 < Int.ofNat v1.length) then bif decide (0 ≤ v0 ∧ v0 < Int.ofNat v1.length) then bif decide ((0:Int) ≤ 0 ∧ (0:Int) ≤ v0 ∧ v0 ≤ Int.ofNat v1.length) then (ZkP k ((v2,v3,()),List.drop 0 (List.take v0.toNat v1),())).bind fun y => (Zhg k (IntKind.i64.wrap (v1.getD v0.toNat 0 - y.1),())).bind fun y_1 => bif y_1.1 then some (([],12,()),()) else bif decide (v4.length + [IntKind.i64.wrap (v1.getD v0.toNat 0 - y.1)].length < 2147483648) then L1 (IntKind.i64.wrap (v0 + 1),v1,v2,v3,v4 ++ [IntKind.i64.wrap (v1.getD v0.toNat 0 - y.1)]) else none else none else none else some ((v4,0,()),())
def ZmV (k:Nat):ZaY:=Zp (fun L1 => ZbX k L1) k
noncomputable def Zxe (k:Nat) (n:Nat) (v:Zif) :=
 Zy (Zz4 k) ZHr [] [1,1,1,0,1,0] [] (Wh Tryz.f148) (Wp (Zz4 k) Tryz.f148 W0 Ql [] []) n (ZL4 v)
def ZfM (k:Nat) (L1:ZaY):(List Int × Int × Unit) × List Int × Unit → Option ((List Int × Int × Unit) × Unit)
 | ((a0,a1,()),a2,()) => (ZkO k ((a0,a1,()),())).bind fun y => bif y.1 != 0 then some (([],2,()),()) else bif decide (Int.ofNat a2.length < Int.ofNat a0.length) then some (([],1,()),()) else (Kh k (a2,(),())).bind fun y => bif y.1 then some (([],12,()),()) else L1 (Int.ofNat a0.length,a2,a0,a1,[])
def ZkF (k:Nat):=ZfM k (ZmV k)
theorem ZEx (k:Nat):∀ n,Zxe k n = Zp (fun L1 => ZbX k L1) n :=
 Zl (fun v => by kernel_rfl) (fun n v => by
  obtain ⟨v0,v1,v2,v3,v4⟩:=v
  kernel_rfl)
theorem ZL5 (k:Nat) (x:Kd.dens W0):ZF (Zz4 k) ZHr Tryz.f148 W0 Ql x = ZkF k x:=by
 show _ = ZfM k (ZmV k) x
 rw [show ZmV k = Zxe k k from (ZEx k k).symm]
 obtain ⟨⟨a0,⟨a1,⟨⟩⟩⟩,⟨a2,⟨⟩⟩⟩:=x
 kernel_rfl
theorem Zxf (k:Nat):Ctr Tryz.prog k 148 (mk W0 Ql ZkF) :=
 ZG (fn:=Tryz.f148) (Zh (Za (Zg9 k) (Za (Zoy k) (Za (Zxx k) (Za (Zxz k) Zd))))) (by kernel_rfl) (by kernel_rfl) (ZL5 k)
noncomputable abbrev ZHs:Nat × Callee:=(148,mk W0 Ql ZkF)
def ZfR (k:Nat):Int × Unit → Option (Bool × Unit)
 | (a0,()) => bif decide (a0 ≤ -2147483648) then some (true,()) else some (decide (2147483648 ≤ a0),())
def ZoB (k:Nat):=ZfR k
theorem ZMe (k:Nat) (x:Kd.dens Zt):ZF (ZH k) nA Tryz.f155 Zt Zs x = ZoB k x:=by
 show _ = ZfR k x
 obtain ⟨a0,⟨⟩⟩:=x
 kernel_rfl
theorem ZHE (k:Nat):Ctr Tryz.prog k 155 (mk Zt Zs ZoB) :=
 ZG (fn:=Tryz.f155) (Zh Zd) (by kernel_rfl) (by kernel_rfl) (ZMe k)
noncomputable abbrev ZP4:Nat × Callee:=(155,mk Zt Zs ZoB)
abbrev XI:List Kd:=[.view (.sl (.int .i64)),.fn 155]
noncomputable def Zos (k:Nat):=Wd k [ZP4]
def ZEt:Xb → St
 | (v0,v1,v2) => St.mk (ZC [(7,Zq v0),(8,Zq v1),(1,AV.fn 155),(0,Xn v2)]) (ZA [])
def Kn (k:Nat) (L1:Wo):Wo
 | (v0,v1,v2) => bif decide (v1 < v0) then bif decide (0 ≤ v1 ∧ v1 < Int.ofNat v2.length) then (ZoB k (v2.getD v1.toNat 0,())).bind fun y => bif y.1 then some (v1,()) else L1 (v0,IntKind.i64.wrap (v1 + 1),v2) else none else some ((-1:Int),())
def ZkD (k:Nat):Wo:=Zp (fun L1 => Kn k L1) k
noncomputable def Zot (k:Nat) (n:Nat) (v:Xb) :=
 Zy (Zos k) XX [] [1,0,1,0] [] (Wh Tryz.f146) (Wp (Zos k) Tryz.f146 XI Zf [] []) n (ZEt v)
def ZlI (k:Nat) (L1:Wo):List Int × Unit × Unit → Option (Int × Unit)
 | (a0,(),()) => L1 (Int.ofNat a0.length,(0:Int),a0)
def ZdS (k:Nat):=ZlI k (ZkD k)
theorem Zxc (k:Nat):∀ n,Zot k n = Zp (fun L1 => Kn k L1) n :=
 Zl (fun v => by kernel_rfl) (fun n v => by
  obtain ⟨v0,v1,v2⟩:=v
  kernel_rfl)
theorem ZEu (k:Nat) (x:Kd.dens XI):ZF (Zos k) XX Tryz.f146 XI Zf x = ZdS k x:=by
 show _ = ZlI k (ZkD k) x
 rw [show ZkD k = Zot k k from (Zxc k k).symm]
 obtain ⟨a0,⟨⟨⟩,⟨⟩⟩⟩:=x
 kernel_rfl
theorem Zz1 (k:Nat):Ctr Tryz.prog k 146 (mk XI Zf ZdS) :=
 ZG (fn:=Tryz.f146) (Zh (Za (ZHE k) Zd)) (by kernel_rfl) (by kernel_rfl) (ZEu k)
noncomputable abbrev ZHo:Nat × Callee:=(146,mk XI Zf ZdS)
noncomputable def ZGw (k:Nat):=Wd k [ZHo]
def ZaS (k:Nat):List Int × Unit × Unit → Option (Bool × Unit)
 | (a0,(),()) => (ZdS k (a0,(),())).bind fun y => some (decide ((0:Int) ≤ y.1),())
def ZdF (k:Nat):=ZaS k
theorem ZDB (k:Nat) (x:Kd.dens XI):ZF (ZGw k) nA Tryz.f104 XI Zs x = ZdF k x:=by
 show _ = ZaS k x
 obtain ⟨a0,⟨⟨⟩,⟨⟩⟩⟩:=x
 kernel_rfl
theorem ZzE (k:Nat):Ctr Tryz.prog k 104 (mk XI Zs ZdF) :=
 ZG (fn:=Tryz.f104) (Zh (Za (Zz1 k) Zd)) (by kernel_rfl) (by kernel_rfl) (ZDB k)
noncomputable abbrev ZGx:Nat × Callee:=(104,mk XI Zs ZdF)
def ZfQ (k:Nat):Int × Int × Unit → Option (Bool × Unit)
 | (a0,a1,()) => bif decide (1 ≤ a0) then bif decide (a0 ≤ 512) then bif decide (0 ≤ a1) then some (decide (a1 ≤ if a0 < 8 then a0 else (8:Int)),()) else some (false,()) else some (false,()) else some (false,())
def ZkK (k:Nat):=ZfQ k
theorem ZMd (k:Nat) (x:Kd.dens Qw):ZF (ZH k) nA Tryz.f154 Qw Zs x = ZkK k x:=by
 show _ = ZfQ k x
 obtain ⟨a0,⟨a1,⟨⟩⟩⟩:=x
 kernel_rfl
theorem Zxn (k:Nat):Ctr Tryz.prog k 154 (mk Qw Zs ZkK) :=
 ZG (fn:=Tryz.f154) (Zh Zd) (by kernel_rfl) (by kernel_rfl) (ZMd k)
noncomputable abbrev ZHD:Nat × Callee:=(154,mk Qw Zs ZkK)
noncomputable def ZPy (k:Nat):=Wd k [ZGx,ZHD]
def Zfh (k:Nat):List Int × Int × Unit → Option (Int × Unit)
 | (a0,a1,()) => bif decide (a1 < 0) then some (1,()) else bif decide ((8:Int) < a1) then some (1,()) else (ZkK k (IntKind.i64.wrap (Int.ofNat a0.length + a1),a1,())).bind fun y => bif !y.1 then some (1,()) else (ZdF k (a0,(),())).bind fun y => bif y.1 then some (12,()) else some (0,())
def Zkm (k:Nat):=Zfh k
theorem ZLn (k:Nat) (x:Kd.dens Z5):ZF (ZPy k) nA Tryz.f113 Z5 Zf x = Zkm k x:=by
 show _ = Zfh k x
 obtain ⟨a0,⟨a1,⟨⟩⟩⟩:=x
 kernel_rfl
theorem ZwK (k:Nat):Ctr Tryz.prog k 113 (mk Z5 Zf Zkm) :=
 ZG (fn:=Tryz.f113) (Zh (Za (ZzE k) (Za (Zxn k) Zd))) (by kernel_rfl) (by kernel_rfl) (ZLn k)
noncomputable abbrev ZGK:Nat × Callee:=(113,mk Z5 Zf Zkm)
abbrev Kc:List Kd:=[.view (.sl (.int .i64)),.view (.int .i64),.view (.int .i64)]
abbrev Zmw:Kd:=.view (.sl (.sl (.int .i64)))
def ZGM:Nat → Ann:=fun id => bif Nat.beq id 4 then ⟨[8,2,9,7],[]⟩ else ⟨[],[]⟩
abbrev ZtA:=Int × List Int × Int × List (List Int)
abbrev Zmu:=ZtA → Option (List (List Int) × Unit)
def ZLs:ZtA → St
 | (v0,v1,v2,v3) => St.mk (ZC [(8,AV.own 8192),(2,Zq v0),(9,Xn v1),(7,Zq v2)]) (ZA [(8192,RS.live (Res.arr (Ty.int IntKind.i64).sl v3 false))])
def ZbJ (k:Nat) (L1:Zmu):Zmu
 | (v0,v1,v2,v3) => bif decide (0 ≤ v0) then bif decide (Int.ofNat v3.length < IntKind.i64.wrap ((1:Int) * (2:Int) ^ min v0.toNat 64)) then bif decide ((0:Int) ≤ 0 ∧ (0:Int) ≤ v2 ∧ v2 ≤ Int.ofNat v1.length) then bif decide (v3.length + [List.drop 0 (List.take v2.toNat v1)].length < 2147483648) then bif decide (0 ≤ v2 ∧ v2 ≤ Int.ofNat v1.length ∧ Int.ofNat v1.length ≤ Int.ofNat v1.length) then L1 (v0,List.drop v2.toNat (List.take (Int.ofNat v1.length).toNat v1),v2,v3 ++ [List.drop 0 (List.take v2.toNat v1)]) else none else none else none else some (v3,()) else none
def Zmv (k:Nat):Zmu:=Zp (fun L1 => ZbJ k L1) k
noncomputable def ZwM (k:Nat) (n:Nat) (v:ZtA) :=
 Zy (ZH k) ZGM [] [1,1,1,0,1,0] [] (Wh Tryz.f115) (Wp (ZH k) Tryz.f115 Kc Zmw [] []) n (ZLs v)
def Zfl (k:Nat) (L1:Zmu):List Int × Int × Int × Unit → Option (List (List Int) × Unit)
 | (a0,a1,a2,()) => bif decide (0 ≤ a2) then bif decide ((0:Int) ≤ 0 ∧ (0:Int) ≤ IntKind.i64.wrap ((IntKind.i64.wrap (Int.ofNat a0.length + a1)).fdiv ((2:Int) ^ min a2.toNat 64) - a1) ∧ IntKind.i64.wrap ((IntKind.i64.wrap (Int.ofNat a0.length + a1)).fdiv ((2:Int) ^ min a2.toNat 64) - a1) ≤ Int.ofNat a0.length) then bif decide (0 ≤ IntKind.i64.wrap ((IntKind.i64.wrap (Int.ofNat a0.length + a1)).fdiv ((2:Int) ^ min a2.toNat 64) - a1) ∧ IntKind.i64.wrap ((IntKind.i64.wrap (Int.ofNat a0.length + a1)).fdiv ((2:Int) ^ min a2.toNat 64) - a1) ≤ Int.ofNat a0.length ∧ Int.ofNat a0.length ≤ Int.ofNat a0.length) then L1 (a2,List.drop (IntKind.i64.wrap ((IntKind.i64.wrap (Int.ofNat a0.length + a1)).fdiv ((2:Int) ^ min a2.toNat 64) - a1)).toNat (List.take (Int.ofNat a0.length).toNat a0),(IntKind.i64.wrap (Int.ofNat a0.length + a1)).fdiv ((2:Int) ^ min a2.toNat 64),[List.drop 0 (List.take (IntKind.i64.wrap ((IntKind.i64.wrap (Int.ofNat a0.length + a1)).fdiv ((2:Int) ^ min a2.toNat 64) - a1)).toNat a0)]) else none else none else none
def Zko (k:Nat):=Zfl k (Zmv k)
theorem ZDU (k:Nat):∀ n,ZwM k n = Zp (fun L1 => ZbJ k L1) n :=
 Zl (fun v => by kernel_rfl) (fun n v => by
  obtain ⟨v0,v1,v2,v3⟩:=v
  kernel_rfl)
theorem ZLt (k:Nat) (x:Kd.dens Kc):ZF (ZH k) ZGM Tryz.f115 Kc Zmw x = Zko k x:=by
 show _ = Zfl k (Zmv k) x
 rw [show Zmv k = ZwM k k from (ZDU k k).symm]
 obtain ⟨a0,⟨a1,⟨a2,⟨⟩⟩⟩⟩:=x
 kernel_rfl
theorem ZwN (k:Nat):Ctr Tryz.prog k 115 (mk Kc Zmw Zko) :=
 ZG (fn:=Tryz.f115) (Zh Zd) (by kernel_rfl) (by kernel_rfl) (ZLt k)
noncomputable abbrev ZGN:Nat × Callee:=(115,mk Kc Zmw Zko)
def Zro (k:Nat):Int × Unit → Option (Int × Unit)
 | (a0,()) => some (IntKind.i64.wrap ((4:Int) + a0),())
def Zam (k:Nat):=Zro k
theorem ZLu (k:Nat) (x:Kd.dens Zt):ZF (ZH k) nA Tryz.f116 Zt Zf x = Zam k x:=by
 show _ = Zro k x
 obtain ⟨a0,⟨⟩⟩:=x
 kernel_rfl
theorem ZwO (k:Nat):Ctr Tryz.prog k 116 (mk Zt Zf Zam) :=
 ZG (fn:=Tryz.f116) (Zh Zd) (by kernel_rfl) (by kernel_rfl) (ZLu k)
noncomputable abbrev ZPz:Nat × Callee:=(116,mk Zt Zf Zam)
abbrev ZfS:List Kd:=[.view (.int .i64),.view (.int .i64),.view (.int .i64)]
def ZfT (k:Nat):Int × Int × Int × Unit → Option (Bool × Unit)
 | (a0,a1,a2,()) => bif decide (0 ≤ a2) then bif IntKind.i64.wrap (Int.ofNat (BitVec.ofInt 64 a0 &&& BitVec.ofInt 64 (IntKind.i64.wrap (IntKind.i64.wrap ((1:Int) * (2:Int) ^ min a2.toNat 64) - (1:Int)))).toNat) == 0 then bif decide (0 ≤ a2) then some (decide (a1 ≤ a0.fdiv ((2:Int) ^ min a2.toNat 64)),()) else none else some (false,()) else none
def Zap (k:Nat):=ZfT k
theorem ZMf (k:Nat) (x:Kd.dens ZfS):ZF (ZH k) nA Tryz.f156 ZfS Zs x = Zap k x:=by
 show _ = ZfT k x
 obtain ⟨a0,⟨a1,⟨a2,⟨⟩⟩⟩⟩:=x
 kernel_rfl
theorem Zxo (k:Nat):Ctr Tryz.prog k 156 (mk ZfS Zs Zap) :=
 ZG (fn:=Tryz.f156) (Zh Zd) (by kernel_rfl) (by kernel_rfl) (ZMf k)
noncomputable abbrev ZP5:Nat × Callee:=(156,mk ZfS Zs Zap)
noncomputable def ZPA (k:Nat):=Wd k [ZPz]
def Zrq (k:Nat):Int × Unit → Option (Int × Unit)
 | (a0,()) => (Zam k (a0,())).bind fun y => bif decide ((0:Int) ≤ y.1) then some (IntKind.i64.wrap (IntKind.i64.wrap ((1:Int) * (2:Int) ^ min (Int.toNat y.1) (64:Nat)) - (1:Int)),()) else none
def Zan (k:Nat):=Zrq k
theorem ZLv (k:Nat) (x:Kd.dens Zt):ZF (ZPA k) nA Tryz.f117 Zt Zf x = Zan k x:=by
 show _ = Zrq k x
 obtain ⟨a0,⟨⟩⟩:=x
 kernel_rfl
theorem ZGO (k:Nat):Ctr Tryz.prog k 117 (mk Zt Zf Zan) :=
 ZG (fn:=Tryz.f117) (Zh (Za (ZwO k) Zd)) (by kernel_rfl) (by kernel_rfl) (ZLv k)
noncomputable abbrev ZUg:Nat × Callee:=(117,mk Zt Zf Zan)
def Zfm (k:Nat):Int × Unit → Option ((Int × Int × Unit) × Unit)
 | (a0,()) => bif decide (a0 < -1099511627776) then some ((0,12,()),()) else bif decide ((1099511627776:Int) < a0) then some ((0,12,()),()) else some ((IntKind.i64.wrap (Int.ofNat (BitVec.ofInt 64 (IntKind.i64.wrap (a0 * (2:Int))) ^^^ BitVec.ofInt 64 (a0.fdiv (9223372036854775808:Int))).toNat),0,()),())
def Zbj (k:Nat):=Zfm k
theorem ZLw (k:Nat) (x:Kd.dens Zt):ZF (ZH k) nA Tryz.f118 Zt ZQ x = Zbj k x:=by
 show _ = Zfm k x
 obtain ⟨a0,⟨⟩⟩:=x
 kernel_rfl
theorem ZGP (k:Nat):Ctr Tryz.prog k 118 (mk Zt ZQ Zbj) :=
 ZG (fn:=Tryz.f118) (Zh Zd) (by kernel_rfl) (by kernel_rfl) (ZLw k)
noncomputable abbrev ZUh:Nat × Callee:=(118,mk Zt ZQ Zbj)
def Zt2 (k:Nat):Int × Unit → Option (Int × Unit):=fun x => ZJ6 x
def ZSv:Go.Shelf.Ren:=⟨fun n => match n with | 129 => 194 | _ => 0,fun n => match n with | 0 => 0 | 3 => 3 | 4 => 4 | 5 => 5 | 9 => 9 | 46 => 114 | 53 => 49 | _ => 0,fun n => n⟩
set_option maxRecDepth 100000 in
theorem ZNR:Go.Proofs.Lays.n129 Tryz.prog ZSv:=by
 constructor <;> first | kernel_rfl | (intro w; rfl)
set_option maxRecDepth 100000 in
theorem ZIf (k:Nat):Ctr Tryz.prog k 194 (mk ZmU Zf Zt2):=ZFn ZNR (fn:=Tryz.f194) (by kernel_rfl) (by kernel_rfl) (by kernel_rfl) (by kernel_rfl)
noncomputable abbrev ZQE:Nat × Callee:=(194,mk ZmU Zf Zt2)
noncomputable def ZQq (k:Nat):=Wd k [ZQE]
def Zf7 (k:Nat):Int × Unit → Option (Int × Unit)
 | (a0,()) => (Zt2 k (IntKind.u64.wrap (IntKind.i64.wrap (Int.ofNat (BitVec.ofInt 64 a0 ^^^ BitVec.ofInt 64 (a0.fdiv (9223372036854775808:Int))).toNat)),())).bind fun y => some (IntKind.i64.wrap (y.1 + 1),())
def ZoM (k:Nat):=Zf7 k
theorem ZMI (k:Nat) (x:Kd.dens Zt):ZF (ZQq k) nA Tryz.f182 Zt Zf x = ZoM k x:=by
 show _ = Zf7 k x
 obtain ⟨a0,⟨⟩⟩:=x
 kernel_rfl
theorem ZH2 (k:Nat):Ctr Tryz.prog k 182 (mk Zt Zf ZoM) :=
 ZG (fn:=Tryz.f182) (Zh (Za (ZIf k) Zd)) (by kernel_rfl) (by kernel_rfl) (ZMI k)
noncomputable abbrev ZQr:Nat × Callee:=(182,mk Zt Zf ZoM)
noncomputable def KJ:(k:Nat) → Int × Unit → Option (Int × Unit):=Classical.choose (⟨Zan,rfl⟩:∃ F:(k:Nat) → Int × Unit → Option (Int × Unit),F = Zan)
theorem Zrp:KJ = Zan:=Classical.choose_spec (⟨Zan,rfl⟩:∃ F:(k:Nat) → Int × Unit → Option (Int × Unit),F = Zan)
theorem Zkr (k:Nat):Ctr Tryz.prog k 117 (mk Zt Zf KJ):=by rw [Zrp]; exact ZGO k
noncomputable def Zhd:(k:Nat) → Int × Unit → Option ((Int × Int × Unit) × Unit):=Classical.choose (⟨Zbj,rfl⟩:∃ F:(k:Nat) → Int × Unit → Option ((Int × Int × Unit) × Unit),F = Zbj)
theorem Zrr:Zhd = Zbj:=Classical.choose_spec (⟨Zbj,rfl⟩:∃ F:(k:Nat) → Int × Unit → Option ((Int × Int × Unit) × Unit),F = Zbj)
theorem Zrs (k:Nat):Ctr Tryz.prog k 118 (mk Zt ZQ Zhd):=by rw [Zrr]; exact ZGP k
abbrev ZfW:Kd:=.tup [.view ZKv,.view .bool]
noncomputable def Zhh (k:Nat):=Wd k [(117,mk Zt Zf KJ),(118,mk Zt ZQ Zhd),ZQr]
noncomputable def ZtO:Nat → Ann:=fun id => bif Nat.beq id 16 then ⟨[55,56,54,13,12,14,7,6,46,45,0,8,9,1,4],[]⟩ else bif Nat.beq id 12 then ⟨[45,46,0,8,7,6,9,1,4],[]⟩ else bif Nat.beq id 5 then ⟨[23,24,22,8,9,1,0,7,6,4],[]⟩ else ⟨[],[]⟩
abbrev ZtR:=Int × Int × Int × Int × Bool × Bool × Int × Int × List Int × Int × Int × List Int × Int × Int × Int × Int × Int × Int
abbrev Zm1:=ZtR → Option (((Int × Int × Int × Unit) × Bool × Unit) × Unit)
abbrev ZtQ:=Int × Int × List Int × Bool × Int × Int × List Int × Int × Int × Int × Int × Int × Int
abbrev ZfU:=ZtQ → Option (((Int × Int × Int × Unit) × Bool × Unit) × Unit)
abbrev ZtP:=Int × Int × List Int × Int × Int × List Int × Bool × List Int × Int × Int × Int × Int × Int × Int
abbrev Zm0:=ZtP → Option (((Int × Int × Int × Unit) × Bool × Unit) × Unit)
noncomputable def ZMi:ZtR → St
 | (v0,v1,v2,v3,v4,v5,v6,v7,v8,v9,v10,v11,v12,v13,v14,v15,v16,v17) => St.mk (ZC [(55,Zq v0),(56,Zq v1),(54,AV.own 8192),(13,Zq v2),(12,Zq v3),(14,avB v4),(7,avB v5),(6,AV.bx 8193 0),(46,Zq v6),(45,Zq v7),(0,Xn v8),(8,AV.own 8192),(9,Zq v9),(1,Zq v10),(4,AV.bx 8194 0)]) (ZA [(8192,rsA v11 false),(8193,Wb [Zq v12,Zq v13,Zq v14]),(8194,Wb [Zq v15,Zq v16,Zq v17])])
noncomputable def Zad (k:Nat) (L2:ZfU) (L3:Zm1):Zm1
 | (v0,v1,v2,v3,v4,v5,v6,v7,v8,v9,v10,v11,v12,v13,v14,v15,v16,v17) => bif decide (v1 < v0) then bif decide (0 ≤ v1 ∧ v1 < Int.ofNat v11.length) then bif decide (v1.toNat < v11.length) then bif decide (0 ≤ v3) then bif v4 then L3 (v0,IntKind.i64.wrap (v1 + 1),IntKind.i64.wrap (v2 + Int.fdiv (v11.getD v1.toNat 0) ((2:Int) ^ min v3.toNat 64)),v3,true,v5,v6,v7,v8,v9,v10,v11,v12,v13,v14,v15,v16,v17) else bif decide (0 ≤ v3) then L3 (v0,IntKind.i64.wrap (v1 + 1),IntKind.i64.wrap (v2 + Int.fdiv (v11.getD v1.toNat 0) ((2:Int) ^ min v3.toNat 64)),v3,decide ((65536:Int) < Int.fdiv (v11.getD v1.toNat 0) ((2:Int) ^ min v3.toNat 64)),v5,v6,v7,v8,v9,v10,v11,v12,v13,v14,v15,v16,v17) else none else none else none else none else bif !v4 then bif !v5 then L2 (v7,IntKind.i64.wrap (v6 + 1),v8,true,v9,v10,v11,v3,(0:Int),v2,v15,v16,v17) else bif decide (v2 < v14) then L2 (v7,IntKind.i64.wrap (v6 + 1),v8,true,v9,v10,v11,v3,(0:Int),v2,v15,v16,v17) else L2 (v7,IntKind.i64.wrap (v6 + 1),v8,v5,v9,v10,v11,v12,v13,v14,v15,v16,v17) else L2 (v7,IntKind.i64.wrap (v6 + 1),v8,v5,v9,v10,v11,v12,v13,v14,v15,v16,v17)
noncomputable def Zii (k:Nat) (L2:ZfU):Zm1:=Zp (fun L3 => Zad k L2 L3) k
noncomputable def Zij (k:Nat) (n2:Nat) (n:Nat) (v:ZtR):Option (((Int × Int × Int × Unit) × Bool × Unit) × Unit) :=
 Zy (Zhh k) ZtO [] [1,1,1,1,1,0,1,0,0,1,1,0,0,1,1,0,1,0] [n2] (Wh Tryz.f157) (Wp (Zhh k) Tryz.f157 Z5 ZfW [] []) n (ZMi v)
noncomputable def ZMh:ZtQ → St
 | (v0,v1,v2,v3,v4,v5,v6,v7,v8,v9,v10,v11,v12) => St.mk (ZC [(45,Zq v0),(46,Zq v1),(0,Xn v2),(8,AV.own 8192),(7,avB v3),(6,AV.bx 8193 0),(9,Zq v4),(1,Zq v5),(4,AV.bx 8194 0)]) (ZA [(8192,rsA v6 false),(8193,Wb [Zq v7,Zq v8,Zq v9]),(8194,Wb [Zq v10,Zq v11,Zq v12])])
noncomputable def Zb1 (k:Nat) (L3:Zm1) (L2:ZfU):ZfU
 | (v0,v1,v2,v3,v4,v5,v6,v7,v8,v9,v10,v11,v12) => bif decide (v1 < v0) then L3 (Int.ofNat v6.length,(0:Int),IntKind.i64.wrap (IntKind.i64.wrap (v1 + 1) * Int.ofNat v2.length),v1,false,v3,v1,v0,v2,v4,v5,v6,v7,v8,v9,v10,v11,v12) else bif decide (v4 ≤ 31) then bif !v3 then (KJ k (v5,())).bind fun y => some (((y.1,v4,IntKind.i64.wrap ((5:Int) + IntKind.i64.wrap (v4 * Int.ofNat v2.length)),()),true,()),()) else bif decide (IntKind.i64.wrap ((5:Int) + IntKind.i64.wrap (v4 * Int.ofNat v2.length)) < v9) then (KJ k (v5,())).bind fun y => some (((y.1,v4,IntKind.i64.wrap ((5:Int) + IntKind.i64.wrap (v4 * Int.ofNat v2.length)),()),true,()),()) else some (((v7,v8,v9,()),v3,()),()) else some (((v7,v8,v9,()),v3,()),())
noncomputable def Zih (k:Nat):ZfU:=Zp (fun L2 => Zb1 k (Zii k L2) L2) k
noncomputable def ZdU (k:Nat) (n:Nat) (v:ZtQ) :=
 Zy (Zhh k) ZtO [] [1,1,1,1,1,0,1,0] [] (Wh Tryz.f157) (Wp (Zhh k) Tryz.f157 Z5 ZfW [] []) n (ZMh v)
noncomputable def ZMg:ZtP → St
 | (v0,v1,v2,v3,v4,v5,v6,v7,v8,v9,v10,v11,v12,v13) => St.mk (ZC [(23,Zq v0),(24,Zq v1),(22,Xn v2),(8,AV.own 8192),(9,Zq v3),(1,Zq v4),(0,Xn v5),(7,avB v6),(6,AV.bx 8193 0),(4,AV.bx 8194 0)]) (ZA [(8192,rsA v7 false),(8193,Wb [Zq v8,Zq v9,Zq v10]),(8194,Wb [Zq v11,Zq v12,Zq v13])])
noncomputable def Zb0 (k:Nat) (L2:ZfU) (L1:Zm0):Zm0
 | (v0,v1,v2,v3,v4,v5,v6,v7,v8,v9,v10,v11,v12,v13) => bif decide (v1 < v0) then bif decide (0 ≤ v1 ∧ v1 < Int.ofNat v2.length) then (Zhd k (v2.getD v1.toNat 0,())).bind fun y => bif decide (0 ≤ v1 ∧ v1 < Int.ofNat v7.length) then bif decide (v1.toNat < v7.length) then bif v2.getD v1.toNat 0 != (0:Int) then (ZoM k (v2.getD v1.toNat 0,())).bind fun y_1 => L1 (v0,IntKind.i64.wrap (v1 + 1),v2,if v3 < y_1.1 then y_1.1 else v3,v4,v5,v6,v7.set v1.toNat y.1.1,v8,v9,v10,v11,v12,v13) else L1 (v0,IntKind.i64.wrap (v1 + 1),v2,v3,v4,v5,v6,v7.set v1.toNat y.1.1,v8,v9,v10,v11,v12,v13) else none else none else none else (KJ k (v4,())).bind fun y => L2 (y.1,(0:Int),v5,v6,v3,v4,v7,v8,v9,v10,v11,v12,v13)
noncomputable def Zm2 (k:Nat):Zm0:=Zp (fun L1 => Zb0 k (Zih k) L1) k
noncomputable def Zxp (k:Nat) (n:Nat) (v:ZtP) :=
 Zy (Zhh k) ZtO [] [1,1,1,1,0,1,0] [] (Wh Tryz.f157) (Wp (Zhh k) Tryz.f157 Z5 ZfW [] []) n (ZMg v)
noncomputable def ZfV (k:Nat) (L1:Zm0):List Int × Int × Unit → Option (((Int × Int × Int × Unit) × Bool × Unit) × Unit)
 | (a0,a1,()) => bif decide ((0:Int) ≤ Int.ofNat a0.length ∧ Int.ofNat a0.length ≤ Int.ofNat a0.length ∧ Int.ofNat a0.length < (4294967296:Int)) then L1 (Int.ofNat a0.length,(0:Int),a0,(0:Int),a1,a0,false,List.replicate (Int.ofNat a0.length).toNat (0:Int),(0:Int),(0:Int),(0:Int),(0:Int),(0:Int),(0:Int)) else none
noncomputable def ZoD (k:Nat):=ZfV k (Zm2 k)
theorem ZEG (k:Nat) (n2:Nat):∀ n,Zij k n2 n = Zp (fun L3 => Zad k (ZdU k n2) L3) n :=
 Zl (fun v => by kernel_rfl) (fun n v => by
  show Zij k n2 (n + 1) v = Zad k (ZdU k n2) (Zij k n2 n) v
  obtain ⟨v0,v1,v2,v3,v4,v5,v6,v7,v8,v9,v10,v11,v12,v13,v14,v15,v16,v17⟩:=v
  kernel_rfl)
theorem ZEF (k:Nat):∀ n,ZdU k n = Zp (fun L2 => Zb1 k (Zii k L2) L2) n :=
 Zl (fun v => by kernel_rfl) (fun n v => by
  rw [show (Zii k (ZdU k n)) = Zij k n k from (ZEG k n k).symm]
  obtain ⟨v0,v1,v2,v3,v4,v5,v6,v7,v8,v9,v10,v11,v12⟩:=v
  kernel_rfl)
theorem ZEE (k:Nat):∀ n,Zxp k n = Zp (fun L1 => Zb0 k (Zih k) L1) n :=
 Zl (fun v => by kernel_rfl) (fun n v => by
  rw [show (Zih k) = ZdU k k from (ZEF k k).symm]
  obtain ⟨v0,v1,v2,v3,v4,v5,v6,v7,v8,v9,v10,v11,v12,v13⟩:=v
  kernel_rfl)
theorem ZMj (k:Nat) (x:Kd.dens Z5):ZF (Zhh k) ZtO Tryz.f157 Z5 ZfW x = ZoD k x:=by
 show _ = ZfV k (Zm2 k) x
 rw [show Zm2 k = Zxp k k from (ZEE k k).symm]
 obtain ⟨a0,⟨a1,⟨⟩⟩⟩:=x
 kernel_rfl
theorem ZHF (k:Nat):Ctr Tryz.prog k 157 (mk Z5 ZfW ZoD) :=
 ZG (fn:=Tryz.f157) (Zh (Za (Zkr k) (Za (Zrs k) (Za (ZH2 k) Zd)))) (by kernel_rfl) (by kernel_rfl) (ZMj k)
noncomputable abbrev ZP6:Nat × Callee:=(157,mk Z5 ZfW ZoD)
noncomputable def ZcK:(k:Nat) → Int × Unit → Option (Int × Unit):=Classical.choose (⟨Zam,rfl⟩:∃ F:(k:Nat) → Int × Unit → Option (Int × Unit),F = Zam)
theorem Zrn:ZcK = Zam:=Classical.choose_spec (⟨Zam,rfl⟩:∃ F:(k:Nat) → Int × Unit → Option (Int × Unit),F = Zam)
theorem Zkp (k:Nat):Ctr Tryz.prog k 116 (mk Zt Zf ZcK):=by rw [Zrn]; exact ZwO k
noncomputable def ZoC:(k:Nat) → Int × Int × Int × Unit → Option (Bool × Unit):=Classical.choose (⟨Zap,rfl⟩:∃ F:(k:Nat) → Int × Int × Int × Unit → Option (Bool × Unit),F = Zap)
theorem ZrE:ZoC = Zap:=Classical.choose_spec (⟨Zap,rfl⟩:∃ F:(k:Nat) → Int × Int × Int × Unit → Option (Bool × Unit),F = Zap)
theorem ZED (k:Nat):Ctr Tryz.prog k 156 (mk ZfS Zs ZoC):=by rw [ZrE]; exact Zxo k
abbrev Zfk:Kd:=.view ZSF
noncomputable def Zhc (k:Nat):=Wd k [ZGN,(116,mk Zt Zf ZcK),(156,mk ZfS Zs ZoC),ZP6]
noncomputable def Ztw:Nat → Ann:=fun id => bif Nat.beq id 11 then ⟨[37,38,36,7,5,8,6,0,1,4,9],[.cell 8 2 (((Ty.int IntKind.i64).pair ((Ty.int IntKind.i64).pair ((Ty.int IntKind.i64).pair Ty.unit))))]⟩ else bif Nat.beq id 7 then ⟨[7,6,0,1,5,4],[.cell 5 2 (((Ty.int IntKind.i64).pair ((Ty.int IntKind.i64).pair ((Ty.int IntKind.i64).pair Ty.unit))))]⟩ else bif Nat.beq id 3 then ⟨[6,0,1,5,4],[.cell 5 2 (((Ty.int IntKind.i64).pair ((Ty.int IntKind.i64).pair ((Ty.int IntKind.i64).pair Ty.unit))))]⟩ else ⟨[],[]⟩
abbrev Ztz:=Int × Int × List (List Int) × Int × Int × List Int × Int × Bool × Int × Int × Int × List (Int × Int × Int × Unit) × Int × Int × Int × List (Int × Int × Int × Unit) × Int × Int × Int
abbrev Zms:=Ztz → Option ((Int × Int × List (Int × Int × Int × Unit) × Int × Unit) × Unit)
abbrev Zty:=Int × Int × List Int × Int × Int × Int × Int × List (Int × Int × Int × Unit) × Int × Int × Int
abbrev Zfi:=Zty → Option ((Int × Int × List (Int × Int × Int × Unit) × Int × Unit) × Unit)
abbrev Ztx:=Int × List Int × Int × Int × Int × Int × List (Int × Int × Int × Unit) × Int × Int × Int
abbrev ZaV:=Ztx → Option ((Int × Int × List (Int × Int × Int × Unit) × Int × Unit) × Unit)
noncomputable def ZLq:Ztz → St
 | (v0,v1,v2,v3,v4,v5,v6,v7,v8,v9,v10,v11,v12,v13,v14,v15,v16,v17,v18) => St.mk (ZC [(37,Zq v0),(38,Zq v1),(36,AV.val (PV.sl (Ty.int IntKind.i64).sl v2)),(7,Zq v3),(5,AV.bx 8192 0),(8,AV.bx 8194 0),(6,Zq v4),(0,Xn v5),(1,Zq v6),(4,AV.bx 8196 0),(9,avB v7)]) (ZA [(8192,Wb [Zq v8,Zq v9,AV.own 8193,Zq v10]),(8193,RS.live (Res.arr ((Ty.int IntKind.i64).pair ((Ty.int IntKind.i64).pair ((Ty.int IntKind.i64).pair Ty.unit))) v11 false)),(8194,Wb [Zq v12,Zq v13,AV.own 8195,Zq v14]),(8195,RS.live (Res.arr ((Ty.int IntKind.i64).pair ((Ty.int IntKind.i64).pair ((Ty.int IntKind.i64).pair Ty.unit))) v15 false)),(8196,Wb [Zq v16,Zq v17,AV.val (PV.v (Value.slice none (0:Nat) (0:Nat))),Zq v18])])
noncomputable def Zaa (k:Nat) (L1:ZaV) (L2:Zfi) (L3:Zms):Zms
 | (v0,v1,v2,v3,v4,v5,v6,v7,v8,v9,v10,v11,v12,v13,v14,v15,v16,v17,v18) => bif decide (v1 < v0) then bif decide (0 ≤ v1 ∧ v1 < Int.ofNat v2.length) then (ZoD k (v2.getD v1.toNat [],v3,())).bind fun y => bif !y.1.2.1 then bif y.1.2.1 then bif decide (v10 < 0) then L2 (IntKind.i64.wrap (v3 + 1),v4,v5,v6,v12,v13,v14,v15,v16,v17,v18) else bif decide (v14 < v10) then L2 (IntKind.i64.wrap (v3 + 1),v4,v5,v6,v12,v13,v14,v15,v16,v17,v18) else L2 (IntKind.i64.wrap (v3 + 1),v4,v5,v6,v8,v9,v10,v11,v16,v17,v18) else L2 (IntKind.i64.wrap (v3 + 1),v4,v5,v6,v8,v9,v10,v11,v16,v17,v18) else bif decide (v15.length + [(y.1.1.1,y.1.1.2.1,y.1.1.2.2.1,())].length < 2147483648) then (ZcK k (v3,())).bind fun y_1 => L3 (v0,IntKind.i64.wrap (v1 + 1),v2,v3,v4,v5,v6,y.1.2.1,v8,v9,v10,v11,v12,v13,IntKind.i64.wrap (v14 + IntKind.i64.wrap (y_1.1 + y.1.1.2.2.1)),v15 ++ [(y.1.1.1,y.1.1.2.1,y.1.1.2.2.1,())],v16,v17,v18) else none else none else bif v7 then bif decide (v10 < 0) then L2 (IntKind.i64.wrap (v3 + 1),v4,v5,v6,v12,v13,v14,v15,v16,v17,v18) else bif decide (v14 < v10) then L2 (IntKind.i64.wrap (v3 + 1),v4,v5,v6,v12,v13,v14,v15,v16,v17,v18) else L2 (IntKind.i64.wrap (v3 + 1),v4,v5,v6,v8,v9,v10,v11,v16,v17,v18) else L2 (IntKind.i64.wrap (v3 + 1),v4,v5,v6,v8,v9,v10,v11,v16,v17,v18)
noncomputable def ZaW (k:Nat) (L1:ZaV) (L2:Zfi):Zms:=Zp (fun L3 => Zaa k L1 L2 L3) k
noncomputable def Zh7 (k:Nat) (n1 n2:Nat) (n:Nat) (v:Ztz):Option ((Int × Int × List (Int × Int × Int × Unit) × Int × Unit) × Unit) :=
 Zy (Zhc k) Ztw [] [1,1,0,1,0,0,1,0,0,1,1,0,0,1,0,0,1,0,1,0] [n1,n2] (Wh Tryz.f114) (Wp (Zhc k) Tryz.f114 Z5 Zfk [] []) n (ZLq v)
noncomputable def ZLp:Zty → St
 | (v0,v1,v2,v3,v4,v5,v6,v7,v8,v9,v10) => St.mk (ZC [(7,Zq v0),(6,Zq v1),(0,Xn v2),(1,Zq v3),(5,AV.bx 8192 0),(4,AV.bx 8194 0)]) (ZA [(8192,Wb [Zq v4,Zq v5,AV.own 8193,Zq v6]),(8193,RS.live (Res.arr ((Ty.int IntKind.i64).pair ((Ty.int IntKind.i64).pair ((Ty.int IntKind.i64).pair Ty.unit))) v7 false)),(8194,Wb [Zq v8,Zq v9,AV.val (PV.v (Value.slice none (0:Nat) (0:Nat))),Zq v10])])
noncomputable def Ym (k:Nat) (L3:Zms) (L1:ZaV) (L2:Zfi):Zfi
 | (v0,v1,v2,v3,v4,v5,v6,v7,v8,v9,v10) => bif decide (v0 < 2) then (Zko k (v2,v3,v1,())).bind fun y => L3 (Int.ofNat (List.length y.1),(0:Int),y.1,v0,v1,v2,v3,true,v4,v5,v6,v7,v0,v1,(6:Int),[],v8,v9,v10) else L1 (IntKind.i64.wrap (v1 + 1),v2,v3,v4,v5,v6,v7,v8,v9,v10)
noncomputable def Zh6 (k:Nat) (L1:ZaV):Zfi:=Zp (fun L2 => Ym k (ZaW k L1 L2) L1 L2) k
noncomputable def Kj (k:Nat) (n1:Nat) (n:Nat) (v:Zty):Option ((Int × Int × List (Int × Int × Int × Unit) × Int × Unit) × Unit) :=
 Zy (Zhc k) Ztw [] [1,1,0,1,0,0,1,0,0,1,1,0] [n1] (Wh Tryz.f114) (Wp (Zhc k) Tryz.f114 Z5 Zfk [] []) n (ZLp v)
noncomputable def ZLo:Ztx → St
 | (v0,v1,v2,v3,v4,v5,v6,v7,v8,v9) => St.mk (ZC [(6,Zq v0),(0,Xn v1),(1,Zq v2),(5,AV.bx 8192 0),(4,AV.bx 8194 0)]) (ZA [(8192,Wb [Zq v3,Zq v4,AV.own 8193,Zq v5]),(8193,RS.live (Res.arr ((Ty.int IntKind.i64).pair ((Ty.int IntKind.i64).pair ((Ty.int IntKind.i64).pair Ty.unit))) v6 false)),(8194,Wb [Zq v7,Zq v8,AV.val (PV.v (Value.slice none (0:Nat) (0:Nat))),Zq v9])])
noncomputable def ZbI (k:Nat) (L2:Zfi) (L1:ZaV):ZaV
 | (v0,v1,v2,v3,v4,v5,v6,v7,v8,v9) => bif decide (v0 ≤ 4) then (ZoC k (IntKind.i64.wrap (Int.ofNat v1.length + v2),v2,v0,())).bind fun y => bif !y.1 then L1 (IntKind.i64.wrap (v0 + 1),v1,v2,v3,v4,v5,v6,v7,v8,v9) else L2 (0,v0,v1,v2,v3,v4,v5,v6,v7,v8,v9) else some ((v3,v4,v6,v5,()),())
noncomputable def Zmt (k:Nat):ZaV:=Zp (fun L1 => ZbI k (Zh6 k L1) L1) k
noncomputable def XW (k:Nat) (n:Nat) (v:Ztx) :=
 Zy (Zhc k) Ztw [] [1,1,0,1,0] [] (Wh Tryz.f114) (Wp (Zhc k) Tryz.f114 Z5 Zfk [] []) n (ZLo v)
noncomputable def Zfj (k:Nat) (L1:ZaV):List Int × Int × Unit → Option ((Int × Int × List (Int × Int × Int × Unit) × Int × Unit) × Unit)
 | (a0,a1,()) => L1 (0,a0,a1,(0:Int),(0:Int),(-1:Int),[],(0:Int),(0:Int),(0:Int))
noncomputable def Zkn (k:Nat):=Zfj k (Zmt k)
theorem ZDT (k:Nat) (n1 n2:Nat):∀ n,Zh7 k n1 n2 n = Zp (fun L3 => Zaa k (XW k n1) (Kj k n1 n2) L3) n :=
 Zl (fun v => by kernel_rfl) (fun n v => by
  show Zh7 k n1 n2 (n + 1) v = Zaa k (XW k n1) (Kj k n1 n2) (Zh7 k n1 n2 n) v
  obtain ⟨v0,v1,v2,v3,v4,v5,v6,v7,v8,v9,v10,v11,v12,v13,v14,v15,v16,v17,v18⟩:=v
  kernel_rfl)
theorem ZDS (k:Nat) (n1:Nat):∀ n,Kj k n1 n = Zp (fun L2 => Ym k (ZaW k (XW k n1) L2) (XW k n1) L2) n :=
 Zl (fun v => by kernel_rfl) (fun n v => by
  show Kj k n1 (n + 1) v = Ym k (ZaW k (XW k n1) (Kj k n1 n)) (XW k n1) (Kj k n1 n) v
  rw [show (ZaW k (XW k n1) (Kj k n1 n)) = Zh7 k n1 n k from (ZDT k n1 n k).symm]
  obtain ⟨v0,v1,v2,v3,v4,v5,v6,v7,v8,v9,v10⟩:=v
  kernel_rfl)
theorem ZDR (k:Nat):∀ n,XW k n = Zp (fun L1 => ZbI k (Zh6 k L1) L1) n :=
 Zl (fun v => by kernel_rfl) (fun n v => by
  rw [show (Zh6 k (XW k n)) = Kj k n k from (ZDS k n k).symm]
  obtain ⟨v0,v1,v2,v3,v4,v5,v6,v7,v8,v9⟩:=v
  kernel_rfl)
theorem ZLr (k:Nat) (x:Kd.dens Z5):ZF (Zhc k) Ztw Tryz.f114 Z5 Zfk x = Zkn k x:=by
 show _ = Zfj k (Zmt k) x
 rw [show Zmt k = XW k k from (ZDR k k).symm]
 obtain ⟨a0,⟨a1,⟨⟩⟩⟩:=x
 kernel_rfl
theorem ZwL (k:Nat):Ctr Tryz.prog k 114 (mk Z5 Zfk Zkn) :=
 ZG (fn:=Tryz.f114) (Zh (Za (ZwN k) (Za (Zkp k) (Za (ZED k) (Za (ZHF k) Zd))))) (by kernel_rfl) (by kernel_rfl) (ZLr k)
noncomputable abbrev ZGL:Nat × Callee:=(114,mk Z5 Zfk Zkn)
noncomputable def ZPX (k:Nat):=Wd k [ZGK,ZGL]
noncomputable def ZfN (k:Nat):List Int × Int × Unit → Option ((Int × Int × Unit) × Unit)
 | (a0,a1,()) => (Zkm k (a0,a1,())).bind fun y => bif y.1 != 0 then some ((0,y.1,()),()) else (Zkn k (a0,a1,())).bind fun y => some ((y.1.2.2.2.1,0,()),())
noncomputable def Zow (k:Nat):=ZfN k
theorem ZL6 (k:Nat) (x:Kd.dens Z5):ZF (ZPX k) nA Tryz.f149 Z5 ZQ x = Zow k x:=by
 show _ = ZfN k x
 obtain ⟨a0,⟨a1,⟨⟩⟩⟩:=x
 kernel_rfl
theorem ZHt (k:Nat):Ctr Tryz.prog k 149 (mk Z5 ZQ Zow) :=
 ZG (fn:=Tryz.f149) (Zh (Za (ZwK k) (Za (ZwL k) Zd))) (by kernel_rfl) (by kernel_rfl) (ZL6 k)
noncomputable abbrev ZPY:Nat × Callee:=(149,mk Z5 ZQ Zow)
abbrev Zmp:List Kd:=[.view ZvR,.view (.int .i64),.view ZeI,.view (.int .i64)]
abbrev Ztr:Kd:=.tup [.view ZvR,.view .bool]
noncomputable def ZPv (k:Nat):=Wd k [ZHs,ZPY]
noncomputable def Zfc (k:Nat):(Int × Int × Int × List Int × (List Int × Int × Unit) × List Int × Int × Unit) × Int × (List Int × Int × Unit) × Int × Unit → Option (((Int × Int × Int × List Int × (List Int × Int × Unit) × List Int × Int × Unit) × Bool × Unit) × Unit)
 | ((a0,a1,a2,a3,(a4,a5,()),a6,a7,()),a8,(a9,a10,()),a11,()) => (ZkF k ((a9,a10,()),a3,())).bind fun y => bif y.1.2.1 != 0 then some (((a0,a1,a2,a3,(a4,a5,()),a6,a7,()),false,()),()) else (Zow k (y.1.1,Int.ofNat a9.length,())).bind fun y_1 => bif y_1.1.2.1 != 0 then some (((a0,a1,a2,a3,(a4,a5,()),a6,a7,()),false,()),()) else some (((a8,a1,a2,a3,(a9,a10,()),y.1.1,IntKind.i64.wrap (IntKind.i64.wrap (a11 + IntKind.i64.wrap (Int.ofNat a9.length * a2)) + y_1.1.1),()),true,()),())
noncomputable def Zha (k:Nat):=Zfc k
theorem ZLh (k:Nat) (x:Kd.dens Zmp):ZF (ZPv k) nA Tryz.f110 Zmp Ztr x = Zha k x:=by
 show _ = Zfc k x
 obtain ⟨⟨a0,⟨a1,⟨a2,⟨a3,⟨⟨a4,⟨a5,⟨⟩⟩⟩,⟨a6,⟨a7,⟨⟩⟩⟩⟩⟩⟩⟩⟩,⟨a8,⟨⟨a9,⟨a10,⟨⟩⟩⟩,⟨a11,⟨⟩⟩⟩⟩⟩:=x
 kernel_rfl
theorem ZGG (k:Nat):Ctr Tryz.prog k 110 (mk Zmp Ztr Zha) :=
 ZG (fn:=Tryz.f110) (Zh (Za (Zxf k) (Za (ZHt k) Zd))) (by kernel_rfl) (by kernel_rfl) (ZLh k)
noncomputable abbrev ZPw:Nat × Callee:=(110,mk Zmp Ztr Zha)
abbrev ZmX:Kd:=.view ZeI
noncomputable def Zz8 (k:Nat):=Wd k [ZzI]
def ZHy:Nat → Ann:=fun id => bif Nat.beq id 4 then ⟨[19,20,18,3,2],[]⟩ else ⟨[],[]⟩
abbrev ZmW:=K1 → Option ((List Int × Int × Unit) × Unit)
def ZL9:K1 → St
 | (v0,v1,v2,v3,v4,v5) => St.mk (ZC [(19,Zq v0),(20,Zq v1),(18,Xn v2),(3,AV.bx 8192 0),(2,AV.bx 8194 0)]) (ZA [(8192,Wb [AV.own 8193,Zq v3]),(8193,rsA v4 false),(8194,Wb [AV.val (PV.v (Value.slice none (0:Nat) (0:Nat))),Zq v5])])
def ZrB (k:Nat) (L1:ZmW):ZmW
 | (v0,v1,v2,v3,v4,v5) => bif decide (v1 < v0) then bif decide (0 ≤ v1 ∧ v1 < Int.ofNat v2.length) then bif decide (0 ≤ v1 ∧ v1 < Int.ofNat v4.length) then bif decide (v1.toNat < v4.length) then L1 (v0,IntKind.i64.wrap (v1 + 1),v2,v3,v4.set v1.toNat (IntKind.i64.wrap (v2.getD v1.toNat 0 * (16:Int))),v5) else none else none else none else some ((v4,v3,()),())
def ZtN (k:Nat):ZmW:=Zp (fun L1 => ZrB k L1) k
noncomputable def Zxk (k:Nat) (n:Nat) (v:K1) :=
 Zy (Zz8 k) ZHy [] [1,1,1,0,1,0] [] (Wh Tryz.f151) (Wp (Zz8 k) Tryz.f151 Zt ZmX [] []) n (ZL9 v)
def ZrA (k:Nat) (L1:ZmW):Int × Unit → Option ((List Int × Int × Unit) × Unit)
 | (a0,()) => bif decide (0 ≤ a0 ∧ a0 ≤ a0 ∧ a0 < 4294967296) then (ZdH k (if (4:Int) < a0 then (4:Int) else a0,())).bind fun y => L1 (Int.ofNat (List.length y.1.1.1),(0:Int),y.1.1.1,(4:Int),List.replicate a0.toNat (0:Int),(0:Int)) else none
def Zoz (k:Nat):=ZrA k (ZtN k)
theorem ZEz (k:Nat):∀ n,Zxk k n = Zp (fun L1 => ZrB k L1) n :=
 Zl (fun v => by kernel_rfl) (fun n v => by
  obtain ⟨v0,v1,v2,v3,v4,v5⟩:=v
  kernel_rfl)
theorem ZMa (k:Nat) (x:Kd.dens Zt):ZF (Zz8 k) ZHy Tryz.f151 Zt ZmX x = Zoz k x:=by
 show _ = ZrA k (ZtN k) x
 rw [show ZtN k = Zxk k k from (ZEz k k).symm]
 obtain ⟨a0,⟨⟩⟩:=x
 kernel_rfl
theorem ZHz (k:Nat):Ctr Tryz.prog k 151 (mk Zt ZmX Zoz) :=
 ZG (fn:=Tryz.f151) (Zh (Za (Zoa k) Zd)) (by kernel_rfl) (by kernel_rfl) (ZMa k)
noncomputable abbrev ZP2:Nat × Callee:=(151,mk Zt ZmX Zoz)
noncomputable def Zz9 (k:Nat):=Wd k [ZHs]
def ZHA:Nat → Ann:=fun id => bif Nat.beq id 4 then ⟨[18,19,17,8,7],[]⟩ else ⟨[],[]⟩
abbrev ZmY:=ZcV → Option ((Int × Int × Unit) × Unit)
def ZMb:ZcV → St
 | (v0,v1,v2,v3,v4) => St.mk (ZC [(18,Zq v0),(19,Zq v1),(17,Xn v2),(8,Zq v3),(7,Zq v4)]) (ZA [])
def ZbZ (k:Nat) (L1:ZmY):ZmY
 | (v0,v1,v2,v3,v4) => bif decide (v1 < v0) then bif decide (0 ≤ v1 ∧ v1 < Int.ofNat v2.length) then L1 (v0,IntKind.i64.wrap (v1 + 1),v2,IntKind.i64.wrap (v3 + if v2.getD v1.toNat 0 < IntKind.i64.wrap ((0:Int) - v2.getD v1.toNat 0) then IntKind.i64.wrap ((0:Int) - v2.getD v1.toNat 0) else v2.getD v1.toNat 0),v4) else none else some ((v3,v4,()),())
def ZmZ (k:Nat):ZmY:=Zp (fun L1 => ZbZ k L1) k
noncomputable def Zxl (k:Nat) (n:Nat) (v:ZcV) :=
 Zy (Zz9 k) ZHA [] [1,1,1,0,1,0] [] (Wh Tryz.f152) (Wp (Zz9 k) Tryz.f152 W0 ZQ [] []) n (ZMb v)
def ZfP (k:Nat) (L1:ZmY):(List Int × Int × Unit) × List Int × Unit → Option ((Int × Int × Unit) × Unit)
 | ((a0,a1,()),a2,()) => (ZkF k ((a0,a1,()),a2,())).bind fun y => L1 (Int.ofNat (List.length y.1.1),(0:Int),y.1.1,(0:Int),y.1.2.1)
def ZkI (k:Nat):=ZfP k (ZmZ k)
theorem ZEB (k:Nat):∀ n,Zxl k n = Zp (fun L1 => ZbZ k L1) n :=
 Zl (fun v => by kernel_rfl) (fun n v => by
  obtain ⟨v0,v1,v2,v3,v4⟩:=v
  kernel_rfl)
theorem ZMc (k:Nat) (x:Kd.dens W0):ZF (Zz9 k) ZHA Tryz.f152 W0 ZQ x = ZkI k x:=by
 show _ = ZfP k (ZmZ k) x
 rw [show ZmZ k = Zxl k k from (ZEB k k).symm]
 obtain ⟨⟨a0,⟨a1,⟨⟩⟩⟩,⟨a2,⟨⟩⟩⟩:=x
 kernel_rfl
theorem ZHB (k:Nat):Ctr Tryz.prog k 152 (mk W0 ZQ ZkI) :=
 ZG (fn:=Tryz.f152) (Zh (Za (Zxf k) Zd)) (by kernel_rfl) (by kernel_rfl) (ZMc k)
noncomputable abbrev ZP3:Nat × Callee:=(152,mk W0 ZQ ZkI)
abbrev ZBG:Kd:=.own (.int .i64) false
def ZkJ (k:Nat):List Int × Unit → Option (List Int × Unit):=fun x => KH x
noncomputable def ZoA:Code:=ZF7 Tryz.f153
theorem Zxm (k:Nat):Ctr Tryz.prog k 153 (mk Xv ZBG ZkJ) :=
 Zq6 (C:=ZOP k) (A:=fun _ => ⟨[],[]⟩) (Zh Zd) Zhv (f:=153) (fn:=Tryz.f153) (o0:=Zlc (Zba [0] ZoA) 0) (o1:=Zlc (Zba [1,0,0] ZoA) 0) (o2:=Zlc (Zba [1,0,0] ZoA) 1)
  (r0:=0) (r1:=1) (X:=Zba [1,0,1,0] ZoA) (Y:=Zba [1,1] ZoA) (T:=51) (E:=3) (U:=51) (t:=(.int .i64))
  (by kernel_rfl) (by kernel_rfl) (by kernel_rfl) (by kernel_rfl) (by kernel_rfl) (of_decide_eq_true (by kernel_rfl)) (by kernel_rfl) ⟨by kernel_rfl,by kernel_rfl,by kernel_rfl⟩ ⟨by kernel_rfl,by kernel_rfl,by kernel_rfl⟩ ⟨by kernel_rfl,by kernel_rfl,by kernel_rfl⟩ (fun xs => by kernel_rfl) (by kernel_rfl)
noncomputable abbrev ZHC:Nat × Callee:=(153,mk Xv ZBG ZkJ)
noncomputable def Zhb (k:Nat):=Wd k [Zn5,ZP2,ZP3,ZHC]
def Zts:Nat → Ann:=fun id => bif Nat.beq id 15 then ⟨[57,56,6,11,0,9,7,50,49,10,1,4],[.seen 6 0]⟩ else bif Nat.beq id 12 then ⟨[49,50,10,6,0,9,7,1,4],[]⟩ else bif Nat.beq id 9 then ⟨[10,1,6,0,9,7,4],[]⟩ else ⟨[],[]⟩
abbrev Ztv:=Int × Int × Int × Int × List Int × Bool × Int × Int × Int × Int × Int × List Int × Int × Int
abbrev Zmq:=Ztv → Option (((List Int × Int × Unit) × Int × Unit) × Unit)
abbrev Ztu:=Int × Int × Int × List Int × Bool × Int × Int × List Int × Int × Int
abbrev Zfd:=Ztu → Option (((List Int × Int × Unit) × Int × Unit) × Unit)
abbrev Ztt:=Int × Int × List Int × Bool × Int × List Int × Int × Int
abbrev ZaU:=Ztt → Option (((List Int × Int × Unit) × Int × Unit) × Unit)
def ZLk:Ztv → St
 | (v0,v1,v2,v3,v4,v5,v6,v7,v8,v9,v10,v11,v12,v13) => St.mk (ZC [(57,Zq v0),(56,AV.agg [Zq v1,Zq v2]),(6,AV.bx 8192 0),(11,Zq v3),(0,Xn v4),(9,avB v5),(7,Zq v6),(50,Zq v7),(49,Zq v8),(10,Zq v9),(1,Zq v10),(4,AV.bx 8193 0)]) (ZA [(8192,Wb [Xn v11,Zq v12]),(8193,Wb [AV.val (PV.v (Value.slice none (0:Nat) (0:Nat))),Zq v13])])
def YW (k:Nat) (L1:ZaU) (L2:Zfd) (L3:Zmq):Zmq
 | (v0,v1,v2,v3,v4,v5,v6,v7,v8,v9,v10,v11,v12,v13) => bif decide (v0 < 2) then bif decide (0 ≤ v0 ∧ v0 < 2) then (ZkJ k (v11,())).bind fun y => bif decide (0 ≤ v3 ∧ v3 < Int.ofNat (List.length y.1)) then bif decide (v3.toNat < List.length y.1) then bif decide (0 ≤ v3 ∧ v3 < Int.ofNat (List.length y.1)) then bif decide (v3.toNat < List.length y.1) then (ZkI k ((List.set y.1 v3.toNat (IntKind.i64.wrap (List.getD y.1 v3.toNat 0 + [v1,v2].getD v0.toNat (0:Int))),v12,()),v4,())).bind fun y_1 => bif y_1.1.2.1 == 0 then bif !v5 then L3 (IntKind.i64.wrap (v0 + 1),v1,v2,v3,v4,true,y_1.1.1,v7,v8,v9,v10,List.set y.1 v3.toNat (IntKind.i64.wrap (List.getD y.1 v3.toNat 0 + [v1,v2].getD v0.toNat (0:Int))),v12,v13) else bif decide (y_1.1.1 < v6) then L3 (IntKind.i64.wrap (v0 + 1),v1,v2,v3,v4,true,y_1.1.1,v7,v8,v9,v10,List.set y.1 v3.toNat (IntKind.i64.wrap (List.getD y.1 v3.toNat 0 + [v1,v2].getD v0.toNat (0:Int))),v12,v13) else L3 (IntKind.i64.wrap (v0 + 1),v1,v2,v3,v4,v5,v6,v7,v8,v9,v10,v11,v12,v13) else L3 (IntKind.i64.wrap (v0 + 1),v1,v2,v3,v4,v5,v6,v7,v8,v9,v10,v11,v12,v13) else none else none else none else none else none else L2 (v8,IntKind.i64.wrap (v7 + 1),v9,v4,v5,v6,v10,v11,v12,v13)
def Zfe (k:Nat) (L1:ZaU) (L2:Zfd):Zmq:=Zp (fun L3 => YW k L1 L2 L3) k
noncomputable def Zh5 (k:Nat) (n1 n2:Nat) (n:Nat) (v:Ztv):Option (((List Int × Int × Unit) × Int × Unit) × Unit) :=
 Zy (Zhb k) Zts [] [1,1,1,1,1,0,1,0,0,1,0,0,1,0,0,1,1,0,0,1,1,0] [n1,n2] (Wh Tryz.f111) (Wp (Zhb k) Tryz.f111 Z5 WY [] []) n (ZLk v)
def ZLj:Ztu → St
 | (v0,v1,v2,v3,v4,v5,v6,v7,v8,v9) => St.mk (ZC [(49,Zq v0),(50,Zq v1),(10,Zq v2),(6,AV.bx 8192 0),(0,Xn v3),(9,avB v4),(7,Zq v5),(1,Zq v6),(4,AV.bx 8193 0)]) (ZA [(8192,Wb [Xn v7,Zq v8]),(8193,Wb [AV.val (PV.v (Value.slice none (0:Nat) (0:Nat))),Zq v9])])
def K9 (k:Nat) (L3:Zmq) (L1:ZaU) (L2:Zfd):Zfd
 | (v0,v1,v2,v3,v4,v5,v6,v7,v8,v9) => bif decide (v1 < v0) then L3 (0,v2,IntKind.i64.wrap ((0:Int) - v2),v1,v3,v4,v5,v1,v0,v2,v6,v7,v8,v9) else L1 (IntKind.i64.wrap (v2.tdiv (2:Int)),v6,v3,v4,v5,v7,v8,v9)
def Zh4 (k:Nat) (L1:ZaU):Zfd:=Zp (fun L2 => K9 k (Zfe k L1 L2) L1 L2) k
noncomputable def Ki (k:Nat) (n1:Nat) (n:Nat) (v:Ztu):Option (((List Int × Int × Unit) × Int × Unit) × Unit) :=
 Zy (Zhb k) Zts [] [1,1,1,1,1,0,1,0,0,1,0,0,1,0] [n1] (Wh Tryz.f111) (Wp (Zhb k) Tryz.f111 Z5 WY [] []) n (ZLj v)
def ZLi:Ztt → St
 | (v0,v1,v2,v3,v4,v5,v6,v7) => St.mk (ZC [(10,Zq v0),(1,Zq v1),(6,AV.bx 8192 0),(0,Xn v2),(9,avB v3),(7,Zq v4),(4,AV.bx 8193 0)]) (ZA [(8192,Wb [Xn v5,Zq v6]),(8193,Wb [AV.val (PV.v (Value.slice none (0:Nat) (0:Nat))),Zq v7])])
def K8 (k:Nat) (L2:Zfd) (L1:ZaU):ZaU
 | (v0,v1,v2,v3,v4,v5,v6,v7) => bif decide ((0:Int) < v0) then L2 (v1,(0:Int),v0,v2,v3,v4,v1,v5,v6,v7) else some (((v5,v6,()),0,()),())
def Zmr (k:Nat):ZaU:=Zp (fun L1 => K8 k (Zh4 k L1) L1) k
noncomputable def XV (k:Nat) (n:Nat) (v:Ztt) :=
 Zy (Zhb k) Zts [] [1,1,1,1,1,0,1,0] [] (Wh Tryz.f111) (Wp (Zhb k) Tryz.f111 Z5 WY [] []) n (ZLi v)
def Zff (k:Nat) (L1:ZaU):List Int × Int × Unit → Option (((List Int × Int × Unit) × Int × Unit) × Unit)
 | (a0,a1,()) => bif decide (a1 < 0) then some ((([],(0:Int),()),1,()),()) else bif decide ((8:Int) < a1) then some ((([],(0:Int),()),1,()),()) else bif decide (Int.ofNat a0.length < a1) then some ((([],(0:Int),()),1,()),()) else (Kh k (a0,(),())).bind fun y => bif y.1 then some ((([],(0:Int),()),12,()),()) else (Zoz k (a1,())).bind fun y => (ZkI k ((y.1.1,y.1.2.1,()),a0,())).bind fun y_1 => L1 (8,a1,a0,y_1.1.2.1 == 0,y_1.1.1,y.1.1,y.1.2.1,(0:Int))
def Zoc (k:Nat):=Zff k (Zmr k)
theorem ZDO (k:Nat) (n1 n2:Nat):∀ n,Zh5 k n1 n2 n = Zp (fun L3 => YW k (XV k n1) (Ki k n1 n2) L3) n :=
 Zl (fun v => by kernel_rfl) (fun n v => by
  show Zh5 k n1 n2 (n + 1) v = YW k (XV k n1) (Ki k n1 n2) (Zh5 k n1 n2 n) v
  obtain ⟨v0,v1,v2,v3,v4,v5,v6,v7,v8,v9,v10,v11,v12,v13⟩:=v
  kernel_rfl)
theorem ZDN (k:Nat) (n1:Nat):∀ n,Ki k n1 n = Zp (fun L2 => K9 k (Zfe k (XV k n1) L2) (XV k n1) L2) n :=
 Zl (fun v => by kernel_rfl) (fun n v => by
  show Ki k n1 (n + 1) v = K9 k (Zfe k (XV k n1) (Ki k n1 n)) (XV k n1) (Ki k n1 n) v
  rw [show (Zfe k (XV k n1) (Ki k n1 n)) = Zh5 k n1 n k from (ZDO k n1 n k).symm]
  obtain ⟨v0,v1,v2,v3,v4,v5,v6,v7,v8,v9⟩:=v
  kernel_rfl)
theorem ZDM (k:Nat):∀ n,XV k n = Zp (fun L1 => K8 k (Zh4 k L1) L1) n :=
 Zl (fun v => by kernel_rfl) (fun n v => by
  rw [show (Zh4 k (XV k n)) = Ki k n k from (ZDN k n k).symm]
  obtain ⟨v0,v1,v2,v3,v4,v5,v6,v7⟩:=v
  kernel_rfl)
theorem ZLl (k:Nat) (x:Kd.dens Z5):ZF (Zhb k) Zts Tryz.f111 Z5 WY x = Zoc k x:=by
 show _ = Zff k (Zmr k) x
 rw [show Zmr k = XV k k from (ZDM k k).symm]
 obtain ⟨a0,⟨a1,⟨⟩⟩⟩:=x
 kernel_rfl
theorem ZGH (k:Nat):Ctr Tryz.prog k 111 (mk Z5 WY Zoc) :=
 ZG (fn:=Tryz.f111) (Zh (Za (Zg9 k) (Za (ZHz k) (Za (ZHB k) (Za (Zxm k) Zd))))) (by kernel_rfl) (by kernel_rfl) (ZLl k)
noncomputable abbrev ZPx:Nat × Callee:=(111,mk Z5 WY Zoc)
abbrev Zml:List Kd:=[.view ZvR,.view .bool,.box [.view (.int .i64),.view (.int .i64),.view (.int .i64),.view (.sl (.int .i64)),.view (.sl (.int .i64)),.view (.int .i64),.view (.sl (.int .i64)),.view (.int .i64)]]
def Zrf (k:Nat):(Int × Int × Int × List Int × (List Int × Int × Unit) × List Int × Int × Unit) × Bool × (Int × Int × Int × List Int × List Int × Int × List Int × Int × Unit) × Unit → Option (Unit × (Int × Int × Int × List Int × List Int × Int × List Int × Int × Unit) × Unit)
 | ((a0,a1,a2,a3,(a4,a5,()),a6,a7,()),a8,(a9,a10,a11,a12,a13,a14,a15,a16,()),()) => bif a8 then bif decide (a16 < 0) then some ((),(a0,a1,a2,a3,a4,a5,a6,a7,()),()) else bif decide (a7 < a16) then some ((),(a0,a1,a2,a3,a4,a5,a6,a7,()),()) else some ((),(a9,a10,a11,a12,a13,a14,a15,a16,()),()) else some ((),(a9,a10,a11,a12,a13,a14,a15,a16,()),())
def Zbi (k:Nat):=Zrf k
theorem ZLa (k:Nat) (x:Kd.dens Zml):ZF (ZH k) nA Tryz.f107 Zml Qy x = Zbi k x:=by
 show _ = Zrf k x
 obtain ⟨⟨a0,⟨a1,⟨a2,⟨a3,⟨⟨a4,⟨a5,⟨⟩⟩⟩,⟨a6,⟨a7,⟨⟩⟩⟩⟩⟩⟩⟩⟩,⟨a8,⟨⟨a9,⟨a10,⟨a11,⟨a12,⟨a13,⟨a14,⟨a15,⟨a16,⟨⟩⟩⟩⟩⟩⟩⟩⟩⟩,⟨⟩⟩⟩⟩:=x
 kernel_rfl
theorem ZGE (k:Nat):Ctr Tryz.prog k 107 (mk Zml Qy Zbi) :=
 ZG (fn:=Tryz.f107) (Zh Zd) (by kernel_rfl) (by kernel_rfl) (ZLa k)
noncomputable abbrev ZPs:Nat × Callee:=(107,mk Zml Qy Zbi)
abbrev ZkV:Kd:=.view ZvR
noncomputable def Zpn (k:Nat):=Wd k [ZGu,ZPr,ZzI,ZPw,ZPx,ZPs]
def ZCg:Nat → Ann:=fun id => bif Nat.beq id 21 then ⟨[82,81,11,6,10,12,9,4],[]⟩ else bif Nat.beq id 15 then ⟨[62,63,10,6,11,12,9,4],[]⟩ else bif Nat.beq id 4 then ⟨[28,29,27,6,5,4],[.cell 6 3 ((Ty.int IntKind.i64))]⟩ else ⟨[],[]⟩
abbrev ZAE:=Int × Int × Int × Int × Int × Int × Int × Int × List Int × List Int × Int × List Int × Int × Int × Int × Int × List Int × List Int × Int × List Int × Int × Int × Int × Int × Int × Int × List Int × Int × Int × Int × Int × Int
abbrev ZuP:=ZAE → Option ((Int × Int × Int × List Int × (List Int × Int × Unit) × List Int × Int × Unit) × Unit)
abbrev ZAD:=Int × Int × Int × Int × Int × Int × List Int × List Int × Int × List Int × Int × Int × Int × Int × List Int × List Int × Int × List Int × Int × Int × Int × Int × Int × Int × List Int × Int × Int × Int × Int × Int
abbrev ZuO:=ZAD → Option ((Int × Int × Int × List Int × (List Int × Int × Unit) × List Int × Int × Unit) × Unit)
abbrev ZAC:=Int × Int × List Int × Int × Int × Int × Int × Int × Int × List Int × Int × Int × Int × Int × Int
abbrev ZuN:=ZAC → Option ((Int × Int × Int × List Int × (List Int × Int × Unit) × List Int × Int × Unit) × Unit)
def ZRM:ZAE → St
 | (v0,v1,v2,v3,v4,v5,v6,v7,v8,v9,v10,v11,v12,v13,v14,v15,v16,v17,v18,v19,v20,v21,v22,v23,v24,v25,v26,v27,v28,v29,v30,v31) => St.mk (ZC [(82,Zq v0),(81,AV.agg [Zq v1,Zq v2,Zq v3]),(11,Zq v4),(6,AV.bx 8192 0),(10,AV.clo 107 [AV.bx 8193 0]),(12,AV.bx 8194 0),(9,AV.bx 8193 0),(4,AV.bx 8196 0)]) (ZA [(8192,Wb [Zq v5,Zq v6,Zq v7,Xn v8,Xn v9,Zq v10,Xn v11,Zq v12]),(8193,Wb [Zq v13,Zq v14,Zq v15,Xn v16,Xn v17,Zq v18,Xn v19,Zq v20]),(8194,Wb [Zq v21,Zq v22,Zq v23,AV.own 8195,AV.val (PV.v (Value.slice none (0:Nat) (0:Nat))),Zq v24,AV.val (PV.v (Value.slice none (0:Nat) (0:Nat))),Zq v25]),(8195,rsA v26 true),(8196,Wb [Zq v27,Zq v28,Zq v29,AV.val (PV.v (Value.slice none (0:Nat) (0:Nat))),AV.val (PV.v (Value.slice none (0:Nat) (0:Nat))),Zq v30,AV.val (PV.v (Value.slice none (0:Nat) (0:Nat))),Zq v31])])
noncomputable def Zce (k:Nat) (L3:ZuP):ZuP
 | (v0,v1,v2,v3,v4,v5,v6,v7,v8,v9,v10,v11,v12,v13,v14,v15,v16,v17,v18,v19,v20,v21,v22,v23,v24,v25,v26,v27,v28,v29,v30,v31) => bif decide (v0 < 3) then bif decide (0 ≤ v0 ∧ v0 < 3) then bif decide ([v1,v2,v3].getD v0.toNat (0:Int) < v4) then (Zoc k (v8,[v1,v2,v3].getD v0.toNat (0:Int),())).bind fun y => (Zha k ((v5,v6,v7,v8,(v9,v10,()),v11,v12,()),IntKind.i64.wrap ((31:Int) + [v1,v2,v3].getD v0.toNat (0:Int)),(y.1.1.1,y.1.1.2.1,()),IntKind.i64.wrap ((9:Int) + IntKind.i64.wrap ((12:Int) * [v1,v2,v3].getD v0.toNat (0:Int))),())).bind fun y => (Zbi k ((y.1.1.1,y.1.1.2.1,y.1.1.2.2.1,y.1.1.2.2.2.1,(y.1.1.2.2.2.2.1.1,y.1.1.2.2.2.2.1.2.1,()),y.1.1.2.2.2.2.2.1,y.1.1.2.2.2.2.2.2.1,()),y.1.2.1,(v13,v14,v15,v16,v17,v18,v19,v20,()),())).bind fun y => L3 (IntKind.i64.wrap (v0 + 1),v1,v2,v3,v4,v5,v6,v7,v8,v9,v10,v11,v12,y.2.1.1,y.2.1.2.1,y.2.1.2.2.1,y.2.1.2.2.2.1,y.2.1.2.2.2.2.1,y.2.1.2.2.2.2.2.1,y.2.1.2.2.2.2.2.2.1,y.2.1.2.2.2.2.2.2.2.1,v21,v22,v23,v24,v25,v26,v27,v28,v29,v30,v31) else L3 (IntKind.i64.wrap (v0 + 1),v1,v2,v3,v4,v5,v6,v7,v8,v9,v10,v11,v12,v13,v14,v15,v16,v17,v18,v19,v20,v21,v22,v23,v24,v25,v26,v27,v28,v29,v30,v31) else none else (Zbi k (((1:Int),v22,v23,v26,([],v24,()),[],IntKind.i64.wrap (v4 * v7),()),true,(v13,v14,v15,v16,v17,v18,v19,v20,()),())).bind fun y => some ((y.2.1.1,y.2.1.2.1,y.2.1.2.2.1,y.2.1.2.2.2.1,(y.2.1.2.2.2.2.1,y.2.1.2.2.2.2.2.1,()),y.2.1.2.2.2.2.2.2.1,y.2.1.2.2.2.2.2.2.2.1,()),())
noncomputable def ZkU (k:Nat):ZuP:=Zp (fun L3 => Zce k L3) k
noncomputable def ZCj (k:Nat) (n:Nat) (v:ZAE) :=
 Zy (Zpn k) ZCg [] [1,1,1,1,1,1,1,1,1,1,1,0,1,0] [] (Wh Tryz.f68) (Wp (Zpn k) Tryz.f68 Z5 ZkV [] []) n (ZRM v)
def ZRL:ZAD → St
 | (v0,v1,v2,v3,v4,v5,v6,v7,v8,v9,v10,v11,v12,v13,v14,v15,v16,v17,v18,v19,v20,v21,v22,v23,v24,v25,v26,v27,v28,v29) => St.mk (ZC [(62,Zq v0),(63,Zq v1),(10,AV.clo 107 [AV.bx 8192 0]),(6,AV.bx 8193 0),(11,Zq v2),(12,AV.bx 8194 0),(9,AV.bx 8192 0),(4,AV.bx 8196 0)]) (ZA [(8192,Wb [Zq v3,Zq v4,Zq v5,Xn v6,Xn v7,Zq v8,Xn v9,Zq v10]),(8193,Wb [Zq v11,Zq v12,Zq v13,Xn v14,Xn v15,Zq v16,Xn v17,Zq v18]),(8194,Wb [Zq v19,Zq v20,Zq v21,AV.own 8195,AV.val (PV.v (Value.slice none (0:Nat) (0:Nat))),Zq v22,AV.val (PV.v (Value.slice none (0:Nat) (0:Nat))),Zq v23]),(8195,rsA v24 true),(8196,Wb [Zq v25,Zq v26,Zq v27,AV.val (PV.v (Value.slice none (0:Nat) (0:Nat))),AV.val (PV.v (Value.slice none (0:Nat) (0:Nat))),Zq v28,AV.val (PV.v (Value.slice none (0:Nat) (0:Nat))),Zq v29])])
noncomputable def Zej (k:Nat) (L3:ZuP) (L2:ZuO):ZuO
 | (v0,v1,v2,v3,v4,v5,v6,v7,v8,v9,v10,v11,v12,v13,v14,v15,v16,v17,v18,v19,v20,v21,v22,v23,v24,v25,v26,v27,v28,v29) => bif decide (v1 < v0) then (ZdH k (v1,())).bind fun y => (Zha k ((v11,v12,v13,v14,(v15,v16,()),v17,v18,()),IntKind.i64.wrap ((8:Int) + v1),(y.1.1.1,y.1.1.2.1,()),0,())).bind fun y => (Zbi k ((y.1.1.1,y.1.1.2.1,y.1.1.2.2.1,y.1.1.2.2.2.1,(y.1.1.2.2.2.2.1.1,y.1.1.2.2.2.2.1.2.1,()),y.1.1.2.2.2.2.2.1,y.1.1.2.2.2.2.2.2.1,()),y.1.2.1,(v3,v4,v5,v6,v7,v8,v9,v10,()),())).bind fun y => L2 (v0,IntKind.i64.wrap (v1 + 1),v2,y.2.1.1,y.2.1.2.1,y.2.1.2.2.1,y.2.1.2.2.2.1,y.2.1.2.2.2.2.1,y.2.1.2.2.2.2.2.1,y.2.1.2.2.2.2.2.2.1,y.2.1.2.2.2.2.2.2.2.1,v11,v12,v13,v14,v15,v16,v17,v18,v19,v20,v21,v22,v23,v24,v25,v26,v27,v28,v29) else L3 (0,(2:Int),(4:Int),(8:Int),v2,v11,v12,v13,v14,v15,v16,v17,v18,v3,v4,v5,v6,v7,v8,v9,v10,v19,v20,v21,v22,v23,v24,v25,v26,v27,v28,v29)
noncomputable def ZkT (k:Nat):ZuO:=Zp (fun L2 => Zej k (ZkU k) L2) k
noncomputable def ZCi (k:Nat) (n:Nat) (v:ZAD) :=
 Zy (Zpn k) ZCg [] [1,1,1,1,1,1,1,1,1,1,0,1,0] [] (Wh Tryz.f68) (Wp (Zpn k) Tryz.f68 Z5 ZkV [] []) n (ZRL v)
def ZRK:ZAC → St
 | (v0,v1,v2,v3,v4,v5,v6,v7,v8,v9,v10,v11,v12,v13,v14) => St.mk (ZC [(28,Zq v0),(29,Zq v1),(27,Xn v2),(6,AV.bx 8192 0),(5,Zq v3),(4,AV.bx 8194 0)]) (ZA [(8192,Wb [Zq v4,Zq v5,Zq v6,AV.own 8193,AV.val (PV.v (Value.slice none (0:Nat) (0:Nat))),Zq v7,AV.val (PV.v (Value.slice none (0:Nat) (0:Nat))),Zq v8]),(8193,rsA v9 false),(8194,Wb [Zq v10,Zq v11,Zq v12,AV.val (PV.v (Value.slice none (0:Nat) (0:Nat))),AV.val (PV.v (Value.slice none (0:Nat) (0:Nat))),Zq v13,AV.val (PV.v (Value.slice none (0:Nat) (0:Nat))),Zq v14])])
def Ks (k:Nat) (L2:ZuO) (L1:ZuN):ZuN
 | (v0,v1,v2,v3,v4,v5,v6,v7,v8,v9,v10,v11,v12,v13,v14) => bif decide (v1 < v0) then bif decide (0 ≤ v1 ∧ v1 < Int.ofNat v2.length) then bif decide (0 ≤ v3) then bif decide (v9.length + [Int.fdiv (v2.getD v1.toNat 0) ((2:Int) ^ min v3.toNat 64)].length < 2147483648) then L1 (v0,IntKind.i64.wrap (v1 + 1),v2,v3,v4,v5,v6,v7,v8,v9 ++ [Int.fdiv (v2.getD v1.toNat 0) ((2:Int) ^ min v3.toNat 64)],v10,v11,v12,v13,v14) else none else none else none else (ZdE k (v9,((v4,v5,v6,v9,[],v7,[],v8,()),()),())).bind fun y => (Zbi k (((0:Int),v5,v6,v9,([],v7,()),[],v6,()),!y.1,(0,0,0,[],[],0,[],(-1:Int),()),())).bind fun y_1 => L2 (IntKind.i64.wrap ((if Int.ofNat v9.length < (4:Int) then Int.ofNat v9.length else (4:Int)) + (1:Int)),(0:Int),Int.ofNat v9.length,y_1.2.1.1,y_1.2.1.2.1,y_1.2.1.2.2.1,y_1.2.1.2.2.2.1,y_1.2.1.2.2.2.2.1,y_1.2.1.2.2.2.2.2.1,y_1.2.1.2.2.2.2.2.2.1,y_1.2.1.2.2.2.2.2.2.2.1,y.2.1.1,y.2.1.2.1,y.2.1.2.2.1,y.2.1.2.2.2.1,y.2.1.2.2.2.2.1,y.2.1.2.2.2.2.2.1,y.2.1.2.2.2.2.2.2.1,y.2.1.2.2.2.2.2.2.2.1,(0:Int),v5,v6,v7,v6,v9,v10,v11,v12,v13,v14)
noncomputable def ZuQ (k:Nat):ZuN:=Zp (fun L1 => Ks k (ZkT k) L1) k
noncomputable def ZCh (k:Nat) (n:Nat) (v:ZAC) :=
 Zy (Zpn k) ZCg [] [1,1,1,0,1,0] [] (Wh Tryz.f68) (Wp (Zpn k) Tryz.f68 Z5 ZkV [] []) n (ZRK v)
def Zi0 (k:Nat) (L1:ZuN):List Int × Int × Unit → Option ((Int × Int × Int × List Int × (List Int × Int × Unit) × List Int × Int × Unit) × Unit)
 | (a0,a1,()) => (Zn7 k (a0,())).bind fun y => L1 (Int.ofNat a0.length,(0:Int),a0,y.1,(0:Int),y.1,IntKind.i64.wrap (a1 - y.1),(0:Int),(0:Int),[],(0:Int),(0:Int),(0:Int),(0:Int),(0:Int))
noncomputable def Zr6 (k:Nat):=Zi0 k (ZuQ k)
theorem ZJm (k:Nat):∀ n,ZCj k n = Zp (fun L3 => Zce k L3) n :=
 Zl (fun v => by kernel_rfl) (fun n v => by
  obtain ⟨v0,v1,v2,v3,v4,v5,v6,v7,v8,v9,v10,v11,v12,v13,v14,v15,v16,v17,v18,v19,v20,v21,v22,v23,v24,v25,v26,v27,v28,v29,v30,v31⟩:=v
  kernel_rfl)
theorem ZJl (k:Nat):∀ n,ZCi k n = Zp (fun L2 => Zej k (ZkU k) L2) n :=
 Zl (fun v => by kernel_rfl) (fun n v => by
  rw [show (ZkU k) = ZCj k k from (ZJm k k).symm]
  obtain ⟨v0,v1,v2,v3,v4,v5,v6,v7,v8,v9,v10,v11,v12,v13,v14,v15,v16,v17,v18,v19,v20,v21,v22,v23,v24,v25,v26,v27,v28,v29⟩:=v
  kernel_rfl)
theorem ZJk (k:Nat):∀ n,ZCh k n = Zp (fun L1 => Ks k (ZkT k) L1) n :=
 Zl (fun v => by kernel_rfl) (fun n v => by
  rw [show (ZkT k) = ZCi k k from (ZJl k k).symm]
  obtain ⟨v0,v1,v2,v3,v4,v5,v6,v7,v8,v9,v10,v11,v12,v13,v14⟩:=v
  kernel_rfl)
theorem ZRN (k:Nat) (x:Kd.dens Z5):ZF (Zpn k) ZCg Tryz.f68 Z5 ZkV x = Zr6 k x:=by
 show _ = Zi0 k (ZuQ k) x
 rw [show ZuQ k = ZCh k k from (ZJk k k).symm]
 obtain ⟨a0,⟨a1,⟨⟩⟩⟩:=x
 kernel_rfl
theorem ZNo (k:Nat):Ctr Tryz.prog k 68 (mk Z5 ZkV Zr6) :=
 ZG (fn:=Tryz.f68) (Zh (Za (ZzD k) (Za (ZGD k) (Za (Zoa k) (Za (ZGG k) (Za (ZGH k) (Za (ZGE k) Zd))))))) (by kernel_rfl) (by kernel_rfl) (ZRN k)
noncomputable abbrev ZTG:Nat × Callee:=(68,mk Z5 ZkV Zr6)
def ZOR:Nat → Ann:=fun id => bif Nat.beq id 4 then ⟨[15,16,0],[]⟩ else ⟨[],[]⟩
abbrev ZuR:=ZcT → Option (Int × (List Int × Int × Unit) × Unit)
def ZRO:ZcT → St
 | (v0,v1,v2,v3) => St.mk (ZC [(15,Zq v0),(16,Zq v1),(0,AV.bx 0 0)]) (ZA [(0,Wb [AV.own 8192,Zq v2]),(8192,RS.live (Res.arr (Ty.int IntKind.u8) v3 false))])
def Zek (k:Nat) (L1:ZuR):ZuR
 | (v0,v1,v2,v3) => bif decide (v1 < v0) then (Zg8 k ((v3,v2,()),0,())).bind fun y => L1 (v0,IntKind.i64.wrap (v1 + 1),y.2.1.2.1,y.2.1.1) else (Zg8 k ((v3,v2,()),1,())).bind fun y => some (0,(y.2.1.1,y.2.1.2.1,()),())
def ZuS (k:Nat):ZuR:=Zp (fun L1 => Zek k L1) k
noncomputable def ZCk (k:Nat) (n:Nat) (v:ZcT) :=
 Zy (Zr2 k) ZOR [0] [1,1,0,1,0] [] (Wh Tryz.f69) (Wp (Zr2 k) Tryz.f69 K0 Zf [AV.bx (nat_lit 0) (nat_lit 0)] [[]]) n (ZRO v)
def Zi1 (k:Nat) (L1:ZuR):(List Int × Int × Unit) × Int × Unit → Option (Int × (List Int × Int × Unit) × Unit)
 | ((a0,a1,()),a2,()) => bif decide (a2 < 0) then some (1,(a0,a1,()),()) else bif decide ((65536:Int) < a2) then some (1,(a0,a1,()),()) else L1 (a2,(0:Int),a1,a0)
def ZlL (k:Nat):=Zi1 k (ZuS k)
theorem ZJo (k:Nat):∀ n,ZCk k n = Zp (fun L1 => Zek k L1) n :=
 Zl (fun v => by kernel_rfl) (fun n v => by
  obtain ⟨v0,v1,v2,v3⟩:=v
  kernel_rfl)
theorem ZRP (k:Nat) (x:Kd.dens K0):ZF (Zr2 k) ZOR Tryz.f69 K0 Zf x = ZlL k x:=by
 show _ = Zi1 k (ZuS k) x
 rw [show ZuS k = ZCk k k from (ZJo k k).symm]
 obtain ⟨⟨a0,⟨a1,⟨⟩⟩⟩,⟨a2,⟨⟩⟩⟩:=x
 kernel_rfl
theorem ZCl (k:Nat):Ctr Tryz.prog k 69 (mk K0 Zf ZlL) :=
 ZG (fn:=Tryz.f69) (Zh (Za (ZwB k) Zd)) (by kernel_rfl) (by kernel_rfl) (ZRP k)
noncomputable abbrev ZOS:Nat × Callee:=(69,mk K0 Zf ZlL)
def Zfg (k:Nat):(List Int × Int × Unit) × Int × Int × Unit → Option (Int × (List Int × Int × Unit) × Unit)
 | ((a0,a1,()),a2,a3,()) => (Zpi k (a3,())).bind fun y => bif y.1 then some (1,(a0,a1,()),()) else bif a3 == 0 then bif a2 != 0 then some (12,(a0,a1,()),()) else bif decide ((0:Int) < a3) then bif decide (0 ≤ IntKind.i64.wrap (a3 - 1)) then bif a2.fdiv ((2:Int) ^ min (IntKind.i64.wrap (a3 - 1)).toNat 64) != (0:Int) then bif decide (0 ≤ IntKind.i64.wrap (a3 - 1)) then bif a2.fdiv ((2:Int) ^ min (IntKind.i64.wrap (a3 - 1)).toNat 64) != (-1:Int) then some (12,(a0,a1,()),()) else (Zdh k ((a0,a1,()),IntKind.u64.wrap a2,a3,())).bind fun y => some (0,(y.2.1.1,y.2.1.2.1,()),()) else none else (Zdh k ((a0,a1,()),IntKind.u64.wrap a2,a3,())).bind fun y => some (0,(y.2.1.1,y.2.1.2.1,()),()) else none else (Zdh k ((a0,a1,()),IntKind.u64.wrap a2,a3,())).bind fun y => some (0,(y.2.1.1,y.2.1.2.1,()),()) else bif decide ((0:Int) < a3) then bif decide (0 ≤ IntKind.i64.wrap (a3 - 1)) then bif a2.fdiv ((2:Int) ^ min (IntKind.i64.wrap (a3 - 1)).toNat 64) != (0:Int) then bif decide (0 ≤ IntKind.i64.wrap (a3 - 1)) then bif a2.fdiv ((2:Int) ^ min (IntKind.i64.wrap (a3 - 1)).toNat 64) != (-1:Int) then some (12,(a0,a1,()),()) else (Zdh k ((a0,a1,()),IntKind.u64.wrap a2,a3,())).bind fun y => some (0,(y.2.1.1,y.2.1.2.1,()),()) else none else (Zdh k ((a0,a1,()),IntKind.u64.wrap a2,a3,())).bind fun y => some (0,(y.2.1.1,y.2.1.2.1,()),()) else none else (Zdh k ((a0,a1,()),IntKind.u64.wrap a2,a3,())).bind fun y => some (0,(y.2.1.1,y.2.1.2.1,()),())
def Zkl (k:Nat):=Zfg k
theorem ZLm (k:Nat) (x:Kd.dens Zd1):ZF (ZOq k) nA Tryz.f112 Zd1 Zf x = Zkl k x:=by
 show _ = Zfg k x
 obtain ⟨⟨a0,⟨a1,⟨⟩⟩⟩,⟨a2,⟨a3,⟨⟩⟩⟩⟩:=x
 kernel_rfl
theorem ZwJ (k:Nat):Ctr Tryz.prog k 112 (mk Zd1 Zf Zkl) :=
 ZG (fn:=Tryz.f112) (Zh (Za (ZuH k) (Za (ZCc k) Zd))) (by kernel_rfl) (by kernel_rfl) (ZLm k)
noncomputable abbrev ZGJ:Nat × Callee:=(112,mk Zd1 Zf Zkl)
abbrev Yb:List Kd:=[.box [.own (.int .u8) false,.view (.int .i64)],.view (.sl (.int .i64)),.view (.int .i64)]
noncomputable def ZJp (k:Nat):=Wd k [ZGJ]
def ZOT:Nat → Ann:=fun id => bif Nat.beq id 1 then ⟨[9,10,8,0,2],[]⟩ else ⟨[],[]⟩
abbrev Zel:=Int × Int × List Int × Int × Int × List Int
abbrev ZuT:=Zel → Option (Unit × (List Int × Int × Unit) × Unit)
def ZRQ:Zel → St
 | (v0,v1,v2,v3,v4,v5) => St.mk (ZC [(9,Zq v0),(10,Zq v1),(8,Xn v2),(0,AV.bx 0 0),(2,Zq v3)]) (ZA [(0,Wb [AV.own 8192,Zq v4]),(8192,RS.live (Res.arr (Ty.int IntKind.u8) v5 false))])
def Zem (k:Nat) (L1:ZuT):ZuT
 | (v0,v1,v2,v3,v4,v5) => bif decide (v1 < v0) then bif decide (0 ≤ v1 ∧ v1 < Int.ofNat v2.length) then (Zkl k ((v5,v4,()),v2.getD v1.toNat 0,v3,())).bind fun y => L1 (v0,IntKind.i64.wrap (v1 + 1),v2,v3,y.2.1.2.1,y.2.1.1) else none else some ((),(v5,v4,()),())
def ZuU (k:Nat):ZuT:=Zp (fun L1 => Zem k L1) k
noncomputable def ZCm (k:Nat) (n:Nat) (v:Zel) :=
 Zy (ZJp k) ZOT [0] [1,0] [] (Wh Tryz.f70) (Wp (ZJp k) Tryz.f70 Yb Qy [AV.bx (nat_lit 0) (nat_lit 0)] [[]]) n (ZRQ v)
def Zi2 (k:Nat) (L1:ZuT):(List Int × Int × Unit) × List Int × Int × Unit → Option (Unit × (List Int × Int × Unit) × Unit)
 | ((a0,a1,()),a2,a3,()) => L1 (Int.ofNat a2.length,(0:Int),a2,a3,a1,a0)
def KT (k:Nat):=Zi2 k (ZuU k)
theorem ZJq (k:Nat):∀ n,ZCm k n = Zp (fun L1 => Zem k L1) n :=
 Zl (fun v => by kernel_rfl) (fun n v => by
  obtain ⟨v0,v1,v2,v3,v4,v5⟩:=v
  kernel_rfl)
theorem ZRR (k:Nat) (x:Kd.dens Yb):ZF (ZJp k) ZOT Tryz.f70 Yb Qy x = KT k x:=by
 show _ = Zi2 k (ZuU k) x
 rw [show ZuU k = ZCm k k from (ZJq k k).symm]
 obtain ⟨⟨a0,⟨a1,⟨⟩⟩⟩,⟨a2,⟨a3,⟨⟩⟩⟩⟩:=x
 kernel_rfl
theorem ZNr (k:Nat):Ctr Tryz.prog k 70 (mk Yb Qy KT) :=
 ZG (fn:=Tryz.f70) (Zh (Za (ZwJ k) Zd)) (by kernel_rfl) (by kernel_rfl) (ZRR k)
noncomputable abbrev ZTH:Nat × Callee:=(70,mk Yb Qy KT)
noncomputable def Zya (k:Nat):=Wd k [ZIq,ZOS,ZGK,ZGL,ZGN,(116,mk Zt Zf ZcK),(117,mk Zt Zf KJ),(118,mk Zt ZQ Zhd),ZGJ]
noncomputable def ZJr:Nat → Ann:=fun id => bif Nat.beq id 17 then ⟨[69,70,68,11,8,0,41,40,39],[]⟩ else bif Nat.beq id 10 then ⟨[40,41,39,8,0],[]⟩ else ⟨[],[]⟩
abbrev ZAG:=Int × Int × List Int × Int × Int × List (List Int) × Int × List Int × Int × Int × Int × Int × Int × List (Int × Int × Int × Unit) × Int
abbrev ZuV:=ZAG → Option (Int × (List Int × Int × Unit) × Unit)
abbrev ZAF:=Int × Int × List (List Int) × Int × List Int × Int × Int × List (Int × Int × Int × Unit) × Int
abbrev ZkW:=ZAF → Option (Int × (List Int × Int × Unit) × Unit)
noncomputable def ZRT:ZAG → St
 | (v0,v1,v2,v3,v4,v5,v6,v7,v8,v9,v10,v11,v12,v13,v14) => St.mk (ZC [(69,Zq v0),(70,Zq v1),(68,Xn v2),(11,AV.bx 8193 0),(8,AV.bx 8194 0),(0,AV.bx 0 0),(41,Zq v3),(40,Zq v4),(39,AV.val (PV.sl (Ty.int IntKind.i64).sl v5))]) (ZA [(0,Wb [AV.own 8192,Zq v6]),(8192,RS.live (Res.arr (Ty.int IntKind.u8) v7 false)),(8193,Wb [Zq v8,Zq v9,Zq v10]),(8194,Wb [Zq v11,Zq v12,AV.val (PV.sl ((Ty.int IntKind.i64).pair ((Ty.int IntKind.i64).pair ((Ty.int IntKind.i64).pair Ty.unit))) v13),Zq v14])])
noncomputable def Kt (k:Nat) (L1:ZkW) (L2:ZuV):ZuV
 | (v0,v1,v2,v3,v4,v5,v6,v7,v8,v9,v10,v11,v12,v13,v14) => bif decide (v1 < v0) then bif decide (0 ≤ v1 ∧ v1 < Int.ofNat v2.length) then (KJ k (v11,())).bind fun y => bif v8 == y.1 then (Zkl k ((v7,v6,()),v2.getD v1.toNat 0,v9,())).bind fun y => L2 (v0,IntKind.i64.wrap (v1 + 1),v2,v3,v4,v5,y.2.1.2.1,y.2.1.1,v8,v9,v10,v11,v12,v13,v14) else (Zhd k (v2.getD v1.toNat 0,())).bind fun y => bif decide (0 ≤ v8) then (ZlL k ((v7,v6,()),Int.fdiv y.1.1 ((2:Int) ^ min v8.toNat 64),())).bind fun y_1 => bif decide (0 ≤ v8) then (QM k ((y_1.2.1.1,y_1.2.1.2.1,()),IntKind.i64.wrap (Int.ofNat (BitVec.ofInt 64 y.1.1 &&& BitVec.ofInt 64 (IntKind.i64.wrap (IntKind.i64.wrap ((1:Int) * (2:Int) ^ min v8.toNat 64) - (1:Int)))).toNat),v8,())).bind fun y => L2 (v0,IntKind.i64.wrap (v1 + 1),v2,v3,v4,v5,y.2.1.2.1,y.2.1.1,v8,v9,v10,v11,v12,v13,v14) else none else none else none else L1 (v4,IntKind.i64.wrap (v3 + 1),v5,v6,v7,v11,v12,v13,v14)
noncomputable def ZkX (k:Nat) (L1:ZkW):ZuV:=Zp (fun L2 => Kt k L1 L2) k
noncomputable def Znj (k:Nat) (n1:Nat) (n:Nat) (v:ZAG):Option (Int × (List Int × Int × Unit) × Unit) :=
 Zy (Zya k) ZJr [0] [1,1,1,1,1,1,0,1,0,0,1,1,0,0,1,1,1,1,1,0] [n1] (Wh Tryz.f71) (Wp (Zya k) Tryz.f71 Yb Zf [AV.bx (nat_lit 0) (nat_lit 0)] [[]]) n (ZRT v)
noncomputable def ZRS:ZAF → St
 | (v0,v1,v2,v3,v4,v5,v6,v7,v8) => St.mk (ZC [(40,Zq v0),(41,Zq v1),(39,AV.val (PV.sl (Ty.int IntKind.i64).sl v2)),(8,AV.bx 8193 0),(0,AV.bx 0 0)]) (ZA [(0,Wb [AV.own 8192,Zq v3]),(8192,RS.live (Res.arr (Ty.int IntKind.u8) v4 false)),(8193,Wb [Zq v5,Zq v6,AV.val (PV.sl ((Ty.int IntKind.i64).pair ((Ty.int IntKind.i64).pair ((Ty.int IntKind.i64).pair Ty.unit))) v7),Zq v8])])
noncomputable def Zeo (k:Nat) (L2:ZuV) (L1:ZkW):ZkW
 | (v0,v1,v2,v3,v4,v5,v6,v7,v8) => bif decide (v1 < v0) then bif decide (0 ≤ v1 ∧ v1 < Int.ofNat v2.length) then bif decide (0 ≤ v1 ∧ v1 < Int.ofNat v7.length) then (ZcK k (v5,())).bind fun y => (QM k ((v4,v3,()),(v7.getD v1.toNat (0,0,0,())).1,y.1,())).bind fun y => (KJ k (v5,())).bind fun y_1 => bif (v7.getD v1.toNat (0,0,0,())).1 == y_1.1 then (QM k ((y.2.1.1,y.2.1.2.1,()),(v7.getD v1.toNat (0,0,0,())).2.1,5,())).bind fun y => L2 (Int.ofNat (List.length (v2.getD v1.toNat [])),(0:Int),v2.getD v1.toNat [],v1,v0,v2,y.2.1.2.1,y.2.1.1,(v7.getD v1.toNat (0,0,0,())).1,(v7.getD v1.toNat (0,0,0,())).2.1,(v7.getD v1.toNat (0,0,0,())).2.2.1,v5,v6,v7,v8) else L2 (Int.ofNat (List.length (v2.getD v1.toNat [])),(0:Int),v2.getD v1.toNat [],v1,v0,v2,y.2.1.2.1,y.2.1.1,(v7.getD v1.toNat (0,0,0,())).1,(v7.getD v1.toNat (0,0,0,())).2.1,(v7.getD v1.toNat (0,0,0,())).2.2.1,v5,v6,v7,v8) else none else none else some (0,(v4,v3,()),())
noncomputable def ZuW (k:Nat):ZkW:=Zp (fun L1 => Zeo k (ZkX k L1) L1) k
noncomputable def Zi3 (k:Nat) (n:Nat) (v:ZAF) :=
 Zy (Zya k) ZJr [0] [1,1,1,1,1,1,0,1,0] [] (Wh Tryz.f71) (Wp (Zya k) Tryz.f71 Yb Zf [AV.bx (nat_lit 0) (nat_lit 0)] [[]]) n (ZRS v)
noncomputable def Zi4 (k:Nat) (L1:ZkW):(List Int × Int × Unit) × List Int × Int × Unit → Option (Int × (List Int × Int × Unit) × Unit)
 | ((a0,a1,()),a2,a3,()) => (Zkm k (a2,a3,())).bind fun y => bif y.1 != 0 then some (y.1,(a0,a1,()),()) else (Zkn k (a2,a3,())).bind fun y => (QM k ((a0,a1,()),y.1.1,2,())).bind fun y_1 => (QM k ((y_1.2.1.1,y_1.2.1.2.1,()),y.1.2.1,4,())).bind fun y_2 => (Zko k (a2,a3,y.1.2.1,())).bind fun y_3 => L1 (Int.ofNat (List.length y_3.1),(0:Int),y_3.1,y_2.2.1.2.1,y_2.2.1.1,y.1.1,y.1.2.1,y.1.2.2.1,y.1.2.2.2.1)
noncomputable def ZgG (k:Nat):=Zi4 k (ZuW k)
theorem ZJt (k:Nat) (n1:Nat):∀ n,Znj k n1 n = Zp (fun L2 => Kt k (Zi3 k n1) L2) n :=
 Zl (fun v => by kernel_rfl) (fun n v => by
  show Znj k n1 (n + 1) v = Kt k (Zi3 k n1) (Znj k n1 n) v
  obtain ⟨v0,v1,v2,v3,v4,v5,v6,v7,v8,v9,v10,v11,v12,v13,v14⟩:=v
  kernel_rfl)
theorem ZJs (k:Nat):∀ n,Zi3 k n = Zp (fun L1 => Zeo k (ZkX k L1) L1) n :=
 Zl (fun v => by kernel_rfl) (fun n v => by
  rw [show (ZkX k (Zi3 k n)) = Znj k n k from (ZJt k n k).symm]
  obtain ⟨v0,v1,v2,v3,v4,v5,v6,v7,v8⟩:=v
  kernel_rfl)
theorem ZRU (k:Nat) (x:Kd.dens Yb):ZF (Zya k) ZJr Tryz.f71 Yb Zf x = ZgG k x:=by
 show _ = Zi4 k (ZuW k) x
 rw [show ZuW k = Zi3 k k from (ZJs k k).symm]
 obtain ⟨⟨a0,⟨a1,⟨⟩⟩⟩,⟨a2,⟨a3,⟨⟩⟩⟩⟩:=x
 kernel_rfl
theorem ZNs (k:Nat):Ctr Tryz.prog k 71 (mk Yb Zf ZgG) :=
 ZG (fn:=Tryz.f71) (Zh (Za (Zt8 k) (Za (ZCl k) (Za (ZwK k) (Za (ZwL k) (Za (ZwN k) (Za (Zkp k) (Za (Zkr k) (Za (Zrs k) (Za (ZwJ k) Zd)))))))))) (by kernel_rfl) (by kernel_rfl) (ZRU k)
noncomputable abbrev ZTI:Nat × Callee:=(71,mk Yb Zf ZgG)
noncomputable def ZTb (k:Nat):=Wd k [ZIq,ZTF,ZTG,ZOS,ZTH,ZTI]
noncomputable def ZxP (k:Nat):(List Int × Int × Unit) × List Int × Int × Unit → Option (Int × (List Int × Int × Unit) × Unit)
 | ((a0,a1,()),a2,a3,()) => (Zr5 k (a2,a3,())).bind fun y => bif y.1 != 0 then some (y.1,(a0,a1,()),()) else (Zr6 k (a2,a3,())).bind fun y => (QM k ((a0,a1,()),y.1.1,7,())).bind fun y_1 => bif decide ((0:Int) < y.1.2.1) then (QM k ((y_1.2.1.1,y_1.2.1.2.1,()),1,1,())).bind fun y_2 => (ZlL k ((y_2.2.1.1,y_2.2.1.2.1,()),IntKind.i64.wrap (y.1.2.1 - 1),())).bind fun y_3 => bif y.1.1 == 0 then bif decide ((0:Int) ≤ 0 ∧ (0:Int) ≤ 1 ∧ (1:Int) ≤ Int.ofNat (List.length y.1.2.2.2.1)) then (KT k ((y_3.2.1.1,y_3.2.1.2.1,()),List.drop 0 (List.take 1 y.1.2.2.2.1),y.1.2.2.1,())).bind fun y => some (0,(y.2.1.1,y.2.1.2.1,()),()) else none else bif y.1.1 == 1 then (KT k ((y_3.2.1.1,y_3.2.1.2.1,()),y.1.2.2.2.1,y.1.2.2.1,())).bind fun y => some (0,(y.2.1.1,y.2.1.2.1,()),()) else bif decide ((0:Int) ≤ 0 ∧ (0:Int) ≤ Int.ofNat (List.length y.1.2.2.2.2.1.1) ∧ Int.ofNat (List.length y.1.2.2.2.2.1.1) ≤ Int.ofNat (List.length y.1.2.2.2.1)) then (KT k ((y_3.2.1.1,y_3.2.1.2.1,()),List.drop 0 (List.take (Int.ofNat (List.length y.1.2.2.2.2.1.1)).toNat y.1.2.2.2.1),y.1.2.2.1,())).bind fun y_4 => bif decide ((31:Int) < y.1.1) then (QM k ((y_4.2.1.1,y_4.2.1.2.1,()),11,4,())).bind fun y_5 => (QM k ((y_5.2.1.1,y_5.2.1.2.1,()),y.1.2.2.2.2.1.2.1,5,())).bind fun y_6 => (KT k ((y_6.2.1.1,y_6.2.1.2.1,()),y.1.2.2.2.2.1.1,12,())).bind fun y_7 => (ZgG k ((y_7.2.1.1,y_7.2.1.2.1,()),y.1.2.2.2.2.2.1,Int.ofNat (List.length y.1.2.2.2.2.1.1),())).bind fun y => some (y.1,(y.2.1.1,y.2.1.2.1,()),()) else (ZgG k ((y_4.2.1.1,y_4.2.1.2.1,()),y.1.2.2.2.2.2.1,Int.ofNat (List.length y.1.2.2.2.2.1.1),())).bind fun y => some (y.1,(y.2.1.1,y.2.1.2.1,()),()) else none else (QM k ((y_1.2.1.1,y_1.2.1.2.1,()),0,1,())).bind fun y_2 => bif y.1.1 == 0 then bif decide ((0:Int) ≤ 0 ∧ (0:Int) ≤ 1 ∧ (1:Int) ≤ Int.ofNat (List.length y.1.2.2.2.1)) then (KT k ((y_2.2.1.1,y_2.2.1.2.1,()),List.drop 0 (List.take 1 y.1.2.2.2.1),y.1.2.2.1,())).bind fun y => some (0,(y.2.1.1,y.2.1.2.1,()),()) else none else bif y.1.1 == 1 then (KT k ((y_2.2.1.1,y_2.2.1.2.1,()),y.1.2.2.2.1,y.1.2.2.1,())).bind fun y => some (0,(y.2.1.1,y.2.1.2.1,()),()) else bif decide ((0:Int) ≤ 0 ∧ (0:Int) ≤ Int.ofNat (List.length y.1.2.2.2.2.1.1) ∧ Int.ofNat (List.length y.1.2.2.2.2.1.1) ≤ Int.ofNat (List.length y.1.2.2.2.1)) then (KT k ((y_2.2.1.1,y_2.2.1.2.1,()),List.drop 0 (List.take (Int.ofNat (List.length y.1.2.2.2.2.1.1)).toNat y.1.2.2.2.1),y.1.2.2.1,())).bind fun y_3 => bif decide ((31:Int) < y.1.1) then (QM k ((y_3.2.1.1,y_3.2.1.2.1,()),11,4,())).bind fun y_4 => (QM k ((y_4.2.1.1,y_4.2.1.2.1,()),y.1.2.2.2.2.1.2.1,5,())).bind fun y_5 => (KT k ((y_5.2.1.1,y_5.2.1.2.1,()),y.1.2.2.2.2.1.1,12,())).bind fun y_6 => (ZgG k ((y_6.2.1.1,y_6.2.1.2.1,()),y.1.2.2.2.2.2.1,Int.ofNat (List.length y.1.2.2.2.2.1.1),())).bind fun y => some (y.1,(y.2.1.1,y.2.1.2.1,()),()) else (ZgG k ((y_3.2.1.1,y_3.2.1.2.1,()),y.1.2.2.2.2.2.1,Int.ofNat (List.length y.1.2.2.2.2.1.1),())).bind fun y => some (y.1,(y.2.1.1,y.2.1.2.1,()),()) else none
noncomputable def ZrX (k:Nat):=ZxP k
theorem ZQY (k:Nat) (x:Kd.dens Yb):ZF (ZTb k) nA Tryz.f31 Yb Zf x = ZrX k x:=by
 show _ = ZxP k x
 obtain ⟨⟨a0,⟨a1,⟨⟩⟩⟩,⟨a2,⟨a3,⟨⟩⟩⟩⟩:=x
 kernel_rfl
theorem ZM0 (k:Nat):Ctr Tryz.prog k 31 (mk Yb Zf ZrX) :=
 ZG (fn:=Tryz.f31) (Zh (Za (Zt8 k) (Za (ZNn k) (Za (ZNo k) (Za (ZCl k) (Za (ZNr k) (Za (ZNs k) Zd))))))) (by kernel_rfl) (by kernel_rfl) (ZQY k)
noncomputable abbrev ZTc:Nat × Callee:=(31,mk Yb Zf ZrX)
def Ziy (k:Nat):(List Int × Int × Unit) × Unit → Option (Int × (List Int × Int × Unit) × Unit)
 | ((a0,a1,()),()) => some (IntKind.i64.wrap (Int.ofNat (BitVec.ofInt 64 (IntKind.i64.wrap ((0:Int) - a1)) &&& BitVec.ofInt 64 (7:Int)).toNat),(a0,IntKind.i64.wrap (a1 + IntKind.i64.wrap (Int.ofNat (BitVec.ofInt 64 (IntKind.i64.wrap ((0:Int) - a1)) &&& BitVec.ofInt 64 (7:Int)).toNat)),()),())
def ZxQ (k:Nat):=Ziy k
theorem ZQZ (k:Nat) (x:Kd.dens Zd4):ZF (ZH k) nA Tryz.f32 Zd4 Zf x = ZxQ k x:=by
 show _ = Ziy k x
 obtain ⟨⟨a0,⟨a1,⟨⟩⟩⟩,⟨⟩⟩:=x
 kernel_rfl
theorem ZM1 (k:Nat):Ctr Tryz.prog k 32 (mk Zd4 Zf ZxQ) :=
 ZG (fn:=Tryz.f32) (Zh Zd) (by kernel_rfl) (by kernel_rfl) (ZQZ k)
noncomputable abbrev ZTd:Nat × Callee:=(32,mk Zd4 Zf ZxQ)
def Ziz (k:Nat):List Int × Unit → Option (Int × Unit)
 | (a0,()) => (ZgF k (a0,16,32773,())).bind fun y => some (y.1,())
def ZrY (k:Nat):=Ziz k
theorem ZQ0 (k:Nat) (x:Kd.dens Q3):ZF (ZOr k) nA Tryz.f33 Q3 Zf x = ZrY k x:=by
 show _ = Ziz k x
 obtain ⟨a0,⟨⟩⟩:=x
 kernel_rfl
theorem ZBT (k:Nat):Ctr Tryz.prog k 33 (mk Q3 Zf ZrY) :=
 ZG (fn:=Tryz.f33) (Zh (Za (ZCe k) Zd)) (by kernel_rfl) (by kernel_rfl) (ZQ0 k)
noncomputable abbrev ZOu:Nat × Callee:=(33,mk Q3 Zf ZrY)
abbrev Zox:Kd:=.tup [.own (.int .u8) false,.view (.int .i64)]
noncomputable def Zxg (k:Nat):=Wd k [ZOp,ZS5,ZS6,ZIq,ZS7,ZOs,ZS9,ZOt,ZTc,ZTd,ZOu]
def ZHu:Nat → Ann:=fun id => bif Nat.beq id 27 then ⟨[87,88,86,12,7],[]⟩ else bif Nat.beq id 20 then ⟨[61,62,60,12,10,11,2,8,7],[]⟩ else ⟨[],[]⟩
abbrev Zz6:=Int × Int × List Int × List (List Int) × Int × List Int
abbrev ZtM:=Zz6 → Option ((List Int × Int × Unit) × Unit)
abbrev Zz5:=Int × Int × List Int × Int × Int × Int × List (List Int) × Int × List Int × Int × Int × Int
abbrev ZtL:=Zz5 → Option ((List Int × Int × Unit) × Unit)
def ZP0:Zz6 → St
 | (v0,v1,v2,v3,v4,v5) => St.mk (ZC [(87,Zq v0),(88,Zq v1),(86,Xn v2),(12,AV.bx 8192 0),(7,AV.val (PV.sl (Ty.int IntKind.i64).sl v3))]) (ZA [(8192,Wb [AV.own 8193,Zq v4]),(8193,RS.live (Res.arr (Ty.int IntKind.u8) v5 false))])
noncomputable def ZbY (k:Nat) (L2:ZtM):ZtM
 | (v0,v1,v2,v3,v4,v5) => bif decide (v1 < v0) then bif decide (0 ≤ v1 ∧ v1 < Int.ofNat v2.length) then bif decide (0 ≤ v1 ∧ v1 < Int.ofNat v3.length) then (ZrX k ((v5,v4,()),v3.getD v1.toNat [],v2.getD v1.toNat 0,())).bind fun y => bif y.1 != 0 then some (([],y.1,()),()) else L2 (v0,IntKind.i64.wrap (v1 + 1),v2,v3,y.2.1.2.1,y.2.1.1) else none else none else (ZxQ k ((v5,v4,()),())).bind fun y => (Zo2 k ((y.2.1.1,y.2.1.2.1,()),())).bind fun y => (ZrY k (y.1,())).bind fun y_1 => (QM k ((y.2.1.1,y.2.1.2.1,()),y_1.1,16,())).bind fun y => (Zo2 k ((y.2.1.1,y.2.1.2.1,()),())).bind fun y => some ((y.1,0,()),())
noncomputable def Zhf (k:Nat):ZtM:=Zp (fun L2 => ZbY k L2) k
noncomputable def ZBF (k:Nat) (n:Nat) (v:Zz6) :=
 Zy (Zxg k) ZHu [] [1,1,1,1,1,1,1,1,1,1,1,1,1,1,1,1,1,0,1,0] [] (Wh Tryz.f14) (Wp (Zxg k) Tryz.f14 W1 Zox [] []) n (ZP0 v)
def ZPZ:Zz5 → St
 | (v0,v1,v2,v3,v4,v5,v6,v7,v8,v9,v10,v11) => St.mk (ZC [(61,Zq v0),(62,Zq v1),(60,AV.val (PV.sl (Ty.int IntKind.u8) v2)),(12,AV.bx 8192 0),(10,Zq v3),(11,Zq v4),(2,AV.bx 8194 0),(8,Zq v5),(7,AV.val (PV.sl (Ty.int IntKind.i64).sl v6))]) (ZA [(8192,Wb [AV.own 8193,Zq v7]),(8193,RS.live (Res.arr (Ty.int IntKind.u8) v8 false)),(8194,Wb [Zq v9,Zq v10,Zq v11])])
def Kp (k:Nat) (L2:ZtM) (L1:ZtL):ZtL
 | (v0,v1,v2,v3,v4,v5,v6,v7,v8,v9,v10,v11) => bif decide (v1 < v0) then bif decide (0 ≤ v1 ∧ v1 < Int.ofNat v2.length) then (QM k ((v8,v7,()),IntKind.i64.wrap (v2.getD v1.toNat 0),8,())).bind fun y => L1 (v0,IntKind.i64.wrap (v1 + 1),v2,v3,v4,v5,v6,y.2.1.2.1,y.2.1.1,v9,v10,v11) else none else (QM k ((v8,v7,()),IntKind.i64.wrap (v3 - 1),IntKind.i64.wrap ((8:Int) * IntKind.i64.wrap (IntKind.i64.wrap (v4 - 6) + (1:Int))),())).bind fun y => (Zo2 k ((y.2.1.1,y.2.1.2.1,()),())).bind fun y => (ZrV k (y.1,())).bind fun y_1 => (QM k ((y.2.1.1,y.2.1.2.1,()),y_1.1,8,())).bind fun y => (ZrW k ((v9,v10,v11,()),v5,())).bind fun y_2 => L2 (Int.ofNat (List.length y_2.1),(0:Int),y_2.1,v6,y.2.1.2.1,y.2.1.1)
noncomputable def ZkG (k:Nat):ZtL:=Zp (fun L1 => Kp k (Zhf k) L1) k
noncomputable def ZBE (k:Nat) (n:Nat) (v:Zz5) :=
 Zy (Zxg k) ZHu [] [1,1,1,1,1,1,1,1,1,1,1,1,1,1,0,1,0] [] (Wh Tryz.f14) (Wp (Zxg k) Tryz.f14 W1 Zox [] []) n (ZPZ v)
def Zig (k:Nat) (L1:ZtL):(Int × Int × Int × Unit) × (Int × List (List Int) × Unit) × Unit → Option ((List Int × Int × Unit) × Unit)
 | ((a0,a1,a2,()),(a3,a4,()),()) => (ZgC k ((a0,a1,a2,()),(a3,a4,()),())).bind fun y => bif y.1 != 0 then some (([],y.1,()),()) else (ZxJ k ((a3,a4,()),())).bind fun y => bif y.1.2.2.1 != 0 then some (([],y.1.2.2.1,()),()) else bif decide ((0:Int) ≤ 0 ∧ (0:Int) < Int.ofNat (List.length y.1.1)) then bif decide ((256:Int) < Int.ofNat (List.length (List.getD y.1.1 (0:Nat) []))) then (ZoY k ()).bind fun y_1 => (QM k ((y_1.1.1,y_1.1.2.1,()),16382,14,())).bind fun y_2 => (QM k ((y_2.2.1.1,y_2.2.1.2.1,()),7,6,())).bind fun y_3 => (QM k ((y_3.2.1.1,y_3.2.1.2.1,()),y.1.2.1,8,())).bind fun y_4 => (QM k ((y_4.2.1.1,y_4.2.1.2.1,()),0,4,())).bind fun y_5 => (ZoZ k (a3,())).bind fun y_6 => bif y_6.1.2.1 != 0 then some (([],y_6.1.2.1,()),()) else L1 (Int.ofNat (List.length y_6.1.1),(0:Int),y_6.1.1,Int.ofNat (List.length (List.getD y.1.1 (0:Nat) [])),(7:Int),y.1.2.1,y.1.1,y_5.2.1.2.1,y_5.2.1.1,a0,a1,a2) else (ZoY k ()).bind fun y_1 => (QM k ((y_1.1.1,y_1.1.2.1,()),16382,14,())).bind fun y_2 => (QM k ((y_2.2.1.1,y_2.2.1.2.1,()),6,6,())).bind fun y_3 => (QM k ((y_3.2.1.1,y_3.2.1.2.1,()),y.1.2.1,8,())).bind fun y_4 => (QM k ((y_4.2.1.1,y_4.2.1.2.1,()),0,4,())).bind fun y_5 => (ZoZ k (a3,())).bind fun y_6 => bif y_6.1.2.1 != 0 then some (([],y_6.1.2.1,()),()) else L1 (Int.ofNat (List.length y_6.1.1),(0:Int),y_6.1.1,Int.ofNat (List.length (List.getD y.1.1 (0:Nat) [])),(6:Int),y.1.2.1,y.1.1,y_5.2.1.2.1,y_5.2.1.1,a0,a1,a2) else none
noncomputable def Zxh (k:Nat):=Zig k (ZkG k)
theorem ZHw (k:Nat):∀ n,ZBF k n = Zp (fun L2 => ZbY k L2) n :=
 Zl (fun v => by kernel_rfl) (fun n v => by
  obtain ⟨v0,v1,v2,v3,v4,v5⟩:=v
  kernel_rfl)
theorem ZHv (k:Nat):∀ n,ZBE k n = Zp (fun L1 => Kp k (Zhf k) L1) n :=
 Zl (fun v => by kernel_rfl) (fun n v => by
  rw [show (Zhf k) = ZBF k k from (ZHw k k).symm]
  obtain ⟨v0,v1,v2,v3,v4,v5,v6,v7,v8,v9,v10,v11⟩:=v
  kernel_rfl)
theorem ZP1 (k:Nat) (x:Kd.dens W1):ZF (Zxg k) ZHu Tryz.f14 W1 Zox x = Zxh k x:=by
 show _ = Zig k (ZkG k) x
 rw [show ZkG k = ZBE k k from (ZHv k k).symm]
 obtain ⟨⟨a0,⟨a1,⟨a2,⟨⟩⟩⟩⟩,⟨⟨a3,⟨a4,⟨⟩⟩⟩,⟨⟩⟩⟩:=x
 kernel_rfl
theorem ZL7 (k:Nat):Ctr Tryz.prog k 14 (mk W1 Zox Zxh) :=
 ZG (fn:=Tryz.f14) (Zh (Za (ZBO k) (Za (ZMW k) (Za (ZMX k) (Za (Zt8 k) (Za (ZMY k) (Za (ZBR k) (Za (ZMZ k) (Za (ZBS k) (Za (ZM0 k) (Za (ZM1 k) (Za (ZBT k) Zd)))))))))))) (by kernel_rfl) (by kernel_rfl) (ZP1 k)
noncomputable abbrev ZSZ:Nat × Callee:=(14,mk W1 Zox Zxh)
abbrev ZAo:Kd:=.box [.view (.sl (.int .u8)),.view (.int .i64)]
noncomputable def ZTi (k:Nat):=Wd k [ZOQ]
def ZiG (k:Nat):List Int × Unit → Option ((List Int × Int × Unit) × Unit)
 | (a0,()) => (Zr4 k (a0,())).bind fun y => some ((y.1,0,()),())
def ZxS (k:Nat):=ZiG k
theorem ZQ8 (k:Nat) (x:Kd.dens Q3):ZF (ZTi k) nA Tryz.f44 Q3 ZAo x = ZxS k x:=by
 show _ = ZiG k x
 obtain ⟨a0,⟨⟩⟩:=x
 kernel_rfl
theorem ZM6 (k:Nat):Ctr Tryz.prog k 44 (mk Q3 ZAo ZxS) :=
 ZG (fn:=Tryz.f44) (Zh (Za (ZCf k) Zd)) (by kernel_rfl) (by kernel_rfl) (ZQ8 k)
noncomputable abbrev ZTj:Nat × Callee:=(44,mk Q3 ZAo ZxS)
abbrev Xf:List Kd:=[.box [.view (.sl (.int .u8)),.view (.int .i64)]]
def ZxZ (k:Nat):(List Int × Int × Unit) × Unit → Option (Int × (List Int × Int × Unit) × Unit)
 | ((a0,a1,()),()) => some (a1,(a0,a1,()),())
def Zaq (k:Nat):=ZxZ k
theorem ZRi (k:Nat) (x:Kd.dens Xf):ZF (ZH k) nA Tryz.f51 Xf Zf x = Zaq k x:=by
 show _ = ZxZ k x
 obtain ⟨⟨a0,⟨a1,⟨⟩⟩⟩,⟨⟩⟩:=x
 kernel_rfl
theorem Znh (k:Nat):Ctr Tryz.prog k 51 (mk Xf Zf Zaq) :=
 ZG (fn:=Tryz.f51) (Zh Zd) (by kernel_rfl) (by kernel_rfl) (ZRi k)
noncomputable abbrev ZB0:Nat × Callee:=(51,mk Xf Zf Zaq)
abbrev Zu0:List Kd:=[.box [.view (.sl (.int .u8)),.ref [.view (.sl (.int .u8)),.view (.int .i64)],.view (.int .i64)],.view .bool,.view (.int .i64)]
def Zi9 (k:Nat):(List Int × (List Int × Int × Unit) × Int × Unit) × Bool × Int × Unit → Option (Unit × (List Int × (List Int × Int × Unit) × Int × Unit) × Unit)
 | ((a0,(a1,a2,()),a3,()),a4,a5,()) => bif a3 == 0 then bif !a4 then some ((),(a0,(a1,a2,()),a5,()),()) else some ((),(a0,(a1,a2,()),a3,()),()) else some ((),(a0,(a1,a2,()),a3,()),())
def Q1 (k:Nat):=Zi9 k
theorem ZR1 (k:Nat) (x:Kd.dens Zu0):ZF (ZH k) nA Tryz.f82 Zu0 Qy x = Q1 k x:=by
 show _ = Zi9 k x
 obtain ⟨⟨a0,⟨⟨a1,⟨a2,⟨⟩⟩⟩,⟨a3,⟨⟩⟩⟩⟩,⟨a4,⟨a5,⟨⟩⟩⟩⟩:=x
 kernel_rfl
theorem Znl (k:Nat):Ctr Tryz.prog k 82 (mk Zu0 Qy Q1) :=
 ZG (fn:=Tryz.f82) (Zh Zd) (by kernel_rfl) (by kernel_rfl) (ZR1 k)
noncomputable abbrev ZCo:Nat × Callee:=(82,mk Zu0 Qy Q1)
abbrev Xu:List Kd:=[.box [.view (.sl (.int .u8)),.view (.int .i64)],.view (.int .i64)]
def Zji (k:Nat):(List Int × Int × Unit) × Int × Unit → Option (Int × (List Int × Int × Unit) × Unit)
 | ((a0,a1,()),a2,()) => bif decide (0 ≤ IntKind.i64.wrap (a2.tdiv (8:Int)) ∧ IntKind.i64.wrap (a2.tdiv (8:Int)) < Int.ofNat a0.length) then bif decide (0 ≤ IntKind.i64.wrap ((7:Int) - a2.tmod (8:Int))) then some (IntKind.i64.wrap (Int.ofNat (BitVec.ofInt 64 (IntKind.i64.wrap (Int.fdiv (a0.getD (IntKind.i64.wrap (a2.tdiv (8:Int))).toNat 0) ((2:Int) ^ min (IntKind.i64.wrap ((7:Int) - a2.tmod (8:Int))).toNat 8))) &&& BitVec.ofInt 64 (1:Int)).toNat),(a0,a1,()),()) else none else none
def Zps (k:Nat):=Zji k
theorem ZSa (k:Nat) (x:Kd.dens Xu):ZF (ZH k) nA Tryz.f90 Xu Zf x = Zps k x:=by
 show _ = Zji k x
 obtain ⟨⟨a0,⟨a1,⟨⟩⟩⟩,⟨a2,⟨⟩⟩⟩:=x
 kernel_rfl
theorem Zu5 (k:Nat):Ctr Tryz.prog k 90 (mk Xu Zf Zps) :=
 ZG (fn:=Tryz.f90) (Zh Zd) (by kernel_rfl) (by kernel_rfl) (ZSa k)
noncomputable abbrev ZOY:Nat × Callee:=(90,mk Xu Zf Zps)
def Zf1 (k:Nat):(List Int × Int × Unit) × Unit → Option (Int × (List Int × Int × Unit) × Unit)
 | ((a0,a1,()),()) => some (IntKind.i64.wrap (IntKind.i64.wrap ((8:Int) * Int.ofNat a0.length) - a1),(a0,a1,()),())
def ZoH (k:Nat):=Zf1 k
theorem ZMr (k:Nat) (x:Kd.dens Xf):ZF (ZH k) nA Tryz.f167 Xf Zf x = ZoH k x:=by
 show _ = Zf1 k x
 obtain ⟨⟨a0,⟨a1,⟨⟩⟩⟩,⟨⟩⟩:=x
 kernel_rfl
theorem ZHN (k:Nat):Ctr Tryz.prog k 167 (mk Xf Zf ZoH) :=
 ZG (fn:=Tryz.f167) (Zh Zd) (by kernel_rfl) (by kernel_rfl) (ZMr k)
noncomputable abbrev ZQa:Nat × Callee:=(167,mk Xf Zf ZoH)
noncomputable def ZzL (k:Nat):=Wd k [ZOM,ZOY,ZQa]
def ZGS:Nat → Ann:=fun id => bif Nat.beq id 7 then ⟨[19,20,6,0],[]⟩ else ⟨[],[]⟩
abbrev ZtB:=Int × Int × Int × List Int × Int
abbrev Zmz:=ZtB → Option ((Int × Int × Unit) × (List Int × Int × Unit) × Unit)
def ZLz:ZtB → St
 | (v0,v1,v2,v3,v4) => St.mk (ZC [(19,Zq v0),(20,Zq v1),(6,Zq v2),(0,AV.bx 0 0)]) (ZA [(0,Wb [AV.val (PV.sl (Ty.int IntKind.u8) v3),Zq v4])])
def ZbN (k:Nat) (L1:Zmz):Zmz
 | (v0,v1,v2,v3,v4) => bif decide (v1 < v0) then (Zps k ((v3,v4,()),v4,())).bind fun y => L1 (v0,IntKind.i64.wrap (v1 + 1),IntKind.i64.wrap (Int.ofNat (BitVec.ofInt 64 (IntKind.i64.wrap (v2 * (2:Int))) ||| BitVec.ofInt 64 y.1).toNat),y.2.1.1,IntKind.i64.wrap (y.2.1.2.1 + 1)) else some ((v2,0,()),(v3,v4,()),())
def ZmA (k:Nat):Zmz:=Zp (fun L1 => ZbN k L1) k
noncomputable def ZwR (k:Nat) (n:Nat) (v:ZtB) :=
 Zy (ZzL k) ZGS [0] [1,1,1,0,1,0] [] (Wh Tryz.f126) (Wp (ZzL k) Tryz.f126 Xu ZQ [AV.bx (nat_lit 0) (nat_lit 0)] [[]]) n (ZLz v)
def Zfo (k:Nat) (L1:Zmz):(List Int × Int × Unit) × Int × Unit → Option ((Int × Int × Unit) × (List Int × Int × Unit) × Unit)
 | ((a0,a1,()),a2,()) => (Zpi k (a2,())).bind fun y => bif y.1 then some ((0,1,()),(a0,a1,()),()) else (ZoH k ((a0,a1,()),())).bind fun y => bif decide (y.1 < a2) then some ((0,10,()),(y.2.1.1,y.2.1.2.1,()),()) else L1 (a2,(0:Int),(0:Int),y.2.1.1,y.2.1.2.1)
def Yw (k:Nat):=Zfo k (ZmA k)
theorem ZDY (k:Nat):∀ n,ZwR k n = Zp (fun L1 => ZbN k L1) n :=
 Zl (fun v => by kernel_rfl) (fun n v => by
  obtain ⟨v0,v1,v2,v3,v4⟩:=v
  kernel_rfl)
theorem ZLA (k:Nat) (x:Kd.dens Xu):ZF (ZzL k) ZGS Tryz.f126 Xu ZQ x = Yw k x:=by
 show _ = Zfo k (ZmA k) x
 rw [show ZmA k = ZwR k k from (ZDY k k).symm]
 obtain ⟨⟨a0,⟨a1,⟨⟩⟩⟩,⟨a2,⟨⟩⟩⟩:=x
 kernel_rfl
theorem ZbM (k:Nat):Ctr Tryz.prog k 126 (mk Xu ZQ Yw) :=
 ZG (fn:=Tryz.f126) (Zh (Za (ZuH k) (Za (Zu5 k) (Za (ZHN k) Zd)))) (by kernel_rfl) (by kernel_rfl) (ZLA k)
noncomputable abbrev ZtC:Nat × Callee:=(126,mk Xu ZQ Yw)
abbrev Zu1:List Kd:=[.box [.view (.sl (.int .u8)),.ref [.view (.sl (.int .u8)),.view (.int .i64)],.view (.int .i64)],.view (.int .i64)]
noncomputable def ZJy (k:Nat):=Wd k [ZtC]
def Zja (k:Nat):(List Int × (List Int × Int × Unit) × Int × Unit) × Int × Unit → Option (Int × (List Int × (List Int × Int × Unit) × Int × Unit) × Unit)
 | ((a0,(a1,a2,()),a3,()),a4,()) => bif a3 == 0 then (Yw k ((a1,a2,()),a4,())).bind fun y => some (y.1.1,(a0,(y.2.1.1,y.2.1.2.1,()),y.1.2.1,()),()) else some (0,(a0,(a1,a2,()),a3,()),())
def Ws (k:Nat):=Zja k
theorem ZR2 (k:Nat) (x:Kd.dens Zu1):ZF (ZJy k) nA Tryz.f83 Zu1 Zf x = Ws k x:=by
 show _ = Zja k x
 obtain ⟨⟨a0,⟨⟨a1,⟨a2,⟨⟩⟩⟩,⟨a3,⟨⟩⟩⟩⟩,⟨a4,⟨⟩⟩⟩:=x
 kernel_rfl
theorem Znm (k:Nat):Ctr Tryz.prog k 83 (mk Zu1 Zf Ws) :=
 ZG (fn:=Tryz.f83) (Zh (Za (ZbM k) Zd)) (by kernel_rfl) (by kernel_rfl) (ZR2 k)
noncomputable abbrev ZCp:Nat × Callee:=(83,mk Zu1 Zf Ws)
abbrev Zun:List Kd:=[.box [.view (.sl (.int .u8)),.ref [.view (.sl (.int .u8)),.view (.int .i64)],.view (.int .i64)],.view (.int .i64),.fn 28]
noncomputable def ZTo (k:Nat):=Wd k [ZB0,ZCo,ZCp,ZOs]
def ZiJ (k:Nat):(List Int × (List Int × Int × Unit) × Int × Unit) × Int × Unit × Unit → Option (Unit × (List Int × (List Int × Int × Unit) × Int × Unit) × Unit)
 | ((a0,(a1,a2,()),a3,()),a4,(),()) => (Zaq k ((a1,a2,()),())).bind fun y => (Ws k ((a0,(y.2.1.1,y.2.1.2.1,()),a3,()),a4,())).bind fun y_1 => bif y_1.2.1.2.2.1 != 0 then (Q1 k ((y_1.2.1.1,(y_1.2.1.2.1.1,y_1.2.1.2.1.2.1,()),y_1.2.1.2.2.1,()),true,16,())).bind fun y => some ((),(y.2.1.1,(y.2.1.2.1.1,y.2.1.2.1.2.1,()),y.2.1.2.2.1,()),()) else bif decide ((0:Int) ≤ 0 ∧ (0:Int) ≤ IntKind.i64.wrap (Int.tdiv y.1 (8:Int)) ∧ IntKind.i64.wrap (Int.tdiv y.1 (8:Int)) ≤ Int.ofNat (List.length y_1.2.1.1)) then (ZrV k (List.drop 0 (List.take (IntKind.i64.wrap (Int.tdiv y.1 (8:Int))).toNat y_1.2.1.1),())).bind fun y => (Q1 k ((y_1.2.1.1,(y_1.2.1.2.1.1,y_1.2.1.2.1.2.1,()),y_1.2.1.2.2.1,()),y_1.1 == y.1,16,())).bind fun y => some ((),(y.2.1.1,(y.2.1.2.1.1,y.2.1.2.1.2.1,()),y.2.1.2.2.1,()),()) else none
def ZgE (k:Nat):=ZiJ k
theorem ZRe (k:Nat) (x:Kd.dens Zun):ZF (ZTo k) nA Tryz.f48 Zun Qy x = ZgE k x:=by
 show _ = ZiJ k x
 obtain ⟨⟨a0,⟨⟨a1,⟨a2,⟨⟩⟩⟩,⟨a3,⟨⟩⟩⟩⟩,⟨a4,⟨⟨⟩,⟨⟩⟩⟩⟩:=x
 kernel_rfl
theorem ZNa (k:Nat):Ctr Tryz.prog k 48 (mk Zun Qy ZgE) :=
 ZG (fn:=Tryz.f48) (Zh (Za (Znh k) (Za (Znl k) (Za (Znm k) (Za (ZBR k) Zd))))) (by kernel_rfl) (by kernel_rfl) (ZRe k)
noncomputable abbrev ZTp:Nat × Callee:=(48,mk Zun Qy ZgE)
def Zjb (k:Nat):(Int × Int × Int × Unit) × Int × Unit → Option (Bool × Unit)
 | ((a0,a1,a2,()),a3,()) => bif a0 == 1 then some (a3 == 0,()) else bif a3 == 1 then some (true,()) else bif decide (8 ≤ a3) then some (decide (a3 ≤ 10),()) else some (false,())
def Zpq (k:Nat):=Zjb k
theorem ZR3 (k:Nat) (x:Kd.dens Zd5):ZF (ZH k) nA Tryz.f84 Zd5 Zs x = Zpq k x:=by
 show _ = Zjb k x
 obtain ⟨⟨a0,⟨a1,⟨a2,⟨⟩⟩⟩⟩,⟨a3,⟨⟩⟩⟩:=x
 kernel_rfl
theorem ZNw (k:Nat):Ctr Tryz.prog k 84 (mk Zd5 Zs Zpq) :=
 ZG (fn:=Tryz.f84) (Zh Zd) (by kernel_rfl) (by kernel_rfl) (ZR3 k)
noncomputable abbrev ZTN:Nat × Callee:=(84,mk Zd5 Zs Zpq)
abbrev Za0:List Kd:=[.view (.int .u8)]
def ZrP (k:Nat):Int × Unit → Option (Int × Unit)
 | (a0,()) => bif decide (0 ≤ a0 ∧ a0 < 256) then some (IntKind.i64.wrap (Int.ofNat ((ByteArray.mk (([0,1,2,2,3,3,3,3,4,4,4,4,4,4,4,4,5,5,5,5,5,5,5,5,5,5,5,5,5,5,5,5,6,6,6,6,6,6,6,6,6,6,6,6,6,6,6,6,6,6,6,6,6,6,6,6,6,6,6,6,6,6,6,6].append [7,7,7,7,7,7,7,7,7,7,7,7,7,7,7,7,7,7,7,7,7,7,7,7,7,7,7,7,7,7,7,7,7,7,7,7,7,7,7,7,7,7,7,7,7,7,7,7,7,7,7,7,7,7,7,7,7,7,7,7,7,7,7,7]).append ([8,8,8,8,8,8,8,8,8,8,8,8,8,8,8,8,8,8,8,8,8,8,8,8,8,8,8,8,8,8,8,8,8,8,8,8,8,8,8,8,8,8,8,8,8,8,8,8,8,8,8,8,8,8,8,8,8,8,8,8,8,8,8,8].append [8,8,8,8,8,8,8,8,8,8,8,8,8,8,8,8,8,8,8,8,8,8,8,8,8,8,8,8,8,8,8,8,8,8,8,8,8,8,8,8,8,8,8,8,8,8,8,8,8,8,8,8,8,8,8,8,8,8,8,8,8,8,8,8])).toArray).data.toList.getD a0.toNat 0).toNat),()) else none
def ZtX (k:Nat):=ZrP k
theorem ZMK (k:Nat) (x:Kd.dens Za0):ZF (ZH k) nA Tryz.f186 Za0 Zf x = ZtX k x:=by
 show _ = ZrP k x
 obtain ⟨a0,⟨⟩⟩:=x
 kernel_rfl
theorem ZH4 (k:Nat):Ctr Tryz.prog k 186 (mk Za0 Zf ZtX) :=
 ZG (fn:=Tryz.f186) (Zh Zd) (by kernel_rfl) (by kernel_rfl) (ZMK k)
noncomputable abbrev ZQt:Nat × Callee:=(186,mk Za0 Zf ZtX)
noncomputable def ZQb (k:Nat):=Wd k [ZQt]
def ZrH (k:Nat):Int × Unit → Option (Int × Unit)
 | (a0,()) => (ZtX k (a0,())).bind fun y => some (IntKind.i64.wrap ((8:Int) - y.1),())
def ZkM (k:Nat):=ZrH k
theorem ZMs (k:Nat) (x:Kd.dens Za0):ZF (ZQb k) nA Tryz.f168 Za0 Zf x = ZkM k x:=by
 show _ = ZrH k x
 obtain ⟨a0,⟨⟩⟩:=x
 kernel_rfl
theorem ZHO (k:Nat):Ctr Tryz.prog k 168 (mk Za0 Zf ZkM) :=
 ZG (fn:=Tryz.f168) (Zh (Za (ZH4 k) Zd)) (by kernel_rfl) (by kernel_rfl) (ZMs k)
noncomputable abbrev ZQc:Nat × Callee:=(168,mk Za0 Zf ZkM)
abbrev Xi:Kd:=.tup [.view (.int .i64),.view (.int .i64),.view (.int .i64)]
noncomputable def ZzM (k:Nat):=Wd k [ZOO,ZQc]
def ZGT:Nat → Ann:=fun id => bif Nat.beq id 10 then ⟨[8,5,0,6,7],[]⟩ else ⟨[],[]⟩
abbrev ZmB:=ZcV → Option ((Int × Int × Int × Unit) × Unit)
def ZLB:ZcV → St
 | (v0,v1,v2,v3,v4) => St.mk (ZC [(8,Zq v0),(5,Zq v1),(0,AV.val (PV.sl (Ty.int IntKind.u8) v2)),(6,Zq v3),(7,Zq v4)]) (ZA [])
def ZbO (k:Nat) (L1:ZmB):ZmB
 | (v0,v1,v2,v3,v4) => bif decide (v0 < v1) then bif decide (v0 < Int.ofNat v2.length) then bif decide (0 ≤ v0 ∧ v0 < Int.ofNat v2.length) then bif Int.fdiv (v2.getD v0.toNat 0) (64:Int) != 2 then some ((0,0,2,()),()) else bif decide (0 ≤ v0 ∧ v0 < Int.ofNat v2.length) then L1 (IntKind.i64.wrap (v0 + 1),v1,v2,IntKind.i64.wrap (Int.ofNat (BitVec.ofInt 64 (IntKind.i64.wrap (v3 * (64:Int))) ||| BitVec.ofInt 64 (IntKind.i64.wrap (Int.ofNat (BitVec.ofInt 64 (IntKind.i64.wrap (v2.getD v0.toNat 0)) &&& BitVec.ofInt 64 (63:Int)).toNat))).toNat),IntKind.i64.wrap (Int.ofNat (BitVec.ofInt 64 (IntKind.i64.wrap (v4 * (64:Int))) ||| BitVec.ofInt 64 (IntKind.i64.wrap (Int.ofNat (BitVec.ofInt 64 (IntKind.i64.wrap (v2.getD v0.toNat 0)) &&& BitVec.ofInt 64 (63:Int)).toNat))).toNat)) else none else none else L1 (IntKind.i64.wrap (v0 + 1),v1,v2,IntKind.i64.wrap (Int.ofNat (BitVec.ofInt 64 (IntKind.i64.wrap (v3 * (64:Int))) ||| BitVec.ofInt 64 (0:Int)).toNat),IntKind.i64.wrap (Int.ofNat (BitVec.ofInt 64 (IntKind.i64.wrap (v4 * (64:Int))) ||| BitVec.ofInt 64 (63:Int)).toNat)) else (Zr3 k (IntKind.i64.wrap (v1 - 1),())).bind fun y => bif decide ((0:Int) ≤ y.1) then bif decide (v4 < IntKind.i64.wrap ((1:Int) * (2:Int) ^ min (Int.toNat y.1) (64:Nat))) then some ((0,0,2,()),()) else bif decide (Int.ofNat v2.length < v1) then some ((0,0,10,()),()) else some ((v3,v1,0,()),()) else none
def ZmC (k:Nat):ZmB:=Zp (fun L1 => ZbO k L1) k
noncomputable def ZwS (k:Nat) (n:Nat) (v:ZcV) :=
 Zy (ZzM k) ZGT [] [1,1,1,1,1,0,1,0] [] (Wh Tryz.f127) (Wp (ZzM k) Tryz.f127 Q3 Xi [] []) n (ZLB v)
def Zfp (k:Nat) (L1:ZmB):List Int × Unit → Option ((Int × Int × Int × Unit) × Unit)
 | (a0,()) => bif Int.ofNat a0.length == (0:Int) then some ((0,0,10,()),()) else bif decide ((0:Int) ≤ 0 ∧ (0:Int) < Int.ofNat a0.length) then (ZkM k (IntKind.u8.wrap (Int.ofNat (BitVec.ofInt 8 (255:Int) ^^^ BitVec.ofInt 8 (a0.getD 0 0)).toNat),())).bind fun y => bif y.1 == 0 then bif decide ((0:Int) ≤ 0 ∧ (0:Int) < Int.ofNat a0.length) then some ((IntKind.i64.wrap (a0.getD 0 0),1,0,()),()) else none else bif y.1 == 1 then some ((0,0,2,()),()) else bif decide ((7:Int) < y.1) then some ((0,0,2,()),()) else bif decide ((0:Int) ≤ 0 ∧ (0:Int) < Int.ofNat a0.length) then bif decide ((0:Int) ≤ y.1) then bif decide ((0:Int) ≤ 0 ∧ (0:Int) < Int.ofNat a0.length) then bif decide ((0:Int) ≤ y.1) then L1 (1,y.1,a0,IntKind.i64.wrap (Int.ofNat (BitVec.ofInt 64 (IntKind.i64.wrap (a0.getD 0 0)) &&& BitVec.ofInt 64 (Int.fdiv (127:Int) ((2:Int) ^ min (Int.toNat y.1) (64:Nat)))).toNat),IntKind.i64.wrap (Int.ofNat (BitVec.ofInt 64 (IntKind.i64.wrap (a0.getD 0 0)) &&& BitVec.ofInt 64 (Int.fdiv (127:Int) ((2:Int) ^ min (Int.toNat y.1) (64:Nat)))).toNat)) else none else none else none else none else none
def Zod (k:Nat):=Zfp k (ZmC k)
theorem ZD0 (k:Nat):∀ n,ZwS k n = Zp (fun L1 => ZbO k L1) n :=
 Zl (fun v => by kernel_rfl) (fun n v => by
  obtain ⟨v0,v1,v2,v3,v4⟩:=v
  kernel_rfl)
theorem ZLC (k:Nat) (x:Kd.dens Q3):ZF (ZzM k) ZGT Tryz.f127 Q3 Xi x = Zod k x:=by
 show _ = Zfp k (ZmC k) x
 rw [show ZmC k = ZwS k k from (ZD0 k k).symm]
 obtain ⟨a0,⟨⟩⟩:=x
 kernel_rfl
theorem ZGU (k:Nat):Ctr Tryz.prog k 127 (mk Q3 Xi Zod) :=
 ZG (fn:=Tryz.f127) (Zh (Za (ZCd k) (Za (ZHO k) Zd))) (by kernel_rfl) (by kernel_rfl) (ZLC k)
noncomputable abbrev ZPD:Nat × Callee:=(127,mk Q3 Xi Zod)
abbrev Zpr:List Kd:=[.box [.view (.sl (.int .u8)),.ref [.view (.sl (.int .u8)),.view (.int .i64)],.view (.int .i64)]]
noncomputable def ZJA (k:Nat):=Wd k [ZB0,ZCo,ZCp,ZPD]
def ZOU:Nat → Ann:=fun id => bif Nat.beq id 6 then ⟨[31,32,0,3],[]⟩ else ⟨[],[]⟩
abbrev ZAJ:=Int × Int × Int × List Int × Int × List Int × Int
abbrev Zu2:=ZAJ → Option (Int × (List Int × (List Int × Int × Unit) × Int × Unit) × Unit)
def ZR4:ZAJ → St
 | (v0,v1,v2,v3,v4,v5,v6) => St.mk (ZC [(31,Zq v0),(32,Zq v1),(0,AV.bx 0 0),(3,Zq v2)]) (ZA [(0,Wb [AV.val (PV.sl (Ty.int IntKind.u8) v3),AV.bx 1 0,Zq v4]),(1,Wb [AV.val (PV.sl (Ty.int IntKind.u8) v5),Zq v6])])
def Zeq (k:Nat) (L1:Zu2):Zu2
 | (v0,v1,v2,v3,v4,v5,v6) => bif decide (v1 < v0) then (Ws k ((v3,(v5,v6,()),v4,()),8,())).bind fun y => L1 (v0,IntKind.i64.wrap (v1 + 1),v2,y.2.1.1,y.2.1.2.2.1,y.2.1.2.1.1,y.2.1.2.1.2.1) else (Q1 k ((v3,(v5,v6,()),v4,()),decide (v2 ≤ 2147483647),2,())).bind fun y => some (v2,(y.2.1.1,(y.2.1.2.1.1,y.2.1.2.1.2.1,()),y.2.1.2.2.1,()),())
def Zu3 (k:Nat):Zu2:=Zp (fun L1 => Zeq k L1) k
noncomputable def ZCq (k:Nat) (n:Nat) (v:ZAJ) :=
 Zy (ZJA k) ZOU [0,1] [1,1,1,1,0,1,0] [] (Wh Tryz.f85) (Wp (ZJA k) Tryz.f85 Zpr Zf [AV.bx (nat_lit 0) (nat_lit 0)] [[1]]) n (ZR4 v)
def Zjd (k:Nat) (L1:Zu2):(List Int × (List Int × Int × Unit) × Int × Unit) × Unit → Option (Int × (List Int × (List Int × Int × Unit) × Int × Unit) × Unit)
 | ((a0,(a1,a2,()),a3,()),()) => bif a3 != 0 then some (0,(a0,(a1,a2,()),a3,()),()) else (Zaq k ((a1,a2,()),())).bind fun y => bif decide (0 ≤ IntKind.i64.wrap (Int.tdiv y.1 (8:Int)) ∧ IntKind.i64.wrap (Int.tdiv y.1 (8:Int)) ≤ Int.ofNat a0.length ∧ Int.ofNat a0.length ≤ Int.ofNat a0.length) then (Zod k (List.drop (IntKind.i64.wrap (Int.tdiv y.1 (8:Int))).toNat (List.take (Int.ofNat a0.length).toNat a0),())).bind fun y_1 => L1 (y_1.1.2.1,(0:Int),y_1.1.1,a0,y_1.1.2.2.1,y.2.1.1,y.2.1.2.1) else none
def Zjc (k:Nat):=Zjd k (Zu3 k)
theorem ZJB (k:Nat):∀ n,ZCq k n = Zp (fun L1 => Zeq k L1) n :=
 Zl (fun v => by kernel_rfl) (fun n v => by
  obtain ⟨v0,v1,v2,v3,v4,v5,v6⟩:=v
  kernel_rfl)
theorem ZR5 (k:Nat) (x:Kd.dens Zpr):ZF (ZJA k) ZOU Tryz.f85 Zpr Zf x = Zjc k x:=by
 show _ = Zjd k (Zu3 k) x
 rw [show Zu3 k = ZCq k k from (ZJB k k).symm]
 obtain ⟨⟨a0,⟨⟨a1,⟨a2,⟨⟩⟩⟩,⟨a3,⟨⟩⟩⟩⟩,⟨⟩⟩:=x
 kernel_rfl
theorem ZNx (k:Nat):Ctr Tryz.prog k 85 (mk Zpr Zf Zjc) :=
 ZG (fn:=Tryz.f85) (Zh (Za (Znh k) (Za (Znl k) (Za (Znm k) (Za (ZGU k) Zd))))) (by kernel_rfl) (by kernel_rfl) (ZR5 k)
noncomputable abbrev ZTO:Nat × Callee:=(85,mk Zpr Zf Zjc)
abbrev Zug:List Kd:=[.box [.view (.sl (.int .u8)),.ref [.view (.sl (.int .u8)),.view (.int .i64)],.view (.int .i64)],.view shapeT]
noncomputable def ZTk (k:Nat):=Wd k [ZTp,ZCo,ZCp,ZTN,ZTO]
def ZxT (k:Nat):(List Int × (List Int × Int × Unit) × Int × Unit) × (Int × Int × Int × Unit) × Unit → Option ((Int × Int × Int × Unit) × (List Int × (List Int × Int × Unit) × Int × Unit) × Unit)
 | ((a0,(a1,a2,()),a3,()),(a4,a5,a6,()),()) => (Ws k ((a0,(a1,a2,()),a3,()),15,())).bind fun y => (Q1 k ((y.2.1.1,(y.2.1.2.1.1,y.2.1.2.1.2.1,()),y.2.1.2.2.1,()),y.1 == 32764,11,())).bind fun y => (Ws k ((y.2.1.1,(y.2.1.2.1.1,y.2.1.2.1.2.1,()),y.2.1.2.2.1,()),1,())).bind fun y => (Q1 k ((y.2.1.1,(y.2.1.2.1.1,y.2.1.2.1.2.1,()),y.2.1.2.2.1,()),y.1 == 0,2,())).bind fun y => (Ws k ((y.2.1.1,(y.2.1.2.1.1,y.2.1.2.1.2.1,()),y.2.1.2.2.1,()),4,())).bind fun y => bif y.1 == 6 then (Q1 k ((y.2.1.1,(y.2.1.2.1.1,y.2.1.2.1.2.1,()),y.2.1.2.2.1,()),true,2,())).bind fun y_1 => (Ws k ((y_1.2.1.1,(y_1.2.1.2.1.1,y_1.2.1.2.1.2.1,()),y_1.2.1.2.2.1,()),4,())).bind fun y_2 => (Q1 k ((y_2.2.1.1,(y_2.2.1.2.1.1,y_2.2.1.2.1.2.1,()),y_2.2.1.2.2.1,()),y_2.1 == 0,2,())).bind fun y_3 => (Ws k ((y_3.2.1.1,(y_3.2.1.2.1.1,y_3.2.1.2.1.2.1,()),y_3.2.1.2.2.1,()),4,())).bind fun y_4 => (Zpq k ((a4,a5,a6,()),y_4.1,())).bind fun y_5 => (Q1 k ((y_4.2.1.1,(y_4.2.1.2.1.1,y_4.2.1.2.1.2.1,()),y_4.2.1.2.2.1,()),y_5.1,2,())).bind fun y_6 => (Ws k ((y_6.2.1.1,(y_6.2.1.2.1.1,y_6.2.1.2.1.2.1,()),y_6.2.1.2.2.1,()),4,())).bind fun y_7 => (Q1 k ((y_7.2.1.1,(y_7.2.1.2.1.1,y_7.2.1.2.1.2.1,()),y_7.2.1.2.2.1,()),y_7.1 == 0,2,())).bind fun y_8 => (Zjc k ((y_8.2.1.1,(y_8.2.1.2.1.1,y_8.2.1.2.1.2.1,()),y_8.2.1.2.2.1,()),())).bind fun y_9 => bif y_9.2.1.2.2.1 == 0 then (Ws k ((y_9.2.1.1,(y_9.2.1.2.1.1,y_9.2.1.2.1.2.1,()),y_9.2.1.2.2.1,()),IntKind.i64.wrap ((8:Int) * IntKind.i64.wrap (IntKind.i64.wrap (y.1 - 6) + (1:Int))),())).bind fun y => (Q1 k ((y.2.1.1,(y.2.1.2.1.1,y.2.1.2.1.2.1,()),y.2.1.2.2.1,()),decide (IntKind.i64.wrap (y.1 + 1) ≤ (512:Int)),1,())).bind fun y_10 => (ZgE k ((y_10.2.1.1,(y_10.2.1.2.1.1,y_10.2.1.2.1.2.1,()),y_10.2.1.2.2.1,()),8,(),())).bind fun y_11 => some ((y_4.1,y_9.1,IntKind.i64.wrap (y.1 + 1),()),(y_11.2.1.1,(y_11.2.1.2.1.1,y_11.2.1.2.1.2.1,()),y_11.2.1.2.2.1,()),()) else (Q1 k ((y_9.2.1.1,(y_9.2.1.2.1.1,y_9.2.1.2.1.2.1,()),y_9.2.1.2.2.1,()),decide ((0:Int) ≤ 512),1,())).bind fun y => (ZgE k ((y.2.1.1,(y.2.1.2.1.1,y.2.1.2.1.2.1,()),y.2.1.2.2.1,()),8,(),())).bind fun y => some ((y_4.1,y_9.1,0,()),(y.2.1.1,(y.2.1.2.1.1,y.2.1.2.1.2.1,()),y.2.1.2.2.1,()),()) else (Q1 k ((y.2.1.1,(y.2.1.2.1.1,y.2.1.2.1.2.1,()),y.2.1.2.2.1,()),y.1 == 7,2,())).bind fun y_1 => (Ws k ((y_1.2.1.1,(y_1.2.1.2.1.1,y_1.2.1.2.1.2.1,()),y_1.2.1.2.2.1,()),4,())).bind fun y_2 => (Q1 k ((y_2.2.1.1,(y_2.2.1.2.1.1,y_2.2.1.2.1.2.1,()),y_2.2.1.2.2.1,()),y_2.1 == 0,2,())).bind fun y_3 => (Ws k ((y_3.2.1.1,(y_3.2.1.2.1.1,y_3.2.1.2.1.2.1,()),y_3.2.1.2.2.1,()),4,())).bind fun y_4 => (Zpq k ((a4,a5,a6,()),y_4.1,())).bind fun y_5 => (Q1 k ((y_4.2.1.1,(y_4.2.1.2.1.1,y_4.2.1.2.1.2.1,()),y_4.2.1.2.2.1,()),y_5.1,2,())).bind fun y_6 => (Ws k ((y_6.2.1.1,(y_6.2.1.2.1.1,y_6.2.1.2.1.2.1,()),y_6.2.1.2.2.1,()),4,())).bind fun y_7 => (Q1 k ((y_7.2.1.1,(y_7.2.1.2.1.1,y_7.2.1.2.1.2.1,()),y_7.2.1.2.2.1,()),y_7.1 == 0,2,())).bind fun y_8 => (Zjc k ((y_8.2.1.1,(y_8.2.1.2.1.1,y_8.2.1.2.1.2.1,()),y_8.2.1.2.2.1,()),())).bind fun y_9 => bif y_9.2.1.2.2.1 == 0 then (Ws k ((y_9.2.1.1,(y_9.2.1.2.1.1,y_9.2.1.2.1.2.1,()),y_9.2.1.2.2.1,()),IntKind.i64.wrap ((8:Int) * IntKind.i64.wrap (IntKind.i64.wrap (y.1 - 6) + (1:Int))),())).bind fun y => (Q1 k ((y.2.1.1,(y.2.1.2.1.1,y.2.1.2.1.2.1,()),y.2.1.2.2.1,()),decide (IntKind.i64.wrap (y.1 + 1) ≤ (512:Int)),1,())).bind fun y_10 => (ZgE k ((y_10.2.1.1,(y_10.2.1.2.1.1,y_10.2.1.2.1.2.1,()),y_10.2.1.2.2.1,()),8,(),())).bind fun y_11 => some ((y_4.1,y_9.1,IntKind.i64.wrap (y.1 + 1),()),(y_11.2.1.1,(y_11.2.1.2.1.1,y_11.2.1.2.1.2.1,()),y_11.2.1.2.2.1,()),()) else (Q1 k ((y_9.2.1.1,(y_9.2.1.2.1.1,y_9.2.1.2.1.2.1,()),y_9.2.1.2.2.1,()),decide ((0:Int) ≤ 512),1,())).bind fun y => (ZgE k ((y.2.1.1,(y.2.1.2.1.1,y.2.1.2.1.2.1,()),y.2.1.2.2.1,()),8,(),())).bind fun y => some ((y_4.1,y_9.1,0,()),(y.2.1.1,(y.2.1.2.1.1,y.2.1.2.1.2.1,()),y.2.1.2.2.1,()),())
def Zr1 (k:Nat):=ZxT k
theorem ZQ9 (k:Nat) (x:Kd.dens Zug):ZF (ZTk k) nA Tryz.f45 Zug Xi x = Zr1 k x:=by
 show _ = ZxT k x
 obtain ⟨⟨a0,⟨⟨a1,⟨a2,⟨⟩⟩⟩,⟨a3,⟨⟩⟩⟩⟩,⟨⟨a4,⟨a5,⟨a6,⟨⟩⟩⟩⟩,⟨⟩⟩⟩:=x
 kernel_rfl
theorem ZM7 (k:Nat):Ctr Tryz.prog k 45 (mk Zug Xi Zr1) :=
 ZG (fn:=Tryz.f45) (Zh (Za (ZNa k) (Za (Znl k) (Za (Znm k) (Za (ZNw k) (Za (ZNx k) Zd)))))) (by kernel_rfl) (by kernel_rfl) (ZQ9 k)
noncomputable abbrev ZTl:Nat × Callee:=(45,mk Zug Xi Zr1)
abbrev ZmD:List Kd:=[.box [.ref [.view (.sl (.int .u8)),.view (.int .i64)],.view (.int .i64)],.view .bool]
def Zfq (k:Nat):((List Int × Int × Unit) × Int × Unit) × Bool × Unit → Option (Unit × ((List Int × Int × Unit) × Int × Unit) × Unit)
 | (((a0,a1,()),a2,()),a3,()) => bif a2 == 0 then bif !a3 then some ((),((a0,a1,()),2,()),()) else some ((),((a0,a1,()),a2,()),()) else some ((),((a0,a1,()),a2,()),())
def WZ (k:Nat):=Zfq k
theorem ZLD (k:Nat) (x:Kd.dens ZmD):ZF (ZH k) nA Tryz.f128 ZmD Qy x = WZ k x:=by
 show _ = Zfq k x
 obtain ⟨⟨⟨a0,⟨a1,⟨⟩⟩⟩,⟨a2,⟨⟩⟩⟩,⟨a3,⟨⟩⟩⟩:=x
 kernel_rfl
theorem ZwT (k:Nat):Ctr Tryz.prog k 128 (mk ZmD Qy WZ) :=
 ZG (fn:=Tryz.f128) (Zh Zd) (by kernel_rfl) (by kernel_rfl) (ZLD k)
noncomputable abbrev ZGV:Nat × Callee:=(128,mk ZmD Qy WZ)
abbrev ZaX:List Kd:=[.box [.ref [.view (.sl (.int .u8)),.view (.int .i64)],.view (.int .i64)],.view (.int .i64)]
def Zfr (k:Nat):((List Int × Int × Unit) × Int × Unit) × Int × Unit → Option (Int × ((List Int × Int × Unit) × Int × Unit) × Unit)
 | (((a0,a1,()),a2,()),a3,()) => bif a2 == 0 then (Yw k ((a0,a1,()),a3,())).bind fun y => some (y.1.1,((y.2.1.1,y.2.1.2.1,()),y.1.2.1,()),()) else some (0,((a0,a1,()),a2,()),())
def Yx (k:Nat):=Zfr k
theorem ZLE (k:Nat) (x:Kd.dens ZaX):ZF (ZJy k) nA Tryz.f129 ZaX Zf x = Yx k x:=by
 show _ = Zfr k x
 obtain ⟨⟨⟨a0,⟨a1,⟨⟩⟩⟩,⟨a2,⟨⟩⟩⟩,⟨a3,⟨⟩⟩⟩:=x
 kernel_rfl
theorem ZwU (k:Nat):Ctr Tryz.prog k 129 (mk ZaX Zf Yx) :=
 ZG (fn:=Tryz.f129) (Zh (Za (ZbM k) Zd)) (by kernel_rfl) (by kernel_rfl) (ZLE k)
noncomputable abbrev ZGW:Nat × Callee:=(129,mk ZaX Zf Yx)
def Zfs (k:Nat):Int × Unit → Option (Bool × Unit)
 | (a0,()) => bif a0 == 0 then some (true,()) else bif a0 == 1 then some (true,()) else bif decide (8 ≤ a0) then bif decide (a0 ≤ 12) then some (true,()) else bif decide ((31:Int) < a0) then some (decide (a0 ≤ 39),()) else some (false,()) else bif decide ((31:Int) < a0) then some (decide (a0 ≤ 39),()) else some (false,())
def Zof (k:Nat):=Zfs k
theorem ZLF (k:Nat) (x:Kd.dens Zt):ZF (ZH k) nA Tryz.f130 Zt Zs x = Zof k x:=by
 show _ = Zfs k x
 obtain ⟨a0,⟨⟩⟩:=x
 kernel_rfl
theorem ZGX (k:Nat):Ctr Tryz.prog k 130 (mk Zt Zs Zof) :=
 ZG (fn:=Tryz.f130) (Zh Zd) (by kernel_rfl) (by kernel_rfl) (ZLF k)
noncomputable abbrev ZPF:Nat × Callee:=(130,mk Zt Zs Zof)
noncomputable def Zkt (k:Nat):=Wd k [ZOY]
def ZGY:Nat → Ann:=fun id => bif Nat.beq id 4 then ⟨[4,0],[]⟩ else ⟨[],[]⟩
abbrev Zft:=Int × List Int × Int
abbrev ZmE:=Zft → Option ((Int × Int × Unit) × (List Int × Int × Unit) × Unit)
def ZLG:Zft → St
 | (v0,v1,v2) => St.mk (ZC [(4,Zq v0),(0,AV.bx 0 0)]) (ZA [(0,Wb [AV.val (PV.sl (Ty.int IntKind.u8) v1),Zq v2])])
def ZbQ (k:Nat) (L1:ZmE):ZmE
 | (v0,v1,v2) => bif decide (v0 < IntKind.i64.wrap ((8:Int) * Int.ofNat v1.length)) then (Zps k ((v1,v2,()),v0,())).bind fun y => bif y.1 == 1 then some ((IntKind.i64.wrap (v0 - y.2.1.2.1),0,()),(y.2.1.1,IntKind.i64.wrap (v0 + 1),()),()) else L1 (IntKind.i64.wrap (v0 + 1),y.2.1.1,y.2.1.2.1) else some ((0,10,()),(v1,v2,()),())
def ZmF (k:Nat):ZmE:=Zp (fun L1 => ZbQ k L1) k
noncomputable def ZwW (k:Nat) (n:Nat) (v:Zft) :=
 Zy (Zkt k) ZGY [0] [1,1,0,1,0] [] (Wh Tryz.f131) (Wp (Zkt k) Tryz.f131 Xf ZQ [AV.bx (nat_lit 0) (nat_lit 0)] [[]]) n (ZLG v)
def Zfu (k:Nat) (L1:ZmE):(List Int × Int × Unit) × Unit → Option ((Int × Int × Unit) × (List Int × Int × Unit) × Unit)
 | ((a0,a1,()),()) => L1 (a1,a0,a1)
def Zhe (k:Nat):=Zfu k (ZmF k)
theorem ZD4 (k:Nat):∀ n,ZwW k n = Zp (fun L1 => ZbQ k L1) n :=
 Zl (fun v => by kernel_rfl) (fun n v => by
  obtain ⟨v0,v1,v2⟩:=v
  kernel_rfl)
theorem ZLH (k:Nat) (x:Kd.dens Xf):ZF (Zkt k) ZGY Tryz.f131 Xf ZQ x = Zhe k x:=by
 show _ = Zfu k (ZmF k) x
 rw [show ZmF k = ZwW k k from (ZD4 k k).symm]
 obtain ⟨⟨a0,⟨a1,⟨⟩⟩⟩,⟨⟩⟩:=x
 kernel_rfl
theorem ZwX (k:Nat):Ctr Tryz.prog k 131 (mk Xf ZQ Zhe) :=
 ZG (fn:=Tryz.f131) (Zh (Za (Zu5 k) Zd)) (by kernel_rfl) (by kernel_rfl) (ZLH k)
noncomputable abbrev ZGZ:Nat × Callee:=(131,mk Xf ZQ Zhe)
noncomputable def ZTP (k:Nat):=Wd k [ZGV,ZGW,ZPF,ZGZ]
def Zjf (k:Nat):((List Int × Int × Unit) × Int × Unit) × Int × Unit → Option ((Int × Int × Unit) × ((List Int × Int × Unit) × Int × Unit) × Unit)
 | (((a0,a1,()),a2,()),a3,()) => (Yx k (((a0,a1,()),a2,()),1,())).bind fun y => (WZ k (((y.2.1.1.1,y.2.1.1.2.1,()),y.2.1.2.1,()),y.1 == 0,())).bind fun y => (Yx k (((y.2.1.1.1,y.2.1.1.2.1,()),y.2.1.2.1,()),6,())).bind fun y => (Zof k (y.1,())).bind fun y_1 => (WZ k (((y.2.1.1.1,y.2.1.1.2.1,()),y.2.1.2.1,()),y_1.1,())).bind fun y_2 => (Yx k (((y_2.2.1.1.1,y_2.2.1.1.2.1,()),y_2.2.1.2.1,()),1,())).bind fun y_3 => bif y_3.1 == 1 then bif y_3.2.1.2.1 == 0 then (Zhe k ((y_3.2.1.1.1,y_3.2.1.1.2.1,()),())).bind fun y_4 => (WZ k (((y_4.2.1.1,y_4.2.1.2.1,()),y_4.1.2.1,()),decide (IntKind.i64.wrap (y_4.1.1 + 1) < a3),())).bind fun y_5 => some ((y.1,IntKind.i64.wrap (y_4.1.1 + 1),()),((y_5.2.1.1.1,y_5.2.1.1.2.1,()),y_5.2.1.2.1,()),()) else (WZ k (((y_3.2.1.1.1,y_3.2.1.1.2.1,()),y_3.2.1.2.1,()),decide ((0:Int) < a3),())).bind fun y_4 => some ((y.1,0,()),((y_4.2.1.1.1,y_4.2.1.1.2.1,()),y_4.2.1.2.1,()),()) else (WZ k (((y_3.2.1.1.1,y_3.2.1.1.2.1,()),y_3.2.1.2.1,()),decide ((0:Int) < a3),())).bind fun y_4 => some ((y.1,0,()),((y_4.2.1.1.1,y_4.2.1.1.2.1,()),y_4.2.1.2.1,()),())
def Zyh (k:Nat):=Zjf k
theorem ZR7 (k:Nat) (x:Kd.dens ZaX):ZF (ZTP k) nA Tryz.f87 ZaX ZQ x = Zyh k x:=by
 show _ = Zjf k x
 obtain ⟨⟨⟨a0,⟨a1,⟨⟩⟩⟩,⟨a2,⟨⟩⟩⟩,⟨a3,⟨⟩⟩⟩:=x
 kernel_rfl
theorem ZNy (k:Nat):Ctr Tryz.prog k 87 (mk ZaX ZQ Zyh) :=
 ZG (fn:=Tryz.f87) (Zh (Za (ZwT k) (Za (ZwU k) (Za (ZGX k) (Za (ZwX k) Zd))))) (by kernel_rfl) (by kernel_rfl) (ZR7 k)
noncomputable abbrev ZTQ:Nat × Callee:=(87,mk ZaX ZQ Zyh)
abbrev Zne:List Kd:=[.view (.int .u32),.view (.int .u32)]
abbrev ZtY:Kd:=.tup [.view (.int .u32),.view (.int .u32)]
def ZrQ (k:Nat):Int × Int × Unit → Option ((Int × Int × Unit) × Unit)
 | (a0,a1,()) => some ((IntKind.u32.wrap ((IntKind.u64.wrap (IntKind.u64.wrap a0 * IntKind.u64.wrap a1)).fdiv (4294967296:Int)),IntKind.u32.wrap (IntKind.u64.wrap (IntKind.u64.wrap a0 * IntKind.u64.wrap a1)),()),())
def ZAe (k:Nat):=ZrQ k
theorem ZML (k:Nat) (x:Kd.dens Zne):ZF (ZH k) nA Tryz.f187 Zne ZtY x = ZAe k x:=by
 show _ = ZrQ k x
 obtain ⟨a0,⟨a1,⟨⟩⟩⟩:=x
 kernel_rfl
theorem ZH5 (k:Nat):Ctr Tryz.prog k 187 (mk Zne ZtY ZAe) :=
 ZG (fn:=Tryz.f187) (Zh Zd) (by kernel_rfl) (by kernel_rfl) (ZML k)
noncomputable abbrev ZQu:Nat × Callee:=(187,mk Zne ZtY ZAe)
abbrev Za1:List Kd:=[.view (.int .u64),.view (.int .u64)]
abbrev Zga:Kd:=.tup [.view (.int .u64),.view (.int .u64)]
def Zf9 (k:Nat):Int × Int × Unit → Option ((Int × Int × Unit) × Unit)
 | (a0,a1,()) => some ((IntKind.u64.wrap (IntKind.u64.wrap (IntKind.u64.wrap (a0.fdiv (4294967296:Int) * a1.fdiv (4294967296:Int)) + (IntKind.u64.wrap (IntKind.u64.wrap (a0.fdiv (4294967296:Int) * IntKind.u64.wrap (Int.ofNat (BitVec.ofInt 64 a1 &&& BitVec.ofInt 64 (4294967295:Int)).toNat)) + (IntKind.u64.wrap (IntKind.u64.wrap (Int.ofNat (BitVec.ofInt 64 a0 &&& BitVec.ofInt 64 (4294967295:Int)).toNat) * IntKind.u64.wrap (Int.ofNat (BitVec.ofInt 64 a1 &&& BitVec.ofInt 64 (4294967295:Int)).toNat))).fdiv (4294967296:Int))).fdiv (4294967296:Int)) + (IntKind.u64.wrap (IntKind.u64.wrap (Int.ofNat (BitVec.ofInt 64 (IntKind.u64.wrap (IntKind.u64.wrap (a0.fdiv (4294967296:Int) * IntKind.u64.wrap (Int.ofNat (BitVec.ofInt 64 a1 &&& BitVec.ofInt 64 (4294967295:Int)).toNat)) + (IntKind.u64.wrap (IntKind.u64.wrap (Int.ofNat (BitVec.ofInt 64 a0 &&& BitVec.ofInt 64 (4294967295:Int)).toNat) * IntKind.u64.wrap (Int.ofNat (BitVec.ofInt 64 a1 &&& BitVec.ofInt 64 (4294967295:Int)).toNat))).fdiv (4294967296:Int))) &&& BitVec.ofInt 64 (4294967295:Int)).toNat) + IntKind.u64.wrap (IntKind.u64.wrap (Int.ofNat (BitVec.ofInt 64 a0 &&& BitVec.ofInt 64 (4294967295:Int)).toNat) * a1.fdiv (4294967296:Int)))).fdiv (4294967296:Int)),IntKind.u64.wrap (a0 * a1),()),())
def ZtZ (k:Nat):=Zf9 k
theorem ZMM (k:Nat) (x:Kd.dens Za1):ZF (ZH k) nA Tryz.f188 Za1 Zga x = ZtZ k x:=by
 show _ = Zf9 k x
 obtain ⟨a0,⟨a1,⟨⟩⟩⟩:=x
 kernel_rfl
theorem ZH6 (k:Nat):Ctr Tryz.prog k 188 (mk Za1 Zga ZtZ) :=
 ZG (fn:=Tryz.f188) (Zh Zd) (by kernel_rfl) (by kernel_rfl) (ZMM k)
noncomputable abbrev ZQv:Nat × Callee:=(188,mk Za1 Zga ZtZ)
noncomputable def ZQd (k:Nat):=Wd k [ZQu,ZQv]
def ZrI (k:Nat):Int × Int × Unit → Option ((Int × Int × Unit) × Unit)
 | (a0,a1,()) => (ZtZ k (a0,a1,())).bind fun y => some ((y.1.1,y.1.2.1,()),())
def ZoI (k:Nat):=ZrI k
theorem ZMt (k:Nat) (x:Kd.dens Za1):ZF (ZQd k) nA Tryz.f169 Za1 Zga x = ZoI k x:=by
 show _ = ZrI k x
 obtain ⟨a0,⟨a1,⟨⟩⟩⟩:=x
 kernel_rfl
theorem ZHP (k:Nat):Ctr Tryz.prog k 169 (mk Za1 Zga ZoI) :=
 ZG (fn:=Tryz.f169) (Zh (Za (ZH5 k) (Za (ZH6 k) Zd))) (by kernel_rfl) (by kernel_rfl) (ZMt k)
noncomputable abbrev ZQe:Nat × Callee:=(169,mk Za1 Zga ZoI)
noncomputable def ZzN (k:Nat):=Wd k [ZQe] (fun r => bif Nat.beq r 999999 then [1] else [])
def ZG0:Nat → Ann:=fun id => bif Nat.beq id 8 then ⟨[8,7],[]⟩ else ⟨[],[]⟩
abbrev Zfv:=Int × List Int
abbrev ZmG:=Zfv → Option (List Int × Unit)
def ZLI:Zfv → St
 | (v0,v1) => St.mk (ZC [(8,Zq v0),(7,AV.own 8192)]) (ZA [(8192,rsA v1 false)])
def Zfx (k:Nat) (L1:ZmG):ZmG
 | (v0,v1) => bif decide (v0 < Int.ofNat v1.length) then bif decide (0 ≤ v0 ∧ v0 ≤ Int.ofNat v1.length ∧ Int.ofNat v1.length ≤ Int.ofNat v1.length) then bif decide ((0:Int) ≤ 0 ∧ (0:Int) ≤ v0 ∧ v0 ≤ Int.ofNat v1.length) then bif decide (v0.toNat ≤ (Int.ofNat v1.length).toNat ∧ (Int.ofNat v1.length).toNat ≤ v1.length) then bif decide ((0:Nat) ≤ v0.toNat ∧ v0.toNat ≤ v1.length) then L1 (IntKind.i64.wrap (v0 + Int.ofNat (min (List.drop 0 (List.take v0.toNat v1)).length ((Int.ofNat v1.length).toNat - v0.toNat))),List.take v0.toNat v1 ++ List.take ((Int.ofNat v1.length).toNat - v0.toNat) (List.drop 0 (List.take v0.toNat v1)) ++ List.drop (v0.toNat + min (List.drop 0 (List.take v0.toNat v1)).length ((Int.ofNat v1.length).toNat - v0.toNat)) v1) else none else none else none else none else some (v1,())
def ZmH (k:Nat):ZmG:=Zp (fun L1 => Zfx k L1) k
noncomputable def ZwY (k:Nat) (n:Nat) (v:Zfv) :=
 Zy (ZzN k) ZG0 [] [1,1,1,1,1,1,0,0] [] (Wh Tryz.f132) (Wp (ZzN k) Tryz.f132 Z5 Yz [] []) n (ZLI v)
def Zfw (k:Nat) (L1:ZmG):List Int × Int × Unit → Option (List Int × Unit)
 | (a0,a1,()) => bif decide (a1 < 0) then none else (ZoI k (IntKind.u64.wrap (Int.ofNat a0.length),IntKind.u64.wrap a1,())).bind fun y => bif decide ((0:Int) < y.1.1) then none else bif decide ((9223372036854775807:Int) < y.1.2.1) then none else bif decide (0 ≤ IntKind.i64.wrap y.1.2.1 ∧ IntKind.i64.wrap y.1.2.1 ≤ IntKind.i64.wrap y.1.2.1 ∧ IntKind.i64.wrap y.1.2.1 < 4294967296) then L1 (Int.ofNat (min a0.length ((List.replicate (IntKind.i64.wrap y.1.2.1).toNat (0:Int)).length - (0:Nat))),List.take 0 (List.replicate (IntKind.i64.wrap y.1.2.1).toNat (0:Int)) ++ List.take ((List.replicate (IntKind.i64.wrap y.1.2.1).toNat (0:Int)).length - (0:Nat)) a0 ++ List.drop ((0:Nat) + min a0.length ((List.replicate (IntKind.i64.wrap y.1.2.1).toNat (0:Int)).length - (0:Nat))) (List.replicate (IntKind.i64.wrap y.1.2.1).toNat (0:Int))) else none
def Zog (k:Nat):=Zfw k (ZmH k)
theorem ZD6 (k:Nat):∀ n,ZwY k n = Zp (fun L1 => Zfx k L1) n :=
 Zl (fun v => by kernel_rfl) (fun n v => by
  obtain ⟨v0,v1⟩:=v
  kernel_rfl)
theorem ZLJ (k:Nat) (x:Kd.dens Z5):ZF (ZzN k) ZG0 Tryz.f132 Z5 Yz x = Zog k x:=by
 show _ = Zfw k (ZmH k) x
 rw [show ZmH k = ZwY k k from (ZD6 k k).symm]
 obtain ⟨a0,⟨a1,⟨⟩⟩⟩:=x
 kernel_rfl
theorem ZG1 (k:Nat):Ctr Tryz.prog k 132 (mk Z5 Yz Zog) :=
 ZG (fn:=Tryz.f132) (Zh (Za (ZHP k) Zd)) (by kernel_rfl) (by kernel_rfl) (ZLJ k)
noncomputable abbrev ZPG:Nat × Callee:=(132,mk Z5 Yz Zog)
def Zf2 (k:Nat):(List Int × Int × Unit) × Int × Unit → Option ((Int × Int × Unit) × (List Int × Int × Unit) × Unit)
 | ((a0,a1,()),a2,()) => (Yw k ((a0,a1,()),a2,())).bind fun y => bif y.1.2.1 == 0 then bif decide ((0:Int) < a2) then bif decide (0 ≤ IntKind.i64.wrap (a2 - 1)) then bif Int.fdiv y.1.1 ((2:Int) ^ min (IntKind.i64.wrap (a2 - 1)).toNat 64) == (1:Int) then bif decide (0 ≤ a2) then some ((IntKind.i64.wrap (y.1.1 - IntKind.i64.wrap ((1:Int) * (2:Int) ^ min a2.toNat 64)),y.1.2.1,()),(y.2.1.1,y.2.1.2.1,()),()) else none else some ((y.1.1,y.1.2.1,()),(y.2.1.1,y.2.1.2.1,()),()) else none else some ((y.1.1,y.1.2.1,()),(y.2.1.1,y.2.1.2.1,()),()) else some ((y.1.1,y.1.2.1,()),(y.2.1.1,y.2.1.2.1,()),())
def ZkN (k:Nat):=Zf2 k
theorem ZMu (k:Nat) (x:Kd.dens Xu):ZF (ZJy k) nA Tryz.f170 Xu ZQ x = ZkN k x:=by
 show _ = Zf2 k x
 obtain ⟨⟨a0,⟨a1,⟨⟩⟩⟩,⟨a2,⟨⟩⟩⟩:=x
 kernel_rfl
theorem Zxu (k:Nat):Ctr Tryz.prog k 170 (mk Xu ZQ ZkN) :=
 ZG (fn:=Tryz.f170) (Zh (Za (ZbM k) Zd)) (by kernel_rfl) (by kernel_rfl) (ZMu k)
noncomputable abbrev ZQf:Nat × Callee:=(170,mk Xu ZQ ZkN)
abbrev Zia:List Kd:=[.box [.ref [.view (.sl (.int .u8)),.view (.int .i64)],.view (.int .i64)],.view (.int .i64),.view (.int .i64)]
noncomputable def ZtD (k:Nat):=Wd k [ZQf]
def ZG2:Nat → Ann:=fun id => bif Nat.beq id 3 then ⟨[9,10,0,2,7],[.slot 7 ((Ty.int IntKind.i64))]⟩ else ⟨[],[]⟩
abbrev ZtE:=Int × Int × Int × Int × List Int × Int × List Int
abbrev ZmI:=ZtE → Option (List Int × ((List Int × Int × Unit) × Int × Unit) × Unit)
def ZLK:ZtE → St
 | (v0,v1,v2,v3,v4,v5,v6) => St.mk (ZC [(9,Zq v0),(10,Zq v1),(0,AV.bx 0 0),(2,Zq v2),(7,AV.own 8192)]) (ZA [(0,Wb [AV.bx 1 0,Zq v3]),(1,Wb [AV.val (PV.sl (Ty.int IntKind.u8) v4),Zq v5]),(8192,rsA v6 false)])
def ZbR (k:Nat) (L1:ZmI):ZmI
 | (v0,v1,v2,v3,v4,v5,v6) => bif decide (v1 < v0) then bif v3 == 0 then (ZkN k ((v4,v5,()),v2,())).bind fun y => bif decide (v6.length + [y.1.1].length < 2147483648) then L1 (v0,IntKind.i64.wrap (v1 + 1),v2,y.1.2.1,y.2.1.1,y.2.1.2.1,v6 ++ [y.1.1]) else none else bif decide (v6.length + (1:Nat) < (2147483648:Nat)) then L1 (v0,IntKind.i64.wrap (v1 + 1),v2,v3,v4,v5,v6 ++ [(0:Int)]) else none else some (v6,((v4,v5,()),v3,()),())
def ZmJ (k:Nat):ZmI:=Zp (fun L1 => ZbR k L1) k
noncomputable def ZwZ (k:Nat) (n:Nat) (v:ZtE) :=
 Zy (ZtD k) ZG2 [0,1] [1,1,0,1,0] [] (Wh Tryz.f133) (Wp (ZtD k) Tryz.f133 Zia Yz [AV.bx (nat_lit 0) (nat_lit 0)] [[1]]) n (ZLK v)
def Zfy (k:Nat) (L1:ZmI):((List Int × Int × Unit) × Int × Unit) × Int × Int × Unit → Option (List Int × ((List Int × Int × Unit) × Int × Unit) × Unit)
 | (((a0,a1,()),a2,()),a3,a4,()) => L1 (a3,(0:Int),a4,a2,a0,a1,[])
def Zao (k:Nat):=Zfy k (ZmJ k)
theorem ZD9 (k:Nat):∀ n,ZwZ k n = Zp (fun L1 => ZbR k L1) n :=
 Zl (fun v => by kernel_rfl) (fun n v => by
  obtain ⟨v0,v1,v2,v3,v4,v5,v6⟩:=v
  kernel_rfl)
theorem ZLL (k:Nat) (x:Kd.dens Zia):ZF (ZtD k) ZG2 Tryz.f133 Zia Yz x = Zao k x:=by
 show _ = Zfy k (ZmJ k) x
 rw [show ZmJ k = ZwZ k k from (ZD9 k k).symm]
 obtain ⟨⟨⟨a0,⟨a1,⟨⟩⟩⟩,⟨a2,⟨⟩⟩⟩,⟨a3,⟨a4,⟨⟩⟩⟩⟩:=x
 kernel_rfl
theorem ZG3 (k:Nat):Ctr Tryz.prog k 133 (mk Zia Yz Zao) :=
 ZG (fn:=Tryz.f133) (Zh (Za (Zxu k) Zd)) (by kernel_rfl) (by kernel_rfl) (ZLL k)
noncomputable abbrev ZPH:Nat × Callee:=(133,mk Zia Yz Zao)
def Zgf (k:Nat):Int × Unit → Option ((Int × Int × Unit) × Unit)
 | (a0,()) => bif decide (a0 < 0) then some ((0,12,()),()) else bif decide ((2199023255552:Int) < a0) then some ((0,12,()),()) else some ((IntKind.i64.wrap (Int.ofNat (BitVec.ofInt 64 (a0.fdiv (2:Int)) ^^^ BitVec.ofInt 64 (IntKind.i64.wrap ((0:Int) - IntKind.i64.wrap (Int.ofNat (BitVec.ofInt 64 a0 &&& BitVec.ofInt 64 (1:Int)).toNat)))).toNat),0,()),())
def ZoT (k:Nat):=Zgf k
theorem ZMS (k:Nat) (x:Kd.dens Zt):ZF (ZH k) nA Tryz.f195 Zt ZQ x = ZoT k x:=by
 show _ = Zgf k x
 obtain ⟨a0,⟨⟩⟩:=x
 kernel_rfl
theorem ZIg (k:Nat):Ctr Tryz.prog k 195 (mk Zt ZQ ZoT) :=
 ZG (fn:=Tryz.f195) (Zh Zd) (by kernel_rfl) (by kernel_rfl) (ZMS k)
noncomputable abbrev ZQF:Nat × Callee:=(195,mk Zt ZQ ZoT)
noncomputable def ZQA (k:Nat):=Wd k [ZtC,ZGZ,ZQF]
def Zgc (k:Nat):(List Int × Int × Unit) × Int × Unit → Option ((Int × Int × Unit) × (List Int × Int × Unit) × Unit)
 | ((a0,a1,()),a2,()) => (Zhe k ((a0,a1,()),())).bind fun y => bif y.1.2.1 != 0 then some ((0,y.1.2.1,()),(y.2.1.1,y.2.1.2.1,()),()) else (Yw k ((y.2.1.1,y.2.1.2.1,()),a2,())).bind fun y_1 => bif y_1.1.2.1 != 0 then some ((0,y_1.1.2.1,()),(y_1.2.1.1,y_1.2.1.2.1,()),()) else bif decide (0 ≤ a2) then bif decide (4294967295 ≤ IntKind.i64.wrap (Int.ofNat (BitVec.ofInt 64 (IntKind.i64.wrap (y.1.1 * (2:Int) ^ min a2.toNat 64)) ||| BitVec.ofInt 64 y_1.1.1).toNat)) then some ((0,12,()),(y_1.2.1.1,y_1.2.1.2.1,()),()) else (ZoT k (IntKind.i64.wrap (Int.ofNat (BitVec.ofInt 64 (IntKind.i64.wrap (y.1.1 * (2:Int) ^ min a2.toNat 64)) ||| BitVec.ofInt 64 y_1.1.1).toNat),())).bind fun y => some ((y.1.1,y.1.2.1,()),(y_1.2.1.1,y_1.2.1.2.1,()),()) else none
def ZoP (k:Nat):=Zgc k
theorem ZMO (k:Nat) (x:Kd.dens Xu):ZF (ZQA k) nA Tryz.f190 Xu ZQ x = ZoP k x:=by
 show _ = Zgc k x
 obtain ⟨⟨a0,⟨a1,⟨⟩⟩⟩,⟨a2,⟨⟩⟩⟩:=x
 kernel_rfl
theorem ZIb (k:Nat):Ctr Tryz.prog k 190 (mk Xu ZQ ZoP) :=
 ZG (fn:=Tryz.f190) (Zh (Za (ZbM k) (Za (ZwX k) (Za (ZIg k) Zd)))) (by kernel_rfl) (by kernel_rfl) (ZMO k)
noncomputable abbrev ZQB:Nat × Callee:=(190,mk Xu ZQ ZoP)
abbrev Za2:List Kd:=[.box [.ref [.view (.sl (.int .u8)),.view (.int .i64)]],.box [.view (.int .i64)]]
noncomputable def ZQw (k:Nat):=Wd k [ZQB]
def Zgb (k:Nat):((List Int × Int × Unit) × Unit) × (Int × Unit) × Unit → Option ((Int × Int × Unit) × ((List Int × Int × Unit) × Unit) × (Int × Unit) × Unit)
 | (((a0,a1,()),()),(a2,()),()) => (ZoP k ((a0,a1,()),a2,())).bind fun y => some ((y.1.1,y.1.2.1,()),((y.2.1.1,y.2.1.2.1,()),()),(a2,()),())
def ZoO (k:Nat):=Zgb k
theorem ZMN (k:Nat) (x:Kd.dens Za2):ZF (ZQw k) nA Tryz.f189 Za2 ZQ x = ZoO k x:=by
 show _ = Zgb k x
 obtain ⟨⟨⟨a0,⟨a1,⟨⟩⟩⟩,⟨⟩⟩,⟨⟨a2,⟨⟩⟩,⟨⟩⟩⟩:=x
 kernel_rfl
theorem ZH7 (k:Nat):Ctr Tryz.prog k 189 (mk Za2 ZQ ZoO) :=
 ZG (fn:=Tryz.f189) (Zh (Za (ZIb k) Zd)) (by kernel_rfl) (by kernel_rfl) (ZMN k)
noncomputable abbrev ZQx:Nat × Callee:=(189,mk Za2 ZQ ZoO)
def Zgd (k:Nat):((List Int × Int × Unit) × Unit) × (Int × Unit) × Unit → Option ((Int × Int × Unit) × ((List Int × Int × Unit) × Unit) × (Int × Unit) × Unit)
 | (((a0,a1,()),()),(a2,()),()) => (ZkN k ((a0,a1,()),a2,())).bind fun y => some ((y.1.1,y.1.2.1,()),((y.2.1.1,y.2.1.2.1,()),()),(a2,()),())
def ZoQ (k:Nat):=Zgd k
theorem ZMP (k:Nat) (x:Kd.dens Za2):ZF (ZtD k) nA Tryz.f191 Za2 ZQ x = ZoQ k x:=by
 show _ = Zgd k x
 obtain ⟨⟨⟨a0,⟨a1,⟨⟩⟩⟩,⟨⟩⟩,⟨⟨a2,⟨⟩⟩,⟨⟩⟩⟩:=x
 kernel_rfl
theorem ZIc (k:Nat):Ctr Tryz.prog k 191 (mk Za2 ZQ ZoQ) :=
 ZG (fn:=Tryz.f191) (Zh (Za (Zxu k) Zd)) (by kernel_rfl) (by kernel_rfl) (ZMP k)
noncomputable abbrev ZQC:Nat × Callee:=(191,mk Za2 ZQ ZoQ)
abbrev WH:List Kd:=[.box [.view (.sl (.int .u8)),.view (.int .i64)],.view (.int .i64),.view (.int .i64)]
noncomputable def ZoJ (k:Nat):=Wd k [(116,mk Zt Zf ZcK),(117,mk Zt Zf KJ),ZtC,ZQx,ZQC]
noncomputable def ZAc:Nat → Ann:=fun id => bif Nat.beq id 12 then ⟨[40,41,10,13],[.slot 13 ((Ty.int IntKind.i64))]⟩ else ⟨[],[]⟩
abbrev ZaZ:=Zel → Option ((List Int × Int × Unit) × (List Int × Int × Unit) × Unit)
noncomputable def ZMv:Zel → St
 | (v0,v1,v2,v3,v4,v5) => St.mk (ZC [(40,Zq v0),(41,Zq v1),(10,AV.clo 191 [AV.bx 8192 0,AV.bx 8193 0]),(13,AV.own 8194)]) (ZA [(0,Wb [AV.val (PV.sl (Ty.int IntKind.u8) v2),Zq v3]),(8192,Wb [AV.bx 0 0]),(8193,Wb [Zq v4]),(8194,rsA v5 false)])
noncomputable def Zb4 (k:Nat) (L1:ZaZ):ZaZ
 | (v0,v1,v2,v3,v4,v5) => bif decide (v1 < v0) then (ZoQ k (((v2,v3,()),()),(v4,()),())).bind fun y => bif y.1.2.1 != 0 then some (([],y.1.2.1,()),(y.2.1.1.1,y.2.1.1.2.1,()),()) else bif decide (v5.length + [y.1.1].length < 2147483648) then L1 (v0,IntKind.i64.wrap (v1 + 1),y.2.1.1.1,y.2.1.1.2.1,y.2.2.1.1,v5 ++ [y.1.1]) else none else some ((v5,0,()),(v2,v3,()),())
noncomputable def Zna (k:Nat):ZaZ:=Zp (fun L1 => Zb4 k L1) k
noncomputable def Zxv (k:Nat) (n:Nat) (v:Zel) :=
 Zy (ZoJ k) ZAc [0] [1,1,1,1,1,1,0,1,0] [] (Wh Tryz.f171) (Wp (ZoJ k) Tryz.f171 WH Ql [AV.bx (nat_lit 0) (nat_lit 0)] [[]]) n (ZMv v)
noncomputable def ZMw:Zel → St
 | (v0,v1,v2,v3,v4,v5) => St.mk (ZC [(40,Zq v0),(41,Zq v1),(10,AV.clo 189 [AV.bx 8192 0,AV.bx 8193 0]),(13,AV.own 8194)]) (ZA [(0,Wb [AV.val (PV.sl (Ty.int IntKind.u8) v2),Zq v3]),(8192,Wb [AV.bx 0 0]),(8193,Wb [Zq v4]),(8194,rsA v5 false)])
noncomputable def Zb5 (k:Nat) (L2:ZaZ):ZaZ
 | (v0,v1,v2,v3,v4,v5) => bif decide (v1 < v0) then (ZoO k (((v2,v3,()),()),(v4,()),())).bind fun y => bif y.1.2.1 != 0 then some (([],y.1.2.1,()),(y.2.1.1.1,y.2.1.1.2.1,()),()) else bif decide (v5.length + [y.1.1].length < 2147483648) then L2 (v0,IntKind.i64.wrap (v1 + 1),y.2.1.1.1,y.2.1.1.2.1,y.2.2.1.1,v5 ++ [y.1.1]) else none else some ((v5,0,()),(v2,v3,()),())
noncomputable def Zil (k:Nat):ZaZ:=Zp (fun L2 => Zb5 k L2) k
noncomputable def Zxw (k:Nat) (n:Nat) (v:Zel) :=
 Zy (ZoJ k) ZAc [0] [1,1,1,1,1,1,0,1,0] [] (Wh Tryz.f171) (Wp (ZoJ k) Tryz.f171 WH Ql [AV.bx (nat_lit 0) (nat_lit 0)] [[]]) n (ZMw v)
noncomputable def Zf3 (k:Nat) (L1:ZaZ) (L2:ZaZ):(List Int × Int × Unit) × Int × Int × Unit → Option ((List Int × Int × Unit) × (List Int × Int × Unit) × Unit)
 | ((a0,a1,()),a2,a3,()) => (ZcK k (a2,())).bind fun y => (Yw k ((a0,a1,()),y.1,())).bind fun y => bif y.1.2.1 != 0 then some (([],y.1.2.1,()),(y.2.1.1,y.2.1.2.1,()),()) else (KJ k (a2,())).bind fun y_1 => bif y.1.1 == y_1.1 then (Yw k ((y.2.1.1,y.2.1.2.1,()),5,())).bind fun y => bif y.1.2.1 != 0 then some (([],y.1.2.1,()),(y.2.1.1,y.2.1.2.1,()),()) else L1 (a3,(0:Int),y.2.1.1,y.2.1.2.1,y.1.1,[]) else L2 (a3,(0:Int),y.2.1.1,y.2.1.2.1,y.1.1,[])
noncomputable def Zhi (k:Nat):=Zf3 k (Zna k) (Zil k)
theorem ZEQ (k:Nat):∀ n,Zxv k n = Zp (fun L1 => Zb4 k L1) n :=
 Zl (fun v => by kernel_rfl) (fun n v => by
  obtain ⟨v0,v1,v2,v3,v4,v5⟩:=v
  kernel_rfl)
theorem ZER (k:Nat):∀ n,Zxw k n = Zp (fun L2 => Zb5 k L2) n :=
 Zl (fun v => by kernel_rfl) (fun n v => by
  obtain ⟨v0,v1,v2,v3,v4,v5⟩:=v
  kernel_rfl)
theorem ZMx (k:Nat) (x:Kd.dens WH):ZF (ZoJ k) ZAc Tryz.f171 WH Ql x = Zhi k x:=by
 show _ = Zf3 k (Zna k) (Zil k) x
 rw [show Zna k = Zxv k k from (ZEQ k k).symm,show Zil k = Zxw k k from (ZER k k).symm]
 obtain ⟨⟨a0,⟨a1,⟨⟩⟩⟩,⟨a2,⟨a3,⟨⟩⟩⟩⟩:=x
 kernel_rfl
theorem ZHR (k:Nat):Ctr Tryz.prog k 171 (mk WH Ql Zhi) :=
 ZG (fn:=Tryz.f171) (Zh (Za (Zkp k) (Za (Zkr k) (Za (ZbM k) (Za (ZH7 k) (Za (ZIc k) Zd)))))) (by kernel_rfl) (by kernel_rfl) (ZMx k)
noncomputable abbrev ZQg:Nat × Callee:=(171,mk WH Ql Zhi)
noncomputable def ZzO (k:Nat):=Wd k [ZtC,ZHD,ZP5,ZQg]
def ZG4:Nat → Ann:=fun id => bif Nat.beq id 15 then ⟨[52,53,1,10,2,0,8,11],[.slot 11 ((Ty.int IntKind.i64))]⟩ else ⟨[],[]⟩
abbrev ZtF:=Int × Int × Int × Int × Int × Int × List Int × Int × List Int
abbrev ZmK:=ZtF → Option ((List Int × Int × Unit) × (List Int × Int × Unit) × Unit)
def ZLM:ZtF → St
 | (v0,v1,v2,v3,v4,v5,v6,v7,v8) => St.mk (ZC [(52,Zq v0),(53,Zq v1),(1,Zq v2),(10,Zq v3),(2,Zq v4),(0,AV.bx 0 0),(8,Zq v5),(11,AV.own 8192)]) (ZA [(0,Wb [AV.val (PV.sl (Ty.int IntKind.u8) v6),Zq v7]),(8192,rsA v8 false)])
noncomputable def Zab (k:Nat) (L1:ZmK):ZmK
 | (v0,v1,v2,v3,v4,v5,v6,v7,v8) => bif decide (v1 < v0) then bif decide (0 ≤ v3) then bif v1 == 0 then (Zhi k ((v6,v7,()),v5,IntKind.i64.wrap (v2.fdiv ((2:Int) ^ min v3.toNat 64) - v4),())).bind fun y => bif y.1.2.1 != 0 then some (([],y.1.2.1,()),(y.2.1.1,y.2.1.2.1,()),()) else bif decide (v8.length + List.length y.1.1 < 2147483648) then L1 (v0,IntKind.i64.wrap (v1 + 1),v2,v3,v4,v5,y.2.1.1,y.2.1.2.1,v8 ++ y.1.1) else none else (Zhi k ((v6,v7,()),v5,v2.fdiv ((2:Int) ^ min v3.toNat 64),())).bind fun y => bif y.1.2.1 != 0 then some (([],y.1.2.1,()),(y.2.1.1,y.2.1.2.1,()),()) else bif decide (v8.length + List.length y.1.1 < 2147483648) then L1 (v0,IntKind.i64.wrap (v1 + 1),v2,v3,v4,v5,y.2.1.1,y.2.1.2.1,v8 ++ y.1.1) else none else none else some ((v8,0,()),(v6,v7,()),())
noncomputable def ZmL (k:Nat):ZmK:=Zp (fun L1 => Zab k L1) k
noncomputable def Zw0 (k:Nat) (n:Nat) (v:ZtF) :=
 Zy (ZzO k) ZG4 [0] [1,1,1,1,1,1,1,0,1,0] [] (Wh Tryz.f134) (Wp (ZzO k) Tryz.f134 WH Ql [AV.bx (nat_lit 0) (nat_lit 0)] [[]]) n (ZLM v)
def Zfz (k:Nat) (L1:ZmK):(List Int × Int × Unit) × Int × Int × Unit → Option ((List Int × Int × Unit) × (List Int × Int × Unit) × Unit)
 | ((a0,a1,()),a2,a3,()) => (ZkK k (a2,a3,())).bind fun y => bif !y.1 then some (([],1,()),(a0,a1,()),()) else (Yw k ((a0,a1,()),2,())).bind fun y => bif y.1.2.1 != 0 then some (([],y.1.2.1,()),(y.2.1.1,y.2.1.2.1,()),()) else bif decide ((1:Int) < y.1.1) then some (([],2,()),(y.2.1.1,y.2.1.2.1,()),()) else (Yw k ((y.2.1.1,y.2.1.2.1,()),4,())).bind fun y_1 => bif y_1.1.2.1 != 0 then some (([],y_1.1.2.1,()),(y_1.2.1.1,y_1.2.1.2.1,()),()) else (Zap k (a2,a3,y_1.1.1,())).bind fun y_2 => bif !y_2.1 then some (([],2,()),(y_1.2.1.1,y_1.2.1.2.1,()),()) else bif decide ((0:Int) ≤ y_1.1.1) then L1 (IntKind.i64.wrap ((1:Int) * (2:Int) ^ min (Int.toNat y_1.1.1) (64:Nat)),(0:Int),a2,y_1.1.1,a3,y.1.1,y_1.2.1.1,y_1.2.1.2.1,[]) else none
noncomputable def Zbk (k:Nat):=Zfz k (ZmL k)
theorem ZEa (k:Nat):∀ n,Zw0 k n = Zp (fun L1 => Zab k L1) n :=
 Zl (fun v => by kernel_rfl) (fun n v => by
  obtain ⟨v0,v1,v2,v3,v4,v5,v6,v7,v8⟩:=v
  kernel_rfl)
theorem ZLN (k:Nat) (x:Kd.dens WH):ZF (ZzO k) ZG4 Tryz.f134 WH Ql x = Zbk k x:=by
 show _ = Zfz k (ZmL k) x
 rw [show ZmL k = Zw0 k k from (ZEa k k).symm]
 obtain ⟨⟨a0,⟨a1,⟨⟩⟩⟩,⟨a2,⟨a3,⟨⟩⟩⟩⟩:=x
 kernel_rfl
theorem ZG5 (k:Nat):Ctr Tryz.prog k 134 (mk WH Ql Zbk) :=
 ZG (fn:=Tryz.f134) (Zh (Za (ZbM k) (Za (Zxn k) (Za (Zxo k) (Za (ZHR k) Zd))))) (by kernel_rfl) (by kernel_rfl) (ZLN k)
noncomputable abbrev ZPI:Nat × Callee:=(134,mk WH Ql Zbk)
abbrev Ke:List Kd:=[.view ZeI,.view (.sl (.int .i64)),.view (.sl (.int .i64))]
noncomputable def ZzP (k:Nat):=Wd k [Zn5,Zz7,ZHC,ZHT,ZHV]
def ZG6:Nat → Ann:=fun id => bif Nat.beq id 9 then ⟨[32,33,31,3,8],[.«show» 8]⟩ else ⟨[],[]⟩
abbrev ZtG:=Int × Int × List Int × List Int × Int × List Int
abbrev ZmM:=ZtG → Option ((List Int × Int × Unit) × Unit)
def ZLO:ZtG → St
 | (v0,v1,v2,v3,v4,v5) => St.mk (ZC [(32,Zq v0),(33,Zq v1),(31,Xn v2),(3,AV.bx 8192 0),(8,AV.own 8193)]) (ZA [(8192,Wb [Xn v3,Zq v4]),(8193,rsA v5 true)])
def ZbT (k:Nat) (L1:ZmM):ZmM
 | (v0,v1,v2,v3,v4,v5) => bif decide (v1 < v0) then bif decide (0 ≤ v1 ∧ v1 < Int.ofNat v2.length) then (ZkP k ((v3,v4,()),v5,())).bind fun y => (Zhg k (IntKind.i64.wrap (v2.getD v1.toNat 0 + y.1),())).bind fun y_1 => bif y_1.1 then some (([],12,()),()) else bif decide (v5.length + [IntKind.i64.wrap (v2.getD v1.toNat 0 + y.1)].length < 2147483648) then L1 (v0,IntKind.i64.wrap (v1 + 1),v2,v3,v4,v5 ++ [IntKind.i64.wrap (v2.getD v1.toNat 0 + y.1)]) else none else none else some ((v5,0,()),())
def ZmN (k:Nat):ZmM:=Zp (fun L1 => ZbT k L1) k
noncomputable def Zw1 (k:Nat) (n:Nat) (v:ZtG) :=
 Zy (ZzP k) ZG6 [] [1,1,1,0,1,0] [] (Wh Tryz.f135) (Wp (ZzP k) Tryz.f135 Ke Ql [] []) n (ZLO v)
def ZfA (k:Nat) (L1:ZmM):(List Int × Int × Unit) × List Int × List Int × Unit → Option ((List Int × Int × Unit) × Unit)
 | ((a0,a1,()),a2,a3,()) => (ZkO k ((a0,a1,()),())).bind fun y => bif y.1 != 0 then some (([],2,()),()) else bif Int.ofNat a2.length != Int.ofNat a0.length then some (([],1,()),()) else (Kh k (a2,(),())).bind fun y => bif y.1 then some (([],12,()),()) else (Kh k (a3,(),())).bind fun y => bif y.1 then some (([],12,()),()) else (ZkJ k (a2,())).bind fun y => L1 (Int.ofNat a3.length,(0:Int),a3,a0,a1,y.1)
def Zbl (k:Nat):=ZfA k (ZmN k)
theorem ZEd (k:Nat):∀ n,Zw1 k n = Zp (fun L1 => ZbT k L1) n :=
 Zl (fun v => by kernel_rfl) (fun n v => by
  obtain ⟨v0,v1,v2,v3,v4,v5⟩:=v
  kernel_rfl)
theorem ZLP (k:Nat) (x:Kd.dens Ke):ZF (ZzP k) ZG6 Tryz.f135 Ke Ql x = Zbl k x:=by
 show _ = ZfA k (ZmN k) x
 rw [show ZmN k = Zw1 k k from (ZEd k k).symm]
 obtain ⟨⟨a0,⟨a1,⟨⟩⟩⟩,⟨a2,⟨a3,⟨⟩⟩⟩⟩:=x
 kernel_rfl
theorem ZG7 (k:Nat):Ctr Tryz.prog k 135 (mk Ke Ql Zbl) :=
 ZG (fn:=Tryz.f135) (Zh (Za (Zg9 k) (Za (Zoy k) (Za (Zxm k) (Za (Zxx k) (Za (Zxz k) Zd)))))) (by kernel_rfl) (by kernel_rfl) (ZLP k)
noncomputable abbrev ZPJ:Nat × Callee:=(135,mk Ke Ql Zbl)
abbrev Zu4:List Kd:=[.box [.ref [.view (.sl (.int .u8)),.view (.int .i64)],.view (.int .i64)],.view (.int .i64),.view (.int .i64),.view (.int .i64)]
noncomputable def ZTR (k:Nat):=Wd k [ZzI,ZGV,ZGW,ZPG,ZPH,ZPI,ZPJ]
noncomputable def Zjg (k:Nat):((List Int × Int × Unit) × Int × Unit) × Int × Int × Int × Unit → Option (List Int × ((List Int × Int × Unit) × Int × Unit) × Unit)
 | (((a0,a1,()),a2,()),a3,a4,a5,()) => bif a3 == 0 then (Zao k (((a0,a1,()),a2,()),1,a5,())).bind fun y => (Zog k (y.1,a4,())).bind fun y_1 => some (y_1.1,((y.2.1.1.1,y.2.1.1.2.1,()),y.2.1.2.1,()),()) else bif a3 == 1 then (Zao k (((a0,a1,()),a2,()),a4,a5,())).bind fun y => some (y.1,((y.2.1.1.1,y.2.1.1.2.1,()),y.2.1.2.1,()),()) else bif decide ((31:Int) < a3) then (WZ k (((a0,a1,()),a2,()),decide (IntKind.i64.wrap (a3 - 31) ≤ a4),())).bind fun y => bif y.2.1.2.1 != 0 then some ([],((y.2.1.1.1,y.2.1.1.2.1,()),y.2.1.2.1,()),()) else (Zao k (((y.2.1.1.1,y.2.1.1.2.1,()),y.2.1.2.1,()),IntKind.i64.wrap (a3 - 31),a5,())).bind fun y => (ZdH k (if (4:Int) < IntKind.i64.wrap (a3 - 31) then (4:Int) else IntKind.i64.wrap (a3 - 31),())).bind fun y_1 => bif decide ((31:Int) < a3) then (Yx k (((y.2.1.1.1,y.2.1.1.2.1,()),y.2.1.2.1,()),4,())).bind fun y_2 => (WZ k (((y_2.2.1.1.1,y_2.2.1.1.2.1,()),y_2.2.1.2.1,()),y_2.1 == 11,())).bind fun y_3 => (Yx k (((y_3.2.1.1.1,y_3.2.1.1.2.1,()),y_3.2.1.2.1,()),5,())).bind fun y_4 => (WZ k (((y_4.2.1.1.1,y_4.2.1.1.2.1,()),y_4.2.1.2.1,()),decide (y_4.1 ≤ 15),())).bind fun y_5 => (Zao k (((y_5.2.1.1.1,y_5.2.1.1.2.1,()),y_5.2.1.2.1,()),IntKind.i64.wrap (a3 - 31),12,())).bind fun y_6 => bif y_6.2.1.2.1 != 0 then some ([],((y_6.2.1.1.1,y_6.2.1.1.2.1,()),y_6.2.1.2.1,()),()) else (Zbk k ((y_6.2.1.1.1,y_6.2.1.1.2.1,()),a4,IntKind.i64.wrap (a3 - 31),())).bind fun y_7 => bif y_7.1.2.1 != 0 then some ([],((y_7.2.1.1,y_7.2.1.2.1,()),y_7.1.2.1,()),()) else (Zbl k ((y_6.1,y_4.1,()),y.1,y_7.1.1,())).bind fun y => some (y.1.1,((y_7.2.1.1,y_7.2.1.2.1,()),y.1.2.1,()),()) else bif y.2.1.2.1 != 0 then some ([],((y.2.1.1.1,y.2.1.1.2.1,()),y.2.1.2.1,()),()) else (Zbk k ((y.2.1.1.1,y.2.1.1.2.1,()),a4,IntKind.i64.wrap (a3 - 31),())).bind fun y_2 => bif y_2.1.2.1 != 0 then some ([],((y_2.2.1.1,y_2.2.1.2.1,()),y_2.1.2.1,()),()) else (Zbl k ((y_1.1.1.1,y_1.1.1.2.1,()),y.1,y_2.1.1,())).bind fun y => some (y.1.1,((y_2.2.1.1,y_2.2.1.2.1,()),y.1.2.1,()),()) else (WZ k (((a0,a1,()),a2,()),decide (IntKind.i64.wrap (a3 - 8) ≤ a4),())).bind fun y => bif y.2.1.2.1 != 0 then some ([],((y.2.1.1.1,y.2.1.1.2.1,()),y.2.1.2.1,()),()) else (Zao k (((y.2.1.1.1,y.2.1.1.2.1,()),y.2.1.2.1,()),IntKind.i64.wrap (a3 - 8),a5,())).bind fun y => (ZdH k (if (4:Int) < IntKind.i64.wrap (a3 - 8) then (4:Int) else IntKind.i64.wrap (a3 - 8),())).bind fun y_1 => bif decide ((31:Int) < a3) then (Yx k (((y.2.1.1.1,y.2.1.1.2.1,()),y.2.1.2.1,()),4,())).bind fun y_2 => (WZ k (((y_2.2.1.1.1,y_2.2.1.1.2.1,()),y_2.2.1.2.1,()),y_2.1 == 11,())).bind fun y_3 => (Yx k (((y_3.2.1.1.1,y_3.2.1.1.2.1,()),y_3.2.1.2.1,()),5,())).bind fun y_4 => (WZ k (((y_4.2.1.1.1,y_4.2.1.1.2.1,()),y_4.2.1.2.1,()),decide (y_4.1 ≤ 15),())).bind fun y_5 => (Zao k (((y_5.2.1.1.1,y_5.2.1.1.2.1,()),y_5.2.1.2.1,()),IntKind.i64.wrap (a3 - 8),12,())).bind fun y_6 => bif y_6.2.1.2.1 != 0 then some ([],((y_6.2.1.1.1,y_6.2.1.1.2.1,()),y_6.2.1.2.1,()),()) else (Zbk k ((y_6.2.1.1.1,y_6.2.1.1.2.1,()),a4,IntKind.i64.wrap (a3 - 8),())).bind fun y_7 => bif y_7.1.2.1 != 0 then some ([],((y_7.2.1.1,y_7.2.1.2.1,()),y_7.1.2.1,()),()) else (Zbl k ((y_6.1,y_4.1,()),y.1,y_7.1.1,())).bind fun y => some (y.1.1,((y_7.2.1.1,y_7.2.1.2.1,()),y.1.2.1,()),()) else bif y.2.1.2.1 != 0 then some ([],((y.2.1.1.1,y.2.1.1.2.1,()),y.2.1.2.1,()),()) else (Zbk k ((y.2.1.1.1,y.2.1.1.2.1,()),a4,IntKind.i64.wrap (a3 - 8),())).bind fun y_2 => bif y_2.1.2.1 != 0 then some ([],((y_2.2.1.1,y_2.2.1.2.1,()),y_2.1.2.1,()),()) else (Zbl k ((y_1.1.1.1,y_1.1.1.2.1,()),y.1,y_2.1.1,())).bind fun y => some (y.1.1,((y_2.2.1.1,y_2.2.1.2.1,()),y.1.2.1,()),())
noncomputable def Zyi (k:Nat):=Zjg k
theorem ZR8 (k:Nat) (x:Kd.dens Zu4):ZF (ZTR k) nA Tryz.f88 Zu4 Yz x = Zyi k x:=by
 show _ = Zjg k x
 obtain ⟨⟨⟨a0,⟨a1,⟨⟩⟩⟩,⟨a2,⟨⟩⟩⟩,⟨a3,⟨a4,⟨a5,⟨⟩⟩⟩⟩⟩:=x
 kernel_rfl
theorem ZNz (k:Nat):Ctr Tryz.prog k 88 (mk Zu4 Yz Zyi) :=
 ZG (fn:=Tryz.f88) (Zh (Za (Zoa k) (Za (ZwT k) (Za (ZwU k) (Za (ZG1 k) (Za (ZG3 k) (Za (ZG5 k) (Za (ZG7 k) Zd)))))))) (by kernel_rfl) (by kernel_rfl) (ZR8 k)
noncomputable abbrev ZTS:Nat × Callee:=(88,mk Zu4 Yz Zyi)
noncomputable def ZIG (k:Nat):=Wd k [ZOV,ZTQ,ZTS,ZOX]
def ZOz:Nat → Ann:=fun id => bif Nat.beq id 12 then ⟨[58,59,57,2,10,12],[.slot 12 ((Ty.int IntKind.i64))]⟩ else ⟨[],[]⟩
abbrev ZAp:=Int × Int × List Int × Int × Int × List Int × Int × List Int
abbrev Zuj:=ZAp → Option ((List Int × Int × Unit) × (List Int × Int × Unit) × Unit)
def ZRa:ZAp → St
 | (v0,v1,v2,v3,v4,v5,v6,v7) => St.mk (ZC [(58,Zq v0),(59,Zq v1),(57,Xn v2),(2,Zq v3),(10,Zq v4),(12,AV.own 8192)]) (ZA [(0,Wb [AV.val (PV.sl (Ty.int IntKind.u8) v5),Zq v6]),(8192,rsA v7 false)])
def Zd9 (k:Nat) (L1:Zuj):Zuj
 | (v0,v1,v2,v3,v4,v5,v6,v7) => bif decide (v1 < v0) then bif decide (0 ≤ v1 ∧ v1 < Int.ofNat v2.length) then (Zsb k (v2.getD v1.toNat 0,IntKind.i64.wrap (v3 - v4),())).bind fun y => bif !y.1 then some (([],12,()),(v5,v6,()),()) else bif decide (0 ≤ v4) then bif decide (v7.length + [IntKind.i64.wrap (v2.getD v1.toNat 0 * (2:Int) ^ min v4.toNat 64)].length < 2147483648) then L1 (v0,IntKind.i64.wrap (v1 + 1),v2,v3,v4,v5,v6,v7 ++ [IntKind.i64.wrap (v2.getD v1.toNat 0 * (2:Int) ^ min v4.toNat 64)]) else none else none else none else some ((v7,0,()),(v5,v6,()),())
def Zuk (k:Nat):Zuj:=Zp (fun L1 => Zd9 k L1) k
noncomputable def ZBX (k:Nat) (n:Nat) (v:ZAp) :=
 Zy (ZIG k) ZOz [0] [1,1,1,1,1,1,1,1,0,1,0] [] (Wh Tryz.f46) (Wp (ZIG k) Tryz.f46 WH Ql [AV.bx (nat_lit 0) (nat_lit 0)] [[]]) n (ZRa v)
noncomputable def ZiH (k:Nat) (L1:Zuj):(List Int × Int × Unit) × Int × Int × Unit → Option ((List Int × Int × Unit) × (List Int × Int × Unit) × Unit)
 | ((a0,a1,()),a2,a3,()) => (Zsa k (a2,a3,())).bind fun y => bif !y.1 then some (([],1,()),(a0,a1,()),()) else (Zyh k (((a0,a1,()),0,()),a3,())).bind fun y => bif y.2.1.2.1 != 0 then some (([],y.2.1.2.1,()),(y.2.1.1.1,y.2.1.1.2.1,()),()) else (Zyi k (((y.2.1.1.1,y.2.1.1.2.1,()),y.2.1.2.1,()),y.1.1,a2,IntKind.i64.wrap (a3 - y.1.2.1),())).bind fun y_1 => bif y_1.2.1.2.1 != 0 then some (([],y_1.2.1.2.1,()),(y_1.2.1.1.1,y_1.2.1.1.2.1,()),()) else L1 (Int.ofNat (List.length y_1.1),(0:Int),y_1.1,a3,y.1.2.1,y_1.2.1.1.1,y_1.2.1.1.2.1,[])
noncomputable def ZxW (k:Nat):=ZiH k (Zuk k)
theorem ZIH (k:Nat):∀ n,ZBX k n = Zp (fun L1 => Zd9 k L1) n :=
 Zl (fun v => by kernel_rfl) (fun n v => by
  obtain ⟨v0,v1,v2,v3,v4,v5,v6,v7⟩:=v
  kernel_rfl)
theorem ZRb (k:Nat) (x:Kd.dens WH):ZF (ZIG k) ZOz Tryz.f46 WH Ql x = ZxW k x:=by
 show _ = ZiH k (Zuk k) x
 rw [show Zuk k = ZBX k k from (ZIH k k).symm]
 obtain ⟨⟨a0,⟨a1,⟨⟩⟩⟩,⟨a2,⟨a3,⟨⟩⟩⟩⟩:=x
 kernel_rfl
theorem ZM8 (k:Nat):Ctr Tryz.prog k 46 (mk WH Ql ZxW) :=
 ZG (fn:=Tryz.f46) (Zh (Za (ZCr k) (Za (ZNy k) (Za (ZNz k) (Za (ZCs k) Zd))))) (by kernel_rfl) (by kernel_rfl) (ZRb k)
noncomputable abbrev ZTm:Nat × Callee:=(46,mk WH Ql ZxW)
def ZOA:Nat → Ann:=fun id => bif Nat.beq id 5 then ⟨[4,3,0],[]⟩ else ⟨[],[]⟩
abbrev Zul:=Wn → Option (Int × (List Int × Int × Unit) × Unit)
def ZRc:Wn → St
 | (v0,v1,v2,v3) => St.mk (ZC [(4,Zq v0),(3,Zq v1),(0,AV.bx 0 0)]) (ZA [(0,Wb [AV.val (PV.sl (Ty.int IntKind.u8) v2),Zq v3])])
def Zea (k:Nat) (L1:Zul):Zul
 | (v0,v1,v2,v3) => bif decide (v0 < v1) then (Zps k ((v2,v3,()),v0,())).bind fun y => bif y.1 == 1 then some (2,(y.2.1.1,y.2.1.2.1,()),()) else L1 (IntKind.i64.wrap (v0 + 1),v1,y.2.1.1,y.2.1.2.1) else some (0,(v2,v1,()),())
def Zum (k:Nat):Zul:=Zp (fun L1 => Zea k L1) k
noncomputable def ZBY (k:Nat) (n:Nat) (v:Wn) :=
 Zy (Zkt k) ZOA [0] [1,1,1,0,1,0] [] (Wh Tryz.f47) (Wp (Zkt k) Tryz.f47 Xf Zf [AV.bx (nat_lit 0) (nat_lit 0)] [[]]) n (ZRc v)
def ZiI (k:Nat) (L1:Zul):(List Int × Int × Unit) × Unit → Option (Int × (List Int × Int × Unit) × Unit)
 | ((a0,a1,()),()) => L1 (a1,IntKind.i64.wrap (Int.ofNat (BitVec.ofInt 64 (IntKind.i64.wrap (a1 + 7)) &&& ~~~BitVec.ofInt 64 (7:Int)).toNat),a0,a1)
def ZxX (k:Nat):=ZiI k (Zum k)
theorem ZIJ (k:Nat):∀ n,ZBY k n = Zp (fun L1 => Zea k L1) n :=
 Zl (fun v => by kernel_rfl) (fun n v => by
  obtain ⟨v0,v1,v2,v3⟩:=v
  kernel_rfl)
theorem ZRd (k:Nat) (x:Kd.dens Xf):ZF (Zkt k) ZOA Tryz.f47 Xf Zf x = ZxX k x:=by
 show _ = ZiI k (Zum k) x
 rw [show Zum k = ZBY k k from (ZIJ k k).symm]
 obtain ⟨⟨a0,⟨a1,⟨⟩⟩⟩,⟨⟩⟩:=x
 kernel_rfl
theorem ZM9 (k:Nat):Ctr Tryz.prog k 47 (mk Xf Zf ZxX) :=
 ZG (fn:=Tryz.f47) (Zh (Za (Zu5 k) Zd)) (by kernel_rfl) (by kernel_rfl) (ZRd k)
noncomputable abbrev ZTn:Nat × Callee:=(47,mk Xf Zf ZxX)
abbrev Zh1:List Kd:=[.box [.view (.sl (.int .u8)),.ref [.view (.sl (.int .u8)),.view (.int .i64)],.view (.int .i64)],.view (.int .i64),.fn 33]
noncomputable def ZK5 (k:Nat):=Wd k [ZB0,ZCo,ZCp,ZOu]
def ZcJ (k:Nat):(List Int × (List Int × Int × Unit) × Int × Unit) × Int × Unit × Unit → Option (Unit × (List Int × (List Int × Int × Unit) × Int × Unit) × Unit)
 | ((a0,(a1,a2,()),a3,()),a4,(),()) => (Zaq k ((a1,a2,()),())).bind fun y => (Ws k ((a0,(y.2.1.1,y.2.1.2.1,()),a3,()),a4,())).bind fun y_1 => bif y_1.2.1.2.2.1 != 0 then (Q1 k ((y_1.2.1.1,(y_1.2.1.2.1.1,y_1.2.1.2.1.2.1,()),y_1.2.1.2.2.1,()),true,16,())).bind fun y => some ((),(y.2.1.1,(y.2.1.2.1.1,y.2.1.2.1.2.1,()),y.2.1.2.2.1,()),()) else bif decide ((0:Int) ≤ 0 ∧ (0:Int) ≤ IntKind.i64.wrap (Int.tdiv y.1 (8:Int)) ∧ IntKind.i64.wrap (Int.tdiv y.1 (8:Int)) ≤ Int.ofNat (List.length y_1.2.1.1)) then (ZrY k (List.drop 0 (List.take (IntKind.i64.wrap (Int.tdiv y.1 (8:Int))).toNat y_1.2.1.1),())).bind fun y => (Q1 k ((y_1.2.1.1,(y_1.2.1.2.1.1,y_1.2.1.2.1.2.1,()),y_1.2.1.2.2.1,()),y_1.1 == y.1,16,())).bind fun y => some ((),(y.2.1.1,(y.2.1.2.1.1,y.2.1.2.1.2.1,()),y.2.1.2.2.1,()),()) else none
def Zh0 (k:Nat):=ZcJ k
theorem ZGA (k:Nat) (x:Kd.dens Zh1):ZF (ZK5 k) nA Tryz.f48 Zh1 Qy x = Zh0 k x:=by
 show _ = ZcJ k x
 obtain ⟨⟨a0,⟨⟨a1,⟨a2,⟨⟩⟩⟩,⟨a3,⟨⟩⟩⟩⟩,⟨a4,⟨⟨⟩,⟨⟩⟩⟩⟩:=x
 kernel_rfl
theorem ZDD (k:Nat):Ctr Tryz.prog k 48 (mk Zh1 Qy Zh0) :=
 ZG (fn:=Tryz.f48) (Zh (Za (Znh k) (Za (Znl k) (Za (Znm k) (Za (ZBT k) Zd))))) (by kernel_rfl) (by kernel_rfl) (ZGA k)
noncomputable abbrev ZK6:Nat × Callee:=(48,mk Zh1 Qy Zh0)
abbrev Zbm:List Kd:=[.view (.sl (.int .i64)),.view (.sl (.int .i64)),.view (.int .i64)]
noncomputable def ZIM (k:Nat):=Wd k [ZOJ,ZOZ]
def ZOB:Nat → Ann:=fun id => bif Nat.beq id 7 then ⟨[36,37,35,1,2,8,9],[]⟩ else ⟨[],[]⟩
abbrev ZAq:=Int × Int × List Int × List Int × Int × List Int × List Int
abbrev Zuo:=ZAq → Option ((List (Nat × Nat) × Int × Unit) × Unit)
def ZRf:ZAq → St
 | (v0,v1,v2,v3,v4,v5,v6) => St.mk (ZC [(36,Zq v0),(37,Zq v1),(35,Xn v2),(1,Xn v3),(2,Zq v4),(8,AV.own 8192),(9,AV.own 8193)]) (ZA [(8192,rsA v5 false),(8193,rsA v6 false)])
def Zca (k:Nat) (L1:Zuo):Zuo
 | (v0,v1,v2,v3,v4,v5,v6) => bif decide (v1 < v0) then bif decide (0 ≤ v1 ∧ v1 < Int.ofNat v2.length) then bif decide (0 ≤ v1 ∧ v1 < Int.ofNat v3.length) then bif decide ((if v3.getD v1.toNat 0 < v2.getD v1.toNat 0 then v3.getD v1.toNat 0 else v2.getD v1.toNat 0) < -67108864) then some (([],12,()),()) else bif decide ((67108864:Int) < if v2.getD v1.toNat 0 < v3.getD v1.toNat 0 then v3.getD v1.toNat 0 else v2.getD v1.toNat 0) then some (([],12,()),()) else bif v4 == 0 then bif decide (0 ≤ v1 ∧ v1 < Int.ofNat v5.length) then bif decide (v1.toNat < v5.length) then bif decide (0 ≤ v1 ∧ v1 < Int.ofNat v6.length) then bif decide (v1.toNat < v6.length) then L1 (v0,IntKind.i64.wrap (v1 + 1),v2,v3,v4,v5.set v1.toNat (v2.getD v1.toNat 0),v6.set v1.toNat (v3.getD v1.toNat 0)) else none else none else none else none else bif v4 == 8 then bif decide (0 ≤ v1 ∧ v1 < Int.ofNat v5.length) then bif decide (v1.toNat < v5.length) then bif decide (0 ≤ v1 ∧ v1 < Int.ofNat v6.length) then bif decide (v1.toNat < v6.length) then L1 (v0,IntKind.i64.wrap (v1 + 1),v2,v3,v4,v5.set v1.toNat (v2.getD v1.toNat 0),v6.set v1.toNat (IntKind.i64.wrap (v2.getD v1.toNat 0 - v3.getD v1.toNat 0))) else none else none else none else none else bif v4 == 9 then bif decide (0 ≤ v1 ∧ v1 < Int.ofNat v5.length) then bif decide (v1.toNat < v5.length) then bif decide (0 ≤ v1 ∧ v1 < Int.ofNat v6.length) then bif decide (v1.toNat < v6.length) then L1 (v0,IntKind.i64.wrap (v1 + 1),v2,v3,v4,v5.set v1.toNat (IntKind.i64.wrap (v2.getD v1.toNat 0 + v3.getD v1.toNat 0)),v6.set v1.toNat (v3.getD v1.toNat 0)) else none else none else none else none else bif v4 == 10 then bif decide (0 ≤ v1 ∧ v1 < Int.ofNat v5.length) then bif decide (v1.toNat < v5.length) then bif decide (0 ≤ v1 ∧ v1 < Int.ofNat v6.length) then bif decide (v1.toNat < v6.length) then L1 (v0,IntKind.i64.wrap (v1 + 1),v2,v3,v4,v5.set v1.toNat ((IntKind.i64.wrap (IntKind.i64.wrap (Int.ofNat (BitVec.ofInt 64 (IntKind.i64.wrap (v2.getD v1.toNat 0 * (2:Int))) ||| BitVec.ofInt 64 (IntKind.i64.wrap (Int.ofNat (BitVec.ofInt 64 (v3.getD v1.toNat 0) &&& BitVec.ofInt 64 (1:Int)).toNat))).toNat) + v3.getD v1.toNat 0)).fdiv (2:Int)),v6.set v1.toNat ((IntKind.i64.wrap (IntKind.i64.wrap (Int.ofNat (BitVec.ofInt 64 (IntKind.i64.wrap (v2.getD v1.toNat 0 * (2:Int))) ||| BitVec.ofInt 64 (IntKind.i64.wrap (Int.ofNat (BitVec.ofInt 64 (v3.getD v1.toNat 0) &&& BitVec.ofInt 64 (1:Int)).toNat))).toNat) - v3.getD v1.toNat 0)).fdiv (2:Int))) else none else none else none else none else L1 (v0,IntKind.i64.wrap (v1 + 1),v2,v3,v4,v5,v6) else none else none else (Zpd k (v5,v6,())).bind fun y => some ((y.1.1,y.1.2.1,()),())
def Zup (k:Nat):Zuo:=Zp (fun L1 => Zca k L1) k
noncomputable def ZBZ (k:Nat) (n:Nat) (v:ZAq) :=
 Zy (ZIM k) ZOB [] [1,1,1,0,1,0] [] (Wh Tryz.f49) (Wp (ZIM k) Tryz.f49 Zbm KK [] []) n (ZRf v)
def ZiK (k:Nat) (L1:Zuo):List Int × List Int × Int × Unit → Option ((List (Nat × Nat) × Int × Unit) × Unit)
 | (a0,a1,a2,()) => (Zsc k (a2,())).bind fun y => bif !y.1 then some (([],1,()),()) else bif Int.ofNat a0.length != Int.ofNat a1.length then some (([],1,()),()) else bif decide ((8192:Int) < Int.ofNat a0.length) then some (([],14,()),()) else bif decide ((0:Int) ≤ Int.ofNat a0.length ∧ Int.ofNat a0.length ≤ Int.ofNat a0.length ∧ Int.ofNat a0.length < (4294967296:Int)) then bif decide ((0:Int) ≤ Int.ofNat a0.length ∧ Int.ofNat a0.length ≤ Int.ofNat a0.length ∧ Int.ofNat a0.length < (4294967296:Int)) then L1 (Int.ofNat a0.length,(0:Int),a0,a1,a2,List.replicate (Int.ofNat a0.length).toNat (0:Int),List.replicate (Int.ofNat a0.length).toNat (0:Int)) else none else none
def Zo6 (k:Nat):=ZiK k (Zup k)
theorem ZIN (k:Nat):∀ n,ZBZ k n = Zp (fun L1 => Zca k L1) n :=
 Zl (fun v => by kernel_rfl) (fun n v => by
  obtain ⟨v0,v1,v2,v3,v4,v5,v6⟩:=v
  kernel_rfl)
theorem ZRg (k:Nat) (x:Kd.dens Zbm):ZF (ZIM k) ZOB Tryz.f49 Zbm KK x = Zo6 k x:=by
 show _ = ZiK k (Zup k) x
 rw [show Zup k = ZBZ k k from (ZIN k k).symm]
 obtain ⟨a0,⟨a1,⟨a2,⟨⟩⟩⟩⟩:=x
 kernel_rfl
theorem ZNb (k:Nat):Ctr Tryz.prog k 49 (mk Zbm KK Zo6) :=
 ZG (fn:=Tryz.f49) (Zh (Za (ZB8 k) (Za (ZCt k) Zd))) (by kernel_rfl) (by kernel_rfl) (ZRg k)
noncomputable abbrev ZTq:Nat × Callee:=(49,mk Zbm KK Zo6)
noncomputable def ZTs (k:Nat):=Wd k [ZJe]
def ZiL (k:Nat):List (Nat × Nat) × Unit → Option ((List Int × List Int × Int × Unit) × Unit)
 | (a0,()) => (Zpf k (a0,0,())).bind fun y => some ((y.1.1,y.1.2.1,y.1.2.2.1,()),())
def Zo7 (k:Nat):=ZiL k
theorem ZRh (k:Nat) (x:Kd.dens QU):ZF (ZTs k) nA Tryz.f50 QU Zhk x = Zo7 k x:=by
 show _ = ZiL k x
 obtain ⟨a0,⟨⟩⟩:=x
 kernel_rfl
theorem ZNd (k:Nat):Ctr Tryz.prog k 50 (mk QU Zhk Zo7) :=
 ZG (fn:=Tryz.f50) (Zh (Za (ZuG k) Zd)) (by kernel_rfl) (by kernel_rfl) (ZRh k)
noncomputable abbrev ZTt:Nat × Callee:=(50,mk QU Zhk Zo7)
abbrev ZcP:List Kd:=[.view shapeT,.view (.sl (.int .u8))]
abbrev Zhj:Kd:=.tup [.view Zhl,.view (.int .i64),.view (.int .i64)]
noncomputable def ZH8 (k:Nat):=Wd k [ZOj,ZOp,ZOt,ZTj,ZTl,ZTm,ZTn,ZK6,ZTq,ZTt,ZB0]
def ZOl:Nat → Ann:=fun id => bif Nat.beq id 10 then ⟨[55,56,54,8,11,4,12,2,9],[.cell 12 1 ((Ty.int IntKind.i64).sl)]⟩ else ⟨[],[]⟩
abbrev ZAf:=Int × Int × List Int × Int × Int × List Int × Int × List Int × Int × Int × Int × List (List Int) × Int × Int × Int
abbrev Zt0:=ZAf → Option (((Int × List (List Int) × Unit) × Int × Int × Unit) × Unit)
def ZQy:ZAf → St
 | (v0,v1,v2,v3,v4,v5,v6,v7,v8,v9,v10,v11,v12,v13,v14) => St.mk (ZC [(55,Zq v0),(56,Zq v1),(54,Xn v2),(8,AV.bx 8192 0),(11,Zq v3),(4,AV.bx 8194 0),(12,AV.bx 8195 0),(2,AV.bx 8197 0),(9,Zq v4)]) (ZA [(8192,Wb [AV.val (PV.sl (Ty.int IntKind.u8) v5),AV.bx 8193 0,Zq v6]),(8193,Wb [AV.val (PV.sl (Ty.int IntKind.u8) v7),Zq v8]),(8194,Wb [Zq v9,AV.val (PV.v (Value.slice none (0:Nat) (0:Nat)))]),(8195,Wb [Zq v10,AV.own 8196]),(8196,RS.live (Res.arr (Ty.int IntKind.i64).sl v11 false)),(8197,Wb [Zq v12,Zq v13,Zq v14])])
noncomputable def ZdW (k:Nat) (L1:Zt0):Zt0
 | (v0,v1,v2,v3,v4,v5,v6,v7,v8,v9,v10,v11,v12,v13,v14) => bif decide (v1 < v0) then bif decide (0 ≤ v1 ∧ v1 < Int.ofNat v2.length) then (ZxW k ((v7,v8,()),v3,v2.getD v1.toNat 0,())).bind fun y => bif y.1.2.1 != 0 then some ((((0:Int),[],()),0,y.1.2.1,()),()) else bif decide (v11.length + [y.1.1].length < 2147483648) then L1 (v0,IntKind.i64.wrap (v1 + 1),v2,v3,v4,v5,v6,y.2.1.1,y.2.1.2.1,v9,v10,v11 ++ [y.1.1],v12,v13,v14) else none else none else (ZxX k ((v7,v8,()),())).bind fun y => (Zh0 k ((v5,(y.2.1.1,y.2.1.2.1,()),y.1,()),16,(),())).bind fun y => bif y.2.1.2.2.1 != 0 then some ((((0:Int),[],()),0,y.2.1.2.2.1,()),()) else bif decide ((1:Int) < v12) then bif v4 == 1 then bif decide ((0:Int) ≤ 0 ∧ (0:Int) < Int.ofNat v11.length) then bif decide ((0:Nat) < v11.length) then bif decide ((0:Int) ≤ 1 ∧ (1:Int) < Int.ofNat v11.length) then bif decide ((1:Nat) < v11.length) then (Zo6 k (v11.getD 0 [],v11.getD 1 [],0,())).bind fun y_1 => bif y_1.1.2.1 != 0 then some ((((0:Int),[],()),0,y_1.1.2.1,()),()) else (Zo7 k (y_1.1.1,())).bind fun y_2 => bif y_2.1.2.2.1 != 0 then some ((((0:Int),[],()),0,y_2.1.2.2.1,()),()) else (ZgC k ((v12,v13,v14,()),(v10,[y_2.1.1,y_2.1.2.1],()),())).bind fun y_3 => bif y_3.1 != 0 then some ((((0:Int),[],()),0,y_3.1,()),()) else (Zaq k ((y.2.1.2.1.1,y.2.1.2.1.2.1,()),())).bind fun y => some (((v10,[y_2.1.1,y_2.1.2.1],()),IntKind.i64.wrap (Int.tdiv y.1 (8:Int)),0,()),()) else none else none else none else none else bif decide ((0:Int) ≤ 0 ∧ (0:Int) < Int.ofNat v11.length) then bif decide ((0:Nat) < v11.length) then bif decide ((0:Int) ≤ 1 ∧ (1:Int) < Int.ofNat v11.length) then bif decide ((1:Nat) < v11.length) then (Zo6 k (v11.getD 0 [],v11.getD 1 [],v4,())).bind fun y_1 => bif y_1.1.2.1 != 0 then some ((((0:Int),[],()),0,y_1.1.2.1,()),()) else (Zo7 k (y_1.1.1,())).bind fun y_2 => bif y_2.1.2.2.1 != 0 then some ((((0:Int),[],()),0,y_2.1.2.2.1,()),()) else (ZgC k ((v12,v13,v14,()),(v10,[y_2.1.1,y_2.1.2.1],()),())).bind fun y_3 => bif y_3.1 != 0 then some ((((0:Int),[],()),0,y_3.1,()),()) else (Zaq k ((y.2.1.2.1.1,y.2.1.2.1.2.1,()),())).bind fun y => some (((v10,[y_2.1.1,y_2.1.2.1],()),IntKind.i64.wrap (Int.tdiv y.1 (8:Int)),0,()),()) else none else none else none else none else (ZgC k ((v12,v13,v14,()),(v10,v11,()),())).bind fun y_1 => bif y_1.1 != 0 then some ((((0:Int),[],()),0,y_1.1,()),()) else (Zaq k ((y.2.1.2.1.1,y.2.1.2.1.2.1,()),())).bind fun y => some (((v10,v11,()),IntKind.i64.wrap (Int.tdiv y.1 (8:Int)),0,()),())
noncomputable def Zt1 (k:Nat):Zt0:=Zp (fun L1 => ZdW k L1) k
noncomputable def ZBH (k:Nat) (n:Nat) (v:ZAf) :=
 Zy (ZH8 k) ZOl [] [1,1,1,1,1,1,0,1,0] [] (Wh Tryz.f18) (Wp (ZH8 k) Tryz.f18 ZcP Zhj [] []) n (ZQy v)
def Zim (k:Nat) (L1:Zt0):(Int × Int × Int × Unit) × List Int × Unit → Option (((Int × List (List Int) × Unit) × Int × Int × Unit) × Unit)
 | ((a0,a1,a2,()),a3,()) => (Zru k ((a0,a1,a2,()),())).bind fun y => bif y.1 != 0 then some ((((0:Int),[],()),0,y.1,()),()) else (ZxS k (a3,())).bind fun y => (Zr1 k ((a3,(y.1.1,y.1.2.1,()),0,()),(a0,a1,a2,()),())).bind fun y => bif y.2.1.2.2.1 != 0 then some ((((0:Int),[],()),0,y.2.1.2.2.1,()),()) else (ZrW k ((a0,a1,a2,()),y.1.1,())).bind fun y_1 => L1 (Int.ofNat (List.length y_1.1),(0:Int),y_1.1,y.1.2.2.1,y.1.1,y.2.1.1,y.2.1.2.2.1,y.2.1.2.1.1,y.2.1.2.1.2.1,(0:Int),y.1.2.1,[],a0,a1,a2)
noncomputable def ZrR (k:Nat):=Zim k (Zt1 k)
theorem ZH9 (k:Nat):∀ n,ZBH k n = Zp (fun L1 => ZdW k L1) n :=
 Zl (fun v => by kernel_rfl) (fun n v => by
  obtain ⟨v0,v1,v2,v3,v4,v5,v6,v7,v8,v9,v10,v11,v12,v13,v14⟩:=v
  kernel_rfl)
theorem ZQz (k:Nat) (x:Kd.dens ZcP):ZF (ZH8 k) ZOl Tryz.f18 ZcP Zhj x = ZrR k x:=by
 show _ = Zim k (Zt1 k) x
 rw [show Zt1 k = ZBH k k from (ZH9 k k).symm]
 obtain ⟨⟨a0,⟨a1,⟨a2,⟨⟩⟩⟩⟩,⟨a3,⟨⟩⟩⟩:=x
 kernel_rfl
theorem ZBI (k:Nat):Ctr Tryz.prog k 18 (mk ZcP Zhj ZrR) :=
 ZG (fn:=Tryz.f18) (Zh (Za (ZBC k) (Za (ZBO k) (Za (ZBS k) (Za (ZM6 k) (Za (ZM7 k) (Za (ZM8 k) (Za (ZM9 k) (Za (ZDD k) (Za (ZNb k) (Za (ZNd k) (Za (Znh k) Zd)))))))))))) (by kernel_rfl) (by kernel_rfl) (ZQz k)
noncomputable abbrev ZOm:Nat × Callee:=(18,mk ZcP Zhj ZrR)
noncomputable def ZSW (k:Nat):=Wd k [ZSZ,ZOm]
noncomputable def Zh3 (k:Nat):Unit → Option (Bool × Unit)
 | () => (Zxh k (((1:Int),(8:Int),(44100:Int),()),((0:Int),[[(5:Int),(5:Int),(5:Int)]],()),())).bind fun y => bif y.1.2.1 != 0 then some (false,()) else bif Int.ofNat (List.length y.1.1) != 11 then some (false,()) else bif decide ((0:Int) ≤ 0 ∧ (0:Int) ≤ 6 ∧ (6:Int) ≤ Int.ofNat (List.length y.1.1)) then bif !(ByteArray.mk (List.map (fun n => UInt8.ofNat n.toNat) (List.drop 0 (List.take 6 y.1.1))).toArray).toList == (ByteArray.mk #[255,248,96,0,0,2]).toList then some (false,()) else (ZrR k (((1:Int),(8:Int),(44100:Int),()),y.1.1,())).bind fun y => bif y.1.2.2.1 == 0 then bif y.1.2.1 == 11 then bif Int.ofNat (List.length y.1.1.2.1) == 1 then bif decide ((0:Int) ≤ 0 ∧ (0:Int) < Int.ofNat (List.length y.1.1.2.1)) then bif Int.ofNat (List.length (List.getD y.1.1.2.1 (0:Nat) [])) == (3:Int) then bif decide ((0:Int) ≤ 0 ∧ (0:Int) < Int.ofNat (List.length y.1.1.2.1)) then bif decide ((0:Int) ≤ 2 ∧ (2:Int) < Int.ofNat (List.length (List.getD y.1.1.2.1 (0:Nat) []))) then some (List.getD (List.getD y.1.1.2.1 (0:Nat) []) (2:Nat) 0 == (5:Int),()) else none else none else some (false,()) else none else some (false,()) else some (false,()) else some (false,()) else none
noncomputable def Zob (k:Nat):=Zh3 k
theorem ZPu (k:Nat) (x:Kd.dens Zd0):ZF (ZSW k) nA Tryz.f10 Zd0 Zs x = Zob k x:=by
 show _ = Zh3 k x
 obtain ⟨⟩:=x
 kernel_rfl
theorem ZLg (k:Nat):Ctr Tryz.prog k 10 (mk Zd0 Zs Zob) :=
 ZG (fn:=Tryz.f10) (Zh (Za (ZL7 k) (Za (ZBI k) Zd))) (by kernel_rfl) (by kernel_rfl) (ZPu k)
noncomputable abbrev ZSX:Nat × Callee:=(10,mk Zd0 Zs Zob)
def Zh9 (k:Nat):(Int × Int × Int × Unit) × Unit → Option (Bool × Unit)
 | ((a0,a1,a2,()),()) => bif a0 == 1 then bif decide (4 ≤ a1) then bif decide (a1 ≤ 24) then bif decide (1 ≤ a2) then some (decide (a2 ≤ 655350),()) else some (false,()) else some (false,()) else some (false,()) else bif a0 == 2 then bif decide (4 ≤ a1) then bif decide (a1 ≤ 24) then bif decide (1 ≤ a2) then some (decide (a2 ≤ 655350),()) else some (false,()) else some (false,()) else some (false,()) else some (false,())
def Zoe (k:Nat):=Zh9 k
theorem ZPE (k:Nat) (x:Kd.dens ZdJ):ZF (ZH k) nA Tryz.f12 ZdJ Zs x = Zoe k x:=by
 show _ = Zh9 k x
 obtain ⟨⟨a0,⟨a1,⟨a2,⟨⟩⟩⟩⟩,⟨⟩⟩:=x
 kernel_rfl
theorem ZBD (k:Nat):Ctr Tryz.prog k 12 (mk ZdJ Zs Zoe) :=
 ZG (fn:=Tryz.f12) (Zh Zd) (by kernel_rfl) (by kernel_rfl) (ZPE k)
noncomputable abbrev ZOk:Nat × Callee:=(12,mk ZdJ Zs Zoe)
def Zio (k:Nat):Int × Int × Unit → Option (Bool × Unit)
 | (a0,a1,()) => bif a1 == 0 then some (a0 == 0,()) else bif decide (0 ≤ IntKind.i64.wrap (a1 - 1)) then bif decide (IntKind.i64.wrap ((0:Int) - IntKind.i64.wrap ((1:Int) * (2:Int) ^ min (IntKind.i64.wrap (a1 - 1)).toNat 64)) ≤ a0) then bif decide (0 ≤ IntKind.i64.wrap (a1 - 1)) then some (decide (a0 < IntKind.i64.wrap ((1:Int) * (2:Int) ^ min (IntKind.i64.wrap (a1 - 1)).toNat 64)),()) else none else some (false,()) else none
def ZrU (k:Nat):=Zio k
theorem ZQK (k:Nat) (x:Kd.dens Qw):ZF (ZH k) nA Tryz.f22 Qw Zs x = ZrU k x:=by
 show _ = Zio k x
 obtain ⟨a0,⟨a1,⟨⟩⟩⟩:=x
 kernel_rfl
theorem ZBL (k:Nat):Ctr Tryz.prog k 22 (mk Qw Zs ZrU) :=
 ZG (fn:=Tryz.f22) (Zh Zd) (by kernel_rfl) (by kernel_rfl) (ZQK k)
noncomputable abbrev ZOo:Nat × Callee:=(22,mk Qw Zs ZrU)
noncomputable def Zw4 (k:Nat):=Wd k [ZOk,ZOo]
def ZHd:Nat → Ann:=fun id => bif Nat.beq id 12 then ⟨[7,5,3,6,2],[]⟩ else bif Nat.beq id 9 then ⟨[6,2,5,3],[]⟩ else ⟨[],[]⟩
abbrev ZzV:=Int × Int × Int × Int × List (List Int) × Int × Int × Int
abbrev ZtJ:=ZzV → Option (Int × Unit)
abbrev ZzU:=Int × Int × Int × Int × Int × Int × List (List Int)
abbrev Zkw:=ZzU → Option (Int × Unit)
def ZPP:ZzV → St
 | (v0,v1,v2,v3,v4,v5,v6,v7) => St.mk (ZC [(7,Zq v0),(5,Zq v1),(3,AV.bx 8192 0),(6,Zq v2),(2,AV.bx 8193 0)]) (ZA [(8192,Wb [Zq v3,AV.val (PV.sl (Ty.int IntKind.i64).sl v4)]),(8193,Wb [Zq v5,Zq v6,Zq v7])])
def ZbW (k:Nat) (L1:Zkw) (L2:ZtJ):ZtJ
 | (v0,v1,v2,v3,v4,v5,v6,v7) => bif decide (v0 < v1) then bif decide (0 ≤ v2 ∧ v2 < Int.ofNat v4.length) then bif decide (0 ≤ v0 ∧ v0 < Int.ofNat (List.length (v4.getD v2.toNat []))) then (ZrU k (List.getD (v4.getD v2.toNat []) v0.toNat 0,v6,())).bind fun y => bif !y.1 then some (12,()) else L2 (IntKind.i64.wrap (v0 + 1),v1,v2,v3,v4,v5,v6,v7) else none else none else L1 (IntKind.i64.wrap (v2 + 1),v1,v5,v6,v7,v3,v4)
def Zoj (k:Nat) (L1:Zkw):ZtJ:=Zp (fun L2 => ZbW k L1 L2) k
noncomputable def ZmS (k:Nat) (n1:Nat) (n:Nat) (v:ZzV):Option (Int × Unit) :=
 Zy (Zw4 k) ZHd [] [1,1,1,1,1,0,1,0,0,1,0,0,1,0] [n1] (Wh Tryz.f13) (Wp (Zw4 k) Tryz.f13 W1 Zf [] []) n (ZPP v)
def ZPO:ZzU → St
 | (v0,v1,v2,v3,v4,v5,v6) => St.mk (ZC [(6,Zq v0),(2,AV.bx 8192 0),(5,Zq v1),(3,AV.bx 8193 0)]) (ZA [(8192,Wb [Zq v2,Zq v3,Zq v4]),(8193,Wb [Zq v5,AV.val (PV.sl (Ty.int IntKind.i64).sl v6)])])
def ZdM (k:Nat) (L2:ZtJ) (L1:Zkw):Zkw
 | (v0,v1,v2,v3,v4,v5,v6) => bif decide (v0 < v2) then L2 (0,v1,v0,v5,v6,v2,v3,v4) else some (0,())
def ZtK (k:Nat):Zkw:=Zp (fun L1 => ZdM k (Zoj k L1) L1) k
noncomputable def Zid (k:Nat) (n:Nat) (v:ZzU) :=
 Zy (Zw4 k) ZHd [] [1,1,1,1,1,0,1,0] [] (Wh Tryz.f13) (Wp (Zw4 k) Tryz.f13 W1 Zf [] []) n (ZPO v)
def Zie (k:Nat) (L1:Zkw):(Int × Int × Int × Unit) × (Int × List (List Int) × Unit) × Unit → Option (Int × Unit)
 | ((a0,a1,a2,()),(a3,a4,()),()) => (Zoe k ((a0,a1,a2,()),())).bind fun y => bif !y.1 then some (2,()) else bif decide (a3 < 0) then some (1,()) else bif decide ((2147483647:Int) < a3) then some (1,()) else bif Int.ofNat a4.length != a0 then some (1,()) else bif decide ((0:Int) ≤ 0 ∧ (0:Int) < Int.ofNat a4.length) then bif decide (Int.ofNat (List.length (a4.getD 0 [])) < (1:Int)) then some (1,()) else bif decide ((512:Int) < Int.ofNat (List.length (a4.getD 0 []))) then some (1,()) else bif decide (0 ≤ IntKind.i64.wrap (a0 - 1) ∧ IntKind.i64.wrap (a0 - 1) < Int.ofNat a4.length) then bif Int.ofNat (List.length (a4.getD (IntKind.i64.wrap (a0 - 1)).toNat [])) != Int.ofNat (List.length (a4.getD 0 [])) then some (1,()) else L1 (0,Int.ofNat (List.length (a4.getD 0 [])),a0,a1,a2,a3,a4) else none else none
def Zic (k:Nat):=Zie k (ZtK k)
theorem ZHf (k:Nat) (n1:Nat):∀ n,ZmS k n1 n = Zp (fun L2 => ZbW k (Zid k n1) L2) n :=
 Zl (fun v => by kernel_rfl) (fun n v => by
  show ZmS k n1 (n + 1) v = ZbW k (Zid k n1) (ZmS k n1 n) v
  obtain ⟨v0,v1,v2,v3,v4,v5,v6,v7⟩:=v
  kernel_rfl)
theorem ZHe (k:Nat):∀ n,Zid k n = Zp (fun L1 => ZdM k (Zoj k L1) L1) n :=
 Zl (fun v => by kernel_rfl) (fun n v => by
  rw [show (Zoj k (Zid k n)) = ZmS k n k from (ZHf k n k).symm]
  obtain ⟨v0,v1,v2,v3,v4,v5,v6⟩:=v
  kernel_rfl)
theorem ZPQ (k:Nat) (x:Kd.dens W1):ZF (Zw4 k) ZHd Tryz.f13 W1 Zf x = Zic k x:=by
 show _ = Zie k (ZtK k) x
 rw [show ZtK k = Zid k k from (ZHe k k).symm]
 obtain ⟨⟨a0,⟨a1,⟨a2,⟨⟩⟩⟩⟩,⟨⟨a3,⟨a4,⟨⟩⟩⟩,⟨⟩⟩⟩:=x
 kernel_rfl
theorem ZLY (k:Nat):Ctr Tryz.prog k 13 (mk W1 Zf Zic) :=
 ZG (fn:=Tryz.f13) (Zh (Za (ZBD k) (Za (ZBL k) Zd))) (by kernel_rfl) (by kernel_rfl) (ZPQ k)
noncomputable abbrev ZSY:Nat × Callee:=(13,mk W1 Zf Zic)
def Zi8 (k:Nat):Int × Unit → Option (Int × Unit)
 | (a0,()) => some (IntKind.i64.wrap ((IntKind.i64.wrap (a0 - (IntKind.i64.wrap (a0.tmod (2:Int) + 2)).tmod (2:Int))).tdiv (2:Int)),())
def Zr9 (k:Nat):=Zi8 k
theorem ZR0 (k:Nat) (x:Kd.dens Zt):ZF (ZH k) nA Tryz.f81 Zt Zf x = Zr9 k x:=by
 show _ = Zi8 k x
 obtain ⟨a0,⟨⟩⟩:=x
 kernel_rfl
theorem ZNv (k:Nat):Ctr Tryz.prog k 81 (mk Zt Zf Zr9) :=
 ZG (fn:=Tryz.f81) (Zh Zd) (by kernel_rfl) (by kernel_rfl) (ZR0 k)
noncomputable abbrev ZTM:Nat × Callee:=(81,mk Zt Zf Zr9)
abbrev Zd7:Kd:=.view .str
def ZOv:Nat → Ann:=fun id => bif Nat.beq id 3 then ⟨[6,5,0],[]⟩ else ⟨[],[]⟩
abbrev Zuc:=Xb → Option (ByteArray × Unit)
def ZQ1:Xb → St
 | (v0,v1,v2) => St.mk (ZC [(6,Zq v0),(5,AV.own 8192),(0,Zq v1)]) (ZA [(8192,RS.live (Res.arr (Ty.int IntKind.u8) v2 false))])
def Zd6 (k:Nat) (L1:Zuc):Zuc
 | (v0,v1,v2) => bif decide (0 ≤ v0) then bif decide (0 ≤ v1.tmod (2:Int) ∧ v1.tmod (2:Int) < 2) then bif decide (0 ≤ v0 ∧ v0 < Int.ofNat v2.length) then bif decide (v0.toNat < v2.length) then L1 (IntKind.i64.wrap (v0 - 1),IntKind.i64.wrap (v1.tdiv (2:Int)),v2.set v0.toNat (Int.ofNat ((ByteArray.mk #[48,49]).data.toList.getD (v1.tmod (2:Int)).toNat 0).toNat)) else none else none else none else some (ByteArray.mk (List.map (fun n => UInt8.ofNat n.toNat) v2).toArray,())
def Zud (k:Nat):Zuc:=Zp (fun L1 => Zd6 k L1) k
noncomputable def ZBU (k:Nat) (n:Nat) (v:Xb) :=
 Zy (ZH k) ZOv [] [1,1,0,1,0] [] (Wh Tryz.f35) (Wp (ZH k) Tryz.f35 Qw Zd7 [] []) n (ZQ1 v)
def ZiB (k:Nat) (L1:Zuc):Int × Int × Unit → Option (ByteArray × Unit)
 | (a0,a1,()) => bif decide (0 ≤ a1 ∧ a1 ≤ a1 ∧ a1 < 4294967296) then L1 (IntKind.i64.wrap (a1 - 1),a0,List.replicate a1.toNat (0:Int)) else none
def ZiA (k:Nat):=ZiB k (Zud k)
theorem ZIx (k:Nat):∀ n,ZBU k n = Zp (fun L1 => Zd6 k L1) n :=
 Zl (fun v => by kernel_rfl) (fun n v => by
  obtain ⟨v0,v1,v2⟩:=v
  kernel_rfl)
theorem ZQ2 (k:Nat) (x:Kd.dens Qw):ZF (ZH k) ZOv Tryz.f35 Qw Zd7 x = ZiA k x:=by
 show _ = ZiB k (Zud k) x
 rw [show Zud k = ZBU k k from (ZIx k k).symm]
 obtain ⟨a0,⟨a1,⟨⟩⟩⟩:=x
 kernel_rfl
theorem ZBV (k:Nat):Ctr Tryz.prog k 35 (mk Qw Zd7 ZiA) :=
 ZG (fn:=Tryz.f35) (Zh Zd) (by kernel_rfl) (by kernel_rfl) (ZQ2 k)
noncomputable abbrev ZOw:Nat × Callee:=(35,mk Qw Zd7 ZiA)
noncomputable def ZIz (k:Nat):=Wd k [ZOw]
def ZOx:Nat → Ann:=fun id => bif Nat.beq id 3 then ⟨[4,0,3],[]⟩ else ⟨[],[]⟩
abbrev ZcQ:=Int × List Int × List Int
abbrev Zue:=ZcQ → Option (ByteArray × Unit)
def ZQ3:ZcQ → St
 | (v0,v1,v2) => St.mk (ZC [(4,Zq v0),(0,AV.val (PV.sl (Ty.int IntKind.u8) v1)),(3,AV.own 8192)]) (ZA [(8192,RS.live (Res.arr (Ty.int IntKind.u8) v2 false))])
def Zd8 (k:Nat) (L1:Zue):Zue
 | (v0,v1,v2) => bif decide (v0 < Int.ofNat v1.length) then bif decide (0 ≤ v0 ∧ v0 < Int.ofNat v1.length) then (ZiA k (IntKind.i64.wrap (v1.getD v0.toNat 0),8,())).bind fun y => bif decide (v2.length + (List.map (fun b => Int.ofNat b.toNat) y.1.data.toList).length < 2147483648) then L1 (IntKind.i64.wrap (v0 + 1),v1,v2 ++ List.map (fun b => Int.ofNat b.toNat) y.1.data.toList) else none else none else some (ByteArray.mk (List.map (fun n => UInt8.ofNat n.toNat) v2).toArray,())
def Zuf (k:Nat):Zue:=Zp (fun L1 => Zd8 k L1) k
noncomputable def ZBW (k:Nat) (n:Nat) (v:ZcQ) :=
 Zy (ZIz k) ZOx [] [1,1,0,1,0] [] (Wh Tryz.f36) (Wp (ZIz k) Tryz.f36 Q3 Zd7 [] []) n (ZQ3 v)
def ZiC (k:Nat) (L1:Zue):List Int × Unit → Option (ByteArray × Unit)
 | (a0,()) => bif decide ((0:Int) ≤ 0 ∧ (0:Int) ≤ IntKind.i64.wrap ((8:Int) * Int.ofNat a0.length) ∧ IntKind.i64.wrap ((8:Int) * Int.ofNat a0.length) < 4294967296) then L1 (0,a0,List.replicate (0:Nat) (0:Int)) else none
def ZrZ (k:Nat):=ZiC k (Zuf k)
theorem ZIA (k:Nat):∀ n,ZBW k n = Zp (fun L1 => Zd8 k L1) n :=
 Zl (fun v => by kernel_rfl) (fun n v => by
  obtain ⟨v0,v1,v2⟩:=v
  kernel_rfl)
theorem ZQ4 (k:Nat) (x:Kd.dens Q3):ZF (ZIz k) ZOx Tryz.f36 Q3 Zd7 x = ZrZ k x:=by
 show _ = ZiC k (Zuf k) x
 rw [show Zuf k = ZBW k k from (ZIA k k).symm]
 obtain ⟨a0,⟨⟩⟩:=x
 kernel_rfl
theorem ZM2 (k:Nat):Ctr Tryz.prog k 36 (mk Q3 Zd7 ZrZ) :=
 ZG (fn:=Tryz.f36) (Zh (Za (ZBV k) Zd)) (by kernel_rfl) (by kernel_rfl) (ZQ4 k)
noncomputable abbrev ZTe:Nat × Callee:=(36,mk Q3 Zd7 ZrZ)
def Zi5 (k:Nat):Int × Unit → Option (Int × Unit)
 | (a0,()) => bif a0 == 1 then some (7,()) else some (IntKind.i64.wrap (IntKind.i64.wrap ((5:Int) * a0) + 1),())
def Zr7 (k:Nat):=Zi5 k
theorem ZRV (k:Nat) (x:Kd.dens Zt):ZF (ZH k) nA Tryz.f73 Zt Zf x = Zr7 k x:=by
 show _ = Zi5 k x
 obtain ⟨a0,⟨⟩⟩:=x
 kernel_rfl
theorem ZNt (k:Nat):Ctr Tryz.prog k 73 (mk Zt Zf Zr7) :=
 ZG (fn:=Tryz.f73) (Zh Zd) (by kernel_rfl) (by kernel_rfl) (ZRV k)
noncomputable abbrev ZTJ:Nat × Callee:=(73,mk Zt Zf Zr7)
abbrev ZkZ:List Kd:=[.view .str,.view (.int .i64),.view (.int .i64)]
def ZJu:Nat → Ann:=fun id => bif Nat.beq id 6 then ⟨[9,7,1,0,8,2],[]⟩ else bif Nat.beq id 3 then ⟨[8,0,7,1,2],[]⟩ else ⟨[],[]⟩
abbrev ZAI:=Int × Int × Int × ByteArray × Int × Int
abbrev ZuX:=ZAI → Option (Int × Unit)
abbrev ZAH:=Int × ByteArray × Int × Int × Int
abbrev ZkY:=ZAH → Option (Int × Unit)
def ZRX:ZAI → St
 | (v0,v1,v2,v3,v4,v5) => St.mk (ZC [(9,Zq v0),(7,Zq v1),(1,Zq v2),(0,AV.val (PV.v (Value.string v3))),(8,Zq v4),(2,Zq v5)]) (ZA [])
def Zcf (k:Nat) (L1:ZkY) (L2:ZuX):ZuX
 | (v0,v1,v2,v3,v4,v5) => bif decide (0 ≤ v0) then bif decide (0 ≤ IntKind.i64.wrap (v2 - 1)) then bif decide (0 ≤ v4 ∧ v4 < Int.ofNat v3.size) then bif decide (0 ≤ v0) then bif decide (0 ≤ v2) then bif decide ¬IntKind.i64.wrap ((1:Int) * (2:Int) ^ min v2.toNat 64) = (0:Int) then bif IntKind.i64.wrap (Int.ofNat (BitVec.ofInt 64 (IntKind.i64.wrap (Int.ofNat (BitVec.ofInt 64 (v1.fdiv ((2:Int) ^ min (IntKind.i64.wrap (v2 - 1)).toNat 64)) &&& BitVec.ofInt 64 (1:Int)).toNat)) ^^^ BitVec.ofInt 64 (IntKind.i64.wrap (Int.ofNat (BitVec.ofInt 64 ((IntKind.i64.wrap (Int.ofNat (v3.data.toList.getD v4.toNat 0).toNat)).fdiv ((2:Int) ^ min v0.toNat 64)) &&& BitVec.ofInt 64 (1:Int)).toNat))).toNat) == 1 then L2 (IntKind.i64.wrap (v0 - 1),IntKind.i64.wrap (Int.ofNat (BitVec.ofInt 64 ((IntKind.i64.wrap ((2:Int) * v1)).tmod (IntKind.i64.wrap ((1:Int) * (2:Int) ^ min v2.toNat 64))) ^^^ BitVec.ofInt 64 v5).toNat),v2,v3,v4,v5) else L2 (IntKind.i64.wrap (v0 - 1),(IntKind.i64.wrap ((2:Int) * v1)).tmod (IntKind.i64.wrap ((1:Int) * (2:Int) ^ min v2.toNat 64)),v2,v3,v4,v5) else none else none else none else none else none else L1 (IntKind.i64.wrap (v4 + 1),v3,v1,v2,v5)
def ZuZ (k:Nat) (L1:ZkY):ZuX:=Zp (fun L2 => Zcf k L1 L2) k
noncomputable def Znk (k:Nat) (n1:Nat) (n:Nat) (v:ZAI):Option (Int × Unit) :=
 Zy (ZH k) ZJu [] [1,1,0,1,0,0,1,0,0,1,0] [n1] (Wh Tryz.f74) (Wp (ZH k) Tryz.f74 ZkZ Zf [] []) n (ZRX v)
def ZRW:ZAH → St
 | (v0,v1,v2,v3,v4) => St.mk (ZC [(8,Zq v0),(0,AV.val (PV.v (Value.string v1))),(7,Zq v2),(1,Zq v3),(2,Zq v4)]) (ZA [])
def Zep (k:Nat) (L2:ZuX) (L1:ZkY):ZkY
 | (v0,v1,v2,v3,v4) => bif decide (v0 < Int.ofNat v1.size) then L2 (7,v2,v3,v1,v0,v4) else some (v2,())
def ZuY (k:Nat):ZkY:=Zp (fun L1 => Zep k (ZuZ k L1) L1) k
noncomputable def Zi6 (k:Nat) (n:Nat) (v:ZAH) :=
 Zy (ZH k) ZJu [] [1,1,0,1,0] [] (Wh Tryz.f74) (Wp (ZH k) Tryz.f74 ZkZ Zf [] []) n (ZRW v)
def Zi7 (k:Nat) (L1:ZkY):ByteArray × Int × Int × Unit → Option (Int × Unit)
 | (a0,a1,a2,()) => L1 (0,a0,(0:Int),a1,a2)
def Zr8 (k:Nat):=Zi7 k (ZuY k)
theorem ZJw (k:Nat) (n1:Nat):∀ n,Znk k n1 n = Zp (fun L2 => Zcf k (Zi6 k n1) L2) n :=
 Zl (fun v => by kernel_rfl) (fun n v => by
  show Znk k n1 (n + 1) v = Zcf k (Zi6 k n1) (Znk k n1 n) v
  obtain ⟨v0,v1,v2,v3,v4,v5⟩:=v
  kernel_rfl)
theorem ZJv (k:Nat):∀ n,Zi6 k n = Zp (fun L1 => Zep k (ZuZ k L1) L1) n :=
 Zl (fun v => by kernel_rfl) (fun n v => by
  rw [show (ZuZ k (Zi6 k n)) = Znk k n k from (ZJw k n k).symm]
  obtain ⟨v0,v1,v2,v3,v4⟩:=v
  kernel_rfl)
theorem ZRY (k:Nat) (x:Kd.dens ZkZ):ZF (ZH k) ZJu Tryz.f74 ZkZ Zf x = Zr8 k x:=by
 show _ = Zi7 k (ZuY k) x
 rw [show ZuY k = Zi6 k k from (ZJv k k).symm]
 obtain ⟨a0,⟨a1,⟨a2,⟨⟩⟩⟩⟩:=x
 kernel_rfl
theorem ZCn (k:Nat):Ctr Tryz.prog k 74 (mk ZkZ Zf Zr8) :=
 ZG (fn:=Tryz.f74) (Zh Zd) (by kernel_rfl) (by kernel_rfl) (ZRY k)
noncomputable abbrev ZTK:Nat × Callee:=(74,mk ZkZ Zf Zr8)
abbrev XS:List Kd:=[.view .str]
noncomputable def ZOy (k:Nat):=Wd k [ZTK]
def ZiD (k:Nat):ByteArray × Unit → Option (Int × Unit)
 | (a0,()) => (Zr8 k (a0,8,7,())).bind fun y => some (y.1,())
def Kq (k:Nat):=ZiD k
theorem ZQ5 (k:Nat) (x:Kd.dens XS):ZF (ZOy k) nA Tryz.f38 XS Zf x = Kq k x:=by
 show _ = ZiD k x
 obtain ⟨a0,⟨⟩⟩:=x
 kernel_rfl
theorem ZM3 (k:Nat):Ctr Tryz.prog k 38 (mk XS Zf Kq) :=
 ZG (fn:=Tryz.f38) (Zh (Za (ZCn k) Zd)) (by kernel_rfl) (by kernel_rfl) (ZQ5 k)
noncomputable abbrev ZTf:Nat × Callee:=(38,mk XS Zf Kq)
def Zye (k:Nat):Int × Unit → Option (((List Int × Int × Unit) × Int × Unit) × Unit)
 | (a0,()) => bif decide (a0 < 0) then some ((([],(0:Int),()),1,()),()) else bif decide ((4:Int) < a0) then some ((([],(0:Int),()),1,()),()) else bif decide (0 ≤ a0 ∧ a0 < 5) then bif decide (a0.toNat < (5:Nat)) then some ((([[],[(1:Int)],[(2:Int),(-1:Int)],[(3:Int),(-3:Int),(1:Int)],[(4:Int),(-6:Int),(4:Int),(-1:Int)]].getD a0.toNat [],(0:Int),()),0,()),()) else none else none
def Zpp (k:Nat):=Zye k
theorem ZRZ (k:Nat) (x:Kd.dens Zt):ZF (ZH k) nA Tryz.f78 Zt WY x = Zpp k x:=by
 show _ = Zye k x
 obtain ⟨a0,⟨⟩⟩:=x
 kernel_rfl
theorem ZNu (k:Nat):Ctr Tryz.prog k 78 (mk Zt WY Zpp) :=
 ZG (fn:=Tryz.f78) (Zh Zd) (by kernel_rfl) (by kernel_rfl) (ZRZ k)
noncomputable abbrev ZTL:Nat × Callee:=(78,mk Zt WY Zpp)
def Zf0 (k:Nat):Int × Unit → Option (Bool × Unit)
 | (a0,()) => bif decide ((-2147483648:Int) < a0) then some (decide (a0 < 2147483648),()) else some (false,())
def ZkL (k:Nat):=Zf0 k
theorem ZMq (k:Nat) (x:Kd.dens Zt):ZF (ZH k) nA Tryz.f166 Zt Zs x = ZkL k x:=by
 show _ = Zf0 k x
 obtain ⟨a0,⟨⟩⟩:=x
 kernel_rfl
theorem Zxt (k:Nat):Ctr Tryz.prog k 166 (mk Zt Zs ZkL) :=
 ZG (fn:=Tryz.f166) (Zh Zd) (by kernel_rfl) (by kernel_rfl) (ZMq k)
noncomputable abbrev ZHM:Nat × Callee:=(166,mk Zt Zs ZkL)
noncomputable def ZzK (k:Nat):=Wd k [ZHM]
def ZGQ:Nat → Ann:=fun id => bif Nat.beq id 2 then ⟨[3,0],[]⟩ else ⟨[],[]⟩
abbrev Zmx:=Zfv → Option (Bool × Unit)
def ZLx:Zfv → St
 | (v0,v1) => St.mk (ZC [(3,Zq v0),(0,Xn v1)]) (ZA [])
def ZbL (k:Nat) (L1:Zmx):Zmx
 | (v0,v1) => bif decide (v0 < Int.ofNat v1.length) then bif decide (0 ≤ v0 ∧ v0 < Int.ofNat v1.length) then (ZkL k (v1.getD v0.toNat 0,())).bind fun y => bif !y.1 then some (false,()) else L1 (IntKind.i64.wrap (v0 + 1),v1) else none else some (true,())
def Zmy (k:Nat):Zmx:=Zp (fun L1 => ZbL k L1) k
noncomputable def ZwQ (k:Nat) (n:Nat) (v:Zfv) :=
 Zy (ZzK k) ZGQ [] [1,0,1,0] [] (Wh Tryz.f123) (Wp (ZzK k) Tryz.f123 Xv Zs [] []) n (ZLx v)
def Zfn (k:Nat) (L1:Zmx):List Int × Unit → Option (Bool × Unit)
 | (a0,()) => L1 (0,a0)
def Zks (k:Nat):=Zfn k (Zmy k)
theorem ZDX (k:Nat):∀ n,ZwQ k n = Zp (fun L1 => ZbL k L1) n :=
 Zl (fun v => by kernel_rfl) (fun n v => by
  obtain ⟨v0,v1⟩:=v
  kernel_rfl)
theorem ZLy (k:Nat) (x:Kd.dens Xv):ZF (ZzK k) ZGQ Tryz.f123 Xv Zs x = Zks k x:=by
 show _ = Zfn k (Zmy k) x
 rw [show Zmy k = ZwQ k k from (ZDX k k).symm]
 obtain ⟨a0,⟨⟩⟩:=x
 kernel_rfl
theorem ZGR (k:Nat):Ctr Tryz.prog k 123 (mk Xv Zs Zks) :=
 ZG (fn:=Tryz.f123) (Zh (Za (Zxt k) Zd)) (by kernel_rfl) (by kernel_rfl) (ZLy k)
noncomputable abbrev ZPC:Nat × Callee:=(123,mk Xv Zs Zks)
def ZtS:Nat → Ann:=fun id => bif Nat.beq id 4 then ⟨[3,1],[]⟩ else ⟨[],[]⟩
abbrev Zm3:=Zft → Option (Bool × Unit)
def ZMk:Zft → St
 | (v0,v1,v2) => St.mk (ZC [(3,Zq v0),(1,AV.bx 8192 0)]) (ZA [(8192,Wb [Xn v1,Zq v2])])
def Zb2 (k:Nat) (L1:Zm3):Zm3
 | (v0,v1,v2) => bif decide (v0 < Int.ofNat v1.length) then bif decide (0 ≤ v0 ∧ v0 < Int.ofNat v1.length) then bif decide (v1.getD v0.toNat 0 < (-2048:Int)) then some (false,()) else bif decide (0 ≤ v0 ∧ v0 < Int.ofNat v1.length) then bif decide ((2047:Int) < v1.getD v0.toNat 0) then some (false,()) else L1 (IntKind.i64.wrap (v0 + 1),v1,v2) else none else none else some (true,())
def Zm4 (k:Nat):Zm3:=Zp (fun L1 => Zb2 k L1) k
noncomputable def Zxq (k:Nat) (n:Nat) (v:Zft) :=
 Zy (ZH k) ZtS [] [1,1,0,1,0] [] (Wh Tryz.f159) (Wp (ZH k) Tryz.f159 K2 Zs [] []) n (ZMk v)
def ZfX (k:Nat) (L1:Zm3):(List Int × Int × Unit) × Unit → Option (Bool × Unit)
 | ((a0,a1,()),()) => bif decide ((8:Int) < Int.ofNat a0.length) then some (false,()) else bif decide (a1 < 0) then some (false,()) else bif decide ((15:Int) < a1) then some (false,()) else L1 (0,a0,a1)
def ZoE (k:Nat):=ZfX k (Zm4 k)
theorem ZEI (k:Nat):∀ n,Zxq k n = Zp (fun L1 => Zb2 k L1) n :=
 Zl (fun v => by kernel_rfl) (fun n v => by
  obtain ⟨v0,v1,v2⟩:=v
  kernel_rfl)
theorem ZMl (k:Nat) (x:Kd.dens K2):ZF (ZH k) ZtS Tryz.f159 K2 Zs x = ZoE k x:=by
 show _ = ZfX k (Zm4 k) x
 rw [show Zm4 k = Zxq k k from (ZEI k k).symm]
 obtain ⟨⟨a0,⟨a1,⟨⟩⟩⟩,⟨⟩⟩:=x
 kernel_rfl
theorem ZHH (k:Nat):Ctr Tryz.prog k 159 (mk K2 Zs ZoE) :=
 ZG (fn:=Tryz.f159) (Zh Zd) (by kernel_rfl) (by kernel_rfl) (ZMl k)
noncomputable abbrev ZP7:Nat × Callee:=(159,mk K2 Zs ZoE)
def Zf8 (k:Nat):Int × Int × Unit → Option (Int × Unit)
 | (a0,a1,()) => bif decide (0 ≤ a1) then bif decide ¬IntKind.i64.wrap ((1:Int) * (2:Int) ^ min a1.toNat 64) = (0:Int) then bif decide ¬IntKind.i64.wrap ((1:Int) * (2:Int) ^ min a1.toNat 64) = (0:Int) then bif decide (a0.tmod (IntKind.i64.wrap ((1:Int) * (2:Int) ^ min a1.toNat 64)) < (0:Int)) then some (IntKind.i64.wrap (IntKind.i64.wrap (a0.tdiv (IntKind.i64.wrap ((1:Int) * (2:Int) ^ min a1.toNat 64))) - (1:Int)),()) else some (IntKind.i64.wrap (a0.tdiv (IntKind.i64.wrap ((1:Int) * (2:Int) ^ min a1.toNat 64))),()) else none else none else none
def ZoN (k:Nat):=Zf8 k
theorem ZMJ (k:Nat) (x:Kd.dens Qw):ZF (ZH k) nA Tryz.f183 Qw Zf x = ZoN k x:=by
 show _ = Zf8 k x
 obtain ⟨a0,⟨a1,⟨⟩⟩⟩:=x
 kernel_rfl
theorem ZH3 (k:Nat):Ctr Tryz.prog k 183 (mk Qw Zf ZoN) :=
 ZG (fn:=Tryz.f183) (Zh Zd) (by kernel_rfl) (by kernel_rfl) (ZMJ k)
noncomputable abbrev ZQs:Nat × Callee:=(183,mk Qw Zf ZoN)
abbrev Zik:List Kd:=[.view ZeI,.view (.sl (.int .i64)),.view (.int .i64)]
noncomputable def ZAb (k:Nat):=Wd k [ZQs]
def ZHI:Nat → Ann:=fun id => bif Nat.beq id 3 then ⟨[8,3,7,1,2],[]⟩ else ⟨[],[]⟩
abbrev Zm5:=K1 → Option (Int × Unit)
def ZMm:K1 → St
 | (v0,v1,v2,v3,v4,v5) => St.mk (ZC [(8,Zq v0),(3,AV.bx 8192 0),(7,Zq v1),(1,Xn v2),(2,Zq v3)]) (ZA [(8192,Wb [Xn v4,Zq v5])])
def Zb3 (k:Nat) (L1:Zm5):Zm5
 | (v0,v1,v2,v3,v4,v5) => bif decide (v0 < Int.ofNat v4.length) then bif decide (0 ≤ v0 ∧ v0 < Int.ofNat v4.length) then bif decide (0 ≤ IntKind.i64.wrap (IntKind.i64.wrap (v3 - 1) - v0) ∧ IntKind.i64.wrap (IntKind.i64.wrap (v3 - 1) - v0) < Int.ofNat v2.length) then L1 (IntKind.i64.wrap (v0 + 1),IntKind.i64.wrap (v1 + IntKind.i64.wrap (v4.getD v0.toNat 0 * v2.getD (IntKind.i64.wrap (IntKind.i64.wrap (v3 - 1) - v0)).toNat 0)),v2,v3,v4,v5) else none else none else (ZoN k (v1,v5,())).bind fun y => some (y.1,())
def Zm6 (k:Nat):Zm5:=Zp (fun L1 => Zb3 k L1) k
noncomputable def Zxr (k:Nat) (n:Nat) (v:K1) :=
 Zy (ZAb k) ZHI [] [1,1,0,1,0] [] (Wh Tryz.f160) (Wp (ZAb k) Tryz.f160 Zik Zf [] []) n (ZMm v)
def ZfY (k:Nat) (L1:Zm5):(List Int × Int × Unit) × List Int × Int × Unit → Option (Int × Unit)
 | ((a0,a1,()),a2,a3,()) => L1 (0,(0:Int),a2,a3,a0,a1)
def ZoF (k:Nat):=ZfY k (Zm6 k)
theorem ZEK (k:Nat):∀ n,Zxr k n = Zp (fun L1 => Zb3 k L1) n :=
 Zl (fun v => by kernel_rfl) (fun n v => by
  obtain ⟨v0,v1,v2,v3,v4,v5⟩:=v
  kernel_rfl)
theorem ZMn (k:Nat) (x:Kd.dens Zik):ZF (ZAb k) ZHI Tryz.f160 Zik Zf x = ZoF k x:=by
 show _ = ZfY k (Zm6 k) x
 rw [show Zm6 k = Zxr k k from (ZEK k k).symm]
 obtain ⟨⟨a0,⟨a1,⟨⟩⟩⟩,⟨a2,⟨a3,⟨⟩⟩⟩⟩:=x
 kernel_rfl
theorem ZHJ (k:Nat):Ctr Tryz.prog k 160 (mk Zik Zf ZoF) :=
 ZG (fn:=Tryz.f160) (Zh (Za (ZH3 k) Zd)) (by kernel_rfl) (by kernel_rfl) (ZMn k)
noncomputable abbrev ZP8:Nat × Callee:=(160,mk Zik Zf ZoF)
def Zf6 (k:Nat):Int × Int × Unit → Option (Bool × Unit)
 | (a0,a1,()) => bif decide (1 ≤ a0) then bif decide (a0 ≤ 512) then bif decide (0 ≤ a1) then bif decide (a1 ≤ 8) then some (decide (a1 ≤ a0),()) else some (false,()) else some (false,()) else some (false,()) else some (false,())
def ZoK (k:Nat):=Zf6 k
theorem ZMC (k:Nat) (x:Kd.dens Qw):ZF (ZH k) nA Tryz.f174 Qw Zs x = ZoK k x:=by
 show _ = Zf6 k x
 obtain ⟨a0,⟨a1,⟨⟩⟩⟩:=x
 kernel_rfl
theorem ZHW (k:Nat):Ctr Tryz.prog k 174 (mk Qw Zs ZoK) :=
 ZG (fn:=Tryz.f174) (Zh Zd) (by kernel_rfl) (by kernel_rfl) (ZMC k)
noncomputable abbrev ZQi:Nat × Callee:=(174,mk Qw Zs ZoK)
abbrev Zm9:Kd:=.ns (.sl (.int .i64))
def ZHK:Nat → Ann:=fun id => bif Nat.beq id 6 then ⟨[9,2,7,1,8,0],[.slot 8 ((Ty.int IntKind.i64).sl)]⟩ else ⟨[],[]⟩
abbrev ZtT:=Int × Int × Int × Int × List Int × List (List Int)
abbrev Zm7:=ZtT → Option (List (List Int) × Unit)
def ZMo:ZtT → St
 | (v0,v1,v2,v3,v4,v5) => St.mk (ZC [(9,Zq v0),(2,Zq v1),(7,Zq v2),(1,Zq v3),(8,AV.own 8192),(0,Xn v4)]) (ZA [(8192,RS.live (Res.arr (Ty.int IntKind.i64).sl v5 false))])
def YY (k:Nat) (L1:Zm7):Zm7
 | (v0,v1,v2,v3,v4,v5) => bif decide (0 ≤ v1) then bif decide (v0 < IntKind.i64.wrap ((1:Int) * (2:Int) ^ min v1.toNat 64)) then bif decide (0 ≤ v1) then bif v0 == 0 then bif decide ((0:Int) ≤ 0 ∧ (0:Int) ≤ IntKind.i64.wrap (v2.fdiv ((2:Int) ^ min v1.toNat 64) - v3) ∧ IntKind.i64.wrap (v2.fdiv ((2:Int) ^ min v1.toNat 64) - v3) ≤ Int.ofNat v4.length) then bif decide (v5.length + [List.drop 0 (List.take (IntKind.i64.wrap (v2.fdiv ((2:Int) ^ min v1.toNat 64) - v3)).toNat v4)].length < 2147483648) then bif decide (0 ≤ IntKind.i64.wrap (v2.fdiv ((2:Int) ^ min v1.toNat 64) - v3) ∧ IntKind.i64.wrap (v2.fdiv ((2:Int) ^ min v1.toNat 64) - v3) ≤ Int.ofNat v4.length ∧ Int.ofNat v4.length ≤ Int.ofNat v4.length) then L1 (IntKind.i64.wrap (v0 + 1),v1,v2,v3,List.drop (IntKind.i64.wrap (v2.fdiv ((2:Int) ^ min v1.toNat 64) - v3)).toNat (List.take (Int.ofNat v4.length).toNat v4),v5 ++ [List.drop 0 (List.take (IntKind.i64.wrap (v2.fdiv ((2:Int) ^ min v1.toNat 64) - v3)).toNat v4)]) else none else none else none else bif decide ((0:Int) ≤ 0 ∧ (0:Int) ≤ v2.fdiv ((2:Int) ^ min v1.toNat 64) ∧ v2.fdiv ((2:Int) ^ min v1.toNat 64) ≤ Int.ofNat v4.length) then bif decide (v5.length + [List.drop 0 (List.take (v2.fdiv ((2:Int) ^ min v1.toNat 64)).toNat v4)].length < 2147483648) then bif decide (0 ≤ v2.fdiv ((2:Int) ^ min v1.toNat 64) ∧ v2.fdiv ((2:Int) ^ min v1.toNat 64) ≤ Int.ofNat v4.length ∧ Int.ofNat v4.length ≤ Int.ofNat v4.length) then L1 (IntKind.i64.wrap (v0 + 1),v1,v2,v3,List.drop (v2.fdiv ((2:Int) ^ min v1.toNat 64)).toNat (List.take (Int.ofNat v4.length).toNat v4),v5 ++ [List.drop 0 (List.take (v2.fdiv ((2:Int) ^ min v1.toNat 64)).toNat v4)]) else none else none else none else none else bif decide ((0:Nat) < v5.length) then some (v5,()) else none else none
def Zm8 (k:Nat):Zm7:=Zp (fun L1 => YY k L1) k
noncomputable def Zxs (k:Nat) (n:Nat) (v:ZtT) :=
 Zy (ZH k) ZHK [] [1,1,1,1,0,1,0] [] (Wh Tryz.f163) (Wp (ZH k) Tryz.f163 Kc Zm9 [] []) n (ZMo v)
def ZfZ (k:Nat) (L1:Zm7):List Int × Int × Int × Unit → Option (List (List Int) × Unit)
 | (a0,a1,a2,()) => bif decide (0 ≤ a2) then bif decide ¬IntKind.i64.wrap ((1:Int) * (2:Int) ^ min a2.toNat 64) = (0:Int) then bif (IntKind.i64.wrap (Int.ofNat a0.length + a1)).tmod (IntKind.i64.wrap ((1:Int) * (2:Int) ^ min a2.toNat 64)) != (0:Int) then some ([],()) else bif decide (0 ≤ a2) then bif decide ((IntKind.i64.wrap (Int.ofNat a0.length + a1)).fdiv ((2:Int) ^ min a2.toNat 64) < a1) then some ([],()) else L1 (0,a2,IntKind.i64.wrap (Int.ofNat a0.length + a1),a1,a0,[]) else none else none else none
def ZoG (k:Nat):=ZfZ k (Zm8 k)
theorem ZEM (k:Nat):∀ n,Zxs k n = Zp (fun L1 => YY k L1) n :=
 Zl (fun v => by kernel_rfl) (fun n v => by
  obtain ⟨v0,v1,v2,v3,v4,v5⟩:=v
  kernel_rfl)
theorem ZMp (k:Nat) (x:Kd.dens Kc):ZF (ZH k) ZHK Tryz.f163 Kc Zm9 x = ZoG k x:=by
 show _ = ZfZ k (Zm8 k) x
 rw [show Zm8 k = Zxs k k from (ZEM k k).symm]
 obtain ⟨a0,⟨a1,⟨a2,⟨⟩⟩⟩⟩:=x
 kernel_rfl
theorem ZHL (k:Nat):Ctr Tryz.prog k 163 (mk Kc Zm9 ZoG) :=
 ZG (fn:=Tryz.f163) (Zh Zd) (by kernel_rfl) (by kernel_rfl) (ZMp k)
noncomputable abbrev ZP9:Nat × Callee:=(163,mk Kc Zm9 ZoG)
def ZiE (k:Nat):Int × Int × Unit → Option ((Int × Int × Unit) × Unit)
 | (a0,a1,()) => bif a1 == 8 then some ((a0,IntKind.i64.wrap (a0 + 1),()),()) else bif a1 == 10 then some ((a0,IntKind.i64.wrap (a0 + 1),()),()) else bif a1 == 9 then some ((IntKind.i64.wrap (a0 + 1),a0,()),()) else some ((a0,a0,()),())
def Zr0 (k:Nat):=ZiE k
theorem ZQ6 (k:Nat) (x:Kd.dens Qw):ZF (ZH k) nA Tryz.f42 Qw ZQ x = Zr0 k x:=by
 show _ = ZiE k x
 obtain ⟨a0,⟨a1,⟨⟩⟩⟩:=x
 kernel_rfl
theorem ZM4 (k:Nat):Ctr Tryz.prog k 42 (mk Qw ZQ Zr0) :=
 ZG (fn:=Tryz.f42) (Zh Zd) (by kernel_rfl) (by kernel_rfl) (ZQ6 k)
noncomputable abbrev ZTg:Nat × Callee:=(42,mk Qw ZQ Zr0)
def ZiF (k:Nat):ByteArray × Unit → Option (Int × Unit)
 | (a0,()) => (Zr8 k (a0,16,32773,())).bind fun y => some (y.1,())
def Zo5 (k:Nat):=ZiF k
theorem ZQ7 (k:Nat) (x:Kd.dens XS):ZF (ZOy k) nA Tryz.f43 XS Zf x = Zo5 k x:=by
 show _ = ZiF k x
 obtain ⟨a0,⟨⟩⟩:=x
 kernel_rfl
theorem ZM5 (k:Nat):Ctr Tryz.prog k 43 (mk XS Zf Zo5) :=
 ZG (fn:=Tryz.f43) (Zh (Za (ZCn k) Zd)) (by kernel_rfl) (by kernel_rfl) (ZQ7 k)
noncomputable abbrev ZTh:Nat × Callee:=(43,mk XS Zf Zo5)
abbrev ZcS:List Kd:=[.box [.view .str,.view (.int .i64)],.view (.int .i64)]
def ZOE:Nat → Ann:=fun id => bif Nat.beq id 7 then ⟨[7,1,6,0],[]⟩ else ⟨[],[]⟩
abbrev ZAt:=Int × Int × Int × ByteArray × Int
abbrev Zut:=ZAt → Option ((Int × Int × Unit) × (ByteArray × Int × Unit) × Unit)
def ZRo:ZAt → St
 | (v0,v1,v2,v3,v4) => St.mk (ZC [(7,Zq v0),(1,Zq v1),(6,Zq v2),(0,AV.bx 0 0)]) (ZA [(0,Wb [AV.val (PV.v (Value.string v3)),Zq v4])])
def Zed (k:Nat) (L1:Zut):Zut
 | (v0,v1,v2,v3,v4) => bif decide (v0 < v1) then bif decide (0 ≤ v4 ∧ v4 < Int.ofNat v3.size) then L1 (IntKind.i64.wrap (v0 + 1),v1,IntKind.i64.wrap (IntKind.i64.wrap ((2:Int) * v2) + IntKind.i64.wrap (IntKind.u8.wrap (Int.ofNat (v3.data.toList.getD v4.toNat 0).toNat - (48:Int)))),v3,IntKind.i64.wrap (v4 + 1)) else none else some ((v2,0,()),(v3,v4,()),())
def Zuu (k:Nat):Zut:=Zp (fun L1 => Zed k L1) k
noncomputable def ZB3 (k:Nat) (n:Nat) (v:ZAt) :=
 Zy (ZH k) ZOE [0] [1,1,1,1,0,1,0] [] (Wh Tryz.f55) (Wp (ZH k) Tryz.f55 ZcS ZQ [AV.bx (nat_lit 0) (nat_lit 0)] [[]]) n (ZRo v)
def ZiO (k:Nat) (L1:Zut):(ByteArray × Int × Unit) × Int × Unit → Option ((Int × Int × Unit) × (ByteArray × Int × Unit) × Unit)
 | ((a0,a1,()),a2,()) => bif decide (a2 < 0) then some ((0,1,()),(a0,a1,()),()) else bif decide ((32:Int) < a2) then some ((0,1,()),(a0,a1,()),()) else bif decide (IntKind.i64.wrap (Int.ofNat a0.size - a1) < a2) then some ((0,10,()),(a0,a1,()),()) else L1 (0,a2,(0:Int),a0,a1)
def ZR (k:Nat):=ZiO k (Zuu k)
theorem ZIX (k:Nat):∀ n,ZB3 k n = Zp (fun L1 => Zed k L1) n :=
 Zl (fun v => by kernel_rfl) (fun n v => by
  obtain ⟨v0,v1,v2,v3,v4⟩:=v
  kernel_rfl)
theorem ZRp (k:Nat) (x:Kd.dens ZcS):ZF (ZH k) ZOE Tryz.f55 ZcS ZQ x = ZR k x:=by
 show _ = ZiO k (Zuu k) x
 rw [show Zuu k = ZB3 k k from (ZIX k k).symm]
 obtain ⟨⟨a0,⟨a1,⟨⟩⟩⟩,⟨a2,⟨⟩⟩⟩:=x
 kernel_rfl
theorem ZcR (k:Nat):Ctr Tryz.prog k 55 (mk ZcS ZQ ZR) :=
 ZG (fn:=Tryz.f55) (Zh Zd) (by kernel_rfl) (by kernel_rfl) (ZRp k)
noncomputable abbrev Zpa:Nat × Callee:=(55,mk ZcS ZQ ZR)
noncomputable def Zjj (k:Nat):=Wd k [ZOw,ZTJ]
def Zym:Nat → Ann:=fun id => bif Nat.beq id 23 then ⟨[9,6,8,5,0],[]⟩ else bif Nat.beq id 19 then ⟨[6,5,0],[]⟩ else bif Nat.beq id 12 then ⟨[7,5,0,6],[]⟩ else bif Nat.beq id 4 then ⟨[5,0],[]⟩ else ⟨[],[]⟩
abbrev ZAN:=Int × ByteArray × Int × Int × ByteArray
abbrev Zpu:=ZAN → Option ((Int × Int × Int × Unit) × Unit)
abbrev ZAM:=ByteArray × Int × ByteArray
abbrev Zu8:=ZAM → Option ((Int × Int × Int × Unit) × Unit)
abbrev ZAL:=Int × Int × ByteArray × ByteArray
abbrev Zu7:=ZAL → Option ((Int × Int × Int × Unit) × Unit)
abbrev ZAK:=Int × ByteArray
abbrev Zu6:=ZAK → Option ((Int × Int × Int × Unit) × Unit)
def ZSf:ZAN → St
 | (v0,v1,v2,v3,v4) => St.mk (ZC [(9,Zq v0),(6,AV.val (PV.v (Value.string v1))),(8,Zq v2),(5,Zq v3),(0,AV.val (PV.v (Value.string v4)))]) (ZA [])
def Zar (k:Nat) (L4:Zpu):Zpu
 | (v0,v1,v2,v3,v4) => bif decide (v0 < Int.ofNat v1.size) then bif decide (0 ≤ v0 ∧ v0 < Int.ofNat v1.size) then L4 (IntKind.i64.wrap (v0 + 1),v1,IntKind.i64.wrap (IntKind.i64.wrap ((2:Int) * v2) + IntKind.i64.wrap (IntKind.u8.wrap (Int.ofNat (v1.data.toList.getD v0.toNat 0).toNat - (48:Int)))),v3,v4) else none else (Zr7 k (IntKind.i64.wrap (v3 - 1),())).bind fun y => bif decide ((0:Int) ≤ y.1) then bif decide (v2 < IntKind.i64.wrap ((1:Int) * (2:Int) ^ min (Int.toNat y.1) (64:Nat))) then some ((0,0,2,()),()) else bif decide (Int.ofNat v4.size < v3) then some ((0,0,10,()),()) else some ((v2,v3,0,()),()) else none
def ZcU (k:Nat):Zpu:=Zp (fun L4 => Zar k L4) k
noncomputable def Zvb (k:Nat) (n:Nat) (v:ZAN) :=
 Zy (Zjj k) Zym [] [1,1,1,1,1,1,1,1,1,1,0,1,0] [] (Wh Tryz.f92) (Wp (Zjj k) Tryz.f92 XS Xi [] []) n (ZSf v)
def ZSe:ZAM → St
 | (v0,v1,v2) => St.mk (ZC [(6,AV.val (PV.v (Value.string v0))),(5,Zq v1),(0,AV.val (PV.v (Value.string v2)))]) (ZA [])
def Zet (k:Nat) (L4:Zpu) (L3:Zu8):Zu8
 | (v0,v1,v2) => (Zr7 k (v1,())).bind fun y => bif decide (Int.ofNat v0.size < y.1) then bif decide (v0.size + (1:Nat) < (1099511627776:Nat)) then L3 (v0 ++ ByteArray.mk #[49],v1,v2) else none else L4 (0,v0,(0:Int),v1,v2)
def Zva (k:Nat):Zu8:=Zp (fun L3 => Zet k (ZcU k) L3) k
noncomputable def ZCw (k:Nat) (n:Nat) (v:ZAM) :=
 Zy (Zjj k) Zym [] [1,1,1,1,1,1,1,1,0,1,0,0] [] (Wh Tryz.f92) (Wp (Zjj k) Tryz.f92 XS Xi [] []) n (ZSe v)
def ZSd:ZAL → St
 | (v0,v1,v2,v3) => St.mk (ZC [(7,Zq v0),(5,Zq v1),(0,AV.val (PV.v (Value.string v2))),(6,AV.val (PV.v (Value.string v3)))]) (ZA [])
def Zes (k:Nat) (L3:Zu8) (L4:Zpu) (L2:Zu7):Zu7
 | (v0,v1,v2,v3) => bif decide (v0 < v1) then bif v0 == Int.ofNat v2.size then bif decide (Int.ofNat v2.size < v1) then L3 (v3,v1,v2) else L4 (0,v3,(0:Int),v1,v2) else bif decide (0 ≤ v0 ∧ v0 < Int.ofNat v2.size) then bif (Int.ofNat (v2.data.toList.getD v0.toNat 0).toNat).fdiv (64:Int) != 2 then some ((0,0,2,()),()) else bif decide (0 ≤ v0 ∧ v0 < Int.ofNat v2.size) then (ZiA k ((IntKind.i64.wrap (Int.ofNat (v2.data.toList.getD v0.toNat 0).toNat)).tmod (64:Int),6,())).bind fun y => bif decide (v3.size + ByteArray.size y.1 < 1099511627776) then L2 (IntKind.i64.wrap (v0 + 1),v1,v2,v3 ++ y.1) else none else none else none else bif decide (Int.ofNat v2.size < v1) then L3 (v3,v1,v2) else L4 (0,v3,(0:Int),v1,v2)
def Zpv (k:Nat):Zu7:=Zp (fun L2 => Zes k (Zva k) (ZcU k) L2) k
noncomputable def ZCv (k:Nat) (n:Nat) (v:ZAL) :=
 Zy (Zjj k) Zym [] [1,1,1,1,1,1,1,0,1,0] [] (Wh Tryz.f92) (Wp (Zjj k) Tryz.f92 XS Xi [] []) n (ZSd v)
def ZSc:ZAK → St
 | (v0,v1) => St.mk (ZC [(5,Zq v0),(0,AV.val (PV.v (Value.string v1)))]) (ZA [])
end Go.Sh
