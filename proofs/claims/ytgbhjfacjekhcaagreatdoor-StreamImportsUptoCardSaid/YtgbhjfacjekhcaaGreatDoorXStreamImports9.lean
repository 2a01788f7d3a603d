/-
  What the row needs, part 9.
-/
import Derived.Test.YtgbhjfacjekhcaaGreatDoorXStreamImports8
import Derived.Test.YtgbhjfacjekhcaaGreatDoorProg
set_option linter.unusedSimpArgs false
set_option linter.unusedVariables false
set_option linter.unusedSectionVars false
open BitVec renaming ofInt→UH
open Bool renaming and_eq_true_iff→UU
open ByteArray renaming size→UQ,mk→UR,extract→UV
open Go.FloatKind renaming f64→Je
open Int renaming ofNat→UD,tdiv→UJ,fdiv→UP,toNat→US
open Go.IntKind renaming i64→Jx,u64→UI,u8→UK
open List renaming take→UL,drop→UM,length→UO,replicate→Jd,map→UT
open Nat renaming beq→Ja
open Go.Value renaming string→UN,int→Jv,slice→V4
namespace Go.Sh
open Go Go.Proofs
def deBruijnT:List Int:=[0,1,56,2,57,49,28,3,61,58,42,50,38,29,17,4,62,47,59,36,45,43,51,22,53,39,33,30,24,18,12,5,63,55,48,27,60,41,37,16,46,35,44,21,52,32,23,11,54,26,40,15,34,20,31,10,25,14,19,9,13,8,7,6]
instance frameGl:Gl:=⟨fun g => bif Ja g 4 then (.u8,deBruijnT) else (.u8,[])⟩
abbrev ZfR:Ty:=.pair (.int .i64) (.pair (.int .i64) (.pair (.int .i64) .unit))
abbrev ZhH:Ty:=.pair (.int .i64) (.pair (.sl (.sl (.int .i64))) .unit)
abbrev ZUx:Ty:=.pair (.sl (.int .i64)) (.pair (.sl (.int .i64)) .unit)
abbrev ZfF:Ty:=.pair (.sl (.int .i64)) (.pair (.int .i64) .unit)
abbrev Zxb:Ty:=.pair (.int .i64) (.pair (.int .i64) (.pair (.int .i64) (.pair (.sl (.int .i64)) (.pair ZfF (.pair (.sl (.int .i64)) (.pair (.int .i64) .unit))))))
abbrev ZPT:Ty:=.pair (.int .i64) (.pair (.int .i64) (.pair (.int .i64) .unit))
abbrev ZW2:Ty:=.pair (.int .i64) (.pair (.int .i64) (.pair (.sl ZPT) (.pair (.int .i64) .unit)))
theorem ZhS:Tryz.prog.follows .mixedOrders = true:=by kernel_rfl
abbrev Zl (v:Int):AV:=AV.val (PV.v (Jv Jx v))
abbrev avL (v:List Int):AV:=AV.val (PV.sl (Ty.int Jx) v)
abbrev avB (v:Bool):AV:=AV.val (PV.v (Value.bool v))
noncomputable abbrev cdX (f:Func):Code:=f.body.getD .skip
noncomputable def cxX (k:Nat) (l:List (Nat × Callee)) (live:Nat → List Nat:=fun _ => []):Ctx:={ P:=Tryz.prog,Φ:=phi l,k:=k,live:=live }
def nA:Nat → Ann:=fun _ => ⟨[],[]⟩
noncomputable abbrev ZDB (C:Ctx) (A:Nat → Ann) (fn:Func) (pk:List Kd) (rk:Kd) (x:Kd.dens pk):=ZDA C A fn.ntmps (cdX fn) fn.results.toList pk rk (Wp pk x) (ZJ1 pk rk)
noncomputable abbrev lvX (C:Ctx) (fn:Func) (pk:List Kd) (rk:Kd) (a:List AV) (b:List (List Nat)):=Y3 C fn.results.toList pk a b rk (ZJ1 pk rk)
noncomputable def ZUK (fn:Func):Bool:=fn.body.isSome && (!(fn.name == "runtime.NumGoroutine") && XQ Tryz.prog fn.ntmps (cdX fn))
abbrev QQ (l:List AV):RS:=RS.live (Res.box l)
abbrev rsA (v:List Int) (b:Bool):RS:=RS.live (Res.arr (Ty.int Jx) v b)
abbrev ZE (k:Nat):={ p:Nat × Callee // Ctr Tryz.prog k p.1 p.2 }
noncomputable def cxP (k:Nat) (l:List (ZE k)) (live:Nat → List Nat):Ctx:={ P:=Tryz.prog,Φ:=phi (l.map Subtype.val),k:=k,live:=live }
def nL:Nat → List Nat:=fun _ => []
theorem ZYB (k:Nat) {l:List (ZE k)} {live:Nat → List Nat} {A:Nat → Ann} {f:Nat} {fn:Func} {pk:List Kd} {rk:Kd} {F:Nat → Kd.dens pk → Option (Ans pk rk)}
  (h:∀ x,ZDB (cxP k l live) A fn pk rk x = F k x) (hf:Tryz.prog.funcs[f]? = some fn) (hq:ZUK fn = true):Ctr Tryz.prog k f (mk pk rk F) :=
 have hq1:(fn.body.isSome && (!(fn.name == "runtime.NumGoroutine") && XQ Tryz.prog fn.ntmps (cdX fn))) = true:=hq
 have hq2:=UU.1 hq1
 have hq3:=UU.1 hq2.2
 have hb:fn.body = some (cdX fn):=by
  cases e:fn.body with
  | none => rw [e] at hq2; exact absurd hq2.1 (by simp)
  | some c => show some c = some (fn.body.getD .skip); rw [e]; rfl
 ZSL (C:=cxP k l live) (ZwX (fun p hp => by obtain ⟨q,_,rfl⟩:=List.mem_map.1 hp; exact q.2)) ZhS hf hb (by simpa using hq3.1) hq3.2 (fun x y e => (h x).trans e)
noncomputable def Zy (f:Nat) (fn:Func) {k:Nat} (l:List (ZE k)) (pk:List Kd) (rk:Kd) (F:Nat → Kd.dens pk → Option (Ans pk rk)) (A:Nat → Ann:=nA) (live:Nat → List Nat:=nL)
  (h:∀ x,ZDB (cxP k l live) A fn pk rk x = F k x:=by intro x; kernel_rfl) (hf:Tryz.prog.funcs[f]? = some fn:=by kernel_rfl) (hq:ZUK fn = true:=by kernel_rfl):ZE k:=⟨(f,mk pk rk F),ZYB k h hf hq⟩
def ZzR {α:Type} (k:Nat) (g:Nat → α):α:=match k with | 0 => g 0 | n + 1 => g (n + 1)
theorem ZPm {α:Type} (k:Nat) (g:Nat → α):ZzR k g = g k:=by cases k <;> rfl
noncomputable def Xx (f:Nat) (fn:Func) {k:Nat} (l:(k:Nat) → List (ZE k)) (pk:List Kd) (rk:Kd) (A:Nat → Ann:=nA) (live:Nat → List Nat:=nL)
  (hf:Tryz.prog.funcs[f]? = some fn:=by kernel_rfl) (hq:ZUK fn = true:=by kernel_rfl):ZE k:=⟨(f,mk pk rk fun k => ZzR k fun k => ZDB (cxP k (l k) live) A fn pk rk),ZYB k (fun x => (congrFun (ZPm k fun k => ZDB (cxP k (l k) live) A fn pk rk) x).symm) hf hq⟩
noncomputable abbrev QI {k:Nat} {V:Type} (l:List (ZE k)) (fn:Func) (pk:List Kd) (rk:Kd) (p ns:List Nat) (n:Nat) (S:V → St) (A:Nat → Ann:=nA) (live:Nat → List Nat:=nL) (a:List AV:=[]) (b:List (List Nat):=[]) (q:List Nat:=[]) (v:V):Option (Ans pk rk) :=
 ZWO (cxP k l live) A q p ns (cdX fn) (lvX (cxP k l live) fn pk rk a b) n (S v)
theorem ZO {V R:Type} {L:Nat → V → Option R} {step:(V → Option R) → V → Option R} (h:∀ n v,L (n + 1) v = step (L n) v:=by intro n v; kernel_rfl) (h0:∀ v,L 0 v = none:=by intro v; kernel_rfl):∀ n,L n = Zg step n:=ZzV h0 h
abbrev ZKk:List Kd:=[.view ZfR]
abbrev ZB:Kd:=.view (.int .i64)
def Zey (k:Nat):(Int × Int × Int × Unit) × Unit → Option (Int × Unit)
 | ((a0,a1,a2,()),()) => bif decide (a0 < 1) then some (2,()) else bif decide ((2:Int) < a0) then some (2,()) else bif decide (a1 < 4) then some (2,()) else bif decide ((24:Int) < a1) then some (2,()) else bif decide (a2 < 1) then some (2,()) else bif decide ((655350:Int) < a2) then some (2,()) else some (0,())
def Zo5 (k:Nat):=Zey k
noncomputable def ZEd (k:Nat):ZE k:=Zy 36 Tryz.f36 [] ZKk ZB Zo5
abbrev ZeY:List Kd:=[.view ZfR,.view ZhH]
noncomputable def ZFj (k:Nat):List (ZE k):=[ZEd k]
def ZFg:Nat → Ann:=fun id => bif Ja id 17 then ⟨[68,69,67,2,63,62,61],[]⟩ else bif Ja id 14 then ⟨[62,63,61,2],[]⟩ else bif Ja id 8 then ⟨[42,43,41,6,3,2],[]⟩ else ⟨[],[]⟩
abbrev ZMK:=Int × Int × List Int × Int × Int × List (List Int) × Int × Int × Int
abbrev ZvN:=ZMK → Option (Int × Unit)
abbrev ZMJ:=Int × Int × List (List Int) × Int × Int × Int
abbrev Zlp:=ZMJ → Option (Int × Unit)
abbrev ZMI:=Int × Int × List (List Int) × Int × Int × List (List Int) × Int × Int × Int
abbrev ZvM:=ZMI → Option (Int × Unit)
def ZVX:ZMK → St
 | (v0,v1,v2,v3,v4,v5,v6,v7,v8) => St.mk (Zq [(68,Zl v0),(69,Zl v1),(67,avL v2),(2,AV.bx 8192 0),(63,Zl v3),(62,Zl v4),(61,AV.val (PV.sl (Ty.int Jx).sl v5))]) (Zp [(8192,QQ [Zl v6,Zl v7,Zl v8])])
def ZeZ (k:Nat) (L2:Zlp) (L3:ZvN):ZvN
 | (v0,v1,v2,v3,v4,v5,v6,v7,v8) => bif decide (v1 < v0) then bif decide (0 ≤ v1 ∧ v1 < UD v2.length) then bif decide (0 ≤ Jx.wrap (v7 - 1)) then bif UP (v2.getD v1.toNat 0) ((2:Int) ^ min (Jx.wrap (v7 - 1)).toNat 64) != (0:Int) then bif UP (v2.getD v1.toNat 0) ((2:Int) ^ min (Jx.wrap (v7 - 1)).toNat 64) != (-1:Int) then some (12,()) else L3 (v0,Jx.wrap (v1 + 1),v2,v3,v4,v5,v6,v7,v8) else L3 (v0,Jx.wrap (v1 + 1),v2,v3,v4,v5,v6,v7,v8) else none else none else L2 (v4,Jx.wrap (v3 + 1),v5,v6,v7,v8)
def ZpR (k:Nat) (L2:Zlp):ZvN:=Zg (fun L3 => ZeZ k L2 L3) k
noncomputable def ZFi (k:Nat) (n2:Nat) (n:Nat):=QI (ZFj k) Tryz.f64 ZeY ZB [1,1,1,1,1,0,1,0,0,1,1,0,0,1,1,0] [n2] n ZVX (A:=ZFg)
def ZVW:ZMJ → St
 | (v0,v1,v2,v3,v4,v5) => St.mk (Zq [(62,Zl v0),(63,Zl v1),(61,AV.val (PV.sl (Ty.int Jx).sl v2)),(2,AV.bx 8192 0)]) (Zp [(8192,QQ [Zl v3,Zl v4,Zl v5])])
def Zcw (k:Nat) (L3:ZvN) (L2:Zlp):Zlp
 | (v0,v1,v2,v3,v4,v5) => bif decide (v1 < v0) then bif decide (0 ≤ v1 ∧ v1 < UD v2.length) then L3 (UD (UO (v2.getD v1.toNat [])),(0:Int),v2.getD v1.toNat [],v1,v0,v2,v3,v4,v5) else none else some (0,())
def ZeX (k:Nat):Zlp:=Zg (fun L2 => Zcw k (ZpR k L2) L2) k
noncomputable def Zn2 (k:Nat) (n:Nat):=QI (ZFj k) Tryz.f64 ZeY ZB [1,1,1,1,1,0,1,0] [] n ZVW (A:=ZFg)
def ZVV:ZMI → St
 | (v0,v1,v2,v3,v4,v5,v6,v7,v8) => St.mk (Zq [(42,Zl v0),(43,Zl v1),(41,AV.val (PV.sl (Ty.int Jx).sl v2)),(6,Zl v3),(3,AV.bx 8192 0),(2,AV.bx 8193 0)]) (Zp [(8192,QQ [Zl v4,AV.val (PV.sl (Ty.int Jx).sl v5)]),(8193,QQ [Zl v6,Zl v7,Zl v8])])
def Zcv (k:Nat) (L2:Zlp) (L1:ZvM):ZvM
 | (v0,v1,v2,v3,v4,v5,v6,v7,v8) => bif decide (v1 < v0) then bif decide (0 ≤ v1 ∧ v1 < UD v2.length) then bif UD (UO (v2.getD v1.toNat [])) != v3 then some (1,()) else bif decide (v3 < 1) then some (1,()) else bif decide ((512:Int) < v3) then some (1,()) else L1 (v0,Jx.wrap (v1 + 1),v2,v3,v4,v5,v6,v7,v8) else none else L2 (UD v5.length,(0:Int),v5,v6,v7,v8)
def ZpQ (k:Nat):ZvM:=Zg (fun L1 => Zcv k (ZeX k) L1) k
noncomputable def ZFh (k:Nat) (n:Nat):=QI (ZFj k) Tryz.f64 ZeY ZB [1,1,1,1,0,1,0] [] n ZVV (A:=ZFg)
def Zjs (k:Nat) (L1:ZvM):(Int × Int × Int × Unit) × (Int × List (List Int) × Unit) × Unit → Option (Int × Unit)
 | ((a0,a1,a2,()),(a3,a4,()),()) => (Zo5 k ((a0,a1,a2,()),())).bind fun y => bif y.1 != 0 then some (y.1,()) else bif decide (a3 < 0) then some (1,()) else bif decide ((2147483647:Int) < a3) then some (1,()) else bif UD a4.length != a0 then some (1,()) else bif decide ((0:Int) ≤ 0 ∧ (0:Int) < UD a4.length) then L1 (UD a4.length,(0:Int),a4,UD (UO (a4.getD 0 [])),a3,a4,a0,a1,a2) else none
def ZpP (k:Nat):=Zjs k (ZpQ k)
theorem ZMN (k:Nat) (n2:Nat):∀ n,ZFi k n2 n = Zg (fun L3 => ZeZ k (Zn2 k n2) L3) n:=ZO
theorem ZMM (k:Nat):∀ n,Zn2 k n = Zg (fun L2 => Zcw k (ZpR k L2) L2) n:=ZO (fun n v => by rw [show (ZpR k (Zn2 k n)) = ZFi k n k from (ZMN k n k).symm]; kernel_rfl)
theorem ZML (k:Nat):∀ n,ZFh k n = Zg (fun L1 => Zcv k (ZeX k) L1) n:=ZO (fun n v => by rw [show (ZeX k) = Zn2 k k from (ZMM k k).symm]; kernel_rfl)
set_option maxHeartbeats 1000000 in
noncomputable def ZTw (k:Nat):ZE k:=Zy 64 Tryz.f64 (ZFj k) ZeY ZB ZpP (A:=ZFg) (h:=fun x => by show _ = Zjs k (ZpQ k) x; rw [show ZpQ k = ZFh k k from (ZML k k).symm]; kernel_rfl)
abbrev Zwg:List Kd:=[.view (.sl (.int .i64)),.view (.sl (.int .i64))]
abbrev Zlu:Kd:=.tup [.view (.sl (.cx .f64)),.view (.int .i64)]
noncomputable def ZT1 (k:Nat):List (ZE k):=[]
def ZTZ:Nat → Ann:=fun id => bif Ja id 7 then ⟨[21,22,20,1,6],[.slot 6 ((Ty.cx Je))]⟩ else ⟨[],[]⟩
abbrev ZNT:=Int × Int × List Int × List Int × List (Nat × Nat)
abbrev Zwe:=ZNT → Option ((List (Nat × Nat) × Int × Unit) × Unit)
def ZWl:ZNT → St
 | (v0,v1,v2,v3,v4) => St.mk (Zq [(21,Zl v0),(22,Zl v1),(20,avL v2),(1,avL v3),(6,AV.own 8192)]) (Zp [(8192,RS.live (Res.arr (Ty.cx Je) v4 false))])
def Zfa (k:Nat) (L1:Zwe):Zwe
 | (v0,v1,v2,v3,v4) => bif decide (v1 < v0) then bif decide (0 ≤ v1 ∧ v1 < UD v2.length) then bif decide (0 ≤ v1 ∧ v1 < UD v3.length) then bif decide (v2.getD v1.toNat 0 < (-16777216:Int)) then some (([],12,()),()) else bif decide ((16777216:Int) < v2.getD v1.toNat 0) then some (([],12,()),()) else bif decide (v3.getD v1.toNat 0 < (-16777216:Int)) then some (([],12,()),()) else bif decide ((16777216:Int) < v3.getD v1.toNat 0) then some (([],12,()),()) else bif decide (v4.length + [(Je.nearest (v2.getD v1.toNat 0),Je.nearest (v3.getD v1.toNat 0))].length < 2147483648) then L1 (v0,Jx.wrap (v1 + 1),v2,v3,v4 ++ [(Je.nearest (v2.getD v1.toNat 0),Je.nearest (v3.getD v1.toNat 0))]) else none else none else none else some ((v4,0,()),())
def Zwf (k:Nat):Zwe:=Zg (fun L1 => Zfa k L1) k
noncomputable def ZFz (k:Nat) (n:Nat):=QI (ZT1 k) Tryz.f129 Zwg Zlu [1,1,1,0,1,0] [] n ZWl (A:=ZTZ)
def ZjF (k:Nat) (L1:Zwe):List Int × List Int × Unit → Option ((List (Nat × Nat) × Int × Unit) × Unit)
 | (a0,a1,()) => bif UD a0.length != UD a1.length then some (([],1,()),()) else bif decide ((8192:Int) < UD a0.length) then some (([],14,()),()) else L1 (UD a0.length,(0:Int),a0,a1,[])
def ZNS (k:Nat):=ZjF k (Zwf k)
theorem ZNU (k:Nat):∀ n,ZFz k n = Zg (fun L1 => Zfa k L1) n:=ZO
noncomputable def ZT0 (k:Nat):ZE k:=Zy 129 Tryz.f129 (ZT1 k) Zwg Zlu ZNS (A:=ZTZ) (h:=fun x => by show _ = ZjF k (Zwf k) x; rw [show Zwf k = ZFz k k from (ZNU k k).symm]; kernel_rfl)
abbrev Ql:List Kd:=[.view (.int .i64)]
abbrev Qd:Kd:=.view .bool
def ZOC (k:Nat):Int × Unit → Option (Bool × Unit)
 | (a0,()) => bif a0 == 0 then some (true,()) else bif decide (8 ≤ a0) then some (decide (a0 ≤ 10),()) else some (false,())
def ZFL (k:Nat):=ZOC k
noncomputable def ZUh (k:Nat):ZE k:=Zy 128 Tryz.f128 [] Ql Qd ZFL
abbrev Zbn:List Kd:=[.view (.fl .f64)]
abbrev Zc6:Kd:=.view (.fl .f64)
def Zk2 (k:Nat):Nat × Unit → Option (Nat × Unit)
 | (a0,()) => some ((UI.wrap (UD (UH 64 (UD a0) &&& ~~~UH 64 (9223372036854775808:Int)).toNat)).toNat,())
def Zk1 (k:Nat):=Zk2 k
noncomputable def ZBg (k:Nat):ZE k:=Zy 225 Tryz.f225 [] Zbn Zc6 Zk1
abbrev ZRv:List Kd:=[.view (.fl .f64),.view (.fl .f64)]
def ZIi (k:Nat):Nat × Nat × Unit → Option (Nat × Unit)
 | (a0,a1,()) => some ((UI.wrap (UD (UH 64 (UI.wrap (UD (UH 64 (UD a0) &&& ~~~UH 64 (9223372036854775808:Int)).toNat)) ||| UH 64 (UI.wrap (UD (UH 64 (UD a1) &&& UH 64 (9223372036854775808:Int)).toNat))).toNat)).toNat,())
def ZBB (k:Nat):=ZIi k
noncomputable def ZLx (k:Nat):ZE k:=Zy 269 Tryz.f269 [] ZRv Zc6 ZBB
def ZH9 (k:Nat):Nat × Unit → Option (Nat × Unit)
 | (a0,()) => (Zk1 k (a0,())).bind fun y => bif Je.format.order y.1 (4607182418800017408:Nat) == some Ordering.lt then (ZBB k (0,a0,())).bind fun y => some (y.1,()) else bif decide (UI.wrap (UI.wrap (UD (UH 64 ((UD a0).fdiv (4503599627370496:Int)) &&& UH 64 (2047:Int)).toNat) - 1023) < (52:Int)) then bif decide (0 ≤ UI.wrap ((52:Int) - UI.wrap (UI.wrap (UD (UH 64 ((UD a0).fdiv (4503599627370496:Int)) &&& UH 64 (2047:Int)).toNat) - 1023))) then some ((UI.wrap (UD (UH 64 (UD a0) &&& ~~~UH 64 (UI.wrap (UI.wrap ((1:Int) * (2:Int) ^ min (UI.wrap ((52:Int) - UI.wrap (UI.wrap (UD (UH 64 ((UD a0).fdiv (4503599627370496:Int)) &&& UH 64 (2047:Int)).toNat) - 1023))).toNat 64) - (1:Int)))).toNat)).toNat,()) else none else some ((UD a0).toNat,())
def ZVC (k:Nat):=ZH9 k
set_option maxHeartbeats 1000000 in
noncomputable def ZVD (k:Nat):ZE k:=Zy 259 Tryz.f259 [ZBg k,ZLx k] Zbn Zc6 ZVC
def ZkZ (k:Nat):Nat × Unit → Option (Nat × Unit)
 | (a0,()) => (WC Ieee.Toward.zero a0).bind fun y => some (y,())
def ZkY (k:Nat):=ZkZ k
noncomputable def ZKR (k:Nat):ZE k:=Zy 223 Tryz.f223 [ZVD k] Zbn Zc6 ZkY
abbrev ZRc:List Kd:=[.view (.fl .f64),.view (.int .i64)]
def Zk0 (k:Nat):Nat × Int × Unit → Option (Bool × Unit)
 | (a0,a1,()) => bif a1 == 0 then (Zk1 k (a0,())).bind fun y => some (Je.format.order y.1 (9218868437227405311:Nat) == some Ordering.gt,()) else bif decide (a1 < 0) then some (Je.format.order (a0 ^^^ (9223372036854775808:Nat)) (9218868437227405311:Nat) == some Ordering.gt,()) else some (Je.format.order a0 (9218868437227405311:Nat) == some Ordering.gt,())
def ZuO (k:Nat):=Zk0 k
noncomputable def ZKS (k:Nat):ZE k:=Zy 224 Tryz.f224 [ZBg k] ZRc Qd ZuO
abbrev Zbl:List Kd:=[.view (.sl (.cx .f64))]
noncomputable def Zuz (k:Nat):List (ZE k):=[ZKR k,ZKS k,ZBg k]
def Zuy:Nat → Ann:=fun id => bif Ja id 14 then ⟨[37,38,36],[]⟩ else bif Ja id 7 then ⟨[23,22,14,13,12,0],[]⟩ else bif Ja id 4 then ⟨[13,14,12,0],[]⟩ else ⟨[],[]⟩
abbrev ZD7:=Int × Nat × Nat × Int × Int × List (Nat × Nat) × List (Nat × Nat)
abbrev ZmW:=ZD7 → Option (Int × Unit)
abbrev ZD8:=Int × Int × List (Nat × Nat)
abbrev ZmX:=ZD8 → Option (Int × Unit)
abbrev ZD6:=Int × Int × List (Nat × Nat) × List (Nat × Nat)
abbrev Zf6:=ZD6 → Option (Int × Unit)
def ZQM:ZD7 → St
 | (v0,v1,v2,v3,v4,v5,v6) => St.mk (Zq [(23,Zl v0),(22,AV.agg [AV.val (PV.v (Value.float Je v1)),AV.val (PV.v (Value.float Je v2))]),(14,Zl v3),(13,Zl v4),(12,AV.val (PV.sl (Ty.cx Je) v5)),(0,AV.val (PV.sl (Ty.cx Je) v6))]) (Zp [])
def ZbY (k:Nat) (L1:Zf6) (L2:ZmW):ZmW
 | (v0,v1,v2,v3,v4,v5,v6) => bif decide (v0 < 2) then bif decide (0 ≤ v0 ∧ v0 < 2) then (ZkY k ([v1,v2].getD v0.toNat 0,())).bind fun y => bif Je.format.order y.1 ([v1,v2].getD v0.toNat 0) != some Ordering.eq then some (2,()) else (ZuO k ([v1,v2].getD v0.toNat 0,0,())).bind fun y => bif y.1 then some (2,()) else L2 (Jx.wrap (v0 + 1),v1,v2,v3,v4,v5,v6) else none else L1 (v4,Jx.wrap (v3 + 1),v5,v6)
def Zin (k:Nat) (L1:Zf6):ZmW:=Zg (fun L2 => ZbY k L1 L2) k
noncomputable def ZxM (k:Nat) (n1:Nat) (n:Nat):=QI (Zuz k) Tryz.f174 Zbl ZB [1,1,0,1,0,0,1,1,0,0,1,1,0] [n1] n ZQM (A:=Zuy)
def ZQN:ZD8 → St
 | (v0,v1,v2) => St.mk (Zq [(37,Zl v0),(38,Zl v1),(36,AV.val (PV.sl (Ty.cx Je) v2))]) (Zp [])
def ZbZ (k:Nat) (L3:ZmX):ZmX
 | (v0,v1,v2) => bif decide (v1 < v0) then bif decide (0 ≤ v1 ∧ v1 < UD v2.length) then (Zk1 k ((v2.getD v1.toNat ((0:Nat),(0:Nat))).1,())).bind fun y => (Zk1 k ((v2.getD v1.toNat ((0:Nat),(0:Nat))).2,())).bind fun y_1 => (Zz0 Je y.1 y_1.1).bind fun y => bif Je.format.order y (4715268809856909312:Nat) == some Ordering.gt then some (12,()) else L3 (v0,Jx.wrap (v1 + 1),v2) else none else some (0,())
def Zio (k:Nat):ZmX:=Zg (fun L3 => ZbZ k L3) k
noncomputable def ZxN (k:Nat) (n:Nat):=QI (Zuz k) Tryz.f174 Zbl ZB [1,1,1,0,1,0] [] n ZQN (A:=Zuy)
def ZQL:ZD6 → St
 | (v0,v1,v2,v3) => St.mk (Zq [(13,Zl v0),(14,Zl v1),(12,AV.val (PV.sl (Ty.cx Je) v2)),(0,AV.val (PV.sl (Ty.cx Je) v3))]) (Zp [])
def ZbX (k:Nat) (L2:ZmW) (L3:ZmX) (L1:Zf6):Zf6
 | (v0,v1,v2,v3) => bif decide (v1 < v0) then bif decide (0 ≤ v1 ∧ v1 < UD v2.length) then L2 (0,(v2.getD v1.toNat ((0:Nat),(0:Nat))).1,(v2.getD v1.toNat ((0:Nat),(0:Nat))).2,v1,v0,v2,v3) else none else L3 (UD v3.length,(0:Int),v3)
def ZmY (k:Nat):Zf6:=Zg (fun L1 => ZbX k (Zin k L1) (Zio k) L1) k
noncomputable def Zip (k:Nat) (n:Nat):=QI (Zuz k) Tryz.f174 Zbl ZB [1,1,0,1,0] [] n ZQL (A:=Zuy)
def Zf7 (k:Nat) (L1:Zf6):List (Nat × Nat) × Unit → Option (Int × Unit)
 | (a0,()) => bif decide ((8192:Int) < UD a0.length) then some (14,()) else L1 (UD a0.length,(0:Int),a0,a0)
def ZA2 (k:Nat):=Zf7 k (ZmY k)
theorem ZGX (k:Nat) (n1:Nat):∀ n,ZxM k n1 n = Zg (fun L2 => ZbY k (Zip k n1) L2) n:=ZO
theorem ZGY (k:Nat):∀ n,ZxN k n = Zg (fun L3 => ZbZ k L3) n:=ZO
theorem ZGW (k:Nat):∀ n,Zip k n = Zg (fun L1 => ZbX k (Zin k L1) (Zio k) L1) n:=ZO (fun n v => by rw [show (Zin k (Zip k n)) = ZxM k n k from (ZGX k n k).symm,show (Zio k) = ZxN k k from (ZGY k k).symm]; kernel_rfl)
noncomputable def ZUQ (k:Nat):ZE k:=Zy 174 Tryz.f174 (Zuz k) Zbl ZB ZA2 (A:=Zuy) (h:=fun x => by show _ = Zf7 k (ZmY k) x; rw [show ZmY k = Zip k k from (ZGW k k).symm]; kernel_rfl)
abbrev ZQO:List Kd:=[.view (.cx .f64)]
def ZkM (k:Nat):(Nat × Nat) × Unit → Option (Nat × Unit)
 | (a0,()) => (cMulBits a0.1 a0.2 (4607182418800017408:Nat) (4607182418800017408:Nat)).bind fun y => some (y.1,())
def ZoZ (k:Nat):=ZkM k
noncomputable def ZUR (k:Nat):ZE k:=Zy 175 Tryz.f175 [] ZQO Zc6 ZoZ
def ZIa (k:Nat):Nat × Unit → Option (Bool × Unit)
 | (a0,()) => some (Je.format.order a0 a0 != some Ordering.eq,())
def ZLn (k:Nat):=ZIa k
noncomputable def ZVE (k:Nat):ZE k:=Zy 262 Tryz.f262 [] Zbn Qd ZLn
abbrev ZRs:Kd:=.tup [.view (.fl .f64),.view (.fl .f64)]
def ZIb (k:Nat):Nat × Unit → Option ((Nat × Nat × Unit) × Unit)
 | (a0,()) => (ZkY k (a0,())).bind fun y => (floatBits BinOp.sub Je a0 y.1).bind fun y_1 => (ZBB k (y_1,a0,())).bind fun y_2 => some ((y.1,y_2.1,()),())
def ZBu (k:Nat):=ZIb k
noncomputable def ZVF (k:Nat):ZE k:=Zy 263 Tryz.f263 [ZKR k,ZLx k] Zbn ZRs ZBu
def ZHF (k:Nat):Nat × Unit → Option (Nat × Unit)
 | (a0,()) => bif Je.format.order a0 (0:Nat) == some Ordering.eq then some (a0,()) else (ZLn k (a0,())).bind fun y => bif y.1 then some (a0,()) else (ZuO k (a0,0,())).bind fun y => bif y.1 then some (a0,()) else bif Je.format.order a0 (0:Nat) == some Ordering.lt then (ZBu k (a0 ^^^ (9223372036854775808:Nat),())).bind fun y => bif Je.format.order y.1.2.1 (0:Nat) != some Ordering.eq then (floatBits BinOp.add Je y.1.1 (4607182418800017408:Nat)).bind fun y => some (y ^^^ (9223372036854775808:Nat),()) else some (y.1.1 ^^^ (9223372036854775808:Nat),()) else (ZBu k (a0,())).bind fun y => some (y.1.1,())
def ZVh (k:Nat):=ZHF k
set_option maxHeartbeats 1000000 in
noncomputable def ZVi (k:Nat):ZE k:=Zy 227 Tryz.f227 [ZKS k,ZVE k,ZVF k] Zbn Zc6 ZVh
def ZkN (k:Nat):Nat × Unit → Option (Nat × Unit)
 | (a0,()) => (WC Ieee.Toward.down a0).bind fun y => some (y,())
def ZA4 (k:Nat):=ZkN k
noncomputable def ZUS (k:Nat):ZE k:=Zy 176 Tryz.f176 [ZVi k] Zbn Zc6 ZA4
abbrev ZNZ:List Kd:=[.view (.sl (.cx .f64)),.view (.int .i64)]
abbrev ZCZ:Kd:=.tup [.view (.sl (.int .i64)),.view (.sl (.int .i64)),.view (.int .i64)]
noncomputable def ZT3 (k:Nat):List (ZE k):=[ZUh k,ZUQ k,ZUR k,ZUS k]
def ZT2:Nat → Ann:=fun id => bif Ja id 8 then ⟨[23,24,22,1,8,9],[.slot 8 ((Ty.int Jx)),.slot 9 ((Ty.int Jx))]⟩ else ⟨[],[]⟩
abbrev ZNW:=Int × Int × List (Nat × Nat) × Int × List Int × List Int
abbrev Zwh:=ZNW → Option ((List Int × List Int × Int × Unit) × Unit)
def ZWm:ZNW → St
 | (v0,v1,v2,v3,v4,v5) => St.mk (Zq [(23,Zl v0),(24,Zl v1),(22,AV.val (PV.sl (Ty.cx Je) v2)),(1,Zl v3),(8,AV.own 8192),(9,AV.own 8193)]) (Zp [(8192,rsA v4 false),(8193,rsA v5 false)])
def Zfb (k:Nat) (L1:Zwh):Zwh
 | (v0,v1,v2,v3,v4,v5) => bif decide (v1 < v0) then bif decide (0 ≤ v1 ∧ v1 < UD v2.length) then bif v3 == 8 then (ZoZ k (((v2.getD v1.toNat ((0:Nat),(0:Nat))).1,(v2.getD v1.toNat ((0:Nat),(0:Nat))).2),())).bind fun y => (floatToIntVal Je (v2.getD v1.toNat ((0:Nat),(0:Nat))).1 Jx).bind fun y_1 => bif decide (v4.length + [y_1].length < 2147483648) then (floatToIntVal Je y.1 Jx).bind fun y => bif decide (v5.length + [y].length < 2147483648) then L1 (v0,Jx.wrap (v1 + 1),v2,v3,v4 ++ [y_1],v5 ++ [y]) else none else none else bif v3 == 9 then (ZoZ k (((v2.getD v1.toNat ((0:Nat),(0:Nat))).1,(v2.getD v1.toNat ((0:Nat),(0:Nat))).2),())).bind fun y => (floatToIntVal Je y.1 Jx).bind fun y => bif decide (v4.length + [y].length < 2147483648) then (floatToIntVal Je (v2.getD v1.toNat ((0:Nat),(0:Nat))).2 Jx).bind fun y_1 => bif decide (v5.length + [y_1].length < 2147483648) then L1 (v0,Jx.wrap (v1 + 1),v2,v3,v4 ++ [y],v5 ++ [y_1]) else none else none else bif v3 == 10 then (floatBits BinOp.add Je (v2.getD v1.toNat ((0:Nat),(0:Nat))).1 (v2.getD v1.toNat ((0:Nat),(0:Nat))).2).bind fun y => (floatBits BinOp.quo Je y (4611686018427387904:Nat)).bind fun y => (ZA4 k (y,())).bind fun y => (ZoZ k (((v2.getD v1.toNat ((0:Nat),(0:Nat))).1,(v2.getD v1.toNat ((0:Nat),(0:Nat))).2),())).bind fun y_1 => (floatToIntVal Je y.1 Jx).bind fun y => bif decide (v4.length + [y].length < 2147483648) then (floatToIntVal Je y_1.1 Jx).bind fun y_2 => bif decide (v5.length + [y_2].length < 2147483648) then L1 (v0,Jx.wrap (v1 + 1),v2,v3,v4 ++ [y],v5 ++ [y_2]) else none else none else (floatToIntVal Je (v2.getD v1.toNat ((0:Nat),(0:Nat))).1 Jx).bind fun y => bif decide (v4.length + [y].length < 2147483648) then (floatToIntVal Je (v2.getD v1.toNat ((0:Nat),(0:Nat))).2 Jx).bind fun y_1 => bif decide (v5.length + [y_1].length < 2147483648) then L1 (v0,Jx.wrap (v1 + 1),v2,v3,v4 ++ [y],v5 ++ [y_1]) else none else none else none else some ((v4,v5,0,()),())
def Zwi (k:Nat):Zwh:=Zg (fun L1 => Zfb k L1) k
noncomputable def ZFA (k:Nat) (n:Nat):=QI (ZT3 k) Tryz.f130 ZNZ ZCZ [1,1,1,1,0,1,0] [] n ZWm (A:=ZT2)
def ZjG (k:Nat) (L1:Zwh):List (Nat × Nat) × Int × Unit → Option ((List Int × List Int × Int × Unit) × Unit)
 | (a0,a1,()) => (ZFL k (a1,())).bind fun y => bif !y.1 then some (([],[],1,()),()) else (ZA2 k (a0,())).bind fun y => bif y.1 != 0 then some (([],[],y.1,()),()) else L1 (UD a0.length,(0:Int),a0,a1,[],[])
def ZNV (k:Nat):=ZjG k (Zwi k)
theorem ZNY (k:Nat):∀ n,ZFA k n = Zg (fun L1 => Zfb k L1) n:=ZO
noncomputable def ZNX (k:Nat):ZE k:=Zy 130 Tryz.f130 (ZT3 k) ZNZ ZCZ ZNV (A:=ZT2) (h:=fun x => by show _ = ZjG k (Zwi k) x; rw [show Zwi k = ZFA k k from (ZNY k k).symm]; kernel_rfl)
abbrev Zlx:List Kd:=[.view (.sl (.int .i64))]
def ZYp:Nat → Ann:=fun id => bif Ja id 3 then ⟨[8,9,7,3,4],[]⟩ else ⟨[],[]⟩
noncomputable def ZYq (k:Nat):ZE k:=Xx 191 Tryz.f191 (fun k => []) Zlx ZB (A:=ZYp)
abbrev QY:Kd:=.tup [.view (.int .i64),.view (.int .i64)]
def ZX3:Nat → Ann:=fun id => bif Ja id 3 then ⟨[13,12,0,5,4],[]⟩ else ⟨[],[]⟩
noncomputable def ZX4 (k:Nat):ZE k:=Xx 147 Tryz.f147 (fun k => [ZNX k,ZYq k]) Zbl QY (A:=ZX3)
abbrev ZVY:List Kd:=[.view ZhH]
abbrev ZVZ:Kd:=.tup [.view (.sl (.sl (.int .i64))),.view (.int .i64),.view (.int .i64)]
noncomputable def ZXH (k:Nat):ZE k:=Xx 92 Tryz.f92 (fun k => [ZT0 k,ZX4 k,ZNX k]) ZVY ZVZ
abbrev ZV0:List Kd:=[]
abbrev ZV1:Kd:=.box [.own (.int .u8) false,.view (.int .i64)]
def ZMQ (k:Nat):Unit → Option ((List Int × Int × Unit) × Unit)
 | () => some (([],0,()),())
def ZMP (k:Nat):=ZMQ k
noncomputable def ZTx (k:Nat):ZE k:=Zy 93 Tryz.f93 [] ZV0 ZV1 ZMP
def Zp8 (k:Nat):Int × Unit → Option (Bool × Unit)
 | (a0,()) => bif decide (a0 < 0) then some (true,()) else some (decide ((32:Int) < a0),())
def ZFB (k:Nat):=Zp8 k
noncomputable def ZN1 (k:Nat):ZE k:=Zy 148 Tryz.f148 [] Ql Qd ZFB
abbrev ZD9:List Kd:=[.box [.own (.int .u8) false,.view (.int .i64)],.view (.int .i64)]
abbrev K0:Kd:=.tup []
def ZkO (k:Nat):(List Int × Int × Unit) × Int × Unit → Option (Unit × (List Int × Int × Unit) × Unit)
 | ((a0,a1,()),a2,()) => bif a1.tmod (8:Int) == 0 then bif decide (a0.length + (1:Nat) < (2147483648:Nat)) then bif decide (0 ≤ Jx.wrap (a1.tdiv (8:Int)) ∧ Jx.wrap (a1.tdiv (8:Int)) < UD (a0 ++ [(0:Int)]).length) then bif decide ((Jx.wrap (a1.tdiv (8:Int))).toNat < (a0 ++ [(0:Int)]).length) then bif decide (0 ≤ Jx.wrap ((7:Int) - a1.tmod (8:Int))) then bif decide (0 ≤ Jx.wrap (a1.tdiv (8:Int)) ∧ Jx.wrap (a1.tdiv (8:Int)) < UD (a0 ++ [(0:Int)]).length) then bif decide ((Jx.wrap (a1.tdiv (8:Int))).toNat < (a0 ++ [(0:Int)]).length) then some ((),((a0 ++ [(0:Int)]).set (Jx.wrap (a1.tdiv (8:Int))).toNat (UK.wrap (UD (UH 8 ((a0 ++ [(0:Int)]).getD (Jx.wrap (a1.tdiv (8:Int))).toNat 0) ||| UH 8 (UK.wrap (Jx.wrap (a2 * (2:Int) ^ min (Jx.wrap ((7:Int) - a1.tmod (8:Int))).toNat 64)))).toNat)),Jx.wrap (a1 + 1),()),()) else none else none else none else none else none else none else bif decide (0 ≤ Jx.wrap (a1.tdiv (8:Int)) ∧ Jx.wrap (a1.tdiv (8:Int)) < UD a0.length) then bif decide ((Jx.wrap (a1.tdiv (8:Int))).toNat < a0.length) then bif decide (0 ≤ Jx.wrap ((7:Int) - a1.tmod (8:Int))) then bif decide (0 ≤ Jx.wrap (a1.tdiv (8:Int)) ∧ Jx.wrap (a1.tdiv (8:Int)) < UD a0.length) then bif decide ((Jx.wrap (a1.tdiv (8:Int))).toNat < a0.length) then some ((),(a0.set (Jx.wrap (a1.tdiv (8:Int))).toNat (UK.wrap (UD (UH 8 (a0.getD (Jx.wrap (a1.tdiv (8:Int))).toNat 0) ||| UH 8 (UK.wrap (Jx.wrap (a2 * (2:Int) ^ min (Jx.wrap ((7:Int) - a1.tmod (8:Int))).toNat 64)))).toNat)),Jx.wrap (a1 + 1),()),()) else none else none else none else none else none
def ZA5 (k:Nat):=ZkO k
set_option maxHeartbeats 1000000 in
noncomputable def ZJ8 (k:Nat):ZE k:=Zy 192 Tryz.f192 [] ZD9 K0 ZA5
abbrev ZN5:List Kd:=[.box [.own (.int .u8) false,.view (.int .i64)],.view (.int .u64),.view (.int .i64)]
noncomputable def ZT6 (k:Nat):List (ZE k):=[ZJ8 k]
def ZT4:Nat → Ann:=fun id => bif Ja id 1 then ⟨[6,0,1],[]⟩ else ⟨[],[]⟩
abbrev ZN3:=Int × Int × Int × List Int
abbrev Zwj:=ZN3 → Option (Unit × (List Int × Int × Unit) × Unit)
def ZWn:ZN3 → St
 | (v0,v1,v2,v3) => St.mk (Zq [(6,Zl v0),(0,AV.bx 0 0),(1,AV.val (PV.v (Jv UI v1)))]) (Zp [(0,QQ [AV.own 8192,Zl v2]),(8192,RS.live (Res.arr (Ty.int UK) v3 false))])
def Zfc (k:Nat) (L1:Zwj):Zwj
 | (v0,v1,v2,v3) => bif decide (0 ≤ v0) then bif decide (0 ≤ v0) then (ZA5 k ((v3,v2,()),Jx.wrap (UI.wrap (UD (UH 64 (v1.fdiv ((2:Int) ^ min v0.toNat 64)) &&& UH 64 (1:Int)).toNat)),())).bind fun y => L1 (Jx.wrap (v0 - 1),v1,y.2.1.2.1,y.2.1.1) else none else some ((),(v3,v2,()),())
def Zwk (k:Nat):Zwj:=Zg (fun L1 => Zfc k L1) k
noncomputable def ZFC (k:Nat) (n:Nat):=QI (ZT6 k) Tryz.f149 ZN5 K0 [1,0] [] n ZWn (A:=ZT4) (a:=[AV.bx (nat_lit 0) (nat_lit 0)]) (b:=[[]]) (q:=[0])
def ZjH (k:Nat) (L1:Zwj):(List Int × Int × Unit) × Int × Int × Unit → Option (Unit × (List Int × Int × Unit) × Unit)
 | ((a0,a1,()),a2,a3,()) => L1 (Jx.wrap (a3 - 1),a2,a1,a0)
def ZN2 (k:Nat):=ZjH k (Zwk k)
theorem ZN4 (k:Nat):∀ n,ZFC k n = Zg (fun L1 => Zfc k L1) n:=ZO
noncomputable def ZT5 (k:Nat):ZE k:=Zy 149 Tryz.f149 (ZT6 k) ZN5 K0 ZN2 (A:=ZT4) (h:=fun x => by show _ = ZjH k (Zwk k) x; rw [show Zwk k = ZFC k k from (ZN4 k k).symm]; kernel_rfl)
abbrev ZMS:List Kd:=[.box [.own (.int .u8) false,.view (.int .i64)],.view (.int .i64),.view (.int .i64)]
def ZpT (k:Nat):(List Int × Int × Unit) × Int × Int × Unit → Option (Int × (List Int × Int × Unit) × Unit)
 | ((a0,a1,()),a2,a3,()) => (ZFB k (a3,())).bind fun y => bif y.1 then some (1,(a0,a1,()),()) else bif decide (a2 < 0) then some (12,(a0,a1,()),()) else bif decide (0 ≤ a3) then bif a2.fdiv ((2:Int) ^ min a3.toNat 64) != (0:Int) then some (12,(a0,a1,()),()) else (ZN2 k ((a0,a1,()),UI.wrap a2,a3,())).bind fun y => some (0,(y.2.1.1,y.2.1.2.1,()),()) else none
def QB (k:Nat):=ZpT k
noncomputable def ZpS (k:Nat):ZE k:=Zy 94 Tryz.f94 [ZN1 k,ZT5 k] ZMS ZB QB
def Zp9 (k:Nat):Int × Unit → Option (Int × Unit)
 | (a0,()) => bif a0 == 1 then some (7,()) else some (Jx.wrap (Jx.wrap ((5:Int) * a0) + 1),())
def ZN7 (k:Nat):=Zp9 k
noncomputable def ZT7 (k:Nat):ZE k:=Zy 150 Tryz.f150 [] Ql ZB ZN7
abbrev ZV2:Kd:=.tup [.view (.sl (.int .u8)),.view (.int .i64)]
def ZXI:Nat → Ann:=fun id => bif Ja id 10 then ⟨[6,5,0,4],[]⟩ else bif Ja id 6 then ⟨[0,4],[]⟩ else ⟨[],[]⟩
noncomputable def ZXJ (k:Nat):ZE k:=Xx 95 Tryz.f95 (fun k => [ZT7 k]) Ql ZV2 (A:=ZXI)
abbrev ZC0:List Kd:=[.view (.sl (.int .u8)),.view (.int .i64),.view (.int .u64)]
noncomputable def ZOc (k:Nat):List (ZE k):=[]
def ZN9:Nat → Ann:=fun id => bif Ja id 7 then ⟨[24,7,1,2,13,12,11],[]⟩ else bif Ja id 3 then ⟨[12,13,11,7,1,2],[]⟩ else ⟨[],[]⟩
abbrev ZOb:=Int × Int × Int × Int × Int × Int × List Int
abbrev Zwl:=ZOb → Option (Int × Unit)
abbrev ZOa:=Int × Int × List Int × Int × Int × Int
abbrev Zlv:=ZOa → Option (Int × Unit)
def ZWp:ZOb → St
 | (v0,v1,v2,v3,v4,v5,v6) => St.mk (Zq [(24,Zl v0),(7,AV.val (PV.v (Jv UI v1))),(1,Zl v2),(2,AV.val (PV.v (Jv UI v3))),(13,Zl v4),(12,Zl v5),(11,AV.val (PV.sl (Ty.int UK) v6))]) (Zp [])
def Zfe (k:Nat) (L1:Zlv) (L2:Zwl):Zwl
 | (v0,v1,v2,v3,v4,v5,v6) => bif decide (v0 < 8) then bif decide (0 ≤ Jx.wrap (v2 - 1)) then bif decide (0 ≤ v2) then L2 (Jx.wrap (v0 + 1),UI.wrap (UD (UH 64 (UI.wrap (UD (UH 64 (UI.wrap (v1 * (2:Int))) &&& UH 64 (UI.wrap (UI.wrap ((1:Int) * (2:Int) ^ min v2.toNat 64) - (1:Int)))).toNat)) ^^^ UH 64 (UI.wrap (UI.wrap (UD (UH 64 (v1.fdiv ((2:Int) ^ min (Jx.wrap (v2 - 1)).toNat 64)) &&& UH 64 (1:Int)).toNat) * v3))).toNat),v2,v3,v4,v5,v6) else none else none else L1 (v5,Jx.wrap (v4 + 1),v6,v1,v2,v3)
def Zwn (k:Nat) (L1:Zlv):Zwl:=Zg (fun L2 => Zfe k L1 L2) k
noncomputable def ZFD (k:Nat) (n1:Nat) (n:Nat):=QI (ZOc k) Tryz.f127 ZC0 ZB [1,1,0,1,0,0,1,1,0,0,1,1,1,0] [n1] n ZWp (A:=ZN9)
def ZWo:ZOa → St
 | (v0,v1,v2,v3,v4,v5) => St.mk (Zq [(12,Zl v0),(13,Zl v1),(11,AV.val (PV.sl (Ty.int UK) v2)),(7,AV.val (PV.v (Jv UI v3))),(1,Zl v4),(2,AV.val (PV.v (Jv UI v5)))]) (Zp [])
def Zfd (k:Nat) (L2:Zwl) (L1:Zlv):Zlv
 | (v0,v1,v2,v3,v4,v5) => bif decide (v1 < v0) then bif decide (0 ≤ v1 ∧ v1 < UD v2.length) then bif decide (0 ≤ Jx.wrap (v4 - 8)) then L2 (0,UI.wrap (UD (UH 64 v3 ^^^ UH 64 (UI.wrap (UI.wrap (v2.getD v1.toNat 0) * (2:Int) ^ min (Jx.wrap (v4 - 8)).toNat 64))).toNat),v4,v5,v1,v0,v2) else none else none else some (Jx.wrap v3,())
def Zwm (k:Nat):Zlv:=Zg (fun L1 => Zfd k (Zwn k L1) L1) k
noncomputable def Zn4 (k:Nat) (n:Nat):=QI (ZOc k) Tryz.f127 ZC0 ZB [1,1,0,1,0] [] n ZWo (A:=ZN9)
def ZjI (k:Nat) (L1:Zlv):List Int × Int × Int × Unit → Option (Int × Unit)
 | (a0,a1,a2,()) => L1 (UD a0.length,(0:Int),a0,(0:Int),a1,a2)
def Zmr (k:Nat):=ZjI k (Zwm k)
theorem ZOe (k:Nat) (n1:Nat):∀ n,ZFD k n1 n = Zg (fun L2 => Zfe k (Zn4 k n1) L2) n:=ZO
theorem ZOd (k:Nat):∀ n,Zn4 k n = Zg (fun L1 => Zfd k (Zwn k L1) L1) n:=ZO (fun n v => by rw [show (Zwn k (Zn4 k n)) = ZFD k n k from (ZOe k n k).symm]; kernel_rfl)
noncomputable def ZT8 (k:Nat):ZE k:=Zy 127 Tryz.f127 (ZOc k) ZC0 ZB Zmr (A:=ZN9) (h:=fun x => by show _ = ZjI k (Zwm k) x; rw [show Zwm k = Zn4 k k from (ZOd k k).symm]; kernel_rfl)
abbrev ZdD:List Kd:=[.view (.sl (.int .u8))]
def ZpU (k:Nat):List Int × Unit → Option (Int × Unit)
 | (a0,()) => (Zmr k (a0,8,7,())).bind fun y => some (y.1,())
def ZMU (k:Nat):=ZpU k
noncomputable def ZTy (k:Nat):ZE k:=Zy 96 Tryz.f96 [ZT8 k] ZdD ZB ZMU
abbrev ZC1:Kd:=.own (.int .u8) false
def ZjJ (k:Nat):List Int × Unit → Option (List Int × Unit):=fun x => Yk x
noncomputable def ZT9 (k:Nat):Ctx:={ P:=Tryz.prog,Φ:=phi [],k:=k,live:=fun _ => [] }
noncomputable def Zzp:Code:=ZJN Tryz.f74
theorem ZSH (k:Nat):Ctr Tryz.prog k 74 (mk ZdD ZC1 ZjJ) :=
 Zsk (C:=ZT9 k) (A:=fun _ => ⟨[],[]⟩) (ZwX ZDZ) ZhS (f:=74) (fn:=Tryz.f74) (o0:=ZlM (ZbB [0] Zzp) 0) (o1:=ZlM (ZbB [1,0,0] Zzp) 0) (o2:=ZlM (ZbB [1,0,0] Zzp) 1)
  (r0:=0) (r1:=1) (X:=ZbB [1,0,1,0] Zzp) (Y:=ZbB [1,1] Zzp) (T:=46) (E:=5) (U:=46) (t:=(.int .u8))
  (by kernel_rfl) (by kernel_rfl) (by kernel_rfl) (by kernel_rfl) (by kernel_rfl) (of_decide_eq_true (by kernel_rfl)) (by kernel_rfl) ⟨by kernel_rfl,by kernel_rfl,by kernel_rfl⟩ ⟨by kernel_rfl,by kernel_rfl,by kernel_rfl⟩ ⟨by kernel_rfl,by kernel_rfl,by kernel_rfl⟩ (fun xs => by kernel_rfl) (by kernel_rfl)
noncomputable def ZOf (k:Nat):ZE k:=⟨(74,mk ZdD ZC1 ZjJ),ZSH k⟩
abbrev ZMX:List Kd:=[.box [.own (.int .u8) false,.view (.int .i64)]]
def ZpV (k:Nat):(List Int × Int × Unit) × Unit → Option (List Int × (List Int × Int × Unit) × Unit)
 | ((a0,a1,()),()) => (ZjJ k (a0,())).bind fun y => some (y.1,(a0,a1,()),())
def ZMW (k:Nat):=ZpV k
noncomputable def ZTz (k:Nat):ZE k:=Zy 97 Tryz.f97 [ZOf k] ZMX ZC1 ZMW (live:=fun r => bif Ja r 999998 then [74] else [])
abbrev ZM0:List Kd:=[.view ZfR,.view (.int .i64)]
abbrev Zlq:Kd:=.view (.sl (.int .i64))
def ZpW (k:Nat):(Int × Int × Int × Unit) × Int × Unit → Option (List Int × Unit)
 | ((a0,a1,a2,()),a3,()) => bif decide ((0:Int) ≤ 0 ∧ (0:Int) ≤ a0 ∧ a0 ≤ UD [a1,a1].length) then bif a3 == 8 then bif decide ((0:Nat) ≤ a0.toNat ∧ a0.toNat ≤ [a1,a1].length ∧ (0:Int) ≤ 1 ∧ (1:Nat) < a0.toNat - (0:Nat)) then bif decide ((0:Nat) ≤ a0.toNat ∧ a0.toNat ≤ [a1,a1].length ∧ (0:Int) ≤ 1 ∧ (1:Nat) < a0.toNat - (0:Nat)) then bif decide ((0:Nat) ≤ a0.toNat ∧ a0.toNat ≤ ([a1,a1].set (1:Nat) (Jx.wrap ([a1,a1].getD 1 0 + (1:Int)))).length) then some (UM 0 (UL a0.toNat ([a1,a1].set (1:Nat) (Jx.wrap ([a1,a1].getD 1 0 + (1:Int))))),()) else none else none else none else bif a3 == 10 then bif decide ((0:Nat) ≤ a0.toNat ∧ a0.toNat ≤ [a1,a1].length ∧ (0:Int) ≤ 1 ∧ (1:Nat) < a0.toNat - (0:Nat)) then bif decide ((0:Nat) ≤ a0.toNat ∧ a0.toNat ≤ [a1,a1].length ∧ (0:Int) ≤ 1 ∧ (1:Nat) < a0.toNat - (0:Nat)) then bif decide ((0:Nat) ≤ a0.toNat ∧ a0.toNat ≤ ([a1,a1].set (1:Nat) (Jx.wrap ([a1,a1].getD 1 0 + (1:Int)))).length) then some (UM 0 (UL a0.toNat ([a1,a1].set (1:Nat) (Jx.wrap ([a1,a1].getD 1 0 + (1:Int))))),()) else none else none else none else bif a3 == 9 then bif decide ((0:Nat) ≤ a0.toNat ∧ a0.toNat ≤ [a1,a1].length ∧ (0:Int) ≤ 0 ∧ (0:Nat) < a0.toNat - (0:Nat)) then bif decide ((0:Nat) ≤ a0.toNat ∧ a0.toNat ≤ [a1,a1].length ∧ (0:Int) ≤ 0 ∧ (0:Nat) < a0.toNat - (0:Nat)) then bif decide ((0:Nat) ≤ a0.toNat ∧ a0.toNat ≤ ([a1,a1].set (0:Nat) (Jx.wrap ([a1,a1].getD 0 0 + (1:Int)))).length) then some (UM 0 (UL a0.toNat ([a1,a1].set (0:Nat) (Jx.wrap ([a1,a1].getD 0 0 + (1:Int))))),()) else none else none else none else bif decide ((0:Nat) ≤ a0.toNat ∧ a0.toNat ≤ [a1,a1].length) then some (UM 0 (UL a0.toNat [a1,a1]),()) else none else none
def ZMZ (k:Nat):=ZpW k
set_option maxHeartbeats 1000000 in
noncomputable def ZTA (k:Nat):ZE k:=Zy 57 Tryz.f57 [] ZM0 Zlq ZMZ (live:=fun r => bif Ja r 999999 then [1] else [])
abbrev ZdE:List Kd:=[.view (.int .i64),.view (.int .i64)]
def Zqh (k:Nat):Int × Int × Unit → Option (Bool × Unit)
 | (a0,a1,()) => bif decide (1 ≤ a0) then bif decide (a0 ≤ 512) then bif decide (4 ≤ a1) then some (decide (a1 ≤ 25),()) else some (false,()) else some (false,()) else some (false,())
def ZOt (k:Nat):=Zqh k
noncomputable def ZUe (k:Nat):ZE k:=Zy 122 Tryz.f122 [] ZdE Qd ZOt
def Zqk (k:Nat):Int × Int × Unit → Option (Bool × Unit)
 | (a0,a1,()) => bif decide (0 ≤ Jx.wrap (a1 - 1)) then bif a0.fdiv ((2:Int) ^ min (Jx.wrap (a1 - 1)).toNat 64) == (0:Int) then some (true,()) else bif decide (0 ≤ Jx.wrap (a1 - 1)) then some (a0.fdiv ((2:Int) ^ min (Jx.wrap (a1 - 1)).toNat 64) == (-1:Int),()) else none else none
def ZOz (k:Nat):=Zqk k
noncomputable def ZUg (k:Nat):ZE k:=Zy 125 Tryz.f125 [] ZdE Qd ZOz
abbrev ZQQ:List Kd:=[.view (.int .i64),.box [.view (.int .i64)]]
noncomputable def ZUT (k:Nat):ZE k:=Xx 194 Tryz.f194 (fun k => [ZUg k]) ZQQ Qd
abbrev ZsC:List Kd:=[.view (.sl (.int .i64)),.clo 194 [.box [.view (.int .i64)]]]
def Zaf:Nat → Ann:=fun id => bif Ja id 2 then ⟨[7,8,1,0],[]⟩ else ⟨[],[]⟩
noncomputable def ZKT (k:Nat):ZE k:=Xx 241 Tryz.f241 (fun k => [ZUT k]) ZsC ZB (A:=Zaf)
noncomputable def ZJ9 (k:Nat):ZE k:=Xx 193 Tryz.f193 (fun k => [ZKT k]) ZsC Qd
abbrev Yp:List Kd:=[.view (.sl (.int .i64)),.view (.int .i64)]
noncomputable def ZX5 (k:Nat):ZE k:=Xx 151 Tryz.f151 (fun k => [ZUe k,ZJ9 k]) Yp ZB
abbrev ZQS:List Kd:=[.view (.int .i64),.box [.view (.int .i64),.view (.int .i64),.view (.int .i64),.view (.sl (.int .i64)),.view (.sl (.int .i64)),.view (.int .i64),.view (.sl (.int .i64)),.view (.int .i64)]]
noncomputable def ZUX (k:Nat):ZE k:=Xx 197 Tryz.f197 (fun k => []) ZQS Qd
abbrev ZsD:List Kd:=[.view (.sl (.int .i64)),.clo 197 [.box [.view (.int .i64),.view (.int .i64),.view (.int .i64),.view (.sl (.int .i64)),.view (.sl (.int .i64)),.view (.int .i64),.view (.sl (.int .i64)),.view (.int .i64)]]]
noncomputable def ZKU (k:Nat):ZE k:=Xx 241 Tryz.f241 (fun k => [ZUX k]) ZsD ZB (A:=Zaf)
noncomputable def ZKa (k:Nat):ZE k:=Xx 193 Tryz.f193 (fun k => [ZKU k]) ZsD Qd
abbrev Znt:List Kd:=[.view (.int .u64)]
def ZKY (k:Nat):Int × Unit → Option (Int × Unit):=fun x => tzF x
def ZYJ:Go.Shelf.Ren:=⟨fun n => match n with | 29 => 242 | _ => 0,fun n => match n with | 0 => 0 | 3 => 3 | 4 => 4 | 5 => 5 | 22 => 124 | 25 => 62 | 54 => 301 | _ => 0,fun n => match n with | 1 => 4 | _ => 0⟩
set_option maxRecDepth 100000 in
theorem ZW8:Go.Proofs.Lays7.n29 Tryz.prog ZYJ:=by
 constructor <;> first | kernel_rfl | (intro w; rfl)
set_option maxRecDepth 100000 in
theorem ZKZ (k:Nat):Ctr Tryz.prog k 242 (mk Znt ZB ZKY):=ZW9 ZW8 (fn:=Tryz.f242) (by kernel_rfl) rfl (by kernel_rfl) (by kernel_rfl) (by kernel_rfl)
noncomputable def ZVj (k:Nat):ZE k:=⟨(242,mk Znt ZB ZKY),ZKZ k⟩
def ZUU:Nat → Ann:=fun id => bif Ja id 3 then ⟨[7,8,6,3],[]⟩ else ⟨[],[]⟩
noncomputable def ZUV (k:Nat):ZE k:=Xx 195 Tryz.f195 (fun k => [ZVj k]) Zlx ZB (A:=ZUU)
abbrev Zf9:Kd:=.tup [.view ZfF,.view (.int .i64)]
noncomputable def ZuG (k:Nat):List (ZE k):=[]
def ZuB:Nat → Ann:=fun id => bif Ja id 17 then ⟨[48,49,47,8,2],[.cell 8 0 ((Ty.int Jx))]⟩ else bif Ja id 9 then ⟨[29,30,28,5,20,19,2],[]⟩ else bif Ja id 5 then ⟨[19,20,4,2],[]⟩ else ⟨[],[]⟩
abbrev ZEa:=Int × Int × Int × Int × List Int × List Int × Int
abbrev ZmZ:=ZEa → Option (((List Int × Int × Unit) × Int × Unit) × Unit)
abbrev Zm2:=Int × Int × List Int × Int × List Int × Int
abbrev Zm0:=Zm2 → Option (((List Int × Int × Unit) × Int × Unit) × Unit)
abbrev Zm1:=Int × Int × List Int × Int
abbrev Zf8:=Zm1 → Option (((List Int × Int × Unit) × Int × Unit) × Unit)
def ZQU:ZEa → St
 | (v0,v1,v2,v3,v4,v5,v6) => St.mk (Zq [(29,Zl v0),(30,Zl v1),(28,AV.own 8192),(5,AV.own 8193),(20,Zl v2),(19,Zl v3),(2,AV.bx 8194 0)]) (Zp [(8192,rsA v4 false),(8193,rsA v5 false),(8194,QQ [AV.val (PV.v (V4 none (0:Nat) (0:Nat))),Zl v6])])
def Zsu (k:Nat) (L1:Zf8) (L2:ZmZ):ZmZ
 | (v0,v1,v2,v3,v4,v5,v6) => bif decide (v1 < v0) then bif decide (0 ≤ v1 ∧ v1 < UD v4.length) then bif decide (v1.toNat < v4.length) then bif decide (0 ≤ Jx.wrap (v1 + 1) ∧ Jx.wrap (v1 + 1) < UD v5.length) then bif decide ((Jx.wrap (v1 + 1)).toNat < v5.length) then bif decide (0 ≤ Jx.wrap (v1 + 1) ∧ Jx.wrap (v1 + 1) < UD v5.length) then bif decide ((Jx.wrap (v1 + 1)).toNat < v5.length) then L2 (v0,Jx.wrap (v1 + 1),v2,v3,v4,v5.set (Jx.wrap (v1 + 1)).toNat (Jx.wrap (v5.getD (Jx.wrap (v1 + 1)).toNat 0 - v4.getD v1.toNat 0)),v6) else none else none else none else none else none else none else L1 (v3,Jx.wrap (v2 + 1),v5,v6)
def ZuE (k:Nat) (L1:Zf8):ZmZ:=Zg (fun L2 => Zsu k L1 L2) k
noncomputable def ZxQ (k:Nat) (n1:Nat) (n:Nat):=QI (ZuG k) Tryz.f171 Ql Zf9 [1,1,1,0,1,0,0,1,1,0,0,1,1,0,1,0] [n1] n ZQU (A:=ZuB)
def ZQV:Zm2 → St
 | (v0,v1,v2,v3,v4,v5) => St.mk (Zq [(48,Zl v0),(49,Zl v1),(47,avL v2),(8,AV.bx 8192 0),(2,AV.bx 8194 0)]) (Zp [(8192,QQ [AV.own 8193,Zl v3]),(8193,rsA v4 false),(8194,QQ [AV.val (PV.v (V4 none (0:Nat) (0:Nat))),Zl v5])])
def Zsv (k:Nat) (L3:Zm0):Zm0
 | (v0,v1,v2,v3,v4,v5) => bif decide (v1 < v0) then bif decide (0 ≤ v1 ∧ v1 < UD v2.length) then bif decide (v4.length + [Jx.wrap ((0:Int) - v2.getD v1.toNat 0)].length < 2147483648) then L3 (v0,Jx.wrap (v1 + 1),v2,v3,v4 ++ [Jx.wrap ((0:Int) - v2.getD v1.toNat 0)],v5) else none else none else some (((v4,v3,()),0,()),())
def ZuF (k:Nat):Zm0:=Zg (fun L3 => Zsv k L3) k
noncomputable def ZxR (k:Nat) (n:Nat):=QI (ZuG k) Tryz.f171 Ql Zf9 [1,1,1,1,1,0,1,0] [] n ZQV (A:=ZuB)
def ZQT:Zm1 → St
 | (v0,v1,v2,v3) => St.mk (Zq [(19,Zl v0),(20,Zl v1),(4,AV.own 8192),(2,AV.bx 8193 0)]) (Zp [(8192,rsA v2 false),(8193,QQ [AV.val (PV.v (V4 none (0:Nat) (0:Nat))),Zl v3])])
def Zst (k:Nat) (L2:ZmZ) (L3:Zm0) (L1:Zf8):Zf8
 | (v0,v1,v2,v3) => bif decide (v1 < v0) then bif decide ((0:Nat) + v2.length < 2147483648) then bif decide (([] ++ v2).length + (1:Nat) < (2147483648:Nat)) then L2 (UD v2.length,(0:Int),v1,v0,v2,[] ++ v2 ++ [(0:Int)],v3) else none else none else bif decide ((0:Int) ≤ 1 ∧ (1:Int) ≤ UD v2.length ∧ UD v2.length ≤ UD v2.length) then L3 (UD (UM 1 (UL (UD v2.length).toNat v2)).length,(0:Int),UM 1 (UL (UD v2.length).toNat v2),(0:Int),[],v3) else none
def ZuD (k:Nat):Zf8:=Zg (fun L1 => Zst k (ZuE k L1) (ZuF k) L1) k
noncomputable def Ziq (k:Nat) (n:Nat):=QI (ZuG k) Tryz.f171 Ql Zf9 [1,1,1,0,1,0] [] n ZQT (A:=ZuB)
def Zss (k:Nat) (L1:Zf8):Int × Unit → Option (((List Int × Int × Unit) × Int × Unit) × Unit)
 | (a0,()) => bif decide (a0 < 0) then some ((([],(0:Int),()),1,()),()) else bif decide ((4:Int) < a0) then some ((([],(0:Int),()),1,()),()) else L1 (a0,(0:Int),[(1:Int)],(0:Int))
def ZuC (k:Nat):=Zss k (ZuD k)
theorem ZG2 (k:Nat) (n1:Nat):∀ n,ZxQ k n1 n = Zg (fun L2 => Zsu k (Ziq k n1) L2) n:=ZO
theorem ZG3 (k:Nat):∀ n,ZxR k n = Zg (fun L3 => Zsv k L3) n:=ZO
theorem ZG1 (k:Nat):∀ n,Ziq k n = Zg (fun L1 => Zst k (ZuE k L1) (ZuF k) L1) n:=ZO (fun n v => by rw [show (ZuE k (Ziq k n)) = ZxQ k n k from (ZG2 k n k).symm,show (ZuF k) = ZxR k k from (ZG3 k k).symm]; kernel_rfl)
noncomputable def ZA7 (k:Nat):ZE k:=Zy 171 Tryz.f171 (ZuG k) Ql Zf9 ZuC (A:=ZuB) (h:=fun x => by show _ = Zss k (ZuD k) x; rw [show ZuD k = Ziq k k from (ZG1 k k).symm]; kernel_rfl)
def Zk7 (k:Nat):Int × Unit → Option (Bool × Unit)
 | (a0,()) => bif decide (a0 ≤ -2147483648) then some (true,()) else some (decide (2147483648 ≤ a0),())
def Zpg (k:Nat):=Zk7 k
noncomputable def ZBh (k:Nat):ZE k:=Zy 220 Tryz.f220 [] Ql Qd Zpg
abbrev Zk4:List Kd:=[.view (.sl (.int .i64)),.fn 220]
noncomputable def Zx5 (k:Nat):List (ZE k):=[ZBh k]
abbrev Zcb:=Int × Int × List Int
abbrev Yd:=Zcb → Option (Int × Unit)
def ZHG:Zcb → St
 | (v0,v1,v2) => St.mk (Zq [(7,Zl v0),(8,Zl v1),(1,AV.fn 220),(0,avL v2)]) (Zp [])
def Kn (k:Nat) (L1:Yd):Yd
 | (v0,v1,v2) => bif decide (v1 < v0) then bif decide (0 ≤ v1 ∧ v1 < UD v2.length) then (Zpg k (v2.getD v1.toNat 0,())).bind fun y => bif y.1 then some (v1,()) else L1 (v0,Jx.wrap (v1 + 1),v2) else none else some ((-1:Int),())
def Zk3 (k:Nat):Yd:=Zg (fun L1 => Kn k L1) k
noncomputable def Zpd (k:Nat) (n:Nat):=QI (Zx5 k) Tryz.f241 Zk4 ZB [1,0,1,0] [] n ZHG (A:=Zaf)
def Zmo (k:Nat) (L1:Yd):List Int × Unit × Unit → Option (Int × Unit)
 | (a0,(),()) => L1 (UD a0.length,(0:Int),a0)
def Zpc (k:Nat):=Zmo k (Zk3 k)
theorem Zx6 (k:Nat):∀ n,Zpd k n = Zg (fun L1 => Kn k L1) n:=ZO
noncomputable def ZKV (k:Nat):ZE k:=Zy 241 Tryz.f241 (Zx5 k) Zk4 ZB Zpc (A:=Zaf) (h:=fun x => by show _ = Zmo k (Zk3 k) x; rw [show Zk3 k = Zpd k k from (Zx6 k k).symm]; kernel_rfl)
def Zet (k:Nat):List Int × Unit × Unit → Option (Bool × Unit)
 | (a0,(),()) => (Zpc k (a0,(),())).bind fun y => some (decide ((0:Int) ≤ y.1),())
def Zes (k:Nat):=Zet k
noncomputable def Zo1 (k:Nat):ZE k:=Zy 193 Tryz.f193 [ZKV k] Zk4 Qd Zes
def Zll (k:Nat):Int × Unit → Option (Bool × Unit)
 | (a0,()) => bif decide (a0 < -2048) then some (true,()) else some (decide ((2047:Int) < a0),())
def ZBA (k:Nat):=Zll k
noncomputable def ZVQ (k:Nat):ZE k:=Zy 257 Tryz.f257 [] Ql Qd ZBA
abbrev Zk6:List Kd:=[.view (.sl (.int .i64)),.fn 257]
noncomputable def Zx7 (k:Nat):List (ZE k):=[ZVQ k]
def ZHH:Zcb → St
 | (v0,v1,v2) => St.mk (Zq [(7,Zl v0),(8,Zl v1),(1,AV.fn 257),(0,avL v2)]) (Zp [])
def Ko (k:Nat) (L1:Yd):Yd
 | (v0,v1,v2) => bif decide (v1 < v0) then bif decide (0 ≤ v1 ∧ v1 < UD v2.length) then (ZBA k (v2.getD v1.toNat 0,())).bind fun y => bif y.1 then some (v1,()) else L1 (v0,Jx.wrap (v1 + 1),v2) else none else some ((-1:Int),())
def Zk5 (k:Nat):Yd:=Zg (fun L1 => Ko k L1) k
noncomputable def Zpf (k:Nat) (n:Nat):=QI (Zx7 k) Tryz.f241 Zk6 ZB [1,0,1,0] [] n ZHH (A:=Zaf)
def Zmp (k:Nat) (L1:Yd):List Int × Unit × Unit → Option (Int × Unit)
 | (a0,(),()) => L1 (UD a0.length,(0:Int),a0)
def Zpe (k:Nat):=Zmp k (Zk5 k)
theorem Zx8 (k:Nat):∀ n,Zpf k n = Zg (fun L1 => Ko k L1) n:=ZO
noncomputable def ZKX (k:Nat):ZE k:=Zy 241 Tryz.f241 (Zx7 k) Zk6 ZB Zpe (A:=Zaf) (h:=fun x => by show _ = Zmp k (Zk5 k) x; rw [show Zk5 k = Zpf k k from (Zx8 k k).symm]; kernel_rfl)
def Zeu (k:Nat):List Int × Unit × Unit → Option (Bool × Unit)
 | (a0,(),()) => (Zpe k (a0,(),())).bind fun y => some (decide ((0:Int) ≤ y.1),())
def Zo2 (k:Nat):=Zeu k
noncomputable def ZKb (k:Nat):ZE k:=Zy 193 Tryz.f193 [ZKX k] Zk6 Qd Zo2
abbrev Zu4:List Kd:=[.view ZfF]
def Zld (k:Nat):(List Int × Int × Unit) × Unit → Option (Int × Unit)
 | ((a0,a1,()),()) => bif decide ((8:Int) < UD a0.length) then some (2,()) else bif decide (a1 < 0) then some (2,()) else bif decide ((15:Int) < a1) then some (2,()) else (Zo2 k (a0,(),())).bind fun y => bif y.1 then some (2,()) else some (0,())
def Zu3 (k:Nat):=Zld k
noncomputable def ZLi (k:Nat):ZE k:=Zy 219 Tryz.f219 [ZKb k] Zu4 ZB Zu3
abbrev Zgt:List Kd:=[.view ZfF,.view (.sl (.int .i64))]
noncomputable def ZLl (k:Nat):List (ZE k):=[]
def ZLj:Nat → Ann:=fun id => bif Ja id 3 then ⟨[10,11,9,5,1,2],[]⟩ else ⟨[],[]⟩
abbrev ZEw:=Int × Int × List Int × Int × List Int × List Int × Int
abbrev ZnH:=ZEw → Option (Int × Unit)
def ZRp:ZEw → St
 | (v0,v1,v2,v3,v4,v5,v6) => St.mk (Zq [(10,Zl v0),(11,Zl v1),(9,avL v2),(5,Zl v3),(1,avL v4),(2,AV.bx 8192 0)]) (Zp [(8192,QQ [avL v5,Zl v6])])
def Zcg (k:Nat) (L1:ZnH):ZnH
 | (v0,v1,v2,v3,v4,v5,v6) => bif decide (v1 < v0) then bif decide (0 ≤ v1 ∧ v1 < UD v2.length) then bif decide (0 ≤ Jx.wrap (Jx.wrap (UD v4.length - (1:Int)) - v1) ∧ Jx.wrap (Jx.wrap (UD v4.length - (1:Int)) - v1) < UD v4.length) then L1 (v0,Jx.wrap (v1 + 1),v2,Jx.wrap (v3 + Jx.wrap (v2.getD v1.toNat 0 * v4.getD (Jx.wrap (Jx.wrap (UD v4.length - (1:Int)) - v1)).toNat 0)),v4,v5,v6) else none else none else bif decide (0 ≤ v6) then some (v3.fdiv ((2:Int) ^ min v6.toNat 64),()) else none
def ZnI (k:Nat):ZnH:=Zg (fun L1 => Zcg k L1) k
noncomputable def Zyi (k:Nat) (n:Nat):=QI (ZLl k) Tryz.f222 Zgt ZB [1,1,0,1,0] [] n ZRp (A:=ZLj)
def Zgu (k:Nat) (L1:ZnH):(List Int × Int × Unit) × List Int × Unit → Option (Int × Unit)
 | ((a0,a1,()),a2,()) => L1 (UD a0.length,(0:Int),a0,(0:Int),a2,a0,a1)
def Zu5 (k:Nat):=Zgu k (ZnI k)
theorem ZH6 (k:Nat):∀ n,Zyi k n = Zg (fun L1 => Zcg k L1) n:=ZO
noncomputable def ZLk (k:Nat):ZE k:=Zy 222 Tryz.f222 (ZLl k) Zgt ZB Zu5 (A:=ZLj) (h:=fun x => by show _ = Zgu k (ZnI k) x; rw [show ZnI k = Zyi k k from (ZH6 k k).symm]; kernel_rfl)
abbrev WJ:Kd:=.tup [.view (.sl (.int .i64)),.view (.int .i64)]
noncomputable def ZK3 (k:Nat):List (ZE k):=[Zo1 k,ZBh k,ZLi k,ZLk k]
def ZK0:Nat → Ann:=fun id => bif Ja id 9 then ⟨[7,1,2,6],[.slot 6 ((Ty.int Jx))]⟩ else ⟨[],[]⟩
abbrev ZuQ:=Int × List Int × List Int × Int × List Int
abbrev Zbo:=ZuQ → Option ((List Int × Int × Unit) × Unit)
def ZRd:ZuQ → St
 | (v0,v1,v2,v3,v4) => St.mk (Zq [(7,Zl v0),(1,avL v1),(2,AV.bx 8192 0),(6,AV.own 8193)]) (Zp [(8192,QQ [avL v2,Zl v3]),(8193,rsA v4 false)])
def ZsG (k:Nat) (L1:Zbo):Zbo
 | (v0,v1,v2,v3,v4) => bif decide (v0 < UD v1.length) then bif decide (0 ≤ v0 ∧ v0 < UD v1.length) then bif decide ((0:Int) ≤ 0 ∧ (0:Int) ≤ v0 ∧ v0 ≤ UD v1.length) then (Zu5 k ((v2,v3,()),UM 0 (UL v0.toNat v1),())).bind fun y => (Zpg k (Jx.wrap (v1.getD v0.toNat 0 - y.1),())).bind fun y_1 => bif y_1.1 then some (([],12,()),()) else bif decide (v4.length + [Jx.wrap (v1.getD v0.toNat 0 - y.1)].length < 2147483648) then L1 (Jx.wrap (v0 + 1),v1,v2,v3,v4 ++ [Jx.wrap (v1.getD v0.toNat 0 - y.1)]) else none else none else none else some ((v4,0,()),())
def ZuP (k:Nat):Zbo:=Zg (fun L1 => ZsG k L1) k
noncomputable def Zx9 (k:Nat) (n:Nat):=QI (ZK3 k) Tryz.f243 Zgt WJ [1,1,1,0,1,0] [] n ZRd (A:=ZK0)
def ZsF (k:Nat) (L1:Zbo):(List Int × Int × Unit) × List Int × Unit → Option ((List Int × Int × Unit) × Unit)
 | ((a0,a1,()),a2,()) => (Zu3 k ((a0,a1,()),())).bind fun y => bif y.1 != 0 then some (([],2,()),()) else bif decide (UD a2.length < UD a0.length) then some (([],1,()),()) else (Zes k (a2,(),())).bind fun y => bif y.1 then some (([],12,()),()) else L1 (UD a0.length,a2,a0,a1,[])
def ZK1 (k:Nat):=ZsF k (ZuP k)
theorem ZHI (k:Nat):∀ n,Zx9 k n = Zg (fun L1 => ZsG k L1) n:=ZO
noncomputable def ZK2 (k:Nat):ZE k:=Zy 243 Tryz.f243 (ZK3 k) Zgt WJ ZK1 (A:=ZK0) (h:=fun x => by show _ = ZsF k (ZuP k) x; rw [show ZuP k = Zx9 k k from (ZHI k k).symm]; kernel_rfl)
noncomputable def ZVr (k:Nat):ZE k:=Xx 247 Tryz.f247 (fun k => []) Ql Qd
abbrev ZsE:List Kd:=[.view (.sl (.int .i64)),.fn 247]
noncomputable def ZKW (k:Nat):ZE k:=Xx 241 Tryz.f241 (fun k => [ZVr k]) ZsE ZB (A:=Zaf)
noncomputable def ZxO (k:Nat):ZE k:=Xx 193 Tryz.f193 (fun k => [ZKW k]) ZsE Qd
def Zk8 (k:Nat):Int × Int × Unit → Option (Bool × Unit)
 | (a0,a1,()) => bif decide (1 ≤ a0) then bif decide (a0 ≤ 512) then bif decide (0 ≤ a1) then some (decide (a1 ≤ if a0 < 8 then a0 else (8:Int)),()) else some (false,()) else some (false,()) else some (false,())
def ZBi (k:Nat):=Zk8 k
noncomputable def ZBj (k:Nat):ZE k:=Zy 216 Tryz.f216 [] ZdE Qd ZBi
noncomputable def ZU1 (k:Nat):List Int × Int × Unit → Option (Int × Unit):=ZzR k fun k => ZDB (cxP k [ZxO k,ZBj k] nL) nA Tryz.f201 Yp ZB
noncomputable def ZKe (k:Nat):ZE k:=Xx 201 Tryz.f201 (fun k => [ZxO k,ZBj k]) Yp ZB
abbrev ZuH:List Kd:=[.view (.sl (.int .i64)),.view (.int .i64),.view (.int .i64)]
abbrev ZQY:Kd:=.view (.sl (.sl (.int .i64)))
def ZU3:Nat → Ann:=fun id => bif Ja id 4 then ⟨[8,2,9,7],[]⟩ else ⟨[],[]⟩
noncomputable def ZA8 (k:Nat):ZE k:=Xx 203 Tryz.f203 (fun k => []) ZuH ZQY (A:=ZU3)
def ZG5 (k:Nat):Int × Unit → Option (Int × Unit)
 | (a0,()) => some (Jx.wrap ((4:Int) + a0),())
def Zev (k:Nat):=ZG5 k
noncomputable def ZA9 (k:Nat):ZE k:=Zy 204 Tryz.f204 [] Ql ZB Zev
theorem ZXx (k:Nat):Ctr Tryz.prog k 204 (mk Ql ZB Zev):=(ZA9 k).2
abbrev Znw:List Kd:=[.view (.int .i64),.view (.int .i64),.view (.int .i64)]
def Zk9 (k:Nat):Int × Int × Int × Unit → Option (Bool × Unit)
 | (a0,a1,a2,()) => bif decide (0 ≤ a2) then bif Jx.wrap (UD (UH 64 a0 &&& UH 64 (Jx.wrap (Jx.wrap ((1:Int) * (2:Int) ^ min a2.toNat 64) - (1:Int)))).toNat) == 0 then bif decide (0 ≤ a2) then some (decide (a1 ≤ a0.fdiv ((2:Int) ^ min a2.toNat 64)),()) else none else some (false,()) else none
def Zhr (k:Nat):=Zk9 k
noncomputable def ZBl (k:Nat):ZE k:=Zy 217 Tryz.f217 [] Znw Qd Zhr
theorem ZXD (k:Nat):Ctr Tryz.prog k 217 (mk Znw Qd Zhr):=(ZBl k).2
def ZG8 (k:Nat):Int × Unit → Option (Int × Unit)
 | (a0,()) => (Zev k (a0,())).bind fun y => bif decide ((0:Int) ≤ y.1) then some (Jx.wrap (Jx.wrap ((1:Int) * (2:Int) ^ min (US y.1) (64:Nat)) - (1:Int)),()) else none
def Zew (k:Nat):=ZG8 k
noncomputable def ZKh (k:Nat):ZE k:=Zy 205 Tryz.f205 [ZA9 k] Ql ZB Zew
theorem ZXy (k:Nat):Ctr Tryz.prog k 205 (mk Ql ZB Zew):=(ZKh k).2
def ZHc (k:Nat):Int × Unit → Option ((Int × Int × Unit) × Unit)
 | (a0,()) => bif decide (a0 < -1099511627776) then some ((0,12,()),()) else bif decide ((1099511627776:Int) < a0) then some ((0,12,()),()) else some ((Jx.wrap (UD (UH 64 (Jx.wrap (a0 * (2:Int))) ^^^ UH 64 (a0.fdiv (9223372036854775808:Int))).toNat),0,()),())
def Zo4 (k:Nat):=ZHc k
noncomputable def ZKj (k:Nat):ZE k:=Zy 206 Tryz.f206 [] Ql QY Zo4
theorem ZXz (k:Nat):Ctr Tryz.prog k 206 (mk Ql QY Zo4):=(ZKj k).2
def ZBC (k:Nat):Int × Unit → Option (Int × Unit):=fun x => ZWM x
def ZWN:Go.Shelf.Ren:=⟨fun n => match n with | 129 => 270 | _ => 0,fun n => match n with | 0 => 0 | 3 => 3 | 4 => 4 | 5 => 5 | 9 => 9 | 46 => 62 | 53 => 124 | _ => 0,fun n => n⟩
set_option maxRecDepth 100000 in
theorem ZSU:Go.Proofs.Lays.n129 Tryz.prog ZWN:=by
 constructor <;> first | kernel_rfl | (intro w; rfl)
set_option maxRecDepth 100000 in
theorem ZLy (k:Nat):Ctr Tryz.prog k 270 (mk Znt ZB ZBC):=ZIS ZSU (fn:=Tryz.f270) (by kernel_rfl) (by kernel_rfl) (by kernel_rfl) (by kernel_rfl)
noncomputable def ZVR (k:Nat):ZE k:=⟨(270,mk Znt ZB ZBC),ZLy k⟩
def ZIc (k:Nat):Int × Unit → Option (Int × Unit)
 | (a0,()) => (ZBC k (UI.wrap (Jx.wrap (UD (UH 64 a0 ^^^ UH 64 (a0.fdiv (9223372036854775808:Int))).toNat)),())).bind fun y => some (Jx.wrap (y.1 + 1),())
def ZLo (k:Nat):=ZIc k
noncomputable def ZVG (k:Nat):ZE k:=Zy 267 Tryz.f267 [ZVR k] Ql ZB ZLo
def Zex (k:Nat):Int × Unit → Option (Int × Unit):=match k with | 0 => Zew 0 | n + 1 => Zew (n + 1)
theorem Zsy:Zex = Zew:=by funext k; cases k <;> rfl
theorem ZG7 (k:Nat):Ctr Tryz.prog k 205 (mk Ql ZB Zex):=by rw [Zsy]; exact (ZKh k).2
noncomputable def ZuI (k:Nat):ZE k:=⟨(205,mk Ql ZB Zex),ZG7 k⟩
def ZuJ (k:Nat):Int × Unit → Option ((Int × Int × Unit) × Unit):=match k with | 0 => Zo4 0 | n + 1 => Zo4 (n + 1)
theorem ZHa:ZuJ = Zo4:=by funext k; cases k <;> rfl
theorem ZHb (k:Nat):Ctr Tryz.prog k 206 (mk Ql QY ZuJ):=by rw [ZHa]; exact (ZKj k).2
noncomputable def ZEc (k:Nat):ZE k:=⟨(206,mk Ql QY ZuJ),ZHb k⟩
abbrev Znz:Kd:=.tup [.view ZPT,.view .bool]
noncomputable def ZuX (k:Nat):List (ZE k):=[ZuI k,ZEc k,ZVG k]
noncomputable def ZuT:Nat → Ann:=fun id => bif Ja id 16 then ⟨[55,56,54,13,12,14,7,6,46,45,0,8,9,1,4],[]⟩ else bif Ja id 12 then ⟨[45,46,0,8,7,6,9,1,4],[]⟩ else bif Ja id 5 then ⟨[23,24,22,8,9,1,0,7,6,4],[]⟩ else ⟨[],[]⟩
abbrev ZEs:=Int × Int × Int × Int × Bool × Bool × Int × Int × List Int × Int × Int × List Int × Int × Int × Int × Int × Int × Int
abbrev Zny:=ZEs → Option (((Int × Int × Int × Unit) × Bool × Unit) × Unit)
abbrev ZEr:=Int × Int × List Int × Bool × Int × Int × List Int × Int × Int × Int × Int × Int × Int
abbrev Zgo:=ZEr → Option (((Int × Int × Int × Unit) × Bool × Unit) × Unit)
abbrev ZEq:=Int × Int × List Int × Int × Int × List Int × Bool × List Int × Int × Int × Int × Int × Int × Int
abbrev Znx:=ZEq → Option (((Int × Int × Int × Unit) × Bool × Unit) × Unit)
noncomputable def ZRi:ZEs → St
 | (v0,v1,v2,v3,v4,v5,v6,v7,v8,v9,v10,v11,v12,v13,v14,v15,v16,v17) => St.mk (Zq [(55,Zl v0),(56,Zl v1),(54,AV.own 8192),(13,Zl v2),(12,Zl v3),(14,avB v4),(7,avB v5),(6,AV.bx 8193 0),(46,Zl v6),(45,Zl v7),(0,avL v8),(8,AV.own 8192),(9,Zl v9),(1,Zl v10),(4,AV.bx 8194 0)]) (Zp [(8192,rsA v11 false),(8193,QQ [Zl v12,Zl v13,Zl v14]),(8194,QQ [Zl v15,Zl v16,Zl v17])])
noncomputable def ZsN (k:Nat) (L2:Zgo) (L3:Zny):Zny
 | (v0,v1,v2,v3,v4,v5,v6,v7,v8,v9,v10,v11,v12,v13,v14,v15,v16,v17) => bif decide (v1 < v0) then bif decide (0 ≤ v1 ∧ v1 < UD v11.length) then bif decide (v1.toNat < v11.length) then bif decide (0 ≤ v3) then bif v4 then L3 (v0,Jx.wrap (v1 + 1),Jx.wrap (v2 + UP (v11.getD v1.toNat 0) ((2:Int) ^ min v3.toNat 64)),v3,true,v5,v6,v7,v8,v9,v10,v11,v12,v13,v14,v15,v16,v17) else bif decide (0 ≤ v3) then L3 (v0,Jx.wrap (v1 + 1),Jx.wrap (v2 + UP (v11.getD v1.toNat 0) ((2:Int) ^ min v3.toNat 64)),v3,decide ((65536:Int) < UP (v11.getD v1.toNat 0) ((2:Int) ^ min v3.toNat 64)),v5,v6,v7,v8,v9,v10,v11,v12,v13,v14,v15,v16,v17) else none else none else none else none else bif !v4 then bif !v5 then L2 (v7,Jx.wrap (v6 + 1),v8,true,v9,v10,v11,v3,(0:Int),v2,v15,v16,v17) else bif decide (v2 < v14) then L2 (v7,Jx.wrap (v6 + 1),v8,true,v9,v10,v11,v3,(0:Int),v2,v15,v16,v17) else L2 (v7,Jx.wrap (v6 + 1),v8,v5,v9,v10,v11,v12,v13,v14,v15,v16,v17) else L2 (v7,Jx.wrap (v6 + 1),v8,v5,v9,v10,v11,v12,v13,v14,v15,v16,v17)
noncomputable def ZuW (k:Nat) (L2:Zgo):Zny:=Zg (fun L3 => ZsN k L2 L3) k
noncomputable def Zyc (k:Nat) (n2:Nat) (n:Nat):=QI (ZuX k) Tryz.f248 Yp Znz [1,1,1,1,1,0,1,0,0,1,1,0,0,1,1,0,1,0] [n2] n ZRi (A:=ZuT)
noncomputable def ZRh:ZEr → St
 | (v0,v1,v2,v3,v4,v5,v6,v7,v8,v9,v10,v11,v12) => St.mk (Zq [(45,Zl v0),(46,Zl v1),(0,avL v2),(8,AV.own 8192),(7,avB v3),(6,AV.bx 8193 0),(9,Zl v4),(1,Zl v5),(4,AV.bx 8194 0)]) (Zp [(8192,rsA v6 false),(8193,QQ [Zl v7,Zl v8,Zl v9]),(8194,QQ [Zl v10,Zl v11,Zl v12])])
noncomputable def ZsM (k:Nat) (L3:Zny) (L2:Zgo):Zgo
 | (v0,v1,v2,v3,v4,v5,v6,v7,v8,v9,v10,v11,v12) => bif decide (v1 < v0) then L3 (UD v6.length,(0:Int),Jx.wrap (Jx.wrap (v1 + 1) * UD v2.length),v1,false,v3,v1,v0,v2,v4,v5,v6,v7,v8,v9,v10,v11,v12) else bif decide (v4 ≤ 31) then bif !v3 then (Zex k (v5,())).bind fun y => some (((y.1,v4,Jx.wrap ((5:Int) + Jx.wrap (v4 * UD v2.length)),()),true,()),()) else bif decide (Jx.wrap ((5:Int) + Jx.wrap (v4 * UD v2.length)) < v9) then (Zex k (v5,())).bind fun y => some (((y.1,v4,Jx.wrap ((5:Int) + Jx.wrap (v4 * UD v2.length)),()),true,()),()) else some (((v7,v8,v9,()),v3,()),()) else some (((v7,v8,v9,()),v3,()),())
noncomputable def ZuV (k:Nat):Zgo:=Zg (fun L2 => ZsM k (ZuW k L2) L2) k
noncomputable def Zit (k:Nat) (n:Nat):=QI (ZuX k) Tryz.f248 Yp Znz [1,1,1,1,1,0,1,0] [] n ZRh (A:=ZuT)
noncomputable def ZRg:ZEq → St
 | (v0,v1,v2,v3,v4,v5,v6,v7,v8,v9,v10,v11,v12,v13) => St.mk (Zq [(23,Zl v0),(24,Zl v1),(22,avL v2),(8,AV.own 8192),(9,Zl v3),(1,Zl v4),(0,avL v5),(7,avB v6),(6,AV.bx 8193 0),(4,AV.bx 8194 0)]) (Zp [(8192,rsA v7 false),(8193,QQ [Zl v8,Zl v9,Zl v10]),(8194,QQ [Zl v11,Zl v12,Zl v13])])
noncomputable def ZsL (k:Nat) (L2:Zgo) (L1:Znx):Znx
 | (v0,v1,v2,v3,v4,v5,v6,v7,v8,v9,v10,v11,v12,v13) => bif decide (v1 < v0) then bif decide (0 ≤ v1 ∧ v1 < UD v2.length) then (ZuJ k (v2.getD v1.toNat 0,())).bind fun y => bif decide (0 ≤ v1 ∧ v1 < UD v7.length) then bif decide (v1.toNat < v7.length) then bif v2.getD v1.toNat 0 != (0:Int) then (ZLo k (v2.getD v1.toNat 0,())).bind fun y_1 => L1 (v0,Jx.wrap (v1 + 1),v2,if v3 < y_1.1 then y_1.1 else v3,v4,v5,v6,v7.set v1.toNat y.1.1,v8,v9,v10,v11,v12,v13) else L1 (v0,Jx.wrap (v1 + 1),v2,v3,v4,v5,v6,v7.set v1.toNat y.1.1,v8,v9,v10,v11,v12,v13) else none else none else none else (Zex k (v4,())).bind fun y => L2 (y.1,(0:Int),v5,v6,v3,v4,v7,v8,v9,v10,v11,v12,v13)
noncomputable def ZuU (k:Nat):Znx:=Zg (fun L1 => ZsL k (ZuV k) L1) k
noncomputable def Zyb (k:Nat) (n:Nat):=QI (ZuX k) Tryz.f248 Yp Znz [1,1,1,1,0,1,0] [] n ZRg (A:=ZuT)
noncomputable def ZsK (k:Nat) (L1:Znx):List Int × Int × Unit → Option (((Int × Int × Int × Unit) × Bool × Unit) × Unit)
 | (a0,a1,()) => bif decide ((0:Int) ≤ UD a0.length ∧ UD a0.length ≤ UD a0.length ∧ UD a0.length < (4294967296:Int)) then L1 (UD a0.length,(0:Int),a0,(0:Int),a1,a0,false,Jd (UD a0.length).toNat (0:Int),(0:Int),(0:Int),(0:Int),(0:Int),(0:Int),(0:Int)) else none
noncomputable def ZVs (k:Nat):=ZsK k (ZuU k)
theorem ZHR (k:Nat) (n2:Nat):∀ n,Zyc k n2 n = Zg (fun L3 => ZsN k (Zit k n2) L3) n:=ZO
theorem ZHQ (k:Nat):∀ n,Zit k n = Zg (fun L2 => ZsM k (ZuW k L2) L2) n:=ZO (fun n v => by rw [show (ZuW k (Zit k n)) = Zyc k n k from (ZHR k n k).symm]; kernel_rfl)
theorem ZHP (k:Nat):∀ n,Zyb k n = Zg (fun L1 => ZsL k (ZuV k) L1) n:=ZO (fun n v => by rw [show (ZuV k) = Zit k k from (ZHQ k k).symm]; kernel_rfl)
set_option maxHeartbeats 1000000 in
noncomputable def ZK8 (k:Nat):ZE k:=Zy 248 Tryz.f248 (ZuX k) Yp Znz ZVs (A:=ZuT) (h:=fun x => by show _ = ZsK k (ZuU k) x; rw [show ZuU k = Zyb k k from (ZHP k k).symm]; kernel_rfl)
def Zo3 (k:Nat):Int × Unit → Option (Int × Unit):=match k with | 0 => Zev 0 | n + 1 => Zev (n + 1)
theorem Zsx:Zo3 = Zev:=by funext k; cases k <;> rfl
theorem ZG4 (k:Nat):Ctr Tryz.prog k 204 (mk Ql ZB Zo3):=by rw [Zsx]; exact (ZA9 k).2
noncomputable def Zm3 (k:Nat):ZE k:=⟨(204,mk Ql ZB Zo3),ZG4 k⟩
def ZBk (k:Nat):Int × Int × Int × Unit → Option (Bool × Unit):=match k with | 0 => Zhr 0 | n + 1 => Zhr (n + 1)
theorem ZHM:ZBk = Zhr:=by funext k; cases k <;> rfl
theorem ZHN (k:Nat):Ctr Tryz.prog k 217 (mk Znw Qd ZBk):=by rw [ZHM]; exact (ZBl k).2
noncomputable def ZEp (k:Nat):ZE k:=⟨(217,mk Znw Qd ZBk),ZHN k⟩
abbrev ZEb:Kd:=.view ZW2
noncomputable def ZKf:Nat → Ann:=fun id => bif Ja id 11 then ⟨[37,38,36,7,5,8,6,0,1,4,9],[.cell 8 2 (((Ty.int Jx).pair ((Ty.int Jx).pair ((Ty.int Jx).pair Ty.unit))))]⟩ else bif Ja id 7 then ⟨[7,6,0,1,5,4],[.cell 5 2 (((Ty.int Jx).pair ((Ty.int Jx).pair ((Ty.int Jx).pair Ty.unit))))]⟩ else bif Ja id 3 then ⟨[6,0,1,5,4],[.cell 5 2 (((Ty.int Jx).pair ((Ty.int Jx).pair ((Ty.int Jx).pair Ty.unit))))]⟩ else ⟨[],[]⟩
noncomputable def ZU2 (k:Nat):List Int × Int × Unit → Option ((Int × Int × List (Int × Int × Int × Unit) × Int × Unit) × Unit):=ZzR k fun k => ZDB (cxP k [ZA8 k,Zm3 k,ZEp k,ZK8 k] nL) ZKf Tryz.f202 Yp ZEb
noncomputable def ZKg (k:Nat):ZE k:=Xx 202 Tryz.f202 (fun k => [ZA8 k,Zm3 k,ZEp k,ZK8 k]) Yp ZEb (A:=ZKf)
noncomputable def ZHJ (k:Nat):List Int × Int × Unit → Option ((Int × Int × Unit) × Unit)
 | (a0,a1,()) => (ZU1 k (a0,a1,())).bind fun y => bif y.1 != 0 then some ((0,y.1,()),()) else (ZU2 k (a0,a1,())).bind fun y => some ((y.1.2.2.2.1,0,()),())
noncomputable def ZVk (k:Nat):=ZHJ k
noncomputable def ZVl (k:Nat):ZE k:=Zy 244 Tryz.f244 [ZKe k,ZKg k] Yp QY ZVk
abbrev ZQW:List Kd:=[.view Zxb,.view (.int .i64),.view ZfF,.view (.int .i64)]
abbrev ZQX:Kd:=.tup [.view Zxb,.view .bool]
noncomputable def ZUY (k:Nat):ZE k:=Xx 198 Tryz.f198 (fun k => [ZK2 k,ZVl k]) ZQW ZQX
abbrev ZRe:Kd:=.view ZfF
def ZVn:Nat → Ann:=fun id => bif Ja id 4 then ⟨[19,20,18,3,2],[]⟩ else ⟨[],[]⟩
noncomputable def ZVo (k:Nat):ZE k:=Xx 245 Tryz.f245 (fun k => [ZA7 k]) Ql ZRe (A:=ZVn)
noncomputable def ZK5 (k:Nat):List (ZE k):=[ZK2 k]
def ZK4:Nat → Ann:=fun id => bif Ja id 4 then ⟨[18,19,17,8,7],[]⟩ else ⟨[],[]⟩
abbrev Znv:=Int × Int × List Int × Int × Int
abbrev Znu:=Znv → Option ((Int × Int × Unit) × Unit)
def ZRf:Znv → St
 | (v0,v1,v2,v3,v4) => St.mk (Zq [(18,Zl v0),(19,Zl v1),(17,avL v2),(8,Zl v3),(7,Zl v4)]) (Zp [])
def ZsJ (k:Nat) (L1:Znu):Znu
 | (v0,v1,v2,v3,v4) => bif decide (v1 < v0) then bif decide (0 ≤ v1 ∧ v1 < UD v2.length) then L1 (v0,Jx.wrap (v1 + 1),v2,Jx.wrap (v3 + if v2.getD v1.toNat 0 < Jx.wrap ((0:Int) - v2.getD v1.toNat 0) then Jx.wrap ((0:Int) - v2.getD v1.toNat 0) else v2.getD v1.toNat 0),v4) else none else some ((v3,v4,()),())
def ZuR (k:Nat):Znu:=Zg (fun L1 => ZsJ k L1) k
noncomputable def Zya (k:Nat) (n:Nat):=QI (ZK5 k) Tryz.f246 Zgt QY [1,1,1,0,1,0] [] n ZRf (A:=ZK4)
def ZsI (k:Nat) (L1:Znu):(List Int × Int × Unit) × List Int × Unit → Option ((Int × Int × Unit) × Unit)
 | ((a0,a1,()),a2,()) => (ZK1 k ((a0,a1,()),a2,())).bind fun y => L1 (UD (UO y.1.1),(0:Int),y.1.1,(0:Int),y.1.2.1)
def ZVp (k:Nat):=ZsI k (ZuR k)
theorem ZHK (k:Nat):∀ n,Zya k n = Zg (fun L1 => ZsJ k L1) n:=ZO
noncomputable def ZVq (k:Nat):ZE k:=Zy 246 Tryz.f246 (ZK5 k) Zgt QY ZVp (A:=ZK4) (h:=fun x => by show _ = ZsI k (ZuR k) x; rw [show ZuR k = Zya k k from (ZHK k k).symm]; kernel_rfl)
abbrev ZEo:Kd:=.own (.int .i64) false
def ZuS (k:Nat):List Int × Unit → Option (List Int × Unit):=fun x => Yk x
noncomputable def Zph:Code:=ZJN Tryz.f221
theorem ZK7 (k:Nat):Ctr Tryz.prog k 221 (mk Zlx ZEo ZuS) :=
 Zsk (C:=ZT9 k) (A:=fun _ => ⟨[],[]⟩) (ZwX ZDZ) ZhS (f:=221) (fn:=Tryz.f221) (o0:=ZlM (ZbB [0] Zph) 0) (o1:=ZlM (ZbB [1,0,0] Zph) 0) (o2:=ZlM (ZbB [1,0,0] Zph) 1)
  (r0:=0) (r1:=1) (X:=ZbB [1,0,1,0] Zph) (Y:=ZbB [1,1] Zph) (T:=61) (E:=3) (U:=61) (t:=(.int .i64))
  (by kernel_rfl) (by kernel_rfl) (by kernel_rfl) (by kernel_rfl) (by kernel_rfl) (of_decide_eq_true (by kernel_rfl)) (by kernel_rfl) ⟨by kernel_rfl,by kernel_rfl,by kernel_rfl⟩ ⟨by kernel_rfl,by kernel_rfl,by kernel_rfl⟩ ⟨by kernel_rfl,by kernel_rfl,by kernel_rfl⟩ (fun xs => by kernel_rfl) (by kernel_rfl)
noncomputable def ZK6 (k:Nat):ZE k:=⟨(221,mk Zlx ZEo ZuS),ZK7 k⟩
def ZUZ:Nat → Ann:=fun id => bif Ja id 15 then ⟨[57,56,6,11,0,9,7,50,49,10,1,4],[.seen 6 0]⟩ else bif Ja id 12 then ⟨[49,50,10,6,0,9,7,1,4],[]⟩ else bif Ja id 9 then ⟨[10,1,6,0,9,7,4],[]⟩ else ⟨[],[]⟩
noncomputable def ZU0 (k:Nat):ZE k:=Xx 199 Tryz.f199 (fun k => [Zo1 k,ZVo k,ZVq k,ZK6 k]) Yp Zf9 (A:=ZUZ)
abbrev ZQR:List Kd:=[.view Zxb,.view .bool,.box [.view (.int .i64),.view (.int .i64),.view (.int .i64),.view (.sl (.int .i64)),.view (.sl (.int .i64)),.view (.int .i64),.view (.sl (.int .i64)),.view (.int .i64)]]
noncomputable def ZUW (k:Nat):ZE k:=Xx 196 Tryz.f196 (fun k => []) ZQR K0
abbrev ZWq:Kd:=.view Zxb
def ZX6:Nat → Ann:=fun id => bif Ja id 21 then ⟨[82,81,11,6,10,12,9,4],[]⟩ else bif Ja id 15 then ⟨[62,63,10,6,11,12,9,4],[]⟩ else bif Ja id 4 then ⟨[28,29,27,6,5,4],[.cell 6 3 ((Ty.int Jx))]⟩ else ⟨[],[]⟩
noncomputable def ZX7 (k:Nat):ZE k:=Xx 152 Tryz.f152 (fun k => [ZKa k,ZUV k,ZA7 k,ZUY k,ZU0 k,ZUW k]) Yp ZWq (A:=ZX6)
def ZX8:Nat → Ann:=fun id => bif Ja id 4 then ⟨[15,16,0],[]⟩ else ⟨[],[]⟩
noncomputable def ZUa (k:Nat):ZE k:=Xx 153 Tryz.f153 (fun k => [ZJ8 k]) ZD9 ZB (A:=ZX8)
noncomputable def ZKd (k:Nat):ZE k:=Xx 200 Tryz.f200 (fun k => [ZN1 k,ZT5 k]) ZMS ZB
abbrev ZC2:List Kd:=[.box [.own (.int .u8) false,.view (.int .i64)],.view (.sl (.int .i64)),.view (.int .i64)]
def ZX9:Nat → Ann:=fun id => bif Ja id 1 then ⟨[9,10,8,0,2],[]⟩ else ⟨[],[]⟩
noncomputable def ZYa (k:Nat):ZE k:=Xx 154 Tryz.f154 (fun k => [ZKd k]) ZC2 K0 (A:=ZX9)
noncomputable def ZYb:Nat → Ann:=fun id => bif Ja id 17 then ⟨[69,70,68,11,8,0,41,40,39],[]⟩ else bif Ja id 10 then ⟨[40,41,39,8,0],[]⟩ else ⟨[],[]⟩
noncomputable def ZYc (k:Nat):ZE k:=Xx 155 Tryz.f155 (fun k => [ZpS k,ZUa k,ZKe k,ZKg k,ZA8 k,Zm3 k,ZuI k,ZEc k,ZKd k]) ZC2 ZB (A:=ZYb)
noncomputable def ZXK (k:Nat):ZE k:=Xx 98 Tryz.f98 (fun k => [ZpS k,ZX5 k,ZX7 k,ZUa k,ZYa k,ZYc k]) ZC2 ZB
noncomputable def ZXL (k:Nat):ZE k:=Xx 99 Tryz.f99 (fun k => []) ZMX ZB
def ZpX (k:Nat):List Int × Unit → Option (Int × Unit)
 | (a0,()) => (Zmr k (a0,16,32773,())).bind fun y => some (y.1,())
def ZM2 (k:Nat):=ZpX k
noncomputable def ZTB (k:Nat):ZE k:=Zy 61 Tryz.f61 [ZT8 k] ZdD ZB ZM2
abbrev ZVm:Kd:=.tup [.own (.int .u8) false,.view (.int .i64)]
def ZXB:Nat → Ann:=fun id => bif Ja id 27 then ⟨[87,88,86,12,7],[]⟩ else bif Ja id 20 then ⟨[61,62,60,12,10,11,2,8,7],[]⟩ else ⟨[],[]⟩
noncomputable def ZXC (k:Nat):ZE k:=Xx 43 Tryz.f43 (fun k => [ZTw k,ZXH k,ZTx k,ZpS k,ZXJ k,ZTy k,ZTz k,ZTA k,ZXK k,ZXL k,ZTB k]) ZeY ZVm (A:=ZXB)
abbrev ZV7:Kd:=.box [.view (.sl (.int .u8)),.view (.int .i64)]
def Ze2 (k:Nat):List Int × Unit → Option ((List Int × Int × Unit) × Unit)
 | (a0,()) => (ZjJ k (a0,())).bind fun y => some ((y.1,0,()),())
def Zzb (k:Nat):=Ze2 k
noncomputable def ZTG (k:Nat):ZE k:=Zy 48 Tryz.f48 [ZOf k] ZdD ZV7 Zzb
abbrev Zls:List Kd:=[.box [.view (.sl (.int .u8)),.view (.int .i64)]]
def ZNw (k:Nat):(List Int × Int × Unit) × Unit → Option (Int × (List Int × Int × Unit) × Unit)
 | ((a0,a1,()),()) => some (a1,(a0,a1,()),())
def ZaP (k:Nat):=ZNw k
noncomputable def Zzh (k:Nat):ZE k:=Zy 50 Tryz.f50 [] Zls ZB ZaP
abbrev ZWt:List Kd:=[.box [.view (.sl (.int .u8)),.ref [.view (.sl (.int .u8)),.view (.int .i64)],.view (.int .i64)],.view .bool,.view (.int .i64)]
def Zqd (k:Nat):(List Int × (List Int × Int × Unit) × Int × Unit) × Bool × Int × Unit → Option (Unit × (List Int × (List Int × Int × Unit) × Int × Unit) × Unit)
 | ((a0,(a1,a2,()),a3,()),a4,a5,()) => bif a3 == 0 then bif !a4 then some ((),(a0,(a1,a2,()),a5,()),()) else some ((),(a0,(a1,a2,()),a3,()),()) else some ((),(a0,(a1,a2,()),a3,()),())
def We (k:Nat):=Zqd k
noncomputable def ZFI (k:Nat):ZE k:=Zy 118 Tryz.f118 [] ZWt K0 We
abbrev Zql:List Kd:=[.box [.view (.sl (.int .u8)),.view (.int .i64)],.view (.int .i64)]
def Zqm (k:Nat):(List Int × Int × Unit) × Int × Unit → Option (Int × (List Int × Int × Unit) × Unit)
 | ((a0,a1,()),a2,()) => bif decide (0 ≤ Jx.wrap (a2.tdiv (8:Int)) ∧ Jx.wrap (a2.tdiv (8:Int)) < UD a0.length) then bif decide (0 ≤ Jx.wrap ((7:Int) - a2.tmod (8:Int))) then some (Jx.wrap (UD (UH 64 (Jx.wrap (UP (a0.getD (Jx.wrap (a2.tdiv (8:Int))).toNat 0) ((2:Int) ^ min (Jx.wrap ((7:Int) - a2.tmod (8:Int))).toNat 8))) &&& UH 64 (1:Int)).toNat),(a0,a1,()),()) else none else none
def Zzu (k:Nat):=Zqm k
set_option maxHeartbeats 1000000 in
noncomputable def ZOB (k:Nat):ZE k:=Zy 126 Tryz.f126 [] Zql ZB Zzu
def Zlb (k:Nat):(List Int × Int × Unit) × Unit → Option (Int × (List Int × Int × Unit) × Unit)
 | ((a0,a1,()),()) => some (Jx.wrap (Jx.wrap ((8:Int) * UD a0.length) - a1),(a0,a1,()),())
def ZBp (k:Nat):=Zlb k
noncomputable def ZVw (k:Nat):ZE k:=Zy 207 Tryz.f207 [] Zls ZB ZBp
noncomputable def ZKo (k:Nat):List (ZE k):=[ZN1 k,ZOB k,ZVw k]
def ZKn:Nat → Ann:=fun id => bif Ja id 7 then ⟨[19,20,6,0],[]⟩ else ⟨[],[]⟩
abbrev ZEe:=Int × Int × Int × List Int × Int
abbrev Zm6:=ZEe → Option ((Int × Int × Unit) × (List Int × Int × Unit) × Unit)
def ZQ0:ZEe → St
 | (v0,v1,v2,v3,v4) => St.mk (Zq [(19,Zl v0),(20,Zl v1),(6,Zl v2),(0,AV.bx 0 0)]) (Zp [(0,QQ [AV.val (PV.sl (Ty.int UK) v3),Zl v4])])
def Zb1 (k:Nat) (L1:Zm6):Zm6
 | (v0,v1,v2,v3,v4) => bif decide (v1 < v0) then (Zzu k ((v3,v4,()),v4,())).bind fun y => L1 (v0,Jx.wrap (v1 + 1),Jx.wrap (UD (UH 64 (Jx.wrap (v2 * (2:Int))) ||| UH 64 y.1).toNat),y.2.1.1,Jx.wrap (y.2.1.2.1 + 1)) else some ((v2,0,()),(v3,v4,()),())
def Zm7 (k:Nat):Zm6:=Zg (fun L1 => Zb1 k L1) k
noncomputable def ZxT (k:Nat) (n:Nat):=QI (ZKo k) Tryz.f156 Zql QY [1,1,1,0,1,0] [] n ZQ0 (A:=ZKn) (a:=[AV.bx (nat_lit 0) (nat_lit 0)]) (b:=[[]]) (q:=[0])
def Zgb (k:Nat) (L1:Zm6):(List Int × Int × Unit) × Int × Unit → Option ((Int × Int × Unit) × (List Int × Int × Unit) × Unit)
 | ((a0,a1,()),a2,()) => (ZFB k (a2,())).bind fun y => bif y.1 then some ((0,1,()),(a0,a1,()),()) else (ZBp k ((a0,a1,()),())).bind fun y => bif decide (y.1 < a2) then some ((0,10,()),(y.2.1.1,y.2.1.2.1,()),()) else L1 (a2,(0:Int),(0:Int),y.2.1.1,y.2.1.2.1)
def YL (k:Nat):=Zgb k (Zm7 k)
theorem ZHf (k:Nat):∀ n,ZxT k n = Zg (fun L1 => Zb1 k L1) n:=ZO
noncomputable def Zho (k:Nat):ZE k:=Zy 156 Tryz.f156 (ZKo k) Zql QY YL (A:=ZKn) (h:=fun x => by show _ = Zgb k (Zm7 k) x; rw [show Zm7 k = ZxT k k from (ZHf k k).symm]; kernel_rfl)
abbrev ZWu:List Kd:=[.box [.view (.sl (.int .u8)),.ref [.view (.sl (.int .u8)),.view (.int .i64)],.view (.int .i64)],.view (.int .i64)]
def Zqe (k:Nat):(List Int × (List Int × Int × Unit) × Int × Unit) × Int × Unit → Option (Int × (List Int × (List Int × Int × Unit) × Int × Unit) × Unit)
 | ((a0,(a1,a2,()),a3,()),a4,()) => bif a3 == 0 then (YL k ((a1,a2,()),a4,())).bind fun y => some (y.1.1,(a0,(y.2.1.1,y.2.1.2.1,()),y.1.2.1,()),()) else some (0,(a0,(a1,a2,()),a3,()),())
def WN (k:Nat):=Zqe k
noncomputable def ZFJ (k:Nat):ZE k:=Zy 119 Tryz.f119 [Zho k] ZWu ZB WN
abbrev ZWb:List Kd:=[.box [.view (.sl (.int .u8)),.ref [.view (.sl (.int .u8)),.view (.int .i64)],.view (.int .i64)],.view (.int .i64),.fn 96]
def Zp3 (k:Nat):(List Int × (List Int × Int × Unit) × Int × Unit) × Int × Unit × Unit → Option (Unit × (List Int × (List Int × Int × Unit) × Int × Unit) × Unit)
 | ((a0,(a1,a2,()),a3,()),a4,(),()) => (ZaP k ((a1,a2,()),())).bind fun y => (WN k ((a0,(y.2.1.1,y.2.1.2.1,()),a3,()),a4,())).bind fun y_1 => bif y_1.2.1.2.2.1 != 0 then (We k ((y_1.2.1.1,(y_1.2.1.2.1.1,y_1.2.1.2.1.2.1,()),y_1.2.1.2.2.1,()),true,16,())).bind fun y => some ((),(y.2.1.1,(y.2.1.2.1.1,y.2.1.2.1.2.1,()),y.2.1.2.2.1,()),()) else bif decide ((0:Int) ≤ 0 ∧ (0:Int) ≤ Jx.wrap (UJ y.1 (8:Int)) ∧ Jx.wrap (UJ y.1 (8:Int)) ≤ UD (UO y_1.2.1.1)) then (ZMU k (UM 0 (UL (Jx.wrap (UJ y.1 (8:Int))).toNat y_1.2.1.1),())).bind fun y => (We k ((y_1.2.1.1,(y_1.2.1.2.1.1,y_1.2.1.2.1.2.1,()),y_1.2.1.2.2.1,()),y_1.1 == y.1,16,())).bind fun y => some ((),(y.2.1.1,(y.2.1.2.1.1,y.2.1.2.1.2.1,()),y.2.1.2.2.1,()),()) else none
def Zmq (k:Nat):=Zp3 k
set_option maxHeartbeats 1000000 in
noncomputable def ZXU (k:Nat):ZE k:=Zy 60 Tryz.f60 [Zzh k,ZFI k,ZFJ k,ZTy k] ZWb K0 Zmq
def Zqf (k:Nat):(Int × Int × Int × Unit) × Int × Unit → Option (Bool × Unit)
 | ((a0,a1,a2,()),a3,()) => bif a0 == 1 then some (a3 == 0,()) else bif a3 == 1 then some (true,()) else bif decide (8 ≤ a3) then some (decide (a3 ≤ 10),()) else some (false,())
def Zzt (k:Nat):=Zqf k
noncomputable def ZYg (k:Nat):ZE k:=Zy 120 Tryz.f120 [] ZM0 Qd Zzt
abbrev ZEx:List Kd:=[.view (.int .u8)]
def ZIe (k:Nat):Int × Unit → Option (Int × Unit)
 | (a0,()) => bif decide (0 ≤ a0 ∧ a0 < 256) then some (Jx.wrap (UD ((UR (([0,1,2,2,3,3,3,3,4,4,4,4,4,4,4,4,5,5,5,5,5,5,5,5,5,5,5,5,5,5,5,5,6,6,6,6,6,6,6,6,6,6,6,6,6,6,6,6,6,6,6,6,6,6,6,6,6,6,6,6,6,6,6,6].append [7,7,7,7,7,7,7,7,7,7,7,7,7,7,7,7,7,7,7,7,7,7,7,7,7,7,7,7,7,7,7,7,7,7,7,7,7,7,7,7,7,7,7,7,7,7,7,7,7,7,7,7,7,7,7,7,7,7,7,7,7,7,7,7]).append ([8,8,8,8,8,8,8,8,8,8,8,8,8,8,8,8,8,8,8,8,8,8,8,8,8,8,8,8,8,8,8,8,8,8,8,8,8,8,8,8,8,8,8,8,8,8,8,8,8,8,8,8,8,8,8,8,8,8,8,8,8,8,8,8].append [8,8,8,8,8,8,8,8,8,8,8,8,8,8,8,8,8,8,8,8,8,8,8,8,8,8,8,8,8,8,8,8,8,8,8,8,8,8,8,8,8,8,8,8,8,8,8,8,8,8,8,8,8,8,8,8,8,8,8,8,8,8,8,8])).toArray).data.toList.getD a0.toNat 0).toNat),()) else none
def ZLp (k:Nat):=ZIe k
set_option maxHeartbeats 1000000 in
noncomputable def ZVI (k:Nat):ZE k:=Zy 251 Tryz.f251 [] ZEx ZB ZLp
def ZHZ (k:Nat):Int × Unit → Option (Int × Unit)
 | (a0,()) => (ZLp k (a0,())).bind fun y => some (Jx.wrap ((8:Int) - y.1),())
def Zu0 (k:Nat):=ZHZ k
noncomputable def ZVx (k:Nat):ZE k:=Zy 213 Tryz.f213 [ZVI k] ZEx ZB Zu0
abbrev Zbm:Kd:=.tup [.view (.int .i64),.view (.int .i64),.view (.int .i64)]
noncomputable def ZKq (k:Nat):List (ZE k):=[ZT7 k,ZVx k]
def ZKp:Nat → Ann:=fun id => bif Ja id 10 then ⟨[8,5,0,6,7],[]⟩ else ⟨[],[]⟩
abbrev Zm8:=Znv → Option ((Int × Int × Int × Unit) × Unit)
def ZQ1:Znv → St
 | (v0,v1,v2,v3,v4) => St.mk (Zq [(8,Zl v0),(5,Zl v1),(0,AV.val (PV.sl (Ty.int UK) v2)),(6,Zl v3),(7,Zl v4)]) (Zp [])
def Zb2 (k:Nat) (L1:Zm8):Zm8
 | (v0,v1,v2,v3,v4) => bif decide (v0 < v1) then bif decide (v0 < UD v2.length) then bif decide (0 ≤ v0 ∧ v0 < UD v2.length) then bif UP (v2.getD v0.toNat 0) (64:Int) != 2 then some ((0,0,2,()),()) else bif decide (0 ≤ v0 ∧ v0 < UD v2.length) then L1 (Jx.wrap (v0 + 1),v1,v2,Jx.wrap (UD (UH 64 (Jx.wrap (v3 * (64:Int))) ||| UH 64 (Jx.wrap (UD (UH 64 (Jx.wrap (v2.getD v0.toNat 0)) &&& UH 64 (63:Int)).toNat))).toNat),Jx.wrap (UD (UH 64 (Jx.wrap (v4 * (64:Int))) ||| UH 64 (Jx.wrap (UD (UH 64 (Jx.wrap (v2.getD v0.toNat 0)) &&& UH 64 (63:Int)).toNat))).toNat)) else none else none else L1 (Jx.wrap (v0 + 1),v1,v2,Jx.wrap (UD (UH 64 (Jx.wrap (v3 * (64:Int))) ||| UH 64 (0:Int)).toNat),Jx.wrap (UD (UH 64 (Jx.wrap (v4 * (64:Int))) ||| UH 64 (63:Int)).toNat)) else (ZN7 k (Jx.wrap (v1 - 1),())).bind fun y => bif decide ((0:Int) ≤ y.1) then bif decide (v4 < Jx.wrap ((1:Int) * (2:Int) ^ min (US y.1) (64:Nat))) then some ((0,0,2,()),()) else bif decide (UD v2.length < v1) then some ((0,0,10,()),()) else some ((v3,v1,0,()),()) else none
def Zm9 (k:Nat):Zm8:=Zg (fun L1 => Zb2 k L1) k
noncomputable def ZxU (k:Nat) (n:Nat):=QI (ZKq k) Tryz.f164 ZdD Zbm [1,1,1,1,1,0,1,0] [] n ZQ1 (A:=ZKp)
def Zgc (k:Nat) (L1:Zm8):List Int × Unit → Option ((Int × Int × Int × Unit) × Unit)
 | (a0,()) => bif UD a0.length == (0:Int) then some ((0,0,10,()),()) else bif decide ((0:Int) ≤ 0 ∧ (0:Int) < UD a0.length) then (Zu0 k (UK.wrap (UD (UH 8 (255:Int) ^^^ UH 8 (a0.getD 0 0)).toNat),())).bind fun y => bif y.1 == 0 then bif decide ((0:Int) ≤ 0 ∧ (0:Int) < UD a0.length) then some ((Jx.wrap (a0.getD 0 0),1,0,()),()) else none else bif y.1 == 1 then some ((0,0,2,()),()) else bif decide ((7:Int) < y.1) then some ((0,0,2,()),()) else bif decide ((0:Int) ≤ 0 ∧ (0:Int) < UD a0.length) then bif decide ((0:Int) ≤ y.1) then bif decide ((0:Int) ≤ 0 ∧ (0:Int) < UD a0.length) then bif decide ((0:Int) ≤ y.1) then L1 (1,y.1,a0,Jx.wrap (UD (UH 64 (Jx.wrap (a0.getD 0 0)) &&& UH 64 (UP (127:Int) ((2:Int) ^ min (US y.1) (64:Nat)))).toNat),Jx.wrap (UD (UH 64 (Jx.wrap (a0.getD 0 0)) &&& UH 64 (UP (127:Int) ((2:Int) ^ min (US y.1) (64:Nat)))).toNat)) else none else none else none else none else none
def ZBa (k:Nat):=Zgc k (Zm9 k)
theorem ZHh (k:Nat):∀ n,ZxU k n = Zg (fun L1 => Zb2 k L1) n:=ZO
set_option maxHeartbeats 1000000 in
noncomputable def ZU5 (k:Nat):ZE k:=Zy 164 Tryz.f164 (ZKq k) ZdD Zbm ZBa (A:=ZKp) (h:=fun x => by show _ = Zgc k (Zm9 k) x; rw [show Zm9 k = ZxU k k from (ZHh k k).symm]; kernel_rfl)
abbrev ZOr:List Kd:=[.box [.view (.sl (.int .u8)),.ref [.view (.sl (.int .u8)),.view (.int .i64)],.view (.int .i64)]]
noncomputable def ZUd (k:Nat):List (ZE k):=[Zzh k,ZFI k,ZFJ k,ZU5 k]
def ZUc:Nat → Ann:=fun id => bif Ja id 6 then ⟨[31,32,0,3],[]⟩ else ⟨[],[]⟩
abbrev ZOp:=Int × Int × Int × List Int × Int × List Int × Int
abbrev Zwr:=ZOp → Option (Int × (List Int × (List Int × Int × Unit) × Int × Unit) × Unit)
def ZWv:ZOp → St
 | (v0,v1,v2,v3,v4,v5,v6) => St.mk (Zq [(31,Zl v0),(32,Zl v1),(0,AV.bx 0 0),(3,Zl v2)]) (Zp [(0,QQ [AV.val (PV.sl (Ty.int UK) v3),AV.bx 1 0,Zl v4]),(1,QQ [AV.val (PV.sl (Ty.int UK) v5),Zl v6])])
def Zfh (k:Nat) (L1:Zwr):Zwr
 | (v0,v1,v2,v3,v4,v5,v6) => bif decide (v1 < v0) then (WN k ((v3,(v5,v6,()),v4,()),8,())).bind fun y => L1 (v0,Jx.wrap (v1 + 1),v2,y.2.1.1,y.2.1.2.2.1,y.2.1.2.1.1,y.2.1.2.1.2.1) else (We k ((v3,(v5,v6,()),v4,()),decide (v2 ≤ 2147483647),2,())).bind fun y => some (v2,(y.2.1.1,(y.2.1.2.1.1,y.2.1.2.1.2.1,()),y.2.1.2.2.1,()),())
def Zws (k:Nat):Zwr:=Zg (fun L1 => Zfh k L1) k
noncomputable def ZFK (k:Nat) (n:Nat):=QI (ZUd k) Tryz.f121 ZOr ZB [1,1,1,1,0,1,0] [] n ZWv (A:=ZUc) (a:=[AV.bx (nat_lit 0) (nat_lit 0)]) (b:=[[1]]) (q:=[0,1])
def ZjL (k:Nat) (L1:Zwr):(List Int × (List Int × Int × Unit) × Int × Unit) × Unit → Option (Int × (List Int × (List Int × Int × Unit) × Int × Unit) × Unit)
 | ((a0,(a1,a2,()),a3,()),()) => bif a3 != 0 then some (0,(a0,(a1,a2,()),a3,()),()) else (ZaP k ((a1,a2,()),())).bind fun y => bif decide (0 ≤ Jx.wrap (UJ y.1 (8:Int)) ∧ Jx.wrap (UJ y.1 (8:Int)) ≤ UD a0.length ∧ UD a0.length ≤ UD a0.length) then (ZBa k (UM (Jx.wrap (UJ y.1 (8:Int))).toNat (UL (UD a0.length).toNat a0),())).bind fun y_1 => L1 (y_1.1.2.1,(0:Int),y_1.1.1,a0,y_1.1.2.2.1,y.2.1.1,y.2.1.2.1) else none
def Zqg (k:Nat):=ZjL k (Zws k)
theorem ZOq (k:Nat):∀ n,ZFK k n = Zg (fun L1 => Zfh k L1) n:=ZO
set_option maxHeartbeats 1000000 in
noncomputable def ZYh (k:Nat):ZE k:=Zy 121 Tryz.f121 (ZUd k) ZOr ZB Zqg (A:=ZUc) (h:=fun x => by show _ = ZjL k (Zws k) x; rw [show Zws k = ZFK k k from (ZOq k k).symm]; kernel_rfl)
abbrev ZV8:List Kd:=[.box [.view (.sl (.int .u8)),.ref [.view (.sl (.int .u8)),.view (.int .i64)],.view (.int .i64)],.view ZfR]
def ZNi (k:Nat):(List Int × (List Int × Int × Unit) × Int × Unit) × (Int × Int × Int × Unit) × Unit → Option ((Int × Int × Int × Unit) × (List Int × (List Int × Int × Unit) × Int × Unit) × Unit)
 | ((a0,(a1,a2,()),a3,()),(a4,a5,a6,()),()) => (WN k ((a0,(a1,a2,()),a3,()),15,())).bind fun y => (We k ((y.2.1.1,(y.2.1.2.1.1,y.2.1.2.1.2.1,()),y.2.1.2.2.1,()),y.1 == 32764,11,())).bind fun y => (WN k ((y.2.1.1,(y.2.1.2.1.1,y.2.1.2.1.2.1,()),y.2.1.2.2.1,()),1,())).bind fun y => (We k ((y.2.1.1,(y.2.1.2.1.1,y.2.1.2.1.2.1,()),y.2.1.2.2.1,()),y.1 == 0,2,())).bind fun y => (WN k ((y.2.1.1,(y.2.1.2.1.1,y.2.1.2.1.2.1,()),y.2.1.2.2.1,()),4,())).bind fun y => bif y.1 == 6 then (We k ((y.2.1.1,(y.2.1.2.1.1,y.2.1.2.1.2.1,()),y.2.1.2.2.1,()),true,2,())).bind fun y_1 => (WN k ((y_1.2.1.1,(y_1.2.1.2.1.1,y_1.2.1.2.1.2.1,()),y_1.2.1.2.2.1,()),4,())).bind fun y_2 => (We k ((y_2.2.1.1,(y_2.2.1.2.1.1,y_2.2.1.2.1.2.1,()),y_2.2.1.2.2.1,()),y_2.1 == 0,2,())).bind fun y_3 => (WN k ((y_3.2.1.1,(y_3.2.1.2.1.1,y_3.2.1.2.1.2.1,()),y_3.2.1.2.2.1,()),4,())).bind fun y_4 => (Zzt k ((a4,a5,a6,()),y_4.1,())).bind fun y_5 => (We k ((y_4.2.1.1,(y_4.2.1.2.1.1,y_4.2.1.2.1.2.1,()),y_4.2.1.2.2.1,()),y_5.1,2,())).bind fun y_6 => (WN k ((y_6.2.1.1,(y_6.2.1.2.1.1,y_6.2.1.2.1.2.1,()),y_6.2.1.2.2.1,()),4,())).bind fun y_7 => (We k ((y_7.2.1.1,(y_7.2.1.2.1.1,y_7.2.1.2.1.2.1,()),y_7.2.1.2.2.1,()),y_7.1 == 0,2,())).bind fun y_8 => (Zqg k ((y_8.2.1.1,(y_8.2.1.2.1.1,y_8.2.1.2.1.2.1,()),y_8.2.1.2.2.1,()),())).bind fun y_9 => bif y_9.2.1.2.2.1 == 0 then (WN k ((y_9.2.1.1,(y_9.2.1.2.1.1,y_9.2.1.2.1.2.1,()),y_9.2.1.2.2.1,()),Jx.wrap ((8:Int) * Jx.wrap (Jx.wrap (y.1 - 6) + (1:Int))),())).bind fun y => (We k ((y.2.1.1,(y.2.1.2.1.1,y.2.1.2.1.2.1,()),y.2.1.2.2.1,()),decide (Jx.wrap (y.1 + 1) ≤ (512:Int)),1,())).bind fun y_10 => (Zmq k ((y_10.2.1.1,(y_10.2.1.2.1.1,y_10.2.1.2.1.2.1,()),y_10.2.1.2.2.1,()),8,(),())).bind fun y_11 => some ((y_4.1,y_9.1,Jx.wrap (y.1 + 1),()),(y_11.2.1.1,(y_11.2.1.2.1.1,y_11.2.1.2.1.2.1,()),y_11.2.1.2.2.1,()),()) else (We k ((y_9.2.1.1,(y_9.2.1.2.1.1,y_9.2.1.2.1.2.1,()),y_9.2.1.2.2.1,()),decide ((0:Int) ≤ 512),1,())).bind fun y => (Zmq k ((y.2.1.1,(y.2.1.2.1.1,y.2.1.2.1.2.1,()),y.2.1.2.2.1,()),8,(),())).bind fun y => some ((y_4.1,y_9.1,0,()),(y.2.1.1,(y.2.1.2.1.1,y.2.1.2.1.2.1,()),y.2.1.2.2.1,()),()) else (We k ((y.2.1.1,(y.2.1.2.1.1,y.2.1.2.1.2.1,()),y.2.1.2.2.1,()),y.1 == 7,2,())).bind fun y_1 => (WN k ((y_1.2.1.1,(y_1.2.1.2.1.1,y_1.2.1.2.1.2.1,()),y_1.2.1.2.2.1,()),4,())).bind fun y_2 => (We k ((y_2.2.1.1,(y_2.2.1.2.1.1,y_2.2.1.2.1.2.1,()),y_2.2.1.2.2.1,()),y_2.1 == 0,2,())).bind fun y_3 => (WN k ((y_3.2.1.1,(y_3.2.1.2.1.1,y_3.2.1.2.1.2.1,()),y_3.2.1.2.2.1,()),4,())).bind fun y_4 => (Zzt k ((a4,a5,a6,()),y_4.1,())).bind fun y_5 => (We k ((y_4.2.1.1,(y_4.2.1.2.1.1,y_4.2.1.2.1.2.1,()),y_4.2.1.2.2.1,()),y_5.1,2,())).bind fun y_6 => (WN k ((y_6.2.1.1,(y_6.2.1.2.1.1,y_6.2.1.2.1.2.1,()),y_6.2.1.2.2.1,()),4,())).bind fun y_7 => (We k ((y_7.2.1.1,(y_7.2.1.2.1.1,y_7.2.1.2.1.2.1,()),y_7.2.1.2.2.1,()),y_7.1 == 0,2,())).bind fun y_8 => (Zqg k ((y_8.2.1.1,(y_8.2.1.2.1.1,y_8.2.1.2.1.2.1,()),y_8.2.1.2.2.1,()),())).bind fun y_9 => bif y_9.2.1.2.2.1 == 0 then (WN k ((y_9.2.1.1,(y_9.2.1.2.1.1,y_9.2.1.2.1.2.1,()),y_9.2.1.2.2.1,()),Jx.wrap ((8:Int) * Jx.wrap (Jx.wrap (y.1 - 6) + (1:Int))),())).bind fun y => (We k ((y.2.1.1,(y.2.1.2.1.1,y.2.1.2.1.2.1,()),y.2.1.2.2.1,()),decide (Jx.wrap (y.1 + 1) ≤ (512:Int)),1,())).bind fun y_10 => (Zmq k ((y_10.2.1.1,(y_10.2.1.2.1.1,y_10.2.1.2.1.2.1,()),y_10.2.1.2.2.1,()),8,(),())).bind fun y_11 => some ((y_4.1,y_9.1,Jx.wrap (y.1 + 1),()),(y_11.2.1.1,(y_11.2.1.2.1.1,y_11.2.1.2.1.2.1,()),y_11.2.1.2.2.1,()),()) else (We k ((y_9.2.1.1,(y_9.2.1.2.1.1,y_9.2.1.2.1.2.1,()),y_9.2.1.2.2.1,()),decide ((0:Int) ≤ 512),1,())).bind fun y => (Zmq k ((y.2.1.1,(y.2.1.2.1.1,y.2.1.2.1.2.1,()),y.2.1.2.2.1,()),8,(),())).bind fun y => some ((y_4.1,y_9.1,0,()),(y.2.1.1,(y.2.1.2.1.1,y.2.1.2.1.2.1,()),y.2.1.2.2.1,()),())
def ZFp (k:Nat):=ZNi k
set_option maxHeartbeats 1000000 in
noncomputable def ZXR (k:Nat):ZE k:=Zy 56 Tryz.f56 [ZXU k,ZFI k,ZFJ k,ZYg k,ZYh k] ZV8 Zbm ZFp
abbrev ZQ2:List Kd:=[.box [.ref [.view (.sl (.int .u8)),.view (.int .i64)],.view (.int .i64)],.view .bool]
def ZkP (k:Nat):((List Int × Int × Unit) × Int × Unit) × Bool × Unit → Option (Unit × ((List Int × Int × Unit) × Int × Unit) × Unit)
 | (((a0,a1,()),a2,()),a3,()) => bif a2 == 0 then bif !a3 then some ((),((a0,a1,()),2,()),()) else some ((),((a0,a1,()),a2,()),()) else some ((),((a0,a1,()),a2,()),())
def Xq (k:Nat):=ZkP k
noncomputable def ZKr (k:Nat):ZE k:=Zy 165 Tryz.f165 [] ZQ2 K0 Xq
abbrev ZEf:List Kd:=[.box [.ref [.view (.sl (.int .u8)),.view (.int .i64)],.view (.int .i64)],.view (.int .i64)]
def ZkQ (k:Nat):((List Int × Int × Unit) × Int × Unit) × Int × Unit → Option (Int × ((List Int × Int × Unit) × Int × Unit) × Unit)
 | (((a0,a1,()),a2,()),a3,()) => bif a2 == 0 then (YL k ((a0,a1,()),a3,())).bind fun y => some (y.1.1,((y.2.1.1,y.2.1.2.1,()),y.1.2.1,()),()) else some (0,((a0,a1,()),a2,()),())
def KJ (k:Nat):=ZkQ k
noncomputable def ZKs (k:Nat):ZE k:=Zy 166 Tryz.f166 [Zho k] ZEf ZB KJ
def ZkR (k:Nat):Int × Unit → Option (Bool × Unit)
 | (a0,()) => bif a0 == 0 then some (true,()) else bif a0 == 1 then some (true,()) else bif decide (8 ≤ a0) then bif decide (a0 ≤ 12) then some (true,()) else bif decide ((31:Int) < a0) then some (decide (a0 ≤ 39),()) else some (false,()) else bif decide ((31:Int) < a0) then some (decide (a0 ≤ 39),()) else some (false,())
def ZBb (k:Nat):=ZkR k
noncomputable def ZU6 (k:Nat):ZE k:=Zy 167 Tryz.f167 [] Ql Qd ZBb
noncomputable def ZKv (k:Nat):List (ZE k):=[ZOB k]
def ZKt:Nat → Ann:=fun id => bif Ja id 4 then ⟨[4,0],[]⟩ else ⟨[],[]⟩
abbrev Znc:=Int × List Int × Int
abbrev Zna:=Znc → Option ((Int × Int × Unit) × (List Int × Int × Unit) × Unit)
def ZQ3:Znc → St
 | (v0,v1,v2) => St.mk (Zq [(4,Zl v0),(0,AV.bx 0 0)]) (Zp [(0,QQ [AV.val (PV.sl (Ty.int UK) v1),Zl v2])])
def Zb4 (k:Nat) (L1:Zna):Zna
 | (v0,v1,v2) => bif decide (v0 < Jx.wrap ((8:Int) * UD v1.length)) then (Zzu k ((v1,v2,()),v0,())).bind fun y => bif y.1 == 1 then some ((Jx.wrap (v0 - y.2.1.2.1),0,()),(y.2.1.1,Jx.wrap (v0 + 1),()),()) else L1 (Jx.wrap (v0 + 1),y.2.1.1,y.2.1.2.1) else some ((0,10,()),(v1,v2,()),())
def Znb (k:Nat):Zna:=Zg (fun L1 => Zb4 k L1) k
noncomputable def ZxV (k:Nat) (n:Nat):=QI (ZKv k) Tryz.f168 Zls QY [1,1,0,1,0] [] n ZQ3 (A:=ZKt) (a:=[AV.bx (nat_lit 0) (nat_lit 0)]) (b:=[[]]) (q:=[0])
def Zgd (k:Nat) (L1:Zna):(List Int × Int × Unit) × Unit → Option ((Int × Int × Unit) × (List Int × Int × Unit) × Unit)
 | ((a0,a1,()),()) => L1 (a1,a0,a1)
def Zo8 (k:Nat):=Zgd k (Znb k)
theorem ZHm (k:Nat):∀ n,ZxV k n = Zg (fun L1 => Zb4 k L1) n:=ZO
noncomputable def ZKu (k:Nat):ZE k:=Zy 168 Tryz.f168 (ZKv k) Zls QY Zo8 (A:=ZKt) (h:=fun x => by show _ = Zgd k (Znb k) x; rw [show Znb k = ZxV k k from (ZHm k k).symm]; kernel_rfl)
def Zqi (k:Nat):((List Int × Int × Unit) × Int × Unit) × Int × Unit → Option ((Int × Int × Unit) × ((List Int × Int × Unit) × Int × Unit) × Unit)
 | (((a0,a1,()),a2,()),a3,()) => (KJ k (((a0,a1,()),a2,()),1,())).bind fun y => (Xq k (((y.2.1.1.1,y.2.1.1.2.1,()),y.2.1.2.1,()),y.1 == 0,())).bind fun y => (KJ k (((y.2.1.1.1,y.2.1.1.2.1,()),y.2.1.2.1,()),6,())).bind fun y => (ZBb k (y.1,())).bind fun y_1 => (Xq k (((y.2.1.1.1,y.2.1.1.2.1,()),y.2.1.2.1,()),y_1.1,())).bind fun y_2 => (KJ k (((y_2.2.1.1.1,y_2.2.1.1.2.1,()),y_2.2.1.2.1,()),1,())).bind fun y_3 => bif y_3.1 == 1 then bif y_3.2.1.2.1 == 0 then (Zo8 k ((y_3.2.1.1.1,y_3.2.1.1.2.1,()),())).bind fun y_4 => (Xq k (((y_4.2.1.1,y_4.2.1.2.1,()),y_4.1.2.1,()),decide (Jx.wrap (y_4.1.1 + 1) < a3),())).bind fun y_5 => some ((y.1,Jx.wrap (y_4.1.1 + 1),()),((y_5.2.1.1.1,y_5.2.1.1.2.1,()),y_5.2.1.2.1,()),()) else (Xq k (((y_3.2.1.1.1,y_3.2.1.1.2.1,()),y_3.2.1.2.1,()),decide ((0:Int) < a3),())).bind fun y_4 => some ((y.1,0,()),((y_4.2.1.1.1,y_4.2.1.1.2.1,()),y_4.2.1.2.1,()),()) else (Xq k (((y_3.2.1.1.1,y_3.2.1.1.2.1,()),y_3.2.1.2.1,()),decide ((0:Int) < a3),())).bind fun y_4 => some ((y.1,0,()),((y_4.2.1.1.1,y_4.2.1.1.2.1,()),y_4.2.1.2.1,()),())
def ZOv (k:Nat):=Zqi k
set_option maxHeartbeats 1000000 in
noncomputable def ZYi (k:Nat):ZE k:=Zy 123 Tryz.f123 [ZKr k,ZKs k,ZU6 k,ZKu k] ZEf QY ZOv
abbrev ZRt:List Kd:=[.view (.int .u32),.view (.int .u32)]
abbrev ZRu:Kd:=.tup [.view (.int .u32),.view (.int .u32)]
def ZIf (k:Nat):Int × Int × Unit → Option ((Int × Int × Unit) × Unit)
 | (a0,a1,()) => some ((IntKind.u32.wrap ((UI.wrap (UI.wrap a0 * UI.wrap a1)).fdiv (4294967296:Int)),IntKind.u32.wrap (UI.wrap (UI.wrap a0 * UI.wrap a1)),()),())
def ZVJ (k:Nat):=ZIf k
noncomputable def ZVK (k:Nat):ZE k:=Zy 252 Tryz.f252 [] ZRt ZRu ZVJ
abbrev ZEy:List Kd:=[.view (.int .u64),.view (.int .u64)]
abbrev ZEz:Kd:=.tup [.view (.int .u64),.view (.int .u64)]
def Zlh (k:Nat):Int × Int × Unit → Option ((Int × Int × Unit) × Unit)
 | (a0,a1,()) => some ((UI.wrap (UI.wrap (UI.wrap (a0.fdiv (4294967296:Int) * a1.fdiv (4294967296:Int)) + (UI.wrap (UI.wrap (a0.fdiv (4294967296:Int) * UI.wrap (UD (UH 64 a1 &&& UH 64 (4294967295:Int)).toNat)) + (UI.wrap (UI.wrap (UD (UH 64 a0 &&& UH 64 (4294967295:Int)).toNat) * UI.wrap (UD (UH 64 a1 &&& UH 64 (4294967295:Int)).toNat))).fdiv (4294967296:Int))).fdiv (4294967296:Int)) + (UI.wrap (UI.wrap (UD (UH 64 (UI.wrap (UI.wrap (a0.fdiv (4294967296:Int) * UI.wrap (UD (UH 64 a1 &&& UH 64 (4294967295:Int)).toNat)) + (UI.wrap (UI.wrap (UD (UH 64 a0 &&& UH 64 (4294967295:Int)).toNat) * UI.wrap (UD (UH 64 a1 &&& UH 64 (4294967295:Int)).toNat))).fdiv (4294967296:Int))) &&& UH 64 (4294967295:Int)).toNat) + UI.wrap (UI.wrap (UD (UH 64 a0 &&& UH 64 (4294967295:Int)).toNat) * a1.fdiv (4294967296:Int)))).fdiv (4294967296:Int)),UI.wrap (a0 * a1),()),())
def ZLq (k:Nat):=Zlh k
set_option maxHeartbeats 1000000 in
noncomputable def ZVL (k:Nat):ZE k:=Zy 253 Tryz.f253 [] ZEy ZEz ZLq
def ZH1 (k:Nat):Int × Int × Unit → Option ((Int × Int × Unit) × Unit)
 | (a0,a1,()) => (ZLq k (a0,a1,())).bind fun y => some ((y.1.1,y.1.2.1,()),())
def ZBq (k:Nat):=ZH1 k
noncomputable def ZVy (k:Nat):ZE k:=Zy 214 Tryz.f214 [ZVK k,ZVL k] ZEy ZEz ZBq
noncomputable def ZKx (k:Nat):List (ZE k):=[ZVy k]
def ZKy:Nat → List Nat:=fun r => bif Ja r 999999 then [1] else []
def ZKw:Nat → Ann:=fun id => bif Ja id 8 then ⟨[8,7],[]⟩ else ⟨[],[]⟩
abbrev Znf:=Int × List Int
abbrev Znd:=Znf → Option (List Int × Unit)
def ZQ4:Znf → St
 | (v0,v1) => St.mk (Zq [(8,Zl v0),(7,AV.own 8192)]) (Zp [(8192,rsA v1 false)])
def Zgf (k:Nat) (L1:Znd):Znd
 | (v0,v1) => bif decide (v0 < UD v1.length) then bif decide (0 ≤ v0 ∧ v0 ≤ UD v1.length ∧ UD v1.length ≤ UD v1.length) then bif decide ((0:Int) ≤ 0 ∧ (0:Int) ≤ v0 ∧ v0 ≤ UD v1.length) then bif decide (v0.toNat ≤ (UD v1.length).toNat ∧ (UD v1.length).toNat ≤ v1.length) then bif decide ((0:Nat) ≤ v0.toNat ∧ v0.toNat ≤ v1.length) then L1 (Jx.wrap (v0 + UD (min (UM 0 (UL v0.toNat v1)).length ((UD v1.length).toNat - v0.toNat))),UL v0.toNat v1 ++ UL ((UD v1.length).toNat - v0.toNat) (UM 0 (UL v0.toNat v1)) ++ UM (v0.toNat + min (UM 0 (UL v0.toNat v1)).length ((UD v1.length).toNat - v0.toNat)) v1) else none else none else none else none else some (v1,())
def Zne (k:Nat):Znd:=Zg (fun L1 => Zgf k L1) k
noncomputable def ZxW (k:Nat) (n:Nat):=QI (ZKx k) Tryz.f169 Yp Zlq [1,1,1,1,1,1,0,0] [] n ZQ4 (A:=ZKw) (live:=ZKy)
def Zge (k:Nat) (L1:Znd):List Int × Int × Unit → Option (List Int × Unit)
 | (a0,a1,()) => bif decide (a1 < 0) then none else (ZBq k (UI.wrap (UD a0.length),UI.wrap a1,())).bind fun y => bif decide ((0:Int) < y.1.1) then none else bif decide ((9223372036854775807:Int) < y.1.2.1) then none else bif decide (0 ≤ Jx.wrap y.1.2.1 ∧ Jx.wrap y.1.2.1 ≤ Jx.wrap y.1.2.1 ∧ Jx.wrap y.1.2.1 < 4294967296) then L1 (UD (min a0.length ((Jd (Jx.wrap y.1.2.1).toNat (0:Int)).length - (0:Nat))),UL 0 (Jd (Jx.wrap y.1.2.1).toNat (0:Int)) ++ UL ((Jd (Jx.wrap y.1.2.1).toNat (0:Int)).length - (0:Nat)) a0 ++ UM ((0:Nat) + min a0.length ((Jd (Jx.wrap y.1.2.1).toNat (0:Int)).length - (0:Nat))) (Jd (Jx.wrap y.1.2.1).toNat (0:Int))) else none
def ZBc (k:Nat):=Zge k (Zne k)
theorem ZHo (k:Nat):∀ n,ZxW k n = Zg (fun L1 => Zgf k L1) n:=ZO
set_option maxHeartbeats 1000000 in
noncomputable def ZU7 (k:Nat):ZE k:=Zy 169 Tryz.f169 (ZKx k) Yp Zlq ZBc (A:=ZKw) (live:=ZKy) (h:=fun x => by show _ = Zge k (Zne k) x; rw [show Zne k = ZxW k k from (ZHo k k).symm]; kernel_rfl)
def Zlc (k:Nat):(List Int × Int × Unit) × Int × Unit → Option ((Int × Int × Unit) × (List Int × Int × Unit) × Unit)
 | ((a0,a1,()),a2,()) => (YL k ((a0,a1,()),a2,())).bind fun y => bif y.1.2.1 == 0 then bif decide ((0:Int) < a2) then bif decide (0 ≤ Jx.wrap (a2 - 1)) then bif UP y.1.1 ((2:Int) ^ min (Jx.wrap (a2 - 1)).toNat 64) == (1:Int) then bif decide (0 ≤ a2) then some ((Jx.wrap (y.1.1 - Jx.wrap ((1:Int) * (2:Int) ^ min a2.toNat 64)),y.1.2.1,()),(y.2.1.1,y.2.1.2.1,()),()) else none else some ((y.1.1,y.1.2.1,()),(y.2.1.1,y.2.1.2.1,()),()) else none else some ((y.1.1,y.1.2.1,()),(y.2.1.1,y.2.1.2.1,()),()) else some ((y.1.1,y.1.2.1,()),(y.2.1.1,y.2.1.2.1,()),())
def Zu1 (k:Nat):=Zlc k
set_option maxHeartbeats 1000000 in
noncomputable def ZLg (k:Nat):ZE k:=Zy 215 Tryz.f215 [Zho k] Zql QY Zu1
abbrev ZEi:List Kd:=[.box [.ref [.view (.sl (.int .u8)),.view (.int .i64)],.view (.int .i64)],.view (.int .i64),.view (.int .i64)]
noncomputable def ZKA (k:Nat):List (ZE k):=[ZLg k]
def ZKz:Nat → Ann:=fun id => bif Ja id 3 then ⟨[9,10,0,2,7],[.slot 7 ((Ty.int Jx))]⟩ else ⟨[],[]⟩
abbrev ZEh:=Int × Int × Int × Int × List Int × Int × List Int
abbrev Zng:=ZEh → Option (List Int × ((List Int × Int × Unit) × Int × Unit) × Unit)
def ZQ5:ZEh → St
 | (v0,v1,v2,v3,v4,v5,v6) => St.mk (Zq [(9,Zl v0),(10,Zl v1),(0,AV.bx 0 0),(2,Zl v2),(7,AV.own 8192)]) (Zp [(0,QQ [AV.bx 1 0,Zl v3]),(1,QQ [AV.val (PV.sl (Ty.int UK) v4),Zl v5]),(8192,rsA v6 false)])
def Zb5 (k:Nat) (L1:Zng):Zng
 | (v0,v1,v2,v3,v4,v5,v6) => bif decide (v1 < v0) then bif v3 == 0 then (Zu1 k ((v4,v5,()),v2,())).bind fun y => bif decide (v6.length + [y.1.1].length < 2147483648) then L1 (v0,Jx.wrap (v1 + 1),v2,y.1.2.1,y.2.1.1,y.2.1.2.1,v6 ++ [y.1.1]) else none else bif decide (v6.length + (1:Nat) < (2147483648:Nat)) then L1 (v0,Jx.wrap (v1 + 1),v2,v3,v4,v5,v6 ++ [(0:Int)]) else none else some (v6,((v4,v5,()),v3,()),())
def Znh (k:Nat):Zng:=Zg (fun L1 => Zb5 k L1) k
noncomputable def ZxX (k:Nat) (n:Nat):=QI (ZKA k) Tryz.f170 ZEi Zlq [1,1,0,1,0] [] n ZQ5 (A:=ZKz) (a:=[AV.bx (nat_lit 0) (nat_lit 0)]) (b:=[[1]]) (q:=[0,1])
def Zgg (k:Nat) (L1:Zng):((List Int × Int × Unit) × Int × Unit) × Int × Int × Unit → Option (List Int × ((List Int × Int × Unit) × Int × Unit) × Unit)
 | (((a0,a1,()),a2,()),a3,a4,()) => L1 (a3,(0:Int),a4,a2,a0,a1,[])
def Zc3 (k:Nat):=Zgg k (Znh k)
theorem ZHr (k:Nat):∀ n,ZxX k n = Zg (fun L1 => Zb5 k L1) n:=ZO
noncomputable def ZU8 (k:Nat):ZE k:=Zy 170 Tryz.f170 (ZKA k) ZEi Zlq Zc3 (A:=ZKz) (h:=fun x => by show _ = Zgg k (Znh k) x; rw [show Znh k = ZxX k k from (ZHr k k).symm]; kernel_rfl)
def Zlm (k:Nat):Int × Unit → Option ((Int × Int × Unit) × Unit)
 | (a0,()) => bif decide (a0 < 0) then some ((0,12,()),()) else bif decide ((2199023255552:Int) < a0) then some ((0,12,()),()) else some ((Jx.wrap (UD (UH 64 (a0.fdiv (2:Int)) ^^^ UH 64 (Jx.wrap ((0:Int) - Jx.wrap (UD (UH 64 a0 &&& UH 64 (1:Int)).toNat)))).toNat),0,()),())
def ZBD (k:Nat):=Zlm k
noncomputable def ZVS (k:Nat):ZE k:=Zy 268 Tryz.f268 [] Ql QY ZBD
def Zlj (k:Nat):(List Int × Int × Unit) × Int × Unit → Option ((Int × Int × Unit) × (List Int × Int × Unit) × Unit)
 | ((a0,a1,()),a2,()) => (Zo8 k ((a0,a1,()),())).bind fun y => bif y.1.2.1 != 0 then some ((0,y.1.2.1,()),(y.2.1.1,y.2.1.2.1,()),()) else (YL k ((y.2.1.1,y.2.1.2.1,()),a2,())).bind fun y_1 => bif y_1.1.2.1 != 0 then some ((0,y_1.1.2.1,()),(y_1.2.1.1,y_1.2.1.2.1,()),()) else bif decide (0 ≤ a2) then bif decide (4294967295 ≤ Jx.wrap (UD (UH 64 (Jx.wrap (y.1.1 * (2:Int) ^ min a2.toNat 64)) ||| UH 64 y_1.1.1).toNat)) then some ((0,12,()),(y_1.2.1.1,y_1.2.1.2.1,()),()) else (ZBD k (Jx.wrap (UD (UH 64 (Jx.wrap (y.1.1 * (2:Int) ^ min a2.toNat 64)) ||| UH 64 y_1.1.1).toNat),())).bind fun y => some ((y.1.1,y.1.2.1,()),(y_1.2.1.1,y_1.2.1.2.1,()),()) else none
def ZBy (k:Nat):=Zlj k
set_option maxHeartbeats 1000000 in
noncomputable def ZVO (k:Nat):ZE k:=Zy 255 Tryz.f255 [Zho k,ZKu k,ZVS k] Zql QY ZBy
abbrev ZEA:List Kd:=[.box [.ref [.view (.sl (.int .u8)),.view (.int .i64)]],.box [.view (.int .i64)]]
def Zli (k:Nat):((List Int × Int × Unit) × Unit) × (Int × Unit) × Unit → Option ((Int × Int × Unit) × ((List Int × Int × Unit) × Unit) × (Int × Unit) × Unit)
 | (((a0,a1,()),()),(a2,()),()) => (ZBy k ((a0,a1,()),a2,())).bind fun y => some ((y.1.1,y.1.2.1,()),((y.2.1.1,y.2.1.2.1,()),()),(a2,()),())
def ZBw (k:Nat):=Zli k
noncomputable def ZVM (k:Nat):ZE k:=Zy 254 Tryz.f254 [ZVO k] ZEA QY ZBw
def Zlk (k:Nat):((List Int × Int × Unit) × Unit) × (Int × Unit) × Unit → Option ((Int × Int × Unit) × ((List Int × Int × Unit) × Unit) × (Int × Unit) × Unit)
 | (((a0,a1,()),()),(a2,()),()) => (Zu1 k ((a0,a1,()),a2,())).bind fun y => some ((y.1.1,y.1.2.1,()),((y.2.1.1,y.2.1.2.1,()),()),(a2,()),())
def ZBz (k:Nat):=Zlk k
noncomputable def ZVP (k:Nat):ZE k:=Zy 256 Tryz.f256 [ZLg k] ZEA QY ZBz
abbrev Zc7:List Kd:=[.box [.view (.sl (.int .u8)),.view (.int .i64)],.view (.int .i64),.view (.int .i64)]
noncomputable def ZBs (k:Nat):List (ZE k):=[Zm3 k,ZuI k,Zho k,ZVM k,ZVP k]
noncomputable def ZBr:Nat → Ann:=fun id => bif Ja id 12 then ⟨[40,41,10,13],[.slot 13 ((Ty.int Jx))]⟩ else ⟨[],[]⟩
abbrev Zu2:=Int × Int × List Int × Int × Int × List Int
abbrev Zbp:=Zu2 → Option ((List Int × Int × Unit) × (List Int × Int × Unit) × Unit)
noncomputable def ZRm:Zu2 → St
 | (v0,v1,v2,v3,v4,v5) => St.mk (Zq [(40,Zl v0),(41,Zl v1),(10,AV.clo 256 [AV.bx 8192 0,AV.bx 8193 0]),(13,AV.own 8194)]) (Zp [(0,QQ [AV.val (PV.sl (Ty.int UK) v2),Zl v3]),(8192,QQ [AV.bx 0 0]),(8193,QQ [Zl v4]),(8194,rsA v5 false)])
noncomputable def Zce (k:Nat) (L1:Zbp):Zbp
 | (v0,v1,v2,v3,v4,v5) => bif decide (v1 < v0) then (ZBz k (((v2,v3,()),()),(v4,()),())).bind fun y => bif y.1.2.1 != 0 then some (([],y.1.2.1,()),(y.2.1.1.1,y.2.1.1.2.1,()),()) else bif decide (v5.length + [y.1.1].length < 2147483648) then L1 (v0,Jx.wrap (v1 + 1),y.2.1.1.1,y.2.1.1.2.1,y.2.2.1.1,v5 ++ [y.1.1]) else none else some ((v5,0,()),(v2,v3,()),())
noncomputable def ZnG (k:Nat):Zbp:=Zg (fun L1 => Zce k L1) k
noncomputable def Zyg (k:Nat) (n:Nat):=QI (ZBs k) Tryz.f218 Zc7 WJ [1,1,1,1,1,1,0,1,0] [] n ZRm (A:=ZBr) (a:=[AV.bx (nat_lit 0) (nat_lit 0)]) (b:=[[]]) (q:=[0])
noncomputable def ZRn:Zu2 → St
 | (v0,v1,v2,v3,v4,v5) => St.mk (Zq [(40,Zl v0),(41,Zl v1),(10,AV.clo 254 [AV.bx 8192 0,AV.bx 8193 0]),(13,AV.own 8194)]) (Zp [(0,QQ [AV.val (PV.sl (Ty.int UK) v2),Zl v3]),(8192,QQ [AV.bx 0 0]),(8193,QQ [Zl v4]),(8194,rsA v5 false)])
noncomputable def Zcf (k:Nat) (L2:Zbp):Zbp
 | (v0,v1,v2,v3,v4,v5) => bif decide (v1 < v0) then (ZBw k (((v2,v3,()),()),(v4,()),())).bind fun y => bif y.1.2.1 != 0 then some (([],y.1.2.1,()),(y.2.1.1.1,y.2.1.1.2.1,()),()) else bif decide (v5.length + [y.1.1].length < 2147483648) then L2 (v0,Jx.wrap (v1 + 1),y.2.1.1.1,y.2.1.1.2.1,y.2.2.1.1,v5 ++ [y.1.1]) else none else some ((v5,0,()),(v2,v3,()),())
noncomputable def Ziu (k:Nat):Zbp:=Zg (fun L2 => Zcf k L2) k
noncomputable def Zyh (k:Nat) (n:Nat):=QI (ZBs k) Tryz.f218 Zc7 WJ [1,1,1,1,1,1,0,1,0] [] n ZRn (A:=ZBr) (a:=[AV.bx (nat_lit 0) (nat_lit 0)]) (b:=[[]]) (q:=[0])
noncomputable def Zgs (k:Nat) (L1:Zbp) (L2:Zbp):(List Int × Int × Unit) × Int × Int × Unit → Option ((List Int × Int × Unit) × (List Int × Int × Unit) × Unit)
 | ((a0,a1,()),a2,a3,()) => (Zo3 k (a2,())).bind fun y => (YL k ((a0,a1,()),y.1,())).bind fun y => bif y.1.2.1 != 0 then some (([],y.1.2.1,()),(y.2.1.1,y.2.1.2.1,()),()) else (Zex k (a2,())).bind fun y_1 => bif y.1.1 == y_1.1 then (YL k ((y.2.1.1,y.2.1.2.1,()),5,())).bind fun y => bif y.1.2.1 != 0 then some (([],y.1.2.1,()),(y.2.1.1,y.2.1.2.1,()),()) else L1 (a3,(0:Int),y.2.1.1,y.2.1.2.1,y.1.1,[]) else L2 (a3,(0:Int),y.2.1.1,y.2.1.2.1,y.1.1,[])
noncomputable def Zpi (k:Nat):=Zgs k (ZnG k) (Ziu k)
theorem ZH2 (k:Nat):∀ n,Zyg k n = Zg (fun L1 => Zce k L1) n:=ZO
theorem ZH3 (k:Nat):∀ n,Zyh k n = Zg (fun L2 => Zcf k L2) n:=ZO
set_option maxHeartbeats 1000000 in
noncomputable def ZVz (k:Nat):ZE k:=Zy 218 Tryz.f218 (ZBs k) Zc7 WJ Zpi (A:=ZBr) (h:=fun x => by show _ = Zgs k (ZnG k) (Ziu k) x; rw [show ZnG k = Zyg k k from (ZH2 k k).symm,show Ziu k = Zyh k k from (ZH3 k k).symm]; kernel_rfl)
noncomputable def ZKC (k:Nat):List (ZE k):=[Zho k,ZBj k,ZBl k,ZVz k]
def ZKB:Nat → Ann:=fun id => bif Ja id 15 then ⟨[52,53,1,10,2,0,8,11],[.slot 11 ((Ty.int Jx))]⟩ else ⟨[],[]⟩
abbrev ZEj:=Int × Int × Int × Int × Int × Int × List Int × Int × List Int
abbrev Zni:=ZEj → Option ((List Int × Int × Unit) × (List Int × Int × Unit) × Unit)
def ZQ6:ZEj → St
 | (v0,v1,v2,v3,v4,v5,v6,v7,v8) => St.mk (Zq [(52,Zl v0),(53,Zl v1),(1,Zl v2),(10,Zl v3),(2,Zl v4),(0,AV.bx 0 0),(8,Zl v5),(11,AV.own 8192)]) (Zp [(0,QQ [AV.val (PV.sl (Ty.int UK) v6),Zl v7]),(8192,rsA v8 false)])
noncomputable def K9 (k:Nat) (L1:Zni):Zni
 | (v0,v1,v2,v3,v4,v5,v6,v7,v8) => bif decide (v1 < v0) then bif decide (0 ≤ v3) then bif v1 == 0 then (Zpi k ((v6,v7,()),v5,Jx.wrap (v2.fdiv ((2:Int) ^ min v3.toNat 64) - v4),())).bind fun y => bif y.1.2.1 != 0 then some (([],y.1.2.1,()),(y.2.1.1,y.2.1.2.1,()),()) else bif decide (v8.length + UO y.1.1 < 2147483648) then L1 (v0,Jx.wrap (v1 + 1),v2,v3,v4,v5,y.2.1.1,y.2.1.2.1,v8 ++ y.1.1) else none else (Zpi k ((v6,v7,()),v5,v2.fdiv ((2:Int) ^ min v3.toNat 64),())).bind fun y => bif y.1.2.1 != 0 then some (([],y.1.2.1,()),(y.2.1.1,y.2.1.2.1,()),()) else bif decide (v8.length + UO y.1.1 < 2147483648) then L1 (v0,Jx.wrap (v1 + 1),v2,v3,v4,v5,y.2.1.1,y.2.1.2.1,v8 ++ y.1.1) else none else none else some ((v8,0,()),(v6,v7,()),())
noncomputable def Znj (k:Nat):Zni:=Zg (fun L1 => K9 k L1) k
noncomputable def ZxY (k:Nat) (n:Nat):=QI (ZKC k) Tryz.f172 Zc7 WJ [1,1,1,1,1,1,1,0,1,0] [] n ZQ6 (A:=ZKB) (a:=[AV.bx (nat_lit 0) (nat_lit 0)]) (b:=[[]]) (q:=[0])
def Zgh (k:Nat) (L1:Zni):(List Int × Int × Unit) × Int × Int × Unit → Option ((List Int × Int × Unit) × (List Int × Int × Unit) × Unit)
 | ((a0,a1,()),a2,a3,()) => (ZBi k (a2,a3,())).bind fun y => bif !y.1 then some (([],1,()),(a0,a1,()),()) else (YL k ((a0,a1,()),2,())).bind fun y => bif y.1.2.1 != 0 then some (([],y.1.2.1,()),(y.2.1.1,y.2.1.2.1,()),()) else bif decide ((1:Int) < y.1.1) then some (([],2,()),(y.2.1.1,y.2.1.2.1,()),()) else (YL k ((y.2.1.1,y.2.1.2.1,()),4,())).bind fun y_1 => bif y_1.1.2.1 != 0 then some (([],y_1.1.2.1,()),(y_1.2.1.1,y_1.2.1.2.1,()),()) else (Zhr k (a2,a3,y_1.1.1,())).bind fun y_2 => bif !y_2.1 then some (([],2,()),(y_1.2.1.1,y_1.2.1.2.1,()),()) else bif decide ((0:Int) ≤ y_1.1.1) then L1 (Jx.wrap ((1:Int) * (2:Int) ^ min (US y_1.1.1) (64:Nat)),(0:Int),a2,y_1.1.1,a3,y.1.1,y_1.2.1.1,y_1.2.1.2.1,[]) else none
noncomputable def ZeA (k:Nat):=Zgh k (Znj k)
theorem ZHs (k:Nat):∀ n,ZxY k n = Zg (fun L1 => K9 k L1) n:=ZO
set_option maxHeartbeats 1000000 in
noncomputable def ZU9 (k:Nat):ZE k:=Zy 172 Tryz.f172 (ZKC k) Zc7 WJ ZeA (A:=ZKB) (h:=fun x => by show _ = Zgh k (Znj k) x; rw [show Znj k = ZxY k k from (ZHs k k).symm]; kernel_rfl)
abbrev Znm:List Kd:=[.view ZfF,.view (.sl (.int .i64)),.view (.sl (.int .i64))]
noncomputable def ZKE (k:Nat):List (ZE k):=[Zo1 k,ZBh k,ZK6 k,ZLi k,ZLk k]
def ZKD:Nat → Ann:=fun id => bif Ja id 9 then ⟨[32,33,31,3,8],[.«show» 8]⟩ else ⟨[],[]⟩
abbrev ZEk:=Int × Int × List Int × List Int × Int × List Int
abbrev Znk:=ZEk → Option ((List Int × Int × Unit) × Unit)
def ZQ7:ZEk → St
 | (v0,v1,v2,v3,v4,v5) => St.mk (Zq [(32,Zl v0),(33,Zl v1),(31,avL v2),(3,AV.bx 8192 0),(8,AV.own 8193)]) (Zp [(8192,QQ [avL v3,Zl v4]),(8193,rsA v5 true)])
def Zb7 (k:Nat) (L1:Znk):Znk
 | (v0,v1,v2,v3,v4,v5) => bif decide (v1 < v0) then bif decide (0 ≤ v1 ∧ v1 < UD v2.length) then (Zu5 k ((v3,v4,()),v5,())).bind fun y => (Zpg k (Jx.wrap (v2.getD v1.toNat 0 + y.1),())).bind fun y_1 => bif y_1.1 then some (([],12,()),()) else bif decide (v5.length + [Jx.wrap (v2.getD v1.toNat 0 + y.1)].length < 2147483648) then L1 (v0,Jx.wrap (v1 + 1),v2,v3,v4,v5 ++ [Jx.wrap (v2.getD v1.toNat 0 + y.1)]) else none else none else some ((v5,0,()),())
def Znl (k:Nat):Znk:=Zg (fun L1 => Zb7 k L1) k
noncomputable def ZxZ (k:Nat) (n:Nat):=QI (ZKE k) Tryz.f173 Znm WJ [1,1,1,0,1,0] [] n ZQ7 (A:=ZKD)
def Zgi (k:Nat) (L1:Znk):(List Int × Int × Unit) × List Int × List Int × Unit → Option ((List Int × Int × Unit) × Unit)
 | ((a0,a1,()),a2,a3,()) => (Zu3 k ((a0,a1,()),())).bind fun y => bif y.1 != 0 then some (([],2,()),()) else bif UD a2.length != UD a0.length then some (([],1,()),()) else (Zes k (a2,(),())).bind fun y => bif y.1 then some (([],12,()),()) else (Zes k (a3,(),())).bind fun y => bif y.1 then some (([],12,()),()) else (ZuS k (a2,())).bind fun y => L1 (UD a3.length,(0:Int),a3,a0,a1,y.1)
def ZeB (k:Nat):=Zgi k (Znl k)
theorem ZHv (k:Nat):∀ n,ZxZ k n = Zg (fun L1 => Zb7 k L1) n:=ZO
set_option maxHeartbeats 1000000 in
noncomputable def ZVa (k:Nat):ZE k:=Zy 173 Tryz.f173 (ZKE k) Znm WJ ZeB (A:=ZKD) (h:=fun x => by show _ = Zgi k (Znl k) x; rw [show Znl k = ZxZ k k from (ZHv k k).symm]; kernel_rfl)
abbrev ZWw:List Kd:=[.box [.ref [.view (.sl (.int .u8)),.view (.int .i64)],.view (.int .i64)],.view (.int .i64),.view (.int .i64),.view (.int .i64)]
noncomputable def Zqj (k:Nat):((List Int × Int × Unit) × Int × Unit) × Int × Int × Int × Unit → Option (List Int × ((List Int × Int × Unit) × Int × Unit) × Unit)
 | (((a0,a1,()),a2,()),a3,a4,a5,()) => bif a3 == 0 then (Zc3 k (((a0,a1,()),a2,()),1,a5,())).bind fun y => (ZBc k (y.1,a4,())).bind fun y_1 => some (y_1.1,((y.2.1.1.1,y.2.1.1.2.1,()),y.2.1.2.1,()),()) else bif a3 == 1 then (Zc3 k (((a0,a1,()),a2,()),a4,a5,())).bind fun y => some (y.1,((y.2.1.1.1,y.2.1.1.2.1,()),y.2.1.2.1,()),()) else bif decide ((31:Int) < a3) then (Xq k (((a0,a1,()),a2,()),decide (Jx.wrap (a3 - 31) ≤ a4),())).bind fun y => bif y.2.1.2.1 != 0 then some ([],((y.2.1.1.1,y.2.1.1.2.1,()),y.2.1.2.1,()),()) else (Zc3 k (((y.2.1.1.1,y.2.1.1.2.1,()),y.2.1.2.1,()),Jx.wrap (a3 - 31),a5,())).bind fun y => (ZuC k (if (4:Int) < Jx.wrap (a3 - 31) then (4:Int) else Jx.wrap (a3 - 31),())).bind fun y_1 => bif decide ((31:Int) < a3) then (KJ k (((y.2.1.1.1,y.2.1.1.2.1,()),y.2.1.2.1,()),4,())).bind fun y_2 => (Xq k (((y_2.2.1.1.1,y_2.2.1.1.2.1,()),y_2.2.1.2.1,()),y_2.1 == 11,())).bind fun y_3 => (KJ k (((y_3.2.1.1.1,y_3.2.1.1.2.1,()),y_3.2.1.2.1,()),5,())).bind fun y_4 => (Xq k (((y_4.2.1.1.1,y_4.2.1.1.2.1,()),y_4.2.1.2.1,()),decide (y_4.1 ≤ 15),())).bind fun y_5 => (Zc3 k (((y_5.2.1.1.1,y_5.2.1.1.2.1,()),y_5.2.1.2.1,()),Jx.wrap (a3 - 31),12,())).bind fun y_6 => bif y_6.2.1.2.1 != 0 then some ([],((y_6.2.1.1.1,y_6.2.1.1.2.1,()),y_6.2.1.2.1,()),()) else (ZeA k ((y_6.2.1.1.1,y_6.2.1.1.2.1,()),a4,Jx.wrap (a3 - 31),())).bind fun y_7 => bif y_7.1.2.1 != 0 then some ([],((y_7.2.1.1,y_7.2.1.2.1,()),y_7.1.2.1,()),()) else (ZeB k ((y_6.1,y_4.1,()),y.1,y_7.1.1,())).bind fun y => some (y.1.1,((y_7.2.1.1,y_7.2.1.2.1,()),y.1.2.1,()),()) else bif y.2.1.2.1 != 0 then some ([],((y.2.1.1.1,y.2.1.1.2.1,()),y.2.1.2.1,()),()) else (ZeA k ((y.2.1.1.1,y.2.1.1.2.1,()),a4,Jx.wrap (a3 - 31),())).bind fun y_2 => bif y_2.1.2.1 != 0 then some ([],((y_2.2.1.1,y_2.2.1.2.1,()),y_2.1.2.1,()),()) else (ZeB k ((y_1.1.1.1,y_1.1.1.2.1,()),y.1,y_2.1.1,())).bind fun y => some (y.1.1,((y_2.2.1.1,y_2.2.1.2.1,()),y.1.2.1,()),()) else (Xq k (((a0,a1,()),a2,()),decide (Jx.wrap (a3 - 8) ≤ a4),())).bind fun y => bif y.2.1.2.1 != 0 then some ([],((y.2.1.1.1,y.2.1.1.2.1,()),y.2.1.2.1,()),()) else (Zc3 k (((y.2.1.1.1,y.2.1.1.2.1,()),y.2.1.2.1,()),Jx.wrap (a3 - 8),a5,())).bind fun y => (ZuC k (if (4:Int) < Jx.wrap (a3 - 8) then (4:Int) else Jx.wrap (a3 - 8),())).bind fun y_1 => bif decide ((31:Int) < a3) then (KJ k (((y.2.1.1.1,y.2.1.1.2.1,()),y.2.1.2.1,()),4,())).bind fun y_2 => (Xq k (((y_2.2.1.1.1,y_2.2.1.1.2.1,()),y_2.2.1.2.1,()),y_2.1 == 11,())).bind fun y_3 => (KJ k (((y_3.2.1.1.1,y_3.2.1.1.2.1,()),y_3.2.1.2.1,()),5,())).bind fun y_4 => (Xq k (((y_4.2.1.1.1,y_4.2.1.1.2.1,()),y_4.2.1.2.1,()),decide (y_4.1 ≤ 15),())).bind fun y_5 => (Zc3 k (((y_5.2.1.1.1,y_5.2.1.1.2.1,()),y_5.2.1.2.1,()),Jx.wrap (a3 - 8),12,())).bind fun y_6 => bif y_6.2.1.2.1 != 0 then some ([],((y_6.2.1.1.1,y_6.2.1.1.2.1,()),y_6.2.1.2.1,()),()) else (ZeA k ((y_6.2.1.1.1,y_6.2.1.1.2.1,()),a4,Jx.wrap (a3 - 8),())).bind fun y_7 => bif y_7.1.2.1 != 0 then some ([],((y_7.2.1.1,y_7.2.1.2.1,()),y_7.1.2.1,()),()) else (ZeB k ((y_6.1,y_4.1,()),y.1,y_7.1.1,())).bind fun y => some (y.1.1,((y_7.2.1.1,y_7.2.1.2.1,()),y.1.2.1,()),()) else bif y.2.1.2.1 != 0 then some ([],((y.2.1.1.1,y.2.1.1.2.1,()),y.2.1.2.1,()),()) else (ZeA k ((y.2.1.1.1,y.2.1.1.2.1,()),a4,Jx.wrap (a3 - 8),())).bind fun y_2 => bif y_2.1.2.1 != 0 then some ([],((y_2.2.1.1,y_2.2.1.2.1,()),y_2.1.2.1,()),()) else (ZeB k ((y_1.1.1.1,y_1.1.1.2.1,()),y.1,y_2.1.1,())).bind fun y => some (y.1.1,((y_2.2.1.1,y_2.2.1.2.1,()),y.1.2.1,()),())
noncomputable def ZOx (k:Nat):=Zqj k
set_option maxHeartbeats 1000000 in
noncomputable def ZYj (k:Nat):ZE k:=Zy 124 Tryz.f124 [ZA7 k,ZKr k,ZKs k,ZU7 k,ZU8 k,ZU9 k,ZVa k] ZWw Zlq ZOx
noncomputable def ZTI (k:Nat):List (ZE k):=[ZUe k,ZYi k,ZYj k,ZUg k]
def ZTH:Nat → Ann:=fun id => bif Ja id 12 then ⟨[58,59,57,2,10,12],[.slot 12 ((Ty.int Jx))]⟩ else ⟨[],[]⟩
abbrev ZNl:=Int × Int × List Int × Int × Int × List Int × Int × List Int
abbrev ZvX:=ZNl → Option ((List Int × Int × Unit) × (List Int × Int × Unit) × Unit)
def ZV9:ZNl → St
 | (v0,v1,v2,v3,v4,v5,v6,v7) => St.mk (Zq [(58,Zl v0),(59,Zl v1),(57,avL v2),(2,Zl v3),(10,Zl v4),(12,AV.own 8192)]) (Zp [(0,QQ [AV.val (PV.sl (Ty.int UK) v5),Zl v6]),(8192,rsA v7 false)])
def Ze3 (k:Nat) (L1:ZvX):ZvX
 | (v0,v1,v2,v3,v4,v5,v6,v7) => bif decide (v1 < v0) then bif decide (0 ≤ v1 ∧ v1 < UD v2.length) then (ZOz k (v2.getD v1.toNat 0,Jx.wrap (v3 - v4),())).bind fun y => bif !y.1 then some (([],12,()),(v5,v6,()),()) else bif decide (0 ≤ v4) then bif decide (v7.length + [Jx.wrap (v2.getD v1.toNat 0 * (2:Int) ^ min v4.toNat 64)].length < 2147483648) then L1 (v0,Jx.wrap (v1 + 1),v2,v3,v4,v5,v6,v7 ++ [Jx.wrap (v2.getD v1.toNat 0 * (2:Int) ^ min v4.toNat 64)]) else none else none else none else some ((v7,0,()),(v5,v6,()),())
def ZvY (k:Nat):ZvX:=Zg (fun L1 => Ze3 k L1) k
noncomputable def ZFq (k:Nat) (n:Nat):=QI (ZTI k) Tryz.f58 Zc7 WJ [1,1,1,1,1,1,1,1,0,1,0] [] n ZV9 (A:=ZTH) (a:=[AV.bx (nat_lit 0) (nat_lit 0)]) (b:=[[]]) (q:=[0])
noncomputable def Zjx (k:Nat) (L1:ZvX):(List Int × Int × Unit) × Int × Int × Unit → Option ((List Int × Int × Unit) × (List Int × Int × Unit) × Unit)
 | ((a0,a1,()),a2,a3,()) => (ZOt k (a2,a3,())).bind fun y => bif !y.1 then some (([],1,()),(a0,a1,()),()) else (ZOv k (((a0,a1,()),0,()),a3,())).bind fun y => bif y.2.1.2.1 != 0 then some (([],y.2.1.2.1,()),(y.2.1.1.1,y.2.1.1.2.1,()),()) else (ZOx k (((y.2.1.1.1,y.2.1.1.2.1,()),y.2.1.2.1,()),y.1.1,a2,Jx.wrap (a3 - y.1.2.1),())).bind fun y_1 => bif y_1.2.1.2.1 != 0 then some (([],y_1.2.1.2.1,()),(y_1.2.1.1.1,y_1.2.1.1.2.1,()),()) else L1 (UD (UO y_1.1),(0:Int),y_1.1,a3,y.1.2.1,y_1.2.1.1.1,y_1.2.1.1.2.1,[])
noncomputable def ZNk (k:Nat):=Zjx k (ZvY k)
theorem ZNm (k:Nat):∀ n,ZFq k n = Zg (fun L1 => Ze3 k L1) n:=ZO
set_option maxHeartbeats 1000000 in
noncomputable def ZXS (k:Nat):ZE k:=Zy 58 Tryz.f58 (ZTI k) Zc7 WJ ZNk (A:=ZTH) (h:=fun x => by show _ = Zjx k (ZvY k) x; rw [show ZvY k = ZFq k k from (ZNm k k).symm]; kernel_rfl)
noncomputable def ZTK (k:Nat):List (ZE k):=[ZOB k]
def ZTJ:Nat → Ann:=fun id => bif Ja id 5 then ⟨[4,3,0],[]⟩ else ⟨[],[]⟩
abbrev ZvZ:=Zm1 → Option (Int × (List Int × Int × Unit) × Unit)
def ZWa:Zm1 → St
 | (v0,v1,v2,v3) => St.mk (Zq [(4,Zl v0),(3,Zl v1),(0,AV.bx 0 0)]) (Zp [(0,QQ [AV.val (PV.sl (Ty.int UK) v2),Zl v3])])
def Ze4 (k:Nat) (L1:ZvZ):ZvZ
 | (v0,v1,v2,v3) => bif decide (v0 < v1) then (Zzu k ((v2,v3,()),v0,())).bind fun y => bif y.1 == 1 then some (2,(y.2.1.1,y.2.1.2.1,()),()) else L1 (Jx.wrap (v0 + 1),v1,y.2.1.1,y.2.1.2.1) else some (0,(v2,v1,()),())
def Zv0 (k:Nat):ZvZ:=Zg (fun L1 => Ze4 k L1) k
noncomputable def ZFr (k:Nat) (n:Nat):=QI (ZTK k) Tryz.f59 Zls ZB [1,1,1,0,1,0] [] n ZWa (A:=ZTJ) (a:=[AV.bx (nat_lit 0) (nat_lit 0)]) (b:=[[]]) (q:=[0])
def Zjy (k:Nat) (L1:ZvZ):(List Int × Int × Unit) × Unit → Option (Int × (List Int × Int × Unit) × Unit)
 | ((a0,a1,()),()) => L1 (a1,Jx.wrap (UD (UH 64 (Jx.wrap (a1 + 7)) &&& ~~~UH 64 (7:Int)).toNat),a0,a1)
def ZNo (k:Nat):=Zjy k (Zv0 k)
theorem ZNp (k:Nat):∀ n,ZFr k n = Zg (fun L1 => Ze4 k L1) n:=ZO
noncomputable def ZXT (k:Nat):ZE k:=Zy 59 Tryz.f59 (ZTK k) Zls ZB ZNo (A:=ZTJ) (h:=fun x => by show _ = Zjy k (Zv0 k) x; rw [show Zv0 k = ZFr k k from (ZNp k k).symm]; kernel_rfl)
abbrev ZKc:List Kd:=[.box [.view (.sl (.int .u8)),.ref [.view (.sl (.int .u8)),.view (.int .i64)],.view (.int .i64)],.view (.int .i64),.fn 61]
def Zhn (k:Nat):(List Int × (List Int × Int × Unit) × Int × Unit) × Int × Unit × Unit → Option (Unit × (List Int × (List Int × Int × Unit) × Int × Unit) × Unit)
 | ((a0,(a1,a2,()),a3,()),a4,(),()) => (ZaP k ((a1,a2,()),())).bind fun y => (WN k ((a0,(y.2.1.1,y.2.1.2.1,()),a3,()),a4,())).bind fun y_1 => bif y_1.2.1.2.2.1 != 0 then (We k ((y_1.2.1.1,(y_1.2.1.2.1.1,y_1.2.1.2.1.2.1,()),y_1.2.1.2.2.1,()),true,16,())).bind fun y => some ((),(y.2.1.1,(y.2.1.2.1.1,y.2.1.2.1.2.1,()),y.2.1.2.2.1,()),()) else bif decide ((0:Int) ≤ 0 ∧ (0:Int) ≤ Jx.wrap (UJ y.1 (8:Int)) ∧ Jx.wrap (UJ y.1 (8:Int)) ≤ UD (UO y_1.2.1.1)) then (ZM2 k (UM 0 (UL (Jx.wrap (UJ y.1 (8:Int))).toNat y_1.2.1.1),())).bind fun y => (We k ((y_1.2.1.1,(y_1.2.1.2.1.1,y_1.2.1.2.1.2.1,()),y_1.2.1.2.2.1,()),y_1.1 == y.1,16,())).bind fun y => some ((),(y.2.1.1,(y.2.1.2.1.1,y.2.1.2.1.2.1,()),y.2.1.2.2.1,()),()) else none
def ZuA (k:Nat):=Zhn k
set_option maxHeartbeats 1000000 in
noncomputable def ZQP (k:Nat):ZE k:=Zy 60 Tryz.f60 [Zzh k,ZFI k,ZFJ k,ZTB k] ZKc K0 ZuA
abbrev Zv3:List Kd:=[.view (.sl (.int .i64)),.view (.sl (.int .i64)),.view (.int .i64)]
noncomputable def ZTM (k:Nat):List (ZE k):=[ZT0 k,ZUh k]
def ZTL:Nat → Ann:=fun id => bif Ja id 7 then ⟨[36,37,35,1,2,8,9],[]⟩ else ⟨[],[]⟩
abbrev ZNs:=Int × Int × List Int × List Int × Int × List Int × List Int
abbrev Zv1:=ZNs → Option ((List (Nat × Nat) × Int × Unit) × Unit)
def ZWc:ZNs → St
 | (v0,v1,v2,v3,v4,v5,v6) => St.mk (Zq [(36,Zl v0),(37,Zl v1),(35,avL v2),(1,avL v3),(2,Zl v4),(8,AV.own 8192),(9,AV.own 8193)]) (Zp [(8192,rsA v5 false),(8193,rsA v6 false)])
def Zcy (k:Nat) (L1:Zv1):Zv1
 | (v0,v1,v2,v3,v4,v5,v6) => bif decide (v1 < v0) then bif decide (0 ≤ v1 ∧ v1 < UD v2.length) then bif decide (0 ≤ v1 ∧ v1 < UD v3.length) then bif decide ((if v3.getD v1.toNat 0 < v2.getD v1.toNat 0 then v3.getD v1.toNat 0 else v2.getD v1.toNat 0) < -67108864) then some (([],12,()),()) else bif decide ((67108864:Int) < if v2.getD v1.toNat 0 < v3.getD v1.toNat 0 then v3.getD v1.toNat 0 else v2.getD v1.toNat 0) then some (([],12,()),()) else bif v4 == 0 then bif decide (0 ≤ v1 ∧ v1 < UD v5.length) then bif decide (v1.toNat < v5.length) then bif decide (0 ≤ v1 ∧ v1 < UD v6.length) then bif decide (v1.toNat < v6.length) then L1 (v0,Jx.wrap (v1 + 1),v2,v3,v4,v5.set v1.toNat (v2.getD v1.toNat 0),v6.set v1.toNat (v3.getD v1.toNat 0)) else none else none else none else none else bif v4 == 8 then bif decide (0 ≤ v1 ∧ v1 < UD v5.length) then bif decide (v1.toNat < v5.length) then bif decide (0 ≤ v1 ∧ v1 < UD v6.length) then bif decide (v1.toNat < v6.length) then L1 (v0,Jx.wrap (v1 + 1),v2,v3,v4,v5.set v1.toNat (v2.getD v1.toNat 0),v6.set v1.toNat (Jx.wrap (v2.getD v1.toNat 0 - v3.getD v1.toNat 0))) else none else none else none else none else bif v4 == 9 then bif decide (0 ≤ v1 ∧ v1 < UD v5.length) then bif decide (v1.toNat < v5.length) then bif decide (0 ≤ v1 ∧ v1 < UD v6.length) then bif decide (v1.toNat < v6.length) then L1 (v0,Jx.wrap (v1 + 1),v2,v3,v4,v5.set v1.toNat (Jx.wrap (v2.getD v1.toNat 0 + v3.getD v1.toNat 0)),v6.set v1.toNat (v3.getD v1.toNat 0)) else none else none else none else none else bif v4 == 10 then bif decide (0 ≤ v1 ∧ v1 < UD v5.length) then bif decide (v1.toNat < v5.length) then bif decide (0 ≤ v1 ∧ v1 < UD v6.length) then bif decide (v1.toNat < v6.length) then L1 (v0,Jx.wrap (v1 + 1),v2,v3,v4,v5.set v1.toNat ((Jx.wrap (Jx.wrap (UD (UH 64 (Jx.wrap (v2.getD v1.toNat 0 * (2:Int))) ||| UH 64 (Jx.wrap (UD (UH 64 (v3.getD v1.toNat 0) &&& UH 64 (1:Int)).toNat))).toNat) + v3.getD v1.toNat 0)).fdiv (2:Int)),v6.set v1.toNat ((Jx.wrap (Jx.wrap (UD (UH 64 (Jx.wrap (v2.getD v1.toNat 0 * (2:Int))) ||| UH 64 (Jx.wrap (UD (UH 64 (v3.getD v1.toNat 0) &&& UH 64 (1:Int)).toNat))).toNat) - v3.getD v1.toNat 0)).fdiv (2:Int))) else none else none else none else none else L1 (v0,Jx.wrap (v1 + 1),v2,v3,v4,v5,v6) else none else none else (ZNS k (v5,v6,())).bind fun y => some ((y.1.1,y.1.2.1,()),())
def Zv2 (k:Nat):Zv1:=Zg (fun L1 => Zcy k L1) k
noncomputable def ZFs (k:Nat) (n:Nat):=QI (ZTM k) Tryz.f62 Zv3 Zlu [1,1,1,0,1,0] [] n ZWc (A:=ZTL)
def Zjz (k:Nat) (L1:Zv1):List Int × List Int × Int × Unit → Option ((List (Nat × Nat) × Int × Unit) × Unit)
 | (a0,a1,a2,()) => (ZFL k (a2,())).bind fun y => bif !y.1 then some (([],1,()),()) else bif UD a0.length != UD a1.length then some (([],1,()),()) else bif decide ((8192:Int) < UD a0.length) then some (([],14,()),()) else bif decide ((0:Int) ≤ UD a0.length ∧ UD a0.length ≤ UD a0.length ∧ UD a0.length < (4294967296:Int)) then bif decide ((0:Int) ≤ UD a0.length ∧ UD a0.length ≤ UD a0.length ∧ UD a0.length < (4294967296:Int)) then L1 (UD a0.length,(0:Int),a0,a1,a2,Jd (UD a0.length).toNat (0:Int),Jd (UD a0.length).toNat (0:Int)) else none else none
def Zzf (k:Nat):=Zjz k (Zv2 k)
theorem ZNt (k:Nat):∀ n,ZFs k n = Zg (fun L1 => Zcy k L1) n:=ZO
set_option maxHeartbeats 1000000 in
noncomputable def ZXV (k:Nat):ZE k:=Zy 62 Tryz.f62 (ZTM k) Zv3 Zlu Zzf (A:=ZTL) (h:=fun x => by show _ = Zjz k (Zv2 k) x; rw [show Zv2 k = ZFs k k from (ZNt k k).symm]; kernel_rfl)
def Zp4 (k:Nat):List (Nat × Nat) × Unit → Option ((List Int × List Int × Int × Unit) × Unit)
 | (a0,()) => (ZNV k (a0,0,())).bind fun y => some ((y.1.1,y.1.2.1,y.1.2.2.1,()),())
def Zzg (k:Nat):=Zp4 k
noncomputable def ZXW (k:Nat):ZE k:=Zy 63 Tryz.f63 [ZNX k] Zbl ZCZ Zzg
abbrev ZLv:List Kd:=[.view ZfR,.view (.sl (.int .u8))]
abbrev ZBx:Kd:=.tup [.view ZhH,.view (.int .i64),.view (.int .i64)]
noncomputable def ZTt (k:Nat):List (ZE k):=[ZEd k,ZTw k,ZTA k,ZTG k,ZXR k,ZXS k,ZXT k,ZQP k,ZXV k,ZXW k,Zzh k]
def ZTs:Nat → Ann:=fun id => bif Ja id 10 then ⟨[55,56,54,8,11,4,12,2,9],[.cell 12 1 ((Ty.int Jx).sl)]⟩ else ⟨[],[]⟩
abbrev ZLs:=Int × Int × List Int × Int × Int × List Int × Int × List Int × Int × Int × Int × List (List Int) × Int × Int × Int
abbrev Zu6:=ZLs → Option (((Int × List (List Int) × Unit) × Int × Int × Unit) × Unit)
def ZVN:ZLs → St
 | (v0,v1,v2,v3,v4,v5,v6,v7,v8,v9,v10,v11,v12,v13,v14) => St.mk (Zq [(55,Zl v0),(56,Zl v1),(54,avL v2),(8,AV.bx 8192 0),(11,Zl v3),(4,AV.bx 8194 0),(12,AV.bx 8195 0),(2,AV.bx 8197 0),(9,Zl v4)]) (Zp [(8192,QQ [AV.val (PV.sl (Ty.int UK) v5),AV.bx 8193 0,Zl v6]),(8193,QQ [AV.val (PV.sl (Ty.int UK) v7),Zl v8]),(8194,QQ [Zl v9,AV.val (PV.v (V4 none (0:Nat) (0:Nat)))]),(8195,QQ [Zl v10,AV.own 8196]),(8196,RS.live (Res.arr (Ty.int Jx).sl v11 false)),(8197,QQ [Zl v12,Zl v13,Zl v14])])
noncomputable def ZeE (k:Nat) (L1:Zu6):Zu6
 | (v0,v1,v2,v3,v4,v5,v6,v7,v8,v9,v10,v11,v12,v13,v14) => bif decide (v1 < v0) then bif decide (0 ≤ v1 ∧ v1 < UD v2.length) then (ZNk k ((v7,v8,()),v3,v2.getD v1.toNat 0,())).bind fun y => bif y.1.2.1 != 0 then some ((((0:Int),[],()),0,y.1.2.1,()),()) else bif decide (v11.length + [y.1.1].length < 2147483648) then L1 (v0,Jx.wrap (v1 + 1),v2,v3,v4,v5,v6,y.2.1.1,y.2.1.2.1,v9,v10,v11 ++ [y.1.1],v12,v13,v14) else none else none else (ZNo k ((v7,v8,()),())).bind fun y => (ZuA k ((v5,(y.2.1.1,y.2.1.2.1,()),y.1,()),16,(),())).bind fun y => bif y.2.1.2.2.1 != 0 then some ((((0:Int),[],()),0,y.2.1.2.2.1,()),()) else bif decide ((1:Int) < v12) then bif v4 == 1 then bif decide ((0:Int) ≤ 0 ∧ (0:Int) < UD v11.length) then bif decide ((0:Nat) < v11.length) then bif decide ((0:Int) ≤ 1 ∧ (1:Int) < UD v11.length) then bif decide ((1:Nat) < v11.length) then (Zzf k (v11.getD 0 [],v11.getD 1 [],0,())).bind fun y_1 => bif y_1.1.2.1 != 0 then some ((((0:Int),[],()),0,y_1.1.2.1,()),()) else (Zzg k (y_1.1.1,())).bind fun y_2 => bif y_2.1.2.2.1 != 0 then some ((((0:Int),[],()),0,y_2.1.2.2.1,()),()) else (ZpP k ((v12,v13,v14,()),(v10,[y_2.1.1,y_2.1.2.1],()),())).bind fun y_3 => bif y_3.1 != 0 then some ((((0:Int),[],()),0,y_3.1,()),()) else (ZaP k ((y.2.1.2.1.1,y.2.1.2.1.2.1,()),())).bind fun y => some (((v10,[y_2.1.1,y_2.1.2.1],()),Jx.wrap (UJ y.1 (8:Int)),0,()),()) else none else none else none else none else bif decide ((0:Int) ≤ 0 ∧ (0:Int) < UD v11.length) then bif decide ((0:Nat) < v11.length) then bif decide ((0:Int) ≤ 1 ∧ (1:Int) < UD v11.length) then bif decide ((1:Nat) < v11.length) then (Zzf k (v11.getD 0 [],v11.getD 1 [],v4,())).bind fun y_1 => bif y_1.1.2.1 != 0 then some ((((0:Int),[],()),0,y_1.1.2.1,()),()) else (Zzg k (y_1.1.1,())).bind fun y_2 => bif y_2.1.2.2.1 != 0 then some ((((0:Int),[],()),0,y_2.1.2.2.1,()),()) else (ZpP k ((v12,v13,v14,()),(v10,[y_2.1.1,y_2.1.2.1],()),())).bind fun y_3 => bif y_3.1 != 0 then some ((((0:Int),[],()),0,y_3.1,()),()) else (ZaP k ((y.2.1.2.1.1,y.2.1.2.1.2.1,()),())).bind fun y => some (((v10,[y_2.1.1,y_2.1.2.1],()),Jx.wrap (UJ y.1 (8:Int)),0,()),()) else none else none else none else none else (ZpP k ((v12,v13,v14,()),(v10,v11,()),())).bind fun y_1 => bif y_1.1 != 0 then some ((((0:Int),[],()),0,y_1.1,()),()) else (ZaP k ((y.2.1.2.1.1,y.2.1.2.1.2.1,()),())).bind fun y => some (((v10,v11,()),Jx.wrap (UJ y.1 (8:Int)),0,()),())
noncomputable def Zu7 (k:Nat):Zu6:=Zg (fun L1 => ZeE k L1) k
noncomputable def ZEB (k:Nat) (n:Nat):=QI (ZTt k) Tryz.f27 ZLv ZBx [1,1,1,1,1,1,0,1,0] [] n ZVN (A:=ZTs)
def Ziv (k:Nat) (L1:Zu6):(Int × Int × Int × Unit) × List Int × Unit → Option (((Int × List (List Int) × Unit) × Int × Int × Unit) × Unit)
 | ((a0,a1,a2,()),a3,()) => (Zo5 k ((a0,a1,a2,()),())).bind fun y => bif y.1 != 0 then some ((((0:Int),[],()),0,y.1,()),()) else (Zzb k (a3,())).bind fun y => (ZFp k ((a3,(y.1.1,y.1.2.1,()),0,()),(a0,a1,a2,()),())).bind fun y => bif y.2.1.2.2.1 != 0 then some ((((0:Int),[],()),0,y.2.1.2.2.1,()),()) else (ZMZ k ((a0,a1,a2,()),y.1.1,())).bind fun y_1 => L1 (UD (UO y_1.1),(0:Int),y_1.1,y.1.2.2.1,y.1.1,y.2.1.1,y.2.1.2.2.1,y.2.1.2.1.1,y.2.1.2.1.2.1,(0:Int),y.1.2.1,[],a0,a1,a2)
noncomputable def ZLr (k:Nat):=Ziv k (Zu7 k)
theorem ZLt (k:Nat):∀ n,ZEB k n = Zg (fun L1 => ZeE k L1) n:=ZO
set_option maxHeartbeats 1000000 in
noncomputable def ZXE (k:Nat):ZE k:=Zy 27 Tryz.f27 (ZTt k) ZLv ZBx ZLr (A:=ZTs) (h:=fun x => by show _ = Ziv k (Zu7 k) x; rw [show Zu7 k = ZEB k k from (ZLt k k).symm]; kernel_rfl)
noncomputable def ZTY (k:Nat):List (ZE k):=[]
def ZTX:Nat → Ann:=fun id => bif Ja id 4 then ⟨[5,0,1],[]⟩ else ⟨[],[]⟩
abbrev Zlt:=Int × List Int × List Int
abbrev Zwc:=Zlt → Option (Bool × Unit)
def ZWk:Zlt → St
 | (v0,v1,v2) => St.mk (Zq [(5,Zl v0),(0,avL v1),(1,avL v2)]) (Zp [])
def Ze9 (k:Nat) (L1:Zwc):Zwc
 | (v0,v1,v2) => bif decide (v0 < UD v1.length) then bif decide (0 ≤ v0 ∧ v0 < UD v1.length) then bif decide (0 ≤ v0 ∧ v0 < UD v2.length) then bif v1.getD v0.toNat 0 != v2.getD v0.toNat 0 then some (false,()) else L1 (Jx.wrap (v0 + 1),v1,v2) else none else none else some (true,())
def Zwd (k:Nat):Zwc:=Zg (fun L1 => Ze9 k L1) k
noncomputable def ZFy (k:Nat) (n:Nat):=QI (ZTY k) Tryz.f117 Zwg Qd [1,1,0,1,0] [] n ZWk (A:=ZTX)
def ZjE (k:Nat) (L1:Zwc):List Int × List Int × Unit → Option (Bool × Unit)
 | (a0,a1,()) => bif UD a0.length != UD a1.length then some (false,()) else L1 (0,a0,a1)
def ZNP (k:Nat):=ZjE k (Zwd k)
theorem ZNQ (k:Nat):∀ n,ZFy k n = Zg (fun L1 => Ze9 k L1) n:=ZO
noncomputable def ZX2 (k:Nat):ZE k:=Zy 117 Tryz.f117 (ZTY k) Zwg Qd ZNP (A:=ZTX) (h:=fun x => by show _ = ZjE k (Zwd k) x; rw [show Zwd k = ZFy k k from (ZNQ k k).symm]; kernel_rfl)
abbrev ZMw:List Kd:=[.view ZhH,.view ZhH]
noncomputable def ZTv (k:Nat):List (ZE k):=[ZX2 k]
def ZTu:Nat → Ann:=fun id => bif Ja id 4 then ⟨[5,2,3],[]⟩ else ⟨[],[]⟩
abbrev ZMu:=Int × Int × List (List Int) × Int × List (List Int)
abbrev ZvH:=ZMu → Option (Bool × Unit)
def ZVU:ZMu → St
 | (v0,v1,v2,v3,v4) => St.mk (Zq [(5,Zl v0),(2,AV.bx 8192 0),(3,AV.bx 8193 0)]) (Zp [(8192,QQ [Zl v1,AV.val (PV.sl (Ty.int Jx).sl v2)]),(8193,QQ [Zl v3,AV.val (PV.sl (Ty.int Jx).sl v4)])])
def ZeU (k:Nat) (L1:ZvH):ZvH
 | (v0,v1,v2,v3,v4) => bif decide (v0 < UD v2.length) then bif decide (0 ≤ v0 ∧ v0 < UD v2.length) then bif decide (0 ≤ v0 ∧ v0 < UD v4.length) then (ZNP k (v2.getD v0.toNat [],v4.getD v0.toNat [],())).bind fun y => bif !y.1 then some (false,()) else L1 (Jx.wrap (v0 + 1),v1,v2,v3,v4) else none else none else some (true,())
def ZvI (k:Nat):ZvH:=Zg (fun L1 => ZeU k L1) k
noncomputable def ZE1 (k:Nat) (n:Nat):=QI (ZTv k) Tryz.f55 ZMw Qd [1,1,0,1,0] [] n ZVU (A:=ZTu)
def Zjj (k:Nat) (L1:ZvH):(Int × List (List Int) × Unit) × (Int × List (List Int) × Unit) × Unit → Option (Bool × Unit)
 | ((a0,a1,()),(a2,a3,()),()) => bif a0 != a2 then some (false,()) else bif UD a1.length != UD a3.length then some (false,()) else L1 (0,a0,a1,a2,a3)
def ZMt (k:Nat):=Zjj k (ZvI k)
theorem ZMv (k:Nat):∀ n,ZE1 k n = Zg (fun L1 => ZeU k L1) n:=ZO
noncomputable def ZXG (k:Nat):ZE k:=Zy 55 Tryz.f55 (ZTv k) ZMw Qd ZMt (A:=ZTu) (h:=fun x => by show _ = Zjj k (ZvI k) x; rw [show ZvI k = ZE1 k k from (ZMv k k).symm]; kernel_rfl)
def Zez (k:Nat):(Int × Int × Int × Unit) × Unit → Option (Bool × Unit)
 | ((a0,a1,a2,()),()) => bif a0 == 1 then bif decide (4 ≤ a1) then bif decide (a1 ≤ 24) then bif decide (1 ≤ a2) then some (decide (a2 ≤ 655350),()) else some (false,()) else some (false,()) else some (false,()) else bif a0 == 2 then bif decide (4 ≤ a1) then bif decide (a1 ≤ 24) then bif decide (1 ≤ a2) then some (decide (a2 ≤ 655350),()) else some (false,()) else some (false,()) else some (false,()) else some (false,())
def Zmn (k:Nat):=Zez k
noncomputable def ZEg (k:Nat):ZE k:=Zy 32 Tryz.f32 [] ZKk Qd Zmn
def ZeW (k:Nat):Int × Int × Unit → Option (Bool × Unit)
 | (a0,a1,()) => bif a1 == 0 then some (a0 == 0,()) else bif decide (0 ≤ Jx.wrap (a1 - 1)) then bif decide (Jx.wrap ((0:Int) - Jx.wrap ((1:Int) * (2:Int) ^ min (Jx.wrap (a1 - 1)).toNat 64)) ≤ a0) then bif decide (0 ≤ Jx.wrap (a1 - 1)) then some (decide (a0 < Jx.wrap ((1:Int) * (2:Int) ^ min (Jx.wrap (a1 - 1)).toNat 64)),()) else none else some (false,()) else none
def Ztr (k:Nat):=ZeW k
noncomputable def ZMH (k:Nat):ZE k:=Zy 33 Tryz.f33 [] ZdE Qd Ztr
noncomputable def ZKN (k:Nat):List (ZE k):=[ZEg k,ZMH k]
def ZKK:Nat → Ann:=fun id => bif Ja id 12 then ⟨[7,5,3,6,2],[]⟩ else bif Ja id 9 then ⟨[6,2,5,3],[]⟩ else ⟨[],[]⟩
abbrev ZKM:=Int × Int × Int × Int × List (List Int) × Int × Int × Int
abbrev ZuL:=ZKM → Option (Int × Unit)
abbrev ZKL:=Int × Int × Int × Int × Int × Int × List (List Int)
abbrev ZkW:=ZKL → Option (Int × Unit)
def ZVf:ZKM → St
 | (v0,v1,v2,v3,v4,v5,v6,v7) => St.mk (Zq [(7,Zl v0),(5,Zl v1),(3,AV.bx 8192 0),(6,Zl v2),(2,AV.bx 8193 0)]) (Zp [(8192,QQ [Zl v3,AV.val (PV.sl (Ty.int Jx).sl v4)]),(8193,QQ [Zl v5,Zl v6,Zl v7])])
def ZeD (k:Nat) (L1:ZkW) (L2:ZuL):ZuL
 | (v0,v1,v2,v3,v4,v5,v6,v7) => bif decide (v0 < v1) then bif decide (0 ≤ v2 ∧ v2 < UD v4.length) then bif decide (0 ≤ v0 ∧ v0 < UD (UO (v4.getD v2.toNat []))) then (Ztr k (List.getD (v4.getD v2.toNat []) v0.toNat 0,v6,())).bind fun y => bif !y.1 then some (12,()) else L2 (Jx.wrap (v0 + 1),v1,v2,v3,v4,v5,v6,v7) else none else none else L1 (Jx.wrap (v2 + 1),v1,v5,v6,v7,v3,v4)
def Zpa (k:Nat) (L1:ZkW):ZuL:=Zg (fun L2 => ZeD k L1 L2) k
noncomputable def ZEn (k:Nat) (n1:Nat) (n:Nat):=QI (ZKN k) Tryz.f81 ZeY ZB [1,1,1,1,1,0,1,0,0,1,0,0,1,0] [n1] n ZVf (A:=ZKK)
def ZVe:ZKL → St
 | (v0,v1,v2,v3,v4,v5,v6) => St.mk (Zq [(6,Zl v0),(2,AV.bx 8192 0),(5,Zl v1),(3,AV.bx 8193 0)]) (Zp [(8192,QQ [Zl v2,Zl v3,Zl v4]),(8193,QQ [Zl v5,AV.val (PV.sl (Ty.int Jx).sl v6)])])
def ZeC (k:Nat) (L2:ZuL) (L1:ZkW):ZkW
 | (v0,v1,v2,v3,v4,v5,v6) => bif decide (v0 < v2) then L2 (0,v1,v0,v5,v6,v2,v3,v4) else some (0,())
def ZuM (k:Nat):ZkW:=Zg (fun L1 => ZeC k (Zpa k L1) L1) k
noncomputable def Zns (k:Nat) (n:Nat):=QI (ZKN k) Tryz.f81 ZeY ZB [1,1,1,1,1,0,1,0] [] n ZVe (A:=ZKK)
def Zis (k:Nat) (L1:ZkW):(Int × Int × Int × Unit) × (Int × List (List Int) × Unit) × Unit → Option (Int × Unit)
 | ((a0,a1,a2,()),(a3,a4,()),()) => (Zmn k ((a0,a1,a2,()),())).bind fun y => bif !y.1 then some (2,()) else bif decide (a3 < 0) then some (1,()) else bif decide ((2147483647:Int) < a3) then some (1,()) else bif UD a4.length != a0 then some (1,()) else bif decide ((0:Int) ≤ 0 ∧ (0:Int) < UD a4.length) then bif decide (UD (UO (a4.getD 0 [])) < (1:Int)) then some (1,()) else bif decide ((512:Int) < UD (UO (a4.getD 0 []))) then some (1,()) else bif decide (0 ≤ Jx.wrap (a0 - 1) ∧ Jx.wrap (a0 - 1) < UD a4.length) then bif UD (UO (a4.getD (Jx.wrap (a0 - 1)).toNat [])) != UD (UO (a4.getD 0 [])) then some (1,()) else L1 (0,UD (UO (a4.getD 0 [])),a0,a1,a2,a3,a4) else none else none
def Zo9 (k:Nat):=Zis k (ZuM k)
theorem ZKP (k:Nat) (n1:Nat):∀ n,ZEn k n1 n = Zg (fun L2 => ZeD k (Zns k n1) L2) n:=ZO
theorem ZKO (k:Nat):∀ n,Zns k n = Zg (fun L1 => ZeC k (Zpa k L1) L1) n:=ZO (fun n v => by rw [show (Zpa k (Zns k n)) = ZEn k n k from (ZKP k n k).symm]; kernel_rfl)
set_option maxHeartbeats 1000000 in
noncomputable def ZXA (k:Nat):ZE k:=Zy 81 Tryz.f81 (ZKN k) ZeY ZB Zo9 (A:=ZKK) (h:=fun x => by show _ = Zis k (ZuM k) x; rw [show ZuM k = Zns k k from (ZKO k k).symm]; kernel_rfl)
def Zqc (k:Nat):Int × Unit → Option (Int × Unit)
 | (a0,()) => some (Jx.wrap ((Jx.wrap (a0 - (Jx.wrap (a0.tmod (2:Int) + 2)).tmod (2:Int))).tdiv (2:Int)),())
def ZFH (k:Nat):=Zqc k
noncomputable def ZYf (k:Nat):ZE k:=Zy 146 Tryz.f146 [] Ql ZB ZFH
abbrev ZvQ:Kd:=.view .str
noncomputable def ZTD (k:Nat):List (ZE k):=[]
def ZTC:Nat → Ann:=fun id => bif Ja id 3 then ⟨[6,5,0],[]⟩ else ⟨[],[]⟩
abbrev ZvO:=Zcb → Option (ByteArray × Unit)
def ZV3:Zcb → St
 | (v0,v1,v2) => St.mk (Zq [(6,Zl v0),(5,AV.own 8192),(0,Zl v1)]) (Zp [(8192,RS.live (Res.arr (Ty.int UK) v2 false))])
def Zju (k:Nat) (L1:ZvO):ZvO
 | (v0,v1,v2) => bif decide (0 ≤ v0) then bif decide (0 ≤ v1.tmod (2:Int) ∧ v1.tmod (2:Int) < 2) then bif decide (0 ≤ v0 ∧ v0 < UD v2.length) then bif decide (v0.toNat < v2.length) then L1 (Jx.wrap (v0 - 1),Jx.wrap (v1.tdiv (2:Int)),v2.set v0.toNat (UD ((UR #[48,49]).data.toList.getD (v1.tmod (2:Int)).toNat 0).toNat)) else none else none else none else some (UR (UT (fun n => UInt8.ofNat n.toNat) v2).toArray,())
def ZvP (k:Nat):ZvO:=Zg (fun L1 => Zju k L1) k
noncomputable def ZFk (k:Nat) (n:Nat):=QI (ZTD k) Tryz.f83 ZdE ZvQ [1,1,0,1,0] [] n ZV3 (A:=ZTC)
def Zjt (k:Nat) (L1:ZvO):Int × Int × Unit → Option (ByteArray × Unit)
 | (a0,a1,()) => bif decide (0 ≤ a1 ∧ a1 ≤ a1 ∧ a1 < 4294967296) then L1 (Jx.wrap (a1 - 1),a0,Jd a1.toNat (0:Int)) else none
def W7 (k:Nat):=Zjt k (ZvP k)
theorem ZM5 (k:Nat):∀ n,ZFk k n = Zg (fun L1 => Zju k L1) n:=ZO
noncomputable def ZM4 (k:Nat):ZE k:=Zy 83 Tryz.f83 (ZTD k) ZdE ZvQ W7 (A:=ZTC) (h:=fun x => by show _ = Zjt k (ZvP k) x; rw [show ZvP k = ZFk k k from (ZM5 k k).symm]; kernel_rfl)
noncomputable def ZTF (k:Nat):List (ZE k):=[ZM4 k]
def ZTE:Nat → Ann:=fun id => bif Ja id 3 then ⟨[4,0,3],[]⟩ else ⟨[],[]⟩
abbrev ZvR:=Zlt → Option (ByteArray × Unit)
def ZV4:Zlt → St
 | (v0,v1,v2) => St.mk (Zq [(4,Zl v0),(0,AV.val (PV.sl (Ty.int UK) v1)),(3,AV.own 8192)]) (Zp [(8192,RS.live (Res.arr (Ty.int UK) v2 false))])
def Ze0 (k:Nat) (L1:ZvR):ZvR
 | (v0,v1,v2) => bif decide (v0 < UD v1.length) then bif decide (0 ≤ v0 ∧ v0 < UD v1.length) then (W7 k (Jx.wrap (v1.getD v0.toNat 0),8,())).bind fun y => bif decide (v2.length + (UT (fun b => UD b.toNat) y.1.data.toList).length < 2147483648) then L1 (Jx.wrap (v0 + 1),v1,v2 ++ UT (fun b => UD b.toNat) y.1.data.toList) else none else none else some (UR (UT (fun n => UInt8.ofNat n.toNat) v2).toArray,())
def ZvS (k:Nat):ZvR:=Zg (fun L1 => Ze0 k L1) k
noncomputable def ZFm (k:Nat) (n:Nat):=QI (ZTF k) Tryz.f84 ZdD ZvQ [1,1,0,1,0] [] n ZV4 (A:=ZTE)
def Zjv (k:Nat) (L1:ZvR):List Int × Unit → Option (ByteArray × Unit)
 | (a0,()) => bif decide ((0:Int) ≤ 0 ∧ (0:Int) ≤ Jx.wrap ((8:Int) * UD a0.length) ∧ Jx.wrap ((8:Int) * UD a0.length) < 4294967296) then L1 (0,a0,Jd (0:Nat) (0:Int)) else none
def ZFl (k:Nat):=Zjv k (ZvS k)
theorem ZM7 (k:Nat):∀ n,ZFm k n = Zg (fun L1 => Ze0 k L1) n:=ZO
noncomputable def ZXM (k:Nat):ZE k:=Zy 84 Tryz.f84 (ZTF k) ZdD ZvQ ZFl (A:=ZTE) (h:=fun x => by show _ = Zjv k (ZvS k) x; rw [show ZvS k = ZFm k k from (ZM7 k k).symm]; kernel_rfl)
abbrev ZbK:List Kd:=[.view .str]
abbrev ZCX:Kd:=.view (.sl (.int .u8))
noncomputable def ZNd (k:Nat):List (ZE k):=[]
def ZNa:Nat → Ann:=fun id => bif Ja id 7 then ⟨[6,4,5,0,3],[]⟩ else bif Ja id 3 then ⟨[4,0,3],[.slot 3 ((Ty.int UK))]⟩ else ⟨[],[]⟩
abbrev ZNc:=Int × Int × Int × ByteArray × List Int
abbrev ZvT:=ZNc → Option (List Int × Unit)
abbrev ZNb:=Int × ByteArray × List Int
abbrev Zlr:=ZNb → Option (List Int × Unit)
def ZV6:ZNc → St
 | (v0,v1,v2,v3,v4) => St.mk (Zq [(6,Zl v0),(4,Zl v1),(5,Zl v2),(0,AV.val (PV.v (UN v3))),(3,AV.own 8192)]) (Zp [(8192,RS.live (Res.arr (Ty.int UK) v4 false))])
def Ze1 (k:Nat) (L1:Zlr) (L2:ZvT):ZvT
 | (v0,v1,v2,v3,v4) => bif decide (v0 < Jx.wrap (v1 + 8)) then bif decide (v0 < UD v3.size) then bif decide (0 ≤ v0 ∧ v0 < UD v3.size) then L2 (Jx.wrap (v0 + 1),v1,Jx.wrap (Jx.wrap ((2:Int) * v2) + Jx.wrap (UK.wrap (UD (v3.data.toList.getD v0.toNat 0).toNat - (48:Int)))),v3,v4) else none else L2 (Jx.wrap (v0 + 1),v1,Jx.wrap ((2:Int) * v2),v3,v4) else bif decide (v4.length + [UK.wrap v2].length < 2147483648) then L1 (Jx.wrap (v1 + 8),v3,v4 ++ [UK.wrap v2]) else none
def ZpZ (k:Nat) (L1:Zlr):ZvT:=Zg (fun L2 => Ze1 k L1 L2) k
noncomputable def ZFn (k:Nat) (n1:Nat) (n:Nat):=QI (ZNd k) Tryz.f87 ZbK ZCX [1,1,0,1,0,0,1,0,0,1,0,1,0] [n1] n ZV6 (A:=ZNa)
def ZV5:ZNb → St
 | (v0,v1,v2) => St.mk (Zq [(4,Zl v0),(0,AV.val (PV.v (UN v1))),(3,AV.own 8192)]) (Zp [(8192,RS.live (Res.arr (Ty.int UK) v2 false))])
def Zcx (k:Nat) (L2:ZvT) (L1:Zlr):Zlr
 | (v0,v1,v2) => bif decide (v0 < UD v1.size) then L2 (v0,v0,(0:Int),v1,v2) else some (v2,())
def ZvU (k:Nat):Zlr:=Zg (fun L1 => Zcx k (ZpZ k L1) L1) k
noncomputable def Zn3 (k:Nat) (n:Nat):=QI (ZNd k) Tryz.f87 ZbK ZCX [1,1,0,1,0] [] n ZV5 (A:=ZNa)
def Zjw (k:Nat) (L1:Zlr):ByteArray × Unit → Option (List Int × Unit)
 | (a0,()) => L1 (0,a0,[])
def Zy9 (k:Nat):=Zjw k (ZvU k)
theorem ZNf (k:Nat) (n1:Nat):∀ n,ZFn k n1 n = Zg (fun L2 => Ze1 k (Zn3 k n1) L2) n:=ZO
theorem ZNe (k:Nat):∀ n,Zn3 k n = Zg (fun L1 => Zcx k (ZpZ k L1) L1) n:=ZO (fun n v => by rw [show (ZpZ k (Zn3 k n)) = ZFn k n k from (ZNf k n k).symm]; kernel_rfl)
noncomputable def ZXO (k:Nat):ZE k:=Zy 87 Tryz.f87 (ZNd k) ZbK ZCX Zy9 (A:=ZNa) (h:=fun x => by show _ = Zjw k (ZvU k) x; rw [show ZvU k = Zn3 k k from (ZNe k k).symm]; kernel_rfl)
def Zqa (k:Nat):Int × Unit → Option (Int × Unit)
 | (a0,()) => bif a0 == 1 then some (7,()) else some (Jx.wrap (Jx.wrap ((5:Int) * a0) + 1),())
def ZFE (k:Nat):=Zqa k
noncomputable def ZYd (k:Nat):ZE k:=Zy 138 Tryz.f138 [] Ql ZB ZFE
abbrev ZC3:List Kd:=[.view .str,.view (.int .i64),.view (.int .i64)]
noncomputable def ZOj (k:Nat):List (ZE k):=[]
def ZOg:Nat → Ann:=fun id => bif Ja id 6 then ⟨[9,7,1,0,8,2],[]⟩ else bif Ja id 3 then ⟨[8,0,7,1,2],[]⟩ else ⟨[],[]⟩
abbrev ZOi:=Int × Int × Int × ByteArray × Int × Int
abbrev Zwo:=ZOi → Option (Int × Unit)
abbrev ZOh:=Int × ByteArray × Int × Int × Int
abbrev Zlw:=ZOh → Option (Int × Unit)
def ZWs:ZOi → St
 | (v0,v1,v2,v3,v4,v5) => St.mk (Zq [(9,Zl v0),(7,Zl v1),(1,Zl v2),(0,AV.val (PV.v (UN v3))),(8,Zl v4),(2,Zl v5)]) (Zp [])
def Zfg (k:Nat) (L1:Zlw) (L2:Zwo):Zwo
 | (v0,v1,v2,v3,v4,v5) => bif decide (0 ≤ v0) then bif decide (0 ≤ Jx.wrap (v2 - 1)) then bif decide (0 ≤ v4 ∧ v4 < UD v3.size) then bif decide (0 ≤ v0) then bif decide (0 ≤ v2) then bif decide ¬Jx.wrap ((1:Int) * (2:Int) ^ min v2.toNat 64) = (0:Int) then bif Jx.wrap (UD (UH 64 (Jx.wrap (UD (UH 64 (v1.fdiv ((2:Int) ^ min (Jx.wrap (v2 - 1)).toNat 64)) &&& UH 64 (1:Int)).toNat)) ^^^ UH 64 (Jx.wrap (UD (UH 64 ((Jx.wrap (UD (v3.data.toList.getD v4.toNat 0).toNat)).fdiv ((2:Int) ^ min v0.toNat 64)) &&& UH 64 (1:Int)).toNat))).toNat) == 1 then L2 (Jx.wrap (v0 - 1),Jx.wrap (UD (UH 64 ((Jx.wrap ((2:Int) * v1)).tmod (Jx.wrap ((1:Int) * (2:Int) ^ min v2.toNat 64))) ^^^ UH 64 v5).toNat),v2,v3,v4,v5) else L2 (Jx.wrap (v0 - 1),(Jx.wrap ((2:Int) * v1)).tmod (Jx.wrap ((1:Int) * (2:Int) ^ min v2.toNat 64)),v2,v3,v4,v5) else none else none else none else none else none else L1 (Jx.wrap (v4 + 1),v3,v1,v2,v5)
def Zwq (k:Nat) (L1:Zlw):Zwo:=Zg (fun L2 => Zfg k L1 L2) k
noncomputable def ZFG (k:Nat) (n1:Nat) (n:Nat):=QI (ZOj k) Tryz.f139 ZC3 ZB [1,1,0,1,0,0,1,0,0,1,0] [n1] n ZWs (A:=ZOg)
def ZWr:ZOh → St
 | (v0,v1,v2,v3,v4) => St.mk (Zq [(8,Zl v0),(0,AV.val (PV.v (UN v1))),(7,Zl v2),(1,Zl v3),(2,Zl v4)]) (Zp [])
def Zff (k:Nat) (L2:Zwo) (L1:Zlw):Zlw
 | (v0,v1,v2,v3,v4) => bif decide (v0 < UD v1.size) then L2 (7,v2,v3,v1,v0,v4) else some (v2,())
def Zwp (k:Nat):Zlw:=Zg (fun L1 => Zff k (Zwq k L1) L1) k
noncomputable def Zn5 (k:Nat) (n:Nat):=QI (ZOj k) Tryz.f139 ZC3 ZB [1,1,0,1,0] [] n ZWr (A:=ZOg)
def ZjK (k:Nat) (L1:Zlw):ByteArray × Int × Int × Unit → Option (Int × Unit)
 | (a0,a1,a2,()) => L1 (0,a0,(0:Int),a1,a2)
def ZFF (k:Nat):=ZjK k (Zwp k)
theorem ZOl (k:Nat) (n1:Nat):∀ n,ZFG k n1 n = Zg (fun L2 => Zfg k (Zn5 k n1) L2) n:=ZO
theorem ZOk (k:Nat):∀ n,Zn5 k n = Zg (fun L1 => Zff k (Zwq k L1) L1) n:=ZO (fun n v => by rw [show (Zwq k (Zn5 k n)) = ZFG k n k from (ZOl k n k).symm]; kernel_rfl)
noncomputable def ZUb (k:Nat):ZE k:=Zy 139 Tryz.f139 (ZOj k) ZC3 ZB ZFF (A:=ZOg) (h:=fun x => by show _ = ZjK k (Zwp k) x; rw [show Zwp k = Zn5 k k from (ZOk k k).symm]; kernel_rfl)
def ZpY (k:Nat):ByteArray × Unit → Option (Int × Unit)
 | (a0,()) => (ZFF k (a0,8,7,())).bind fun y => some (y.1,())
def ZaO (k:Nat):=ZpY k
noncomputable def ZXN (k:Nat):ZE k:=Zy 86 Tryz.f86 [ZUb k] ZbK ZB ZaO
def ZOm (k:Nat):Int × Unit → Option (((List Int × Int × Unit) × Int × Unit) × Unit)
 | (a0,()) => bif decide (a0 < 0) then some ((([],(0:Int),()),1,()),()) else bif decide ((4:Int) < a0) then some ((([],(0:Int),()),1,()),()) else bif decide (0 ≤ a0 ∧ a0 < 5) then bif decide (a0.toNat < (5:Nat)) then some ((([[],[(1:Int)],[(2:Int),(-1:Int)],[(3:Int),(-3:Int),(1:Int)],[(4:Int),(-6:Int),(4:Int),(-1:Int)]].getD a0.toNat [],(0:Int),()),0,()),()) else none else none
def Zzr (k:Nat):=ZOm k
noncomputable def ZYe (k:Nat):ZE k:=Zy 143 Tryz.f143 [] Ql Zf9 Zzr
def Zla (k:Nat):Int × Unit → Option (Bool × Unit)
 | (a0,()) => bif decide ((-2147483648:Int) < a0) then some (decide (a0 < 2147483648),()) else some (false,())
def ZuZ (k:Nat):=Zla k
noncomputable def ZLe (k:Nat):ZE k:=Zy 240 Tryz.f240 [] Ql Qd ZuZ
noncomputable def ZKm (k:Nat):List (ZE k):=[ZLe k]
def ZKl:Nat → Ann:=fun id => bif Ja id 2 then ⟨[3,0],[]⟩ else ⟨[],[]⟩
abbrev Zm4:=Znf → Option (Bool × Unit)
def ZQZ:Znf → St
 | (v0,v1) => St.mk (Zq [(3,Zl v0),(0,avL v1)]) (Zp [])
def Zb0 (k:Nat) (L1:Zm4):Zm4
 | (v0,v1) => bif decide (v0 < UD v1.length) then bif decide (0 ≤ v0 ∧ v0 < UD v1.length) then (ZuZ k (v1.getD v0.toNat 0,())).bind fun y => bif !y.1 then some (false,()) else L1 (Jx.wrap (v0 + 1),v1) else none else some (true,())
def Zm5 (k:Nat):Zm4:=Zg (fun L1 => Zb0 k L1) k
noncomputable def ZxS (k:Nat) (n:Nat):=QI (ZKm k) Tryz.f188 Zlx Qd [1,0,1,0] [] n ZQZ (A:=ZKl)
def Zga (k:Nat) (L1:Zm4):List Int × Unit → Option (Bool × Unit)
 | (a0,()) => L1 (0,a0)
def ZuK (k:Nat):=Zga k (Zm5 k)
theorem ZHe (k:Nat):∀ n,ZxS k n = Zg (fun L1 => Zb0 k L1) n:=ZO
noncomputable def ZU4 (k:Nat):ZE k:=Zy 188 Tryz.f188 (ZKm k) Zlx Qd ZuK (A:=ZKl) (h:=fun x => by show _ = Zga k (Zm5 k) x; rw [show Zm5 k = ZxS k k from (ZHe k k).symm]; kernel_rfl)
noncomputable def ZK9 (k:Nat):List (ZE k):=[]
def ZuY:Nat → Ann:=fun id => bif Ja id 4 then ⟨[3,1],[]⟩ else ⟨[],[]⟩
abbrev ZnA:=Znc → Option (Bool × Unit)
def ZRj:Znc → St
 | (v0,v1,v2) => St.mk (Zq [(3,Zl v0),(1,AV.bx 8192 0)]) (Zp [(8192,QQ [avL v1,Zl v2])])
def Zcc (k:Nat) (L1:ZnA):ZnA
 | (v0,v1,v2) => bif decide (v0 < UD v1.length) then bif decide (0 ≤ v0 ∧ v0 < UD v1.length) then bif decide (v1.getD v0.toNat 0 < (-2048:Int)) then some (false,()) else bif decide (0 ≤ v0 ∧ v0 < UD v1.length) then bif decide ((2047:Int) < v1.getD v0.toNat 0) then some (false,()) else L1 (Jx.wrap (v0 + 1),v1,v2) else none else none else some (true,())
def ZnB (k:Nat):ZnA:=Zg (fun L1 => Zcc k L1) k
noncomputable def Zyd (k:Nat) (n:Nat):=QI (ZK9 k) Tryz.f233 Zu4 Qd [1,1,0,1,0] [] n ZRj (A:=ZuY)
def Zgp (k:Nat) (L1:ZnA):(List Int × Int × Unit) × Unit → Option (Bool × Unit)
 | ((a0,a1,()),()) => bif decide ((8:Int) < UD a0.length) then some (false,()) else bif decide (a1 < 0) then some (false,()) else bif decide ((15:Int) < a1) then some (false,()) else L1 (0,a0,a1)
def ZBm (k:Nat):=Zgp k (ZnB k)
theorem ZHS (k:Nat):∀ n,Zyd k n = Zg (fun L1 => Zcc k L1) n:=ZO
noncomputable def ZVt (k:Nat):ZE k:=Zy 233 Tryz.f233 (ZK9 k) Zu4 Qd ZBm (A:=ZuY) (h:=fun x => by show _ = Zgp k (ZnB k) x; rw [show ZnB k = Zyd k k from (ZHS k k).symm]; kernel_rfl)
def Zlg (k:Nat):Int × Int × Unit → Option (Int × Unit)
 | (a0,a1,()) => bif decide (0 ≤ a1) then bif decide ¬Jx.wrap ((1:Int) * (2:Int) ^ min a1.toNat 64) = (0:Int) then bif decide ¬Jx.wrap ((1:Int) * (2:Int) ^ min a1.toNat 64) = (0:Int) then bif decide (a0.tmod (Jx.wrap ((1:Int) * (2:Int) ^ min a1.toNat 64)) < (0:Int)) then some (Jx.wrap (Jx.wrap (a0.tdiv (Jx.wrap ((1:Int) * (2:Int) ^ min a1.toNat 64))) - (1:Int)),()) else some (Jx.wrap (a0.tdiv (Jx.wrap ((1:Int) * (2:Int) ^ min a1.toNat 64))),()) else none else none else none
def ZBv (k:Nat):=Zlg k
set_option maxHeartbeats 1000000 in
noncomputable def ZVH (k:Nat):ZE k:=Zy 264 Tryz.f264 [] ZdE ZB ZBv
abbrev ZEt:List Kd:=[.view ZfF,.view (.sl (.int .i64)),.view (.int .i64)]
noncomputable def ZLb (k:Nat):List (ZE k):=[ZVH k]
def ZLa:Nat → Ann:=fun id => bif Ja id 3 then ⟨[8,3,7,1,2],[]⟩ else ⟨[],[]⟩
abbrev ZnC:=Zm2 → Option (Int × Unit)
def ZRk:Zm2 → St
 | (v0,v1,v2,v3,v4,v5) => St.mk (Zq [(8,Zl v0),(3,AV.bx 8192 0),(7,Zl v1),(1,avL v2),(2,Zl v3)]) (Zp [(8192,QQ [avL v4,Zl v5])])
def Zcd (k:Nat) (L1:ZnC):ZnC
 | (v0,v1,v2,v3,v4,v5) => bif decide (v0 < UD v4.length) then bif decide (0 ≤ v0 ∧ v0 < UD v4.length) then bif decide (0 ≤ Jx.wrap (Jx.wrap (v3 - 1) - v0) ∧ Jx.wrap (Jx.wrap (v3 - 1) - v0) < UD v2.length) then L1 (Jx.wrap (v0 + 1),Jx.wrap (v1 + Jx.wrap (v4.getD v0.toNat 0 * v2.getD (Jx.wrap (Jx.wrap (v3 - 1) - v0)).toNat 0)),v2,v3,v4,v5) else none else none else (ZBv k (v1,v5,())).bind fun y => some (y.1,())
def ZnD (k:Nat):ZnC:=Zg (fun L1 => Zcd k L1) k
noncomputable def Zye (k:Nat) (n:Nat):=QI (ZLb k) Tryz.f234 ZEt ZB [1,1,0,1,0] [] n ZRk (A:=ZLa)
def Zgq (k:Nat) (L1:ZnC):(List Int × Int × Unit) × List Int × Int × Unit → Option (Int × Unit)
 | ((a0,a1,()),a2,a3,()) => L1 (0,(0:Int),a2,a3,a0,a1)
def ZBn (k:Nat):=Zgq k (ZnD k)
theorem ZHU (k:Nat):∀ n,Zye k n = Zg (fun L1 => Zcd k L1) n:=ZO
noncomputable def ZVu (k:Nat):ZE k:=Zy 234 Tryz.f234 (ZLb k) ZEt ZB ZBn (A:=ZLa) (h:=fun x => by show _ = Zgq k (ZnD k) x; rw [show ZnD k = Zye k k from (ZHU k k).symm]; kernel_rfl)
def Zle (k:Nat):Int × Int × Unit → Option (Bool × Unit)
 | (a0,a1,()) => bif decide (1 ≤ a0) then bif decide (a0 ≤ 512) then bif decide (0 ≤ a1) then bif decide (a1 ≤ 8) then some (decide (a1 ≤ a0),()) else some (false,()) else some (false,()) else some (false,()) else some (false,())
def ZBt (k:Nat):=Zle k
noncomputable def ZVA (k:Nat):ZE k:=Zy 249 Tryz.f249 [] ZdE Qd ZBt
abbrev ZEv:Kd:=.ns (.sl (.int .i64))
noncomputable def ZLd (k:Nat):List (ZE k):=[]
def ZLc:Nat → Ann:=fun id => bif Ja id 6 then ⟨[9,2,7,1,8,0],[.slot 8 ((Ty.int Jx).sl)]⟩ else ⟨[],[]⟩
abbrev ZEu:=Int × Int × Int × Int × List Int × List (List Int)
abbrev ZnE:=ZEu → Option (List (List Int) × Unit)
def ZRl:ZEu → St
 | (v0,v1,v2,v3,v4,v5) => St.mk (Zq [(9,Zl v0),(2,Zl v1),(7,Zl v2),(1,Zl v3),(8,AV.own 8192),(0,avL v4)]) (Zp [(8192,RS.live (Res.arr (Ty.int Jx).sl v5 false))])
def YN (k:Nat) (L1:ZnE):ZnE
 | (v0,v1,v2,v3,v4,v5) => bif decide (0 ≤ v1) then bif decide (v0 < Jx.wrap ((1:Int) * (2:Int) ^ min v1.toNat 64)) then bif decide (0 ≤ v1) then bif v0 == 0 then bif decide ((0:Int) ≤ 0 ∧ (0:Int) ≤ Jx.wrap (v2.fdiv ((2:Int) ^ min v1.toNat 64) - v3) ∧ Jx.wrap (v2.fdiv ((2:Int) ^ min v1.toNat 64) - v3) ≤ UD v4.length) then bif decide (v5.length + [UM 0 (UL (Jx.wrap (v2.fdiv ((2:Int) ^ min v1.toNat 64) - v3)).toNat v4)].length < 2147483648) then bif decide (0 ≤ Jx.wrap (v2.fdiv ((2:Int) ^ min v1.toNat 64) - v3) ∧ Jx.wrap (v2.fdiv ((2:Int) ^ min v1.toNat 64) - v3) ≤ UD v4.length ∧ UD v4.length ≤ UD v4.length) then L1 (Jx.wrap (v0 + 1),v1,v2,v3,UM (Jx.wrap (v2.fdiv ((2:Int) ^ min v1.toNat 64) - v3)).toNat (UL (UD v4.length).toNat v4),v5 ++ [UM 0 (UL (Jx.wrap (v2.fdiv ((2:Int) ^ min v1.toNat 64) - v3)).toNat v4)]) else none else none else none else bif decide ((0:Int) ≤ 0 ∧ (0:Int) ≤ v2.fdiv ((2:Int) ^ min v1.toNat 64) ∧ v2.fdiv ((2:Int) ^ min v1.toNat 64) ≤ UD v4.length) then bif decide (v5.length + [UM 0 (UL (v2.fdiv ((2:Int) ^ min v1.toNat 64)).toNat v4)].length < 2147483648) then bif decide (0 ≤ v2.fdiv ((2:Int) ^ min v1.toNat 64) ∧ v2.fdiv ((2:Int) ^ min v1.toNat 64) ≤ UD v4.length ∧ UD v4.length ≤ UD v4.length) then L1 (Jx.wrap (v0 + 1),v1,v2,v3,UM (v2.fdiv ((2:Int) ^ min v1.toNat 64)).toNat (UL (UD v4.length).toNat v4),v5 ++ [UM 0 (UL (v2.fdiv ((2:Int) ^ min v1.toNat 64)).toNat v4)]) else none else none else none else none else bif decide ((0:Nat) < v5.length) then some (v5,()) else none else none
def ZnF (k:Nat):ZnE:=Zg (fun L1 => YN k L1) k
noncomputable def Zyf (k:Nat) (n:Nat):=QI (ZLd k) Tryz.f237 ZuH ZEv [1,1,1,1,0,1,0] [] n ZRl (A:=ZLc)
def Zgr (k:Nat) (L1:ZnE):List Int × Int × Int × Unit → Option (List (List Int) × Unit)
 | (a0,a1,a2,()) => bif decide (0 ≤ a2) then bif decide ¬Jx.wrap ((1:Int) * (2:Int) ^ min a2.toNat 64) = (0:Int) then bif (Jx.wrap (UD a0.length + a1)).tmod (Jx.wrap ((1:Int) * (2:Int) ^ min a2.toNat 64)) != (0:Int) then some ([],()) else bif decide (0 ≤ a2) then bif decide ((Jx.wrap (UD a0.length + a1)).fdiv ((2:Int) ^ min a2.toNat 64) < a1) then some ([],()) else L1 (0,a2,Jx.wrap (UD a0.length + a1),a1,a0,[]) else none else none else none
def ZBo (k:Nat):=Zgr k (ZnF k)
theorem ZHW (k:Nat):∀ n,Zyf k n = Zg (fun L1 => YN k L1) n:=ZO
set_option maxHeartbeats 1000000 in
noncomputable def ZVv (k:Nat):ZE k:=Zy 237 Tryz.f237 (ZLd k) ZuH ZEv ZBo (A:=ZLc) (h:=fun x => by show _ = Zgr k (ZnF k) x; rw [show ZnF k = Zyf k k from (ZHW k k).symm]; kernel_rfl)
def Zp1 (k:Nat):Int × Int × Unit → Option ((Int × Int × Unit) × Unit)
 | (a0,a1,()) => bif a1 == 8 then some ((a0,Jx.wrap (a0 + 1),()),()) else bif a1 == 10 then some ((a0,Jx.wrap (a0 + 1),()),()) else bif a1 == 9 then some ((Jx.wrap (a0 + 1),a0,()),()) else some ((a0,a0,()),())
def ZFo (k:Nat):=Zp1 k
noncomputable def ZXP (k:Nat):ZE k:=Zy 90 Tryz.f90 [] ZdE QY ZFo
def Zp2 (k:Nat):ByteArray × Unit → Option (Int × Unit)
 | (a0,()) => (ZFF k (a0,16,32773,())).bind fun y => some (y.1,())
def Zza (k:Nat):=Zp2 k
noncomputable def ZXQ (k:Nat):ZE k:=Zy 91 Tryz.f91 [ZUb k] ZbK ZB Zza
abbrev ZCY:List Kd:=[.box [.view .str,.view (.int .i64)],.view (.int .i64)]
noncomputable def ZTS (k:Nat):List (ZE k):=[]
def ZTR:Nat → Ann:=fun id => bif Ja id 7 then ⟨[7,1,6,0],[]⟩ else ⟨[],[]⟩
abbrev ZNF:=Int × Int × Int × ByteArray × Int
abbrev Zv6:=ZNF → Option ((Int × Int × Unit) × (ByteArray × Int × Unit) × Unit)
def ZWh:ZNF → St
 | (v0,v1,v2,v3,v4) => St.mk (Zq [(7,Zl v0),(1,Zl v1),(6,Zl v2),(0,AV.bx 0 0)]) (Zp [(0,QQ [AV.val (PV.v (UN v3)),Zl v4])])
def Ze7 (k:Nat) (L1:Zv6):Zv6
 | (v0,v1,v2,v3,v4) => bif decide (v0 < v1) then bif decide (0 ≤ v4 ∧ v4 < UD v3.size) then L1 (Jx.wrap (v0 + 1),v1,Jx.wrap (Jx.wrap ((2:Int) * v2) + Jx.wrap (UK.wrap (UD (v3.data.toList.getD v4.toNat 0).toNat - (48:Int)))),v3,Jx.wrap (v4 + 1)) else none else some ((v2,0,()),(v3,v4,()),())
def Zv7 (k:Nat):Zv6:=Zg (fun L1 => Ze7 k L1) k
noncomputable def ZFv (k:Nat) (n:Nat):=QI (ZTS k) Tryz.f114 ZCY QY [1,1,1,1,0,1,0] [] n ZWh (A:=ZTR) (a:=[AV.bx (nat_lit 0) (nat_lit 0)]) (b:=[[]]) (q:=[0])
def ZjB (k:Nat) (L1:Zv6):(ByteArray × Int × Unit) × Int × Unit → Option ((Int × Int × Unit) × (ByteArray × Int × Unit) × Unit)
 | ((a0,a1,()),a2,()) => bif decide (a2 < 0) then some ((0,1,()),(a0,a1,()),()) else bif decide ((32:Int) < a2) then some ((0,1,()),(a0,a1,()),()) else bif decide (Jx.wrap (UD a0.size - a1) < a2) then some ((0,10,()),(a0,a1,()),()) else L1 (0,a2,(0:Int),a0,a1)
def ZN (k:Nat):=ZjB k (Zv7 k)
theorem ZNG (k:Nat):∀ n,ZFv k n = Zg (fun L1 => Ze7 k L1) n:=ZO
noncomputable def Zp7 (k:Nat):ZE k:=Zy 114 Tryz.f114 (ZTS k) ZCY QY ZN (A:=ZTR) (h:=fun x => by show _ = ZjB k (Zv7 k) x; rw [show Zv7 k = ZFv k k from (ZNG k k).symm]; kernel_rfl)
noncomputable def Zzx (k:Nat):List (ZE k):=[ZM4 k,ZYd k]
def Zzw:Nat → Ann:=fun id => bif Ja id 23 then ⟨[9,6,8,5,0],[]⟩ else bif Ja id 19 then ⟨[6,5,0],[]⟩ else bif Ja id 12 then ⟨[7,5,0,6],[]⟩ else bif Ja id 4 then ⟨[5,0],[]⟩ else ⟨[],[]⟩
abbrev ZOG:=Int × ByteArray × Int × Int × ByteArray
abbrev Zqo:=ZOG → Option ((Int × Int × Int × Unit) × Unit)
abbrev ZOF:=ByteArray × Int × ByteArray
abbrev Zwv:=ZOF → Option ((Int × Int × Int × Unit) × Unit)
abbrev ZOE:=Int × Int × ByteArray × ByteArray
abbrev Zwu:=ZOE → Option ((Int × Int × Int × Unit) × Unit)
abbrev ZOD:=Int × ByteArray
abbrev Zwt:=ZOD → Option ((Int × Int × Int × Unit) × Unit)
def ZWA:ZOG → St
 | (v0,v1,v2,v3,v4) => St.mk (Zq [(9,Zl v0),(6,AV.val (PV.v (UN v1))),(8,Zl v2),(5,Zl v3),(0,AV.val (PV.v (UN v4)))]) (Zp [])
def ZaR (k:Nat) (L4:Zqo):Zqo
 | (v0,v1,v2,v3,v4) => bif decide (v0 < UD v1.size) then bif decide (0 ≤ v0 ∧ v0 < UD v1.size) then L4 (Jx.wrap (v0 + 1),v1,Jx.wrap (Jx.wrap ((2:Int) * v2) + Jx.wrap (UK.wrap (UD (v1.data.toList.getD v0.toNat 0).toNat - (48:Int)))),v3,v4) else none else (ZFE k (Jx.wrap (v3 - 1),())).bind fun y => bif decide ((0:Int) ≤ y.1) then bif decide (v2 < Jx.wrap ((1:Int) * (2:Int) ^ min (US y.1) (64:Nat))) then some ((0,0,2,()),()) else bif decide (UD v4.size < v3) then some ((0,0,10,()),()) else some ((v2,v3,0,()),()) else none
def ZdF (k:Nat):Zqo:=Zg (fun L4 => ZaR k L4) k
noncomputable def Zwy (k:Nat) (n:Nat):=QI (Zzx k) Tryz.f157 ZbK Zbm [1,1,1,1,1,1,1,1,1,1,0,1,0] [] n ZWA (A:=Zzw)
def ZWz:ZOF → St
 | (v0,v1,v2) => St.mk (Zq [(6,AV.val (PV.v (UN v0))),(5,Zl v1),(0,AV.val (PV.v (UN v2)))]) (Zp [])
def Zfk (k:Nat) (L4:Zqo) (L3:Zwv):Zwv
 | (v0,v1,v2) => (ZFE k (v1,())).bind fun y => bif decide (UD v0.size < y.1) then bif decide (v0.size + (1:Nat) < (1099511627776:Nat)) then L3 (v0 ++ UR #[49],v1,v2) else none else L4 (0,v0,(0:Int),v1,v2)
def Zwx (k:Nat):Zwv:=Zg (fun L3 => Zfk k (ZdF k) L3) k
noncomputable def ZFO (k:Nat) (n:Nat):=QI (Zzx k) Tryz.f157 ZbK Zbm [1,1,1,1,1,1,1,1,0,1,0,0] [] n ZWz (A:=Zzw)
def ZWy:ZOE → St
 | (v0,v1,v2,v3) => St.mk (Zq [(7,Zl v0),(5,Zl v1),(0,AV.val (PV.v (UN v2))),(6,AV.val (PV.v (UN v3)))]) (Zp [])
def Zfj (k:Nat) (L3:Zwv) (L4:Zqo) (L2:Zwu):Zwu
 | (v0,v1,v2,v3) => bif decide (v0 < v1) then bif v0 == UD v2.size then bif decide (UD v2.size < v1) then L3 (v3,v1,v2) else L4 (0,v3,(0:Int),v1,v2) else bif decide (0 ≤ v0 ∧ v0 < UD v2.size) then bif (UD (v2.data.toList.getD v0.toNat 0).toNat).fdiv (64:Int) != 2 then some ((0,0,2,()),()) else bif decide (0 ≤ v0 ∧ v0 < UD v2.size) then (W7 k ((Jx.wrap (UD (v2.data.toList.getD v0.toNat 0).toNat)).tmod (64:Int),6,())).bind fun y => bif decide (v3.size + UQ y.1 < 1099511627776) then L2 (Jx.wrap (v0 + 1),v1,v2,v3 ++ y.1) else none else none else none else bif decide (UD v2.size < v1) then L3 (v3,v1,v2) else L4 (0,v3,(0:Int),v1,v2)
def Zqp (k:Nat):Zwu:=Zg (fun L2 => Zfj k (Zwx k) (ZdF k) L2) k
noncomputable def ZFN (k:Nat) (n:Nat):=QI (Zzx k) Tryz.f157 ZbK Zbm [1,1,1,1,1,1,1,0,1,0] [] n ZWy (A:=Zzw)
def ZWx:ZOD → St
 | (v0,v1) => St.mk (Zq [(5,Zl v0),(0,AV.val (PV.v (UN v1)))]) (Zp [])
def ZjO (k:Nat) (L2:Zwu) (L1:Zwt):Zwt
 | (v0,v1) => bif decide (v0 < 8) then bif decide ((0:Int) ≤ 0 ∧ (0:Int) < UD v1.size) then bif decide (0 ≤ Jx.wrap ((7:Int) - v0)) then bif Jx.wrap (UD (UH 64 ((Jx.wrap (UD (v1.data.toList.getD 0 0).toNat)).fdiv ((2:Int) ^ min (Jx.wrap ((7:Int) - v0)).toNat 64)) &&& UH 64 (1:Int)).toNat) == 1 then L1 (Jx.wrap (v0 + 1),v1) else bif v0 == 0 then bif decide ((0:Int) ≤ 0 ∧ (0:Int) < UD v1.size) then some ((Jx.wrap (UD (v1.data.toList.getD 0 0).toNat),1,0,()),()) else none else bif v0 == 1 then some ((0,0,2,()),()) else bif v0 == 8 then some ((0,0,2,()),()) else bif decide ((0:Int) ≤ 0 ∧ (0:Int) < UD v1.size) then (W7 k (Jx.wrap (UD (v1.data.toList.getD 0 0).toNat),8,())).bind fun y => bif decide (((0:Int) ≤ if (8:Int) < Jx.wrap (v0 + 1) then (8:Int) else Jx.wrap (v0 + 1)) ∧ (if (8:Int) < Jx.wrap (v0 + 1) then (8:Int) else Jx.wrap (v0 + 1)) ≤ UD (UQ y.1) ∧ UD (UQ y.1) ≤ UD (UQ y.1)) then L2 (1,v0,v1,UV y.1 (if (8:Int) < Jx.wrap (v0 + 1) then (8:Int) else Jx.wrap (v0 + 1)).toNat (UD (UQ y.1)).toNat) else none else none else none else none else bif v0 == 0 then bif decide ((0:Int) ≤ 0 ∧ (0:Int) < UD v1.size) then some ((Jx.wrap (UD (v1.data.toList.getD 0 0).toNat),1,0,()),()) else none else bif v0 == 1 then some ((0,0,2,()),()) else bif v0 == 8 then some ((0,0,2,()),()) else bif decide ((0:Int) ≤ 0 ∧ (0:Int) < UD v1.size) then (W7 k (Jx.wrap (UD (v1.data.toList.getD 0 0).toNat),8,())).bind fun y => bif decide (((0:Int) ≤ if (8:Int) < Jx.wrap (v0 + 1) then (8:Int) else Jx.wrap (v0 + 1)) ∧ (if (8:Int) < Jx.wrap (v0 + 1) then (8:Int) else Jx.wrap (v0 + 1)) ≤ UD (UQ y.1) ∧ UD (UQ y.1) ≤ UD (UQ y.1)) then L2 (1,v0,v1,UV y.1 (if (8:Int) < Jx.wrap (v0 + 1) then (8:Int) else Jx.wrap (v0 + 1)).toNat (UD (UQ y.1)).toNat) else none else none
def Zww (k:Nat):Zwt:=Zg (fun L1 => ZjO k (Zqp k) L1) k
noncomputable def ZFM (k:Nat) (n:Nat):=QI (Zzx k) Tryz.f157 ZbK Zbm [1,1,1,0,0] [] n ZWx (A:=Zzw)
def ZjN (k:Nat) (L1:Zwt):ByteArray × Unit → Option ((Int × Int × Int × Unit) × Unit)
 | (a0,()) => bif a0.toList == (UR #[]).toList then some ((0,0,10,()),()) else L1 (0,a0)
def ZaQ (k:Nat):=ZjN k (Zww k)
theorem Zzy (k:Nat):∀ n,Zwy k n = Zg (fun L4 => ZaR k L4) n:=ZO
theorem ZOK (k:Nat):∀ n,ZFO k n = Zg (fun L3 => Zfk k (ZdF k) L3) n:=ZO (fun n v => by rw [show (ZdF k) = Zwy k k from (Zzy k k).symm]; kernel_rfl)
theorem ZOJ (k:Nat):∀ n,ZFN k n = Zg (fun L2 => Zfj k (Zwx k) (ZdF k) L2) n:=ZO (fun n v => by rw [show (Zwx k) = ZFO k k from (ZOK k k).symm,show (ZdF k) = Zwy k k from (Zzy k k).symm]; kernel_rfl)
theorem ZOI (k:Nat):∀ n,ZFM k n = Zg (fun L1 => ZjO k (Zqp k) L1) n:=ZO (fun n v => by rw [show (Zqp k) = ZFN k k from (ZOJ k k).symm]; kernel_rfl)
noncomputable def ZYk (k:Nat):ZE k:=Zy 157 Tryz.f157 (Zzx k) ZbK Zbm ZaQ (A:=Zzw) (h:=fun x => by show _ = ZjN k (Zww k) x; rw [show Zww k = ZFM k k from (ZOI k k).symm]; kernel_rfl)
abbrev ZWd:List Kd:=[.view ZfR,.box [.view .str,.view (.int .i64)],.view .str]
abbrev ZWe:Kd:=.tup [.view (.int .i64),.view ZhH,.view (.int .i64),.view (.int .i64)]
def ZNy (k:Nat):(Int × Int × Int × Unit) × (ByteArray × Int × Unit) × ByteArray × Unit → Option ((Int × (Int × List (List Int) × Unit) × Int × Int × Unit) × (ByteArray × Int × Unit) × Unit)
 | ((a0,a1,a2,()),(a3,a4,()),a5,()) => (ZN k ((a3,a4,()),15,())).bind fun y => bif y.1.2.1 != 0 then some ((0,((0:Int),[],()),0,y.1.2.1,()),(y.2.1.1,y.2.1.2.1,()),()) else bif y.1.1 != 32764 then some ((0,((0:Int),[],()),0,11,()),(y.2.1.1,y.2.1.2.1,()),()) else (ZN k ((y.2.1.1,y.2.1.2.1,()),1,())).bind fun y => bif y.1.2.1 != 0 then some ((0,((0:Int),[],()),0,y.1.2.1,()),(y.2.1.1,y.2.1.2.1,()),()) else bif y.1.1 != 0 then some ((0,((0:Int),[],()),0,2,()),(y.2.1.1,y.2.1.2.1,()),()) else (ZN k ((y.2.1.1,y.2.1.2.1,()),4,())).bind fun y => bif y.1.2.1 != 0 then some ((0,((0:Int),[],()),0,y.1.2.1,()),(y.2.1.1,y.2.1.2.1,()),()) else bif y.1.1 != 6 then bif y.1.1 != 7 then some ((0,((0:Int),[],()),0,2,()),(y.2.1.1,y.2.1.2.1,()),()) else (ZN k ((y.2.1.1,y.2.1.2.1,()),4,())).bind fun y_1 => bif y_1.1.2.1 != 0 then some ((0,((0:Int),[],()),0,y_1.1.2.1,()),(y_1.2.1.1,y_1.2.1.2.1,()),()) else bif y_1.1.1 != 0 then some ((0,((0:Int),[],()),0,2,()),(y_1.2.1.1,y_1.2.1.2.1,()),()) else (ZN k ((y_1.2.1.1,y_1.2.1.2.1,()),4,())).bind fun y_2 => bif y_2.1.2.1 != 0 then some ((0,((0:Int),[],()),0,y_2.1.2.1,()),(y_2.2.1.1,y_2.2.1.2.1,()),()) else bif a0 == 1 then bif y_2.1.1 != 0 then some ((0,((0:Int),[],()),0,2,()),(y_2.2.1.1,y_2.2.1.2.1,()),()) else bif a0 == 2 then bif y_2.1.1 != 1 then bif decide (y_2.1.1 < 8) then some ((0,((0:Int),[],()),0,2,()),(y_2.2.1.1,y_2.2.1.2.1,()),()) else bif decide ((10:Int) < y_2.1.1) then some ((0,((0:Int),[],()),0,2,()),(y_2.2.1.1,y_2.2.1.2.1,()),()) else (ZN k ((y_2.2.1.1,y_2.2.1.2.1,()),4,())).bind fun y_3 => bif y_3.1.2.1 != 0 then some ((0,((0:Int),[],()),0,y_3.1.2.1,()),(y_3.2.1.1,y_3.2.1.2.1,()),()) else bif y_3.1.1 != 0 then some ((0,((0:Int),[],()),0,2,()),(y_3.2.1.1,y_3.2.1.2.1,()),()) else bif decide ((0:Int) ≤ 4 ∧ (4:Int) ≤ UD a5.size ∧ UD a5.size ≤ UD a5.size) then (ZaQ k (a5.extract (4:Nat) (UD a5.size).toNat,())).bind fun y_4 => bif y_4.1.2.2.1 != 0 then some ((0,((0:Int),[],()),0,y_4.1.2.2.1,()),(y_3.2.1.1,y_3.2.1.2.1,()),()) else bif decide ((2147483647:Int) < y_4.1.1) then some ((0,((0:Int),[],()),0,2,()),(y_3.2.1.1,y_3.2.1.2.1,()),()) else (ZN k ((y_3.2.1.1,Jx.wrap (y_3.2.1.2.1 + Jx.wrap ((8:Int) * y_4.1.2.1)),()),Jx.wrap ((8:Int) * Jx.wrap (y.1.1 - 5)),())).bind fun y => bif y.1.2.1 != 0 then some ((0,((0:Int),[],()),0,y.1.2.1,()),(y.2.1.1,y.2.1.2.1,()),()) else bif decide ((512:Int) < Jx.wrap (y.1.1 + 1)) then some ((0,((0:Int),[],()),0,1,()),(y.2.1.1,y.2.1.2.1,()),()) else (ZN k ((y.2.1.1,y.2.1.2.1,()),8,())).bind fun y_5 => bif y_5.1.2.1 != 0 then some ((0,((0:Int),[],()),0,y_5.1.2.1,()),(y_5.2.1.1,y_5.2.1.2.1,()),()) else bif decide ((0:Int) ≤ 0 ∧ (0:Int) ≤ Jx.wrap (UJ y.2.1.2.1 (8:Int)) ∧ Jx.wrap (UJ y.2.1.2.1 (8:Int)) ≤ UD a5.size) then (ZaO k (a5.extract (0:Nat) (Jx.wrap (UJ y.2.1.2.1 (8:Int))).toNat,())).bind fun y_6 => bif y_5.1.1 != y_6.1 then some ((0,((0:Int),[],()),0,16,()),(y_5.2.1.1,y_5.2.1.2.1,()),()) else bif y_2.1.1 == 1 then some ((0,(y_4.1.1,[],()),Jx.wrap (y.1.1 + 1),0,()),(y_5.2.1.1,y_5.2.1.2.1,()),()) else some ((y_2.1.1,(y_4.1.1,[],()),Jx.wrap (y.1.1 + 1),0,()),(y_5.2.1.1,y_5.2.1.2.1,()),()) else none else none else (ZN k ((y_2.2.1.1,y_2.2.1.2.1,()),4,())).bind fun y_3 => bif y_3.1.2.1 != 0 then some ((0,((0:Int),[],()),0,y_3.1.2.1,()),(y_3.2.1.1,y_3.2.1.2.1,()),()) else bif y_3.1.1 != 0 then some ((0,((0:Int),[],()),0,2,()),(y_3.2.1.1,y_3.2.1.2.1,()),()) else bif decide ((0:Int) ≤ 4 ∧ (4:Int) ≤ UD a5.size ∧ UD a5.size ≤ UD a5.size) then (ZaQ k (a5.extract (4:Nat) (UD a5.size).toNat,())).bind fun y_4 => bif y_4.1.2.2.1 != 0 then some ((0,((0:Int),[],()),0,y_4.1.2.2.1,()),(y_3.2.1.1,y_3.2.1.2.1,()),()) else bif decide ((2147483647:Int) < y_4.1.1) then some ((0,((0:Int),[],()),0,2,()),(y_3.2.1.1,y_3.2.1.2.1,()),()) else (ZN k ((y_3.2.1.1,Jx.wrap (y_3.2.1.2.1 + Jx.wrap ((8:Int) * y_4.1.2.1)),()),Jx.wrap ((8:Int) * Jx.wrap (y.1.1 - 5)),())).bind fun y => bif y.1.2.1 != 0 then some ((0,((0:Int),[],()),0,y.1.2.1,()),(y.2.1.1,y.2.1.2.1,()),()) else bif decide ((512:Int) < Jx.wrap (y.1.1 + 1)) then some ((0,((0:Int),[],()),0,1,()),(y.2.1.1,y.2.1.2.1,()),()) else (ZN k ((y.2.1.1,y.2.1.2.1,()),8,())).bind fun y_5 => bif y_5.1.2.1 != 0 then some ((0,((0:Int),[],()),0,y_5.1.2.1,()),(y_5.2.1.1,y_5.2.1.2.1,()),()) else bif decide ((0:Int) ≤ 0 ∧ (0:Int) ≤ Jx.wrap (UJ y.2.1.2.1 (8:Int)) ∧ Jx.wrap (UJ y.2.1.2.1 (8:Int)) ≤ UD a5.size) then (ZaO k (a5.extract (0:Nat) (Jx.wrap (UJ y.2.1.2.1 (8:Int))).toNat,())).bind fun y_6 => bif y_5.1.1 != y_6.1 then some ((0,((0:Int),[],()),0,16,()),(y_5.2.1.1,y_5.2.1.2.1,()),()) else bif y_2.1.1 == 1 then some ((0,(y_4.1.1,[],()),Jx.wrap (y.1.1 + 1),0,()),(y_5.2.1.1,y_5.2.1.2.1,()),()) else some ((y_2.1.1,(y_4.1.1,[],()),Jx.wrap (y.1.1 + 1),0,()),(y_5.2.1.1,y_5.2.1.2.1,()),()) else none else none else (ZN k ((y_2.2.1.1,y_2.2.1.2.1,()),4,())).bind fun y_3 => bif y_3.1.2.1 != 0 then some ((0,((0:Int),[],()),0,y_3.1.2.1,()),(y_3.2.1.1,y_3.2.1.2.1,()),()) else bif y_3.1.1 != 0 then some ((0,((0:Int),[],()),0,2,()),(y_3.2.1.1,y_3.2.1.2.1,()),()) else bif decide ((0:Int) ≤ 4 ∧ (4:Int) ≤ UD a5.size ∧ UD a5.size ≤ UD a5.size) then (ZaQ k (a5.extract (4:Nat) (UD a5.size).toNat,())).bind fun y_4 => bif y_4.1.2.2.1 != 0 then some ((0,((0:Int),[],()),0,y_4.1.2.2.1,()),(y_3.2.1.1,y_3.2.1.2.1,()),()) else bif decide ((2147483647:Int) < y_4.1.1) then some ((0,((0:Int),[],()),0,2,()),(y_3.2.1.1,y_3.2.1.2.1,()),()) else (ZN k ((y_3.2.1.1,Jx.wrap (y_3.2.1.2.1 + Jx.wrap ((8:Int) * y_4.1.2.1)),()),Jx.wrap ((8:Int) * Jx.wrap (y.1.1 - 5)),())).bind fun y => bif y.1.2.1 != 0 then some ((0,((0:Int),[],()),0,y.1.2.1,()),(y.2.1.1,y.2.1.2.1,()),()) else bif decide ((512:Int) < Jx.wrap (y.1.1 + 1)) then some ((0,((0:Int),[],()),0,1,()),(y.2.1.1,y.2.1.2.1,()),()) else (ZN k ((y.2.1.1,y.2.1.2.1,()),8,())).bind fun y_5 => bif y_5.1.2.1 != 0 then some ((0,((0:Int),[],()),0,y_5.1.2.1,()),(y_5.2.1.1,y_5.2.1.2.1,()),()) else bif decide ((0:Int) ≤ 0 ∧ (0:Int) ≤ Jx.wrap (UJ y.2.1.2.1 (8:Int)) ∧ Jx.wrap (UJ y.2.1.2.1 (8:Int)) ≤ UD a5.size) then (ZaO k (a5.extract (0:Nat) (Jx.wrap (UJ y.2.1.2.1 (8:Int))).toNat,())).bind fun y_6 => bif y_5.1.1 != y_6.1 then some ((0,((0:Int),[],()),0,16,()),(y_5.2.1.1,y_5.2.1.2.1,()),()) else bif y_2.1.1 == 1 then some ((0,(y_4.1.1,[],()),Jx.wrap (y.1.1 + 1),0,()),(y_5.2.1.1,y_5.2.1.2.1,()),()) else some ((y_2.1.1,(y_4.1.1,[],()),Jx.wrap (y.1.1 + 1),0,()),(y_5.2.1.1,y_5.2.1.2.1,()),()) else none else none else bif a0 == 2 then bif y_2.1.1 != 1 then bif decide (y_2.1.1 < 8) then some ((0,((0:Int),[],()),0,2,()),(y_2.2.1.1,y_2.2.1.2.1,()),()) else bif decide ((10:Int) < y_2.1.1) then some ((0,((0:Int),[],()),0,2,()),(y_2.2.1.1,y_2.2.1.2.1,()),()) else (ZN k ((y_2.2.1.1,y_2.2.1.2.1,()),4,())).bind fun y_3 => bif y_3.1.2.1 != 0 then some ((0,((0:Int),[],()),0,y_3.1.2.1,()),(y_3.2.1.1,y_3.2.1.2.1,()),()) else bif y_3.1.1 != 0 then some ((0,((0:Int),[],()),0,2,()),(y_3.2.1.1,y_3.2.1.2.1,()),()) else bif decide ((0:Int) ≤ 4 ∧ (4:Int) ≤ UD a5.size ∧ UD a5.size ≤ UD a5.size) then (ZaQ k (a5.extract (4:Nat) (UD a5.size).toNat,())).bind fun y_4 => bif y_4.1.2.2.1 != 0 then some ((0,((0:Int),[],()),0,y_4.1.2.2.1,()),(y_3.2.1.1,y_3.2.1.2.1,()),()) else bif decide ((2147483647:Int) < y_4.1.1) then some ((0,((0:Int),[],()),0,2,()),(y_3.2.1.1,y_3.2.1.2.1,()),()) else (ZN k ((y_3.2.1.1,Jx.wrap (y_3.2.1.2.1 + Jx.wrap ((8:Int) * y_4.1.2.1)),()),Jx.wrap ((8:Int) * Jx.wrap (y.1.1 - 5)),())).bind fun y => bif y.1.2.1 != 0 then some ((0,((0:Int),[],()),0,y.1.2.1,()),(y.2.1.1,y.2.1.2.1,()),()) else bif decide ((512:Int) < Jx.wrap (y.1.1 + 1)) then some ((0,((0:Int),[],()),0,1,()),(y.2.1.1,y.2.1.2.1,()),()) else (ZN k ((y.2.1.1,y.2.1.2.1,()),8,())).bind fun y_5 => bif y_5.1.2.1 != 0 then some ((0,((0:Int),[],()),0,y_5.1.2.1,()),(y_5.2.1.1,y_5.2.1.2.1,()),()) else bif decide ((0:Int) ≤ 0 ∧ (0:Int) ≤ Jx.wrap (UJ y.2.1.2.1 (8:Int)) ∧ Jx.wrap (UJ y.2.1.2.1 (8:Int)) ≤ UD a5.size) then (ZaO k (a5.extract (0:Nat) (Jx.wrap (UJ y.2.1.2.1 (8:Int))).toNat,())).bind fun y_6 => bif y_5.1.1 != y_6.1 then some ((0,((0:Int),[],()),0,16,()),(y_5.2.1.1,y_5.2.1.2.1,()),()) else bif y_2.1.1 == 1 then some ((0,(y_4.1.1,[],()),Jx.wrap (y.1.1 + 1),0,()),(y_5.2.1.1,y_5.2.1.2.1,()),()) else some ((y_2.1.1,(y_4.1.1,[],()),Jx.wrap (y.1.1 + 1),0,()),(y_5.2.1.1,y_5.2.1.2.1,()),()) else none else none else (ZN k ((y_2.2.1.1,y_2.2.1.2.1,()),4,())).bind fun y_3 => bif y_3.1.2.1 != 0 then some ((0,((0:Int),[],()),0,y_3.1.2.1,()),(y_3.2.1.1,y_3.2.1.2.1,()),()) else bif y_3.1.1 != 0 then some ((0,((0:Int),[],()),0,2,()),(y_3.2.1.1,y_3.2.1.2.1,()),()) else bif decide ((0:Int) ≤ 4 ∧ (4:Int) ≤ UD a5.size ∧ UD a5.size ≤ UD a5.size) then (ZaQ k (a5.extract (4:Nat) (UD a5.size).toNat,())).bind fun y_4 => bif y_4.1.2.2.1 != 0 then some ((0,((0:Int),[],()),0,y_4.1.2.2.1,()),(y_3.2.1.1,y_3.2.1.2.1,()),()) else bif decide ((2147483647:Int) < y_4.1.1) then some ((0,((0:Int),[],()),0,2,()),(y_3.2.1.1,y_3.2.1.2.1,()),()) else (ZN k ((y_3.2.1.1,Jx.wrap (y_3.2.1.2.1 + Jx.wrap ((8:Int) * y_4.1.2.1)),()),Jx.wrap ((8:Int) * Jx.wrap (y.1.1 - 5)),())).bind fun y => bif y.1.2.1 != 0 then some ((0,((0:Int),[],()),0,y.1.2.1,()),(y.2.1.1,y.2.1.2.1,()),()) else bif decide ((512:Int) < Jx.wrap (y.1.1 + 1)) then some ((0,((0:Int),[],()),0,1,()),(y.2.1.1,y.2.1.2.1,()),()) else (ZN k ((y.2.1.1,y.2.1.2.1,()),8,())).bind fun y_5 => bif y_5.1.2.1 != 0 then some ((0,((0:Int),[],()),0,y_5.1.2.1,()),(y_5.2.1.1,y_5.2.1.2.1,()),()) else bif decide ((0:Int) ≤ 0 ∧ (0:Int) ≤ Jx.wrap (UJ y.2.1.2.1 (8:Int)) ∧ Jx.wrap (UJ y.2.1.2.1 (8:Int)) ≤ UD a5.size) then (ZaO k (a5.extract (0:Nat) (Jx.wrap (UJ y.2.1.2.1 (8:Int))).toNat,())).bind fun y_6 => bif y_5.1.1 != y_6.1 then some ((0,((0:Int),[],()),0,16,()),(y_5.2.1.1,y_5.2.1.2.1,()),()) else bif y_2.1.1 == 1 then some ((0,(y_4.1.1,[],()),Jx.wrap (y.1.1 + 1),0,()),(y_5.2.1.1,y_5.2.1.2.1,()),()) else some ((y_2.1.1,(y_4.1.1,[],()),Jx.wrap (y.1.1 + 1),0,()),(y_5.2.1.1,y_5.2.1.2.1,()),()) else none else none else (ZN k ((y_2.2.1.1,y_2.2.1.2.1,()),4,())).bind fun y_3 => bif y_3.1.2.1 != 0 then some ((0,((0:Int),[],()),0,y_3.1.2.1,()),(y_3.2.1.1,y_3.2.1.2.1,()),()) else bif y_3.1.1 != 0 then some ((0,((0:Int),[],()),0,2,()),(y_3.2.1.1,y_3.2.1.2.1,()),()) else bif decide ((0:Int) ≤ 4 ∧ (4:Int) ≤ UD a5.size ∧ UD a5.size ≤ UD a5.size) then (ZaQ k (a5.extract (4:Nat) (UD a5.size).toNat,())).bind fun y_4 => bif y_4.1.2.2.1 != 0 then some ((0,((0:Int),[],()),0,y_4.1.2.2.1,()),(y_3.2.1.1,y_3.2.1.2.1,()),()) else bif decide ((2147483647:Int) < y_4.1.1) then some ((0,((0:Int),[],()),0,2,()),(y_3.2.1.1,y_3.2.1.2.1,()),()) else (ZN k ((y_3.2.1.1,Jx.wrap (y_3.2.1.2.1 + Jx.wrap ((8:Int) * y_4.1.2.1)),()),Jx.wrap ((8:Int) * Jx.wrap (y.1.1 - 5)),())).bind fun y => bif y.1.2.1 != 0 then some ((0,((0:Int),[],()),0,y.1.2.1,()),(y.2.1.1,y.2.1.2.1,()),()) else bif decide ((512:Int) < Jx.wrap (y.1.1 + 1)) then some ((0,((0:Int),[],()),0,1,()),(y.2.1.1,y.2.1.2.1,()),()) else (ZN k ((y.2.1.1,y.2.1.2.1,()),8,())).bind fun y_5 => bif y_5.1.2.1 != 0 then some ((0,((0:Int),[],()),0,y_5.1.2.1,()),(y_5.2.1.1,y_5.2.1.2.1,()),()) else bif decide ((0:Int) ≤ 0 ∧ (0:Int) ≤ Jx.wrap (UJ y.2.1.2.1 (8:Int)) ∧ Jx.wrap (UJ y.2.1.2.1 (8:Int)) ≤ UD a5.size) then (ZaO k (a5.extract (0:Nat) (Jx.wrap (UJ y.2.1.2.1 (8:Int))).toNat,())).bind fun y_6 => bif y_5.1.1 != y_6.1 then some ((0,((0:Int),[],()),0,16,()),(y_5.2.1.1,y_5.2.1.2.1,()),()) else bif y_2.1.1 == 1 then some ((0,(y_4.1.1,[],()),Jx.wrap (y.1.1 + 1),0,()),(y_5.2.1.1,y_5.2.1.2.1,()),()) else some ((y_2.1.1,(y_4.1.1,[],()),Jx.wrap (y.1.1 + 1),0,()),(y_5.2.1.1,y_5.2.1.2.1,()),()) else none else none else (ZN k ((y.2.1.1,y.2.1.2.1,()),4,())).bind fun y_1 => bif y_1.1.2.1 != 0 then some ((0,((0:Int),[],()),0,y_1.1.2.1,()),(y_1.2.1.1,y_1.2.1.2.1,()),()) else bif y_1.1.1 != 0 then some ((0,((0:Int),[],()),0,2,()),(y_1.2.1.1,y_1.2.1.2.1,()),()) else (ZN k ((y_1.2.1.1,y_1.2.1.2.1,()),4,())).bind fun y_2 => bif y_2.1.2.1 != 0 then some ((0,((0:Int),[],()),0,y_2.1.2.1,()),(y_2.2.1.1,y_2.2.1.2.1,()),()) else bif a0 == 1 then bif y_2.1.1 != 0 then some ((0,((0:Int),[],()),0,2,()),(y_2.2.1.1,y_2.2.1.2.1,()),()) else bif a0 == 2 then bif y_2.1.1 != 1 then bif decide (y_2.1.1 < 8) then some ((0,((0:Int),[],()),0,2,()),(y_2.2.1.1,y_2.2.1.2.1,()),()) else bif decide ((10:Int) < y_2.1.1) then some ((0,((0:Int),[],()),0,2,()),(y_2.2.1.1,y_2.2.1.2.1,()),()) else (ZN k ((y_2.2.1.1,y_2.2.1.2.1,()),4,())).bind fun y_3 => bif y_3.1.2.1 != 0 then some ((0,((0:Int),[],()),0,y_3.1.2.1,()),(y_3.2.1.1,y_3.2.1.2.1,()),()) else bif y_3.1.1 != 0 then some ((0,((0:Int),[],()),0,2,()),(y_3.2.1.1,y_3.2.1.2.1,()),()) else bif decide ((0:Int) ≤ 4 ∧ (4:Int) ≤ UD a5.size ∧ UD a5.size ≤ UD a5.size) then (ZaQ k (a5.extract (4:Nat) (UD a5.size).toNat,())).bind fun y_4 => bif y_4.1.2.2.1 != 0 then some ((0,((0:Int),[],()),0,y_4.1.2.2.1,()),(y_3.2.1.1,y_3.2.1.2.1,()),()) else bif decide ((2147483647:Int) < y_4.1.1) then some ((0,((0:Int),[],()),0,2,()),(y_3.2.1.1,y_3.2.1.2.1,()),()) else (ZN k ((y_3.2.1.1,Jx.wrap (y_3.2.1.2.1 + Jx.wrap ((8:Int) * y_4.1.2.1)),()),Jx.wrap ((8:Int) * Jx.wrap (y.1.1 - 5)),())).bind fun y => bif y.1.2.1 != 0 then some ((0,((0:Int),[],()),0,y.1.2.1,()),(y.2.1.1,y.2.1.2.1,()),()) else bif decide ((512:Int) < Jx.wrap (y.1.1 + 1)) then some ((0,((0:Int),[],()),0,1,()),(y.2.1.1,y.2.1.2.1,()),()) else (ZN k ((y.2.1.1,y.2.1.2.1,()),8,())).bind fun y_5 => bif y_5.1.2.1 != 0 then some ((0,((0:Int),[],()),0,y_5.1.2.1,()),(y_5.2.1.1,y_5.2.1.2.1,()),()) else bif decide ((0:Int) ≤ 0 ∧ (0:Int) ≤ Jx.wrap (UJ y.2.1.2.1 (8:Int)) ∧ Jx.wrap (UJ y.2.1.2.1 (8:Int)) ≤ UD a5.size) then (ZaO k (a5.extract (0:Nat) (Jx.wrap (UJ y.2.1.2.1 (8:Int))).toNat,())).bind fun y_6 => bif y_5.1.1 != y_6.1 then some ((0,((0:Int),[],()),0,16,()),(y_5.2.1.1,y_5.2.1.2.1,()),()) else bif y_2.1.1 == 1 then some ((0,(y_4.1.1,[],()),Jx.wrap (y.1.1 + 1),0,()),(y_5.2.1.1,y_5.2.1.2.1,()),()) else some ((y_2.1.1,(y_4.1.1,[],()),Jx.wrap (y.1.1 + 1),0,()),(y_5.2.1.1,y_5.2.1.2.1,()),()) else none else none else (ZN k ((y_2.2.1.1,y_2.2.1.2.1,()),4,())).bind fun y_3 => bif y_3.1.2.1 != 0 then some ((0,((0:Int),[],()),0,y_3.1.2.1,()),(y_3.2.1.1,y_3.2.1.2.1,()),()) else bif y_3.1.1 != 0 then some ((0,((0:Int),[],()),0,2,()),(y_3.2.1.1,y_3.2.1.2.1,()),()) else bif decide ((0:Int) ≤ 4 ∧ (4:Int) ≤ UD a5.size ∧ UD a5.size ≤ UD a5.size) then (ZaQ k (a5.extract (4:Nat) (UD a5.size).toNat,())).bind fun y_4 => bif y_4.1.2.2.1 != 0 then some ((0,((0:Int),[],()),0,y_4.1.2.2.1,()),(y_3.2.1.1,y_3.2.1.2.1,()),()) else bif decide ((2147483647:Int) < y_4.1.1) then some ((0,((0:Int),[],()),0,2,()),(y_3.2.1.1,y_3.2.1.2.1,()),()) else (ZN k ((y_3.2.1.1,Jx.wrap (y_3.2.1.2.1 + Jx.wrap ((8:Int) * y_4.1.2.1)),()),Jx.wrap ((8:Int) * Jx.wrap (y.1.1 - 5)),())).bind fun y => bif y.1.2.1 != 0 then some ((0,((0:Int),[],()),0,y.1.2.1,()),(y.2.1.1,y.2.1.2.1,()),()) else bif decide ((512:Int) < Jx.wrap (y.1.1 + 1)) then some ((0,((0:Int),[],()),0,1,()),(y.2.1.1,y.2.1.2.1,()),()) else (ZN k ((y.2.1.1,y.2.1.2.1,()),8,())).bind fun y_5 => bif y_5.1.2.1 != 0 then some ((0,((0:Int),[],()),0,y_5.1.2.1,()),(y_5.2.1.1,y_5.2.1.2.1,()),()) else bif decide ((0:Int) ≤ 0 ∧ (0:Int) ≤ Jx.wrap (UJ y.2.1.2.1 (8:Int)) ∧ Jx.wrap (UJ y.2.1.2.1 (8:Int)) ≤ UD a5.size) then (ZaO k (a5.extract (0:Nat) (Jx.wrap (UJ y.2.1.2.1 (8:Int))).toNat,())).bind fun y_6 => bif y_5.1.1 != y_6.1 then some ((0,((0:Int),[],()),0,16,()),(y_5.2.1.1,y_5.2.1.2.1,()),()) else bif y_2.1.1 == 1 then some ((0,(y_4.1.1,[],()),Jx.wrap (y.1.1 + 1),0,()),(y_5.2.1.1,y_5.2.1.2.1,()),()) else some ((y_2.1.1,(y_4.1.1,[],()),Jx.wrap (y.1.1 + 1),0,()),(y_5.2.1.1,y_5.2.1.2.1,()),()) else none else none else (ZN k ((y_2.2.1.1,y_2.2.1.2.1,()),4,())).bind fun y_3 => bif y_3.1.2.1 != 0 then some ((0,((0:Int),[],()),0,y_3.1.2.1,()),(y_3.2.1.1,y_3.2.1.2.1,()),()) else bif y_3.1.1 != 0 then some ((0,((0:Int),[],()),0,2,()),(y_3.2.1.1,y_3.2.1.2.1,()),()) else bif decide ((0:Int) ≤ 4 ∧ (4:Int) ≤ UD a5.size ∧ UD a5.size ≤ UD a5.size) then (ZaQ k (a5.extract (4:Nat) (UD a5.size).toNat,())).bind fun y_4 => bif y_4.1.2.2.1 != 0 then some ((0,((0:Int),[],()),0,y_4.1.2.2.1,()),(y_3.2.1.1,y_3.2.1.2.1,()),()) else bif decide ((2147483647:Int) < y_4.1.1) then some ((0,((0:Int),[],()),0,2,()),(y_3.2.1.1,y_3.2.1.2.1,()),()) else (ZN k ((y_3.2.1.1,Jx.wrap (y_3.2.1.2.1 + Jx.wrap ((8:Int) * y_4.1.2.1)),()),Jx.wrap ((8:Int) * Jx.wrap (y.1.1 - 5)),())).bind fun y => bif y.1.2.1 != 0 then some ((0,((0:Int),[],()),0,y.1.2.1,()),(y.2.1.1,y.2.1.2.1,()),()) else bif decide ((512:Int) < Jx.wrap (y.1.1 + 1)) then some ((0,((0:Int),[],()),0,1,()),(y.2.1.1,y.2.1.2.1,()),()) else (ZN k ((y.2.1.1,y.2.1.2.1,()),8,())).bind fun y_5 => bif y_5.1.2.1 != 0 then some ((0,((0:Int),[],()),0,y_5.1.2.1,()),(y_5.2.1.1,y_5.2.1.2.1,()),()) else bif decide ((0:Int) ≤ 0 ∧ (0:Int) ≤ Jx.wrap (UJ y.2.1.2.1 (8:Int)) ∧ Jx.wrap (UJ y.2.1.2.1 (8:Int)) ≤ UD a5.size) then (ZaO k (a5.extract (0:Nat) (Jx.wrap (UJ y.2.1.2.1 (8:Int))).toNat,())).bind fun y_6 => bif y_5.1.1 != y_6.1 then some ((0,((0:Int),[],()),0,16,()),(y_5.2.1.1,y_5.2.1.2.1,()),()) else bif y_2.1.1 == 1 then some ((0,(y_4.1.1,[],()),Jx.wrap (y.1.1 + 1),0,()),(y_5.2.1.1,y_5.2.1.2.1,()),()) else some ((y_2.1.1,(y_4.1.1,[],()),Jx.wrap (y.1.1 + 1),0,()),(y_5.2.1.1,y_5.2.1.2.1,()),()) else none else none else bif a0 == 2 then bif y_2.1.1 != 1 then bif decide (y_2.1.1 < 8) then some ((0,((0:Int),[],()),0,2,()),(y_2.2.1.1,y_2.2.1.2.1,()),()) else bif decide ((10:Int) < y_2.1.1) then some ((0,((0:Int),[],()),0,2,()),(y_2.2.1.1,y_2.2.1.2.1,()),()) else (ZN k ((y_2.2.1.1,y_2.2.1.2.1,()),4,())).bind fun y_3 => bif y_3.1.2.1 != 0 then some ((0,((0:Int),[],()),0,y_3.1.2.1,()),(y_3.2.1.1,y_3.2.1.2.1,()),()) else bif y_3.1.1 != 0 then some ((0,((0:Int),[],()),0,2,()),(y_3.2.1.1,y_3.2.1.2.1,()),()) else bif decide ((0:Int) ≤ 4 ∧ (4:Int) ≤ UD a5.size ∧ UD a5.size ≤ UD a5.size) then (ZaQ k (a5.extract (4:Nat) (UD a5.size).toNat,())).bind fun y_4 => bif y_4.1.2.2.1 != 0 then some ((0,((0:Int),[],()),0,y_4.1.2.2.1,()),(y_3.2.1.1,y_3.2.1.2.1,()),()) else bif decide ((2147483647:Int) < y_4.1.1) then some ((0,((0:Int),[],()),0,2,()),(y_3.2.1.1,y_3.2.1.2.1,()),()) else (ZN k ((y_3.2.1.1,Jx.wrap (y_3.2.1.2.1 + Jx.wrap ((8:Int) * y_4.1.2.1)),()),Jx.wrap ((8:Int) * Jx.wrap (y.1.1 - 5)),())).bind fun y => bif y.1.2.1 != 0 then some ((0,((0:Int),[],()),0,y.1.2.1,()),(y.2.1.1,y.2.1.2.1,()),()) else bif decide ((512:Int) < Jx.wrap (y.1.1 + 1)) then some ((0,((0:Int),[],()),0,1,()),(y.2.1.1,y.2.1.2.1,()),()) else (ZN k ((y.2.1.1,y.2.1.2.1,()),8,())).bind fun y_5 => bif y_5.1.2.1 != 0 then some ((0,((0:Int),[],()),0,y_5.1.2.1,()),(y_5.2.1.1,y_5.2.1.2.1,()),()) else bif decide ((0:Int) ≤ 0 ∧ (0:Int) ≤ Jx.wrap (UJ y.2.1.2.1 (8:Int)) ∧ Jx.wrap (UJ y.2.1.2.1 (8:Int)) ≤ UD a5.size) then (ZaO k (a5.extract (0:Nat) (Jx.wrap (UJ y.2.1.2.1 (8:Int))).toNat,())).bind fun y_6 => bif y_5.1.1 != y_6.1 then some ((0,((0:Int),[],()),0,16,()),(y_5.2.1.1,y_5.2.1.2.1,()),()) else bif y_2.1.1 == 1 then some ((0,(y_4.1.1,[],()),Jx.wrap (y.1.1 + 1),0,()),(y_5.2.1.1,y_5.2.1.2.1,()),()) else some ((y_2.1.1,(y_4.1.1,[],()),Jx.wrap (y.1.1 + 1),0,()),(y_5.2.1.1,y_5.2.1.2.1,()),()) else none else none else (ZN k ((y_2.2.1.1,y_2.2.1.2.1,()),4,())).bind fun y_3 => bif y_3.1.2.1 != 0 then some ((0,((0:Int),[],()),0,y_3.1.2.1,()),(y_3.2.1.1,y_3.2.1.2.1,()),()) else bif y_3.1.1 != 0 then some ((0,((0:Int),[],()),0,2,()),(y_3.2.1.1,y_3.2.1.2.1,()),()) else bif decide ((0:Int) ≤ 4 ∧ (4:Int) ≤ UD a5.size ∧ UD a5.size ≤ UD a5.size) then (ZaQ k (a5.extract (4:Nat) (UD a5.size).toNat,())).bind fun y_4 => bif y_4.1.2.2.1 != 0 then some ((0,((0:Int),[],()),0,y_4.1.2.2.1,()),(y_3.2.1.1,y_3.2.1.2.1,()),()) else bif decide ((2147483647:Int) < y_4.1.1) then some ((0,((0:Int),[],()),0,2,()),(y_3.2.1.1,y_3.2.1.2.1,()),()) else (ZN k ((y_3.2.1.1,Jx.wrap (y_3.2.1.2.1 + Jx.wrap ((8:Int) * y_4.1.2.1)),()),Jx.wrap ((8:Int) * Jx.wrap (y.1.1 - 5)),())).bind fun y => bif y.1.2.1 != 0 then some ((0,((0:Int),[],()),0,y.1.2.1,()),(y.2.1.1,y.2.1.2.1,()),()) else bif decide ((512:Int) < Jx.wrap (y.1.1 + 1)) then some ((0,((0:Int),[],()),0,1,()),(y.2.1.1,y.2.1.2.1,()),()) else (ZN k ((y.2.1.1,y.2.1.2.1,()),8,())).bind fun y_5 => bif y_5.1.2.1 != 0 then some ((0,((0:Int),[],()),0,y_5.1.2.1,()),(y_5.2.1.1,y_5.2.1.2.1,()),()) else bif decide ((0:Int) ≤ 0 ∧ (0:Int) ≤ Jx.wrap (UJ y.2.1.2.1 (8:Int)) ∧ Jx.wrap (UJ y.2.1.2.1 (8:Int)) ≤ UD a5.size) then (ZaO k (a5.extract (0:Nat) (Jx.wrap (UJ y.2.1.2.1 (8:Int))).toNat,())).bind fun y_6 => bif y_5.1.1 != y_6.1 then some ((0,((0:Int),[],()),0,16,()),(y_5.2.1.1,y_5.2.1.2.1,()),()) else bif y_2.1.1 == 1 then some ((0,(y_4.1.1,[],()),Jx.wrap (y.1.1 + 1),0,()),(y_5.2.1.1,y_5.2.1.2.1,()),()) else some ((y_2.1.1,(y_4.1.1,[],()),Jx.wrap (y.1.1 + 1),0,()),(y_5.2.1.1,y_5.2.1.2.1,()),()) else none else none else (ZN k ((y_2.2.1.1,y_2.2.1.2.1,()),4,())).bind fun y_3 => bif y_3.1.2.1 != 0 then some ((0,((0:Int),[],()),0,y_3.1.2.1,()),(y_3.2.1.1,y_3.2.1.2.1,()),()) else bif y_3.1.1 != 0 then some ((0,((0:Int),[],()),0,2,()),(y_3.2.1.1,y_3.2.1.2.1,()),()) else bif decide ((0:Int) ≤ 4 ∧ (4:Int) ≤ UD a5.size ∧ UD a5.size ≤ UD a5.size) then (ZaQ k (a5.extract (4:Nat) (UD a5.size).toNat,())).bind fun y_4 => bif y_4.1.2.2.1 != 0 then some ((0,((0:Int),[],()),0,y_4.1.2.2.1,()),(y_3.2.1.1,y_3.2.1.2.1,()),()) else bif decide ((2147483647:Int) < y_4.1.1) then some ((0,((0:Int),[],()),0,2,()),(y_3.2.1.1,y_3.2.1.2.1,()),()) else (ZN k ((y_3.2.1.1,Jx.wrap (y_3.2.1.2.1 + Jx.wrap ((8:Int) * y_4.1.2.1)),()),Jx.wrap ((8:Int) * Jx.wrap (y.1.1 - 5)),())).bind fun y => bif y.1.2.1 != 0 then some ((0,((0:Int),[],()),0,y.1.2.1,()),(y.2.1.1,y.2.1.2.1,()),()) else bif decide ((512:Int) < Jx.wrap (y.1.1 + 1)) then some ((0,((0:Int),[],()),0,1,()),(y.2.1.1,y.2.1.2.1,()),()) else (ZN k ((y.2.1.1,y.2.1.2.1,()),8,())).bind fun y_5 => bif y_5.1.2.1 != 0 then some ((0,((0:Int),[],()),0,y_5.1.2.1,()),(y_5.2.1.1,y_5.2.1.2.1,()),()) else bif decide ((0:Int) ≤ 0 ∧ (0:Int) ≤ Jx.wrap (UJ y.2.1.2.1 (8:Int)) ∧ Jx.wrap (UJ y.2.1.2.1 (8:Int)) ≤ UD a5.size) then (ZaO k (a5.extract (0:Nat) (Jx.wrap (UJ y.2.1.2.1 (8:Int))).toNat,())).bind fun y_6 => bif y_5.1.1 != y_6.1 then some ((0,((0:Int),[],()),0,16,()),(y_5.2.1.1,y_5.2.1.2.1,()),()) else bif y_2.1.1 == 1 then some ((0,(y_4.1.1,[],()),Jx.wrap (y.1.1 + 1),0,()),(y_5.2.1.1,y_5.2.1.2.1,()),()) else some ((y_2.1.1,(y_4.1.1,[],()),Jx.wrap (y.1.1 + 1),0,()),(y_5.2.1.1,y_5.2.1.2.1,()),()) else none else none
def Zts (k:Nat):=ZNy k
set_option maxHeartbeats 1000000 in
noncomputable def ZXX (k:Nat):ZE k:=Zy 111 Tryz.f111 [Zp7 k,ZYk k,ZXN k] ZWd ZWe Zts
abbrev ZwB:List Kd:=[.box [.view .str,.view (.int .i64)]]
noncomputable def ZUk (k:Nat):List (ZE k):=[]
def ZUi:Nat → Ann:=fun id => bif Ja id 2 then ⟨[4,0],[]⟩ else ⟨[],[]⟩
abbrev ZOM:=Int × ByteArray × Int
abbrev Zwz:=ZOM → Option ((Int × Int × Unit) × (ByteArray × Int × Unit) × Unit)
def ZWB:ZOM → St
 | (v0,v1,v2) => St.mk (Zq [(4,Zl v0),(0,AV.bx 0 0)]) (Zp [(0,QQ [AV.val (PV.v (UN v1)),Zl v2])])
def Zfl (k:Nat) (L1:Zwz):Zwz
 | (v0,v1,v2) => bif decide (v0 < UD v1.size) then bif decide (0 ≤ v0 ∧ v0 < UD v1.size) then bif UD (v1.data.toList.getD v0.toNat 0).toNat == (49:Int) then some ((Jx.wrap (v0 - v2),0,()),(v1,Jx.wrap (v0 + 1),()),()) else L1 (Jx.wrap (v0 + 1),v1,v2) else none else some ((0,10,()),(v1,v2,()),())
def ZwA (k:Nat):Zwz:=Zg (fun L1 => Zfl k L1) k
noncomputable def ZFP (k:Nat) (n:Nat):=QI (ZUk k) Tryz.f158 ZwB QY [1,0,1,0] [] n ZWB (A:=ZUi) (a:=[AV.bx (nat_lit 0) (nat_lit 0)]) (b:=[[]]) (q:=[0])
def ZjP (k:Nat) (L1:Zwz):(ByteArray × Int × Unit) × Unit → Option ((Int × Int × Unit) × (ByteArray × Int × Unit) × Unit)
 | ((a0,a1,()),()) => L1 (a1,a0,a1)
def Zms (k:Nat):=ZjP k (ZwA k)
theorem ZON (k:Nat):∀ n,ZFP k n = Zg (fun L1 => Zfl k L1) n:=ZO
noncomputable def ZUj (k:Nat):ZE k:=Zy 158 Tryz.f158 (ZUk k) ZwB QY Zms (A:=ZUi) (h:=fun x => by show _ = ZjP k (ZwA k) x; rw [show ZwA k = ZFP k k from (ZON k k).symm]; kernel_rfl)
def ZkT (k:Nat):(ByteArray × Int × Unit) × Int × Unit → Option ((Int × Int × Unit) × (ByteArray × Int × Unit) × Unit)
 | ((a0,a1,()),a2,()) => (ZN k ((a0,a1,()),a2,())).bind fun y => bif y.1.2.1 == 0 then bif decide ((0:Int) < a2) then bif decide (0 ≤ Jx.wrap (a2 - 1)) then bif decide (Jx.wrap ((1:Int) * (2:Int) ^ min (Jx.wrap (a2 - 1)).toNat 64) ≤ y.1.1) then bif decide (0 ≤ a2) then some ((Jx.wrap (y.1.1 - Jx.wrap ((1:Int) * (2:Int) ^ min a2.toNat 64)),y.1.2.1,()),(y.2.1.1,y.2.1.2.1,()),()) else none else some ((y.1.1,y.1.2.1,()),(y.2.1.1,y.2.1.2.1,()),()) else none else some ((y.1.1,y.1.2.1,()),(y.2.1.1,y.2.1.2.1,()),()) else some ((y.1.1,y.1.2.1,()),(y.2.1.1,y.2.1.2.1,()),())
def ZkS (k:Nat):=ZkT k
set_option maxHeartbeats 1000000 in
noncomputable def ZBd (k:Nat):ZE k:=Zy 208 Tryz.f208 [Zp7 k] ZCY QY ZkS
abbrev Zc4:List Kd:=[.box [.view .str,.view (.int .i64)],.view (.int .i64),.view (.int .i64)]
abbrev Zgk:Kd:=.tup [.own (.int .i64) false,.view (.int .i64)]
noncomputable def ZKG (k:Nat):List (ZE k):=[ZBd k]
def ZKF:Nat → Ann:=fun id => bif Ja id 3 then ⟨[9,1,0,2,8],[.slot 8 ((Ty.int Jx))]⟩ else ⟨[],[]⟩
abbrev Zno:=Int × Int × Int × ByteArray × Int × List Int
abbrev XW:=Zno → Option ((List Int × Int × Unit) × (ByteArray × Int × Unit) × Unit)
def ZQ8:Zno → St
 | (v0,v1,v2,v3,v4,v5) => St.mk (Zq [(9,Zl v0),(1,Zl v1),(0,AV.bx 0 0),(2,Zl v2),(8,AV.own 8192)]) (Zp [(0,QQ [AV.val (PV.v (UN v3)),Zl v4]),(8192,rsA v5 false)])
def Zb8 (k:Nat) (L1:XW):XW
 | (v0,v1,v2,v3,v4,v5) => bif decide (v0 < v1) then (ZkS k ((v3,v4,()),v2,())).bind fun y => bif y.1.2.1 != 0 then some (([],y.1.2.1,()),(y.2.1.1,y.2.1.2.1,()),()) else bif decide (v5.length + [y.1.1].length < 2147483648) then L1 (Jx.wrap (v0 + 1),v1,v2,y.2.1.1,y.2.1.2.1,v5 ++ [y.1.1]) else none else some ((v5,0,()),(v3,v4,()),())
def Znn (k:Nat):XW:=Zg (fun L1 => Zb8 k L1) k
noncomputable def Zx0 (k:Nat) (n:Nat):=QI (ZKG k) Tryz.f209 Zc4 Zgk [1,1,0,1,0] [] n ZQ8 (A:=ZKF) (a:=[AV.bx (nat_lit 0) (nat_lit 0)]) (b:=[[]]) (q:=[0])
def Zgj (k:Nat) (L1:XW):(ByteArray × Int × Unit) × Int × Int × Unit → Option ((List Int × Int × Unit) × (ByteArray × Int × Unit) × Unit)
 | ((a0,a1,()),a2,a3,()) => L1 (0,a2,a3,a0,a1,[])
def KK (k:Nat):=Zgj k (Znn k)
theorem ZHx (k:Nat):∀ n,Zx0 k n = Zg (fun L1 => Zb8 k L1) n:=ZO
noncomputable def ZVb (k:Nat):ZE k:=Zy 209 Tryz.f209 (ZKG k) Zc4 Zgk KK (A:=ZKF) (h:=fun x => by show _ = Zgj k (Znn k) x; rw [show Znn k = Zx0 k k from (ZHx k k).symm]; kernel_rfl)
abbrev ZRq:List Kd:=[.box [.view .str,.view (.int .i64)],.view (.int .i64),.view .bool,.view (.int .i64)]
def Zch (k:Nat):(ByteArray × Int × Unit) × Int × Bool × Int × Unit → Option ((Int × Int × Unit) × (ByteArray × Int × Unit) × Unit)
 | ((a0,a1,()),a2,a3,a4,()) => bif a3 then (ZkS k ((a0,a1,()),a4,())).bind fun y => some ((y.1.1,y.1.2.1,()),(y.2.1.1,y.2.1.2.1,()),()) else (Zms k ((a0,a1,()),())).bind fun y => bif y.1.2.1 != 0 then some ((0,y.1.2.1,()),(y.2.1.1,y.2.1.2.1,()),()) else (ZN k ((y.2.1.1,y.2.1.2.1,()),a2,())).bind fun y_1 => bif y_1.1.2.1 != 0 then some ((0,y_1.1.2.1,()),(y_1.2.1.1,y_1.2.1.2.1,()),()) else bif decide (0 ≤ a2) then bif decide (4294967295 ≤ Jx.wrap (Jx.wrap (y.1.1 * (2:Int) ^ min a2.toNat 64) + y_1.1.1)) then some ((0,12,()),(y_1.2.1.1,y_1.2.1.2.1,()),()) else bif (Jx.wrap (Jx.wrap (y.1.1 * (2:Int) ^ min a2.toNat 64) + y_1.1.1)).tmod (2:Int) == 1 then some ((Jx.wrap ((Jx.wrap ((0:Int) - Jx.wrap (Jx.wrap (Jx.wrap (y.1.1 * (2:Int) ^ min a2.toNat 64) + y_1.1.1) + 1))).tdiv (2:Int)),0,()),(y_1.2.1.1,y_1.2.1.2.1,()),()) else some ((Jx.wrap ((Jx.wrap (Jx.wrap (y.1.1 * (2:Int) ^ min a2.toNat 64) + y_1.1.1)).tdiv (2:Int)),0,()),(y_1.2.1.1,y_1.2.1.2.1,()),()) else none
def Zlf (k:Nat):=Zch k
set_option maxHeartbeats 1000000 in
noncomputable def ZVB (k:Nat):ZE k:=Zy 250 Tryz.f250 [Zp7 k,ZUj k,ZBd k] ZRq QY Zlf
noncomputable def ZBf (k:Nat):List (ZE k):=[Zp7 k,ZVv k,ZVA k,ZVB k]
def ZBe:Nat → Ann:=fun id => bif Ja id 26 then ⟨[18,11,13,0,14,17,16,12,8],[.slot 12 ((Ty.int Jx))]⟩ else bif Ja id 16 then ⟨[13,11,0,8,12],[.slot 12 ((Ty.int Jx))]⟩ else ⟨[],[]⟩
abbrev ZEm:=Int × List (List Int) × Int × Int × Bool × Int × Int × ByteArray × Int × List Int
abbrev Znp:=ZEm → Option ((List Int × Int × Unit) × (ByteArray × Int × Unit) × Unit)
abbrev ZEl:=Int × List (List Int) × Int × ByteArray × Int × List Int
abbrev Zgl:=ZEl → Option ((List Int × Int × Unit) × (ByteArray × Int × Unit) × Unit)
def ZRa:ZEm → St
 | (v0,v1,v2,v3,v4,v5,v6,v7,v8,v9) => St.mk (Zq [(18,Zl v0),(11,AV.ns (Ty.int Jx).sl v1),(13,Zl v2),(0,AV.bx 0 0),(14,Zl v3),(17,avB v4),(16,Zl v5),(12,AV.own 8192),(8,Zl v6)]) (Zp [(0,QQ [AV.val (PV.v (UN v7)),Zl v8]),(8192,rsA v9 false)])
def Zb9 (k:Nat) (L1:Zgl) (L2:Znp):Znp
 | (v0,v1,v2,v3,v4,v5,v6,v7,v8,v9) => bif decide (0 ≤ v2 ∧ v2 < UD v1.length) then bif decide (v0 < UD (UO (v1.getD v2.toNat []))) then (Zlf k ((v7,v8,()),v3,v4,v5,())).bind fun y => bif y.1.2.1 != 0 then some (([],y.1.2.1,()),(y.2.1.1,y.2.1.2.1,()),()) else bif decide (v9.length + [y.1.1].length < 2147483648) then L2 (Jx.wrap (v0 + 1),v1,v2,v3,v4,v5,v6,y.2.1.1,y.2.1.2.1,v9 ++ [y.1.1]) else none else L1 (Jx.wrap (v2 + 1),v1,v6,v7,v8,v9) else none
def Zc5 (k:Nat) (L1:Zgl):Znp:=Zg (fun L2 => Zb9 k L1 L2) k
noncomputable def Zx1 (k:Nat) (n1:Nat) (n:Nat):=QI (ZBf k) Tryz.f210 Zc4 WJ [1,1,1,1,1,1,1,1,1,1,0,1,0,0,1,0,0,1,1,1,1,1,1,0] [n1] n ZRa (A:=ZBe) (a:=[AV.bx (nat_lit 0) (nat_lit 0)]) (b:=[[]]) (q:=[0])
def ZQ9:ZEl → St
 | (v0,v1,v2,v3,v4,v5) => St.mk (Zq [(13,Zl v0),(11,AV.ns (Ty.int Jx).sl v1),(0,AV.bx 0 0),(8,Zl v2),(12,AV.own 8192)]) (Zp [(0,QQ [AV.val (PV.v (UN v3)),Zl v4]),(8192,rsA v5 false)])
def YM (k:Nat) (L2:Znp) (L1:Zgl):Zgl
 | (v0,v1,v2,v3,v4,v5) => bif decide (v0 < UD v1.length) then (ZN k ((v3,v4,()),Jx.wrap ((4:Int) + v2),())).bind fun y => bif decide (0 ≤ v2 ∧ v2 < 2) then bif decide (v2.toNat < (2:Nat)) then bif y.1.2.1 == 0 then bif y.1.1 == [(15:Int),(31:Int)].getD v2.toNat 0 then (ZN k ((y.2.1.1,y.2.1.2.1,()),5,())).bind fun y_1 => bif y_1.1.2.1 != 0 then some (([],y_1.1.2.1,()),(y_1.2.1.1,y_1.2.1.2.1,()),()) else L2 (0,v1,v0,y.1.1,y.1.1 == [(15:Int),(31:Int)].getD v2.toNat 0,y_1.1.1,v2,y_1.2.1.1,y_1.2.1.2.1,v5) else bif y.1.2.1 != 0 then some (([],y.1.2.1,()),(y.2.1.1,y.2.1.2.1,()),()) else L2 (0,v1,v0,y.1.1,y.1.1 == [(15:Int),(31:Int)].getD v2.toNat 0,(0:Int),v2,y.2.1.1,y.2.1.2.1,v5) else bif y.1.2.1 != 0 then some (([],y.1.2.1,()),(y.2.1.1,y.2.1.2.1,()),()) else L2 (0,v1,v0,y.1.1,y.1.1 == [(15:Int),(31:Int)].getD v2.toNat 0,(0:Int),v2,y.2.1.1,y.2.1.2.1,v5) else none else none else some ((v5,0,()),(v3,v4,()),())
def Znq (k:Nat):Zgl:=Zg (fun L1 => YM k (Zc5 k L1) L1) k
noncomputable def Zir (k:Nat) (n:Nat):=QI (ZBf k) Tryz.f210 Zc4 WJ [1,1,1,1,1,1,1,1,1,1,0,1,0] [] n ZQ9 (A:=ZBe) (a:=[AV.bx (nat_lit 0) (nat_lit 0)]) (b:=[[]]) (q:=[0])
def Zgm (k:Nat) (L1:Zgl):(ByteArray × Int × Unit) × Int × Int × Unit → Option ((List Int × Int × Unit) × (ByteArray × Int × Unit) × Unit)
 | ((a0,a1,()),a2,a3,()) => (ZBt k (a2,a3,())).bind fun y => bif !y.1 then some (([],1,()),(a0,a1,()),()) else (ZN k ((a0,a1,()),2,())).bind fun y => bif y.1.2.1 != 0 then some (([],y.1.2.1,()),(y.2.1.1,y.2.1.2.1,()),()) else bif decide ((1:Int) < y.1.1) then some (([],2,()),(y.2.1.1,y.2.1.2.1,()),()) else (ZN k ((y.2.1.1,y.2.1.2.1,()),4,())).bind fun y_1 => bif y_1.1.2.1 != 0 then some (([],y_1.1.2.1,()),(y_1.2.1.1,y_1.2.1.2.1,()),()) else bif decide (0 ≤ Jx.wrap (a2 - a3) ∧ Jx.wrap (a2 - a3) ≤ Jx.wrap (a2 - a3) ∧ Jx.wrap (a2 - a3) < 4294967296) then (ZBo k (Jd (Jx.wrap (a2 - a3)).toNat (0:Int),a3,y_1.1.1,())).bind fun y_2 => bif List.isEmpty y_2.1 then some (([],2,()),(y_1.2.1.1,y_1.2.1.2.1,()),()) else L1 (0,y_2.1,y.1.1,y_1.2.1.1,y_1.2.1.2.1,[]) else none
def Zhp (k:Nat):=Zgm k (Znq k)
theorem ZHz (k:Nat) (n1:Nat):∀ n,Zx1 k n1 n = Zg (fun L2 => Zb9 k (Zir k n1) L2) n:=ZO
theorem ZHy (k:Nat):∀ n,Zir k n = Zg (fun L1 => YM k (Zc5 k L1) L1) n:=ZO (fun n v => by rw [show (Zc5 k (Zir k n)) = Zx1 k n k from (ZHz k n k).symm]; kernel_rfl)
set_option maxHeartbeats 1000000 in
noncomputable def ZVc (k:Nat):ZE k:=Zy 210 Tryz.f210 (ZBf k) Zc4 WJ Zhp (A:=ZBe) (h:=fun x => by show _ = Zgm k (Znq k) x; rw [show Znq k = Zir k k from (ZHy k k).symm]; kernel_rfl)
noncomputable def ZKI (k:Nat):List (ZE k):=[ZU4 k,ZVt k,ZVu k,ZLe k]
def ZKJ:Nat → List Nat:=fun r => bif Ja r 999998 then [234] else []
def ZKH:Nat → Ann:=fun id => bif Ja id 9 then ⟨[9,2,3,8],[]⟩ else ⟨[],[]⟩
def ZRb:ZuQ → St
 | (v0,v1,v2,v3,v4) => St.mk (Zq [(9,Zl v0),(2,avL v1),(3,AV.bx 8192 0),(8,AV.own 8193)]) (Zp [(8192,QQ [avL v2,Zl v3]),(8193,rsA v4 false)])
def Zca (k:Nat) (L1:Zbo):Zbo
 | (v0,v1,v2,v3,v4) => bif decide (v0 < UD v1.length) then bif decide (0 ≤ v0 ∧ v0 < UD v1.length) then (ZBn k ((v2,v3,()),v4,UD v4.length,())).bind fun y => (ZuZ k (Jx.wrap (v1.getD v0.toNat 0 + y.1),())).bind fun y_1 => bif !y_1.1 then some (([],12,()),()) else bif decide (v4.length + [Jx.wrap (v1.getD v0.toNat 0 + y.1)].length < 2147483648) then L1 (Jx.wrap (v0 + 1),v1,v2,v3,v4 ++ [Jx.wrap (v1.getD v0.toNat 0 + y.1)]) else none else none else some ((v4,0,()),())
def Znr (k:Nat):Zbo:=Zg (fun L1 => Zca k L1) k
noncomputable def Zx2 (k:Nat) (n:Nat):=QI (ZKI k) Tryz.f211 Znm Zgk [1,1,1,1,1,0,1,0] [] n ZRb (A:=ZKH) (live:=ZKJ)
def Zgn (k:Nat) (L1:Zbo):(List Int × Int × Unit) × List Int × List Int × Unit → Option ((List Int × Int × Unit) × Unit)
 | ((a0,a1,()),a2,a3,()) => (ZBm k ((a0,a1,()),())).bind fun y => bif !y.1 then some (([],2,()),()) else bif UD a2.length != UD a0.length then some (([],1,()),()) else (ZuK k (a2,())).bind fun y => bif !y.1 then some (([],12,()),()) else (ZuK k (a3,())).bind fun y => bif !y.1 then some (([],12,()),()) else bif decide ((0:Nat) + a2.length < 2147483648) then L1 (0,a3,a0,a1,[] ++ a2) else none
def Zhq (k:Nat):=Zgn k (Znr k)
theorem ZHD (k:Nat):∀ n,Zx2 k n = Zg (fun L1 => Zca k L1) n:=ZO
set_option maxHeartbeats 1000000 in
noncomputable def ZVd (k:Nat):ZE k:=Zy 211 Tryz.f211 (ZKI k) Znm Zgk Zhq (A:=ZKH) (live:=ZKJ) (h:=fun x => by show _ = Zgn k (Znr k) x; rw [show Znr k = Zx2 k k from (ZHD k k).symm]; kernel_rfl)
abbrev ZOQ:List Kd:=[.box [.view .str,.view (.int .i64)],.view (.int .i64),.view (.int .i64),.view (.int .i64)]
noncomputable def ZUm (k:Nat):List (ZE k):=[Zp7 k,ZYe k,ZBd k,ZVb k,ZVc k,ZVd k]
def ZUl:Nat → Ann:=fun id => bif Ja id 7 then ⟨[13,1,12,10],[.slot 12 ((Ty.int Jx))]⟩ else ⟨[],[]⟩
def ZWC:Zno → St
 | (v0,v1,v2,v3,v4,v5) => St.mk (Zq [(13,Zl v0),(1,Zl v1),(12,AV.own 8192),(10,Zl v2)]) (Zp [(0,QQ [AV.val (PV.v (UN v3)),Zl v4]),(8192,rsA v5 false)])
def Zfm (k:Nat) (L1:XW):XW
 | (v0,v1,v2,v3,v4,v5) => bif decide (v0 < v1) then bif decide (v5.length + [v2].length < 2147483648) then L1 (Jx.wrap (v0 + 1),v1,v2,v3,v4,v5 ++ [v2]) else none else some ((v5,0,()),(v3,v4,()),())
def ZwC (k:Nat):XW:=Zg (fun L1 => Zfm k L1) k
noncomputable def ZFQ (k:Nat) (n:Nat):=QI (ZUm k) Tryz.f159 ZOQ Zgk [1,0,1,0,1,1,1,0,1,0] [] n ZWC (A:=ZUl) (a:=[AV.bx (nat_lit 0) (nat_lit 0)]) (b:=[[]]) (q:=[0])
def ZzA (k:Nat) (L1:XW):(ByteArray × Int × Unit) × Int × Int × Int × Unit → Option ((List Int × Int × Unit) × (ByteArray × Int × Unit) × Unit)
 | ((a0,a1,()),a2,a3,a4,()) => bif a4 == 0 then (ZkS k ((a0,a1,()),a3,())).bind fun y => bif y.1.2.1 != 0 then some (([],y.1.2.1,()),(y.2.1.1,y.2.1.2.1,()),()) else L1 (0,a2,y.1.1,y.2.1.1,y.2.1.2.1,[]) else bif a4 == 1 then (KK k ((a0,a1,()),a2,a3,())).bind fun y => some ((y.1.1,y.1.2.1,()),(y.2.1.1,y.2.1.2.1,()),()) else bif decide (32 ≤ a4) then bif decide (a2 < Jx.wrap (a4 - 31)) then some (([],2,()),(a0,a1,()),()) else (KK k ((a0,a1,()),Jx.wrap (a4 - 31),a3,())).bind fun y => bif y.1.2.1 != 0 then some (([],y.1.2.1,()),(y.2.1.1,y.2.1.2.1,()),()) else (Zzr k (if (4:Int) < Jx.wrap (a4 - 31) then (4:Int) else Jx.wrap (a4 - 31),())).bind fun y_1 => bif decide (32 ≤ a4) then (ZN k ((y.2.1.1,y.2.1.2.1,()),4,())).bind fun y_2 => bif y_2.1.2.1 != 0 then some (([],y_2.1.2.1,()),(y_2.2.1.1,y_2.2.1.2.1,()),()) else bif y_2.1.1 != 11 then some (([],2,()),(y_2.2.1.1,y_2.2.1.2.1,()),()) else (ZN k ((y_2.2.1.1,y_2.2.1.2.1,()),5,())).bind fun y_3 => bif y_3.1.2.1 != 0 then some (([],y_3.1.2.1,()),(y_3.2.1.1,y_3.2.1.2.1,()),()) else bif decide ((15:Int) < y_3.1.1) then some (([],2,()),(y_3.2.1.1,y_3.2.1.2.1,()),()) else (KK k ((y_3.2.1.1,y_3.2.1.2.1,()),Jx.wrap (a4 - 31),12,())).bind fun y_4 => bif y_4.1.2.1 != 0 then some (([],y_4.1.2.1,()),(y_4.2.1.1,y_4.2.1.2.1,()),()) else (Zhp k ((y_4.2.1.1,y_4.2.1.2.1,()),a2,Jx.wrap (a4 - 31),())).bind fun y_5 => bif y_5.1.2.1 != 0 then some (([],y_5.1.2.1,()),(y_5.2.1.1,y_5.2.1.2.1,()),()) else (Zhq k ((y_4.1.1,y_3.1.1,()),y.1.1,y_5.1.1,())).bind fun y => some ((y.1.1,y.1.2.1,()),(y_5.2.1.1,y_5.2.1.2.1,()),()) else (Zhp k ((y.2.1.1,y.2.1.2.1,()),a2,Jx.wrap (a4 - 31),())).bind fun y_2 => bif y_2.1.2.1 != 0 then some (([],y_2.1.2.1,()),(y_2.2.1.1,y_2.2.1.2.1,()),()) else (Zhq k ((y_1.1.1.1,y_1.1.1.2.1,()),y.1.1,y_2.1.1,())).bind fun y => some ((y.1.1,y.1.2.1,()),(y_2.2.1.1,y_2.2.1.2.1,()),()) else bif decide (a2 < Jx.wrap (a4 - 8)) then some (([],2,()),(a0,a1,()),()) else (KK k ((a0,a1,()),Jx.wrap (a4 - 8),a3,())).bind fun y => bif y.1.2.1 != 0 then some (([],y.1.2.1,()),(y.2.1.1,y.2.1.2.1,()),()) else (Zzr k (if (4:Int) < Jx.wrap (a4 - 8) then (4:Int) else Jx.wrap (a4 - 8),())).bind fun y_1 => bif decide (32 ≤ a4) then (ZN k ((y.2.1.1,y.2.1.2.1,()),4,())).bind fun y_2 => bif y_2.1.2.1 != 0 then some (([],y_2.1.2.1,()),(y_2.2.1.1,y_2.2.1.2.1,()),()) else bif y_2.1.1 != 11 then some (([],2,()),(y_2.2.1.1,y_2.2.1.2.1,()),()) else (ZN k ((y_2.2.1.1,y_2.2.1.2.1,()),5,())).bind fun y_3 => bif y_3.1.2.1 != 0 then some (([],y_3.1.2.1,()),(y_3.2.1.1,y_3.2.1.2.1,()),()) else bif decide ((15:Int) < y_3.1.1) then some (([],2,()),(y_3.2.1.1,y_3.2.1.2.1,()),()) else (KK k ((y_3.2.1.1,y_3.2.1.2.1,()),Jx.wrap (a4 - 8),12,())).bind fun y_4 => bif y_4.1.2.1 != 0 then some (([],y_4.1.2.1,()),(y_4.2.1.1,y_4.2.1.2.1,()),()) else (Zhp k ((y_4.2.1.1,y_4.2.1.2.1,()),a2,Jx.wrap (a4 - 8),())).bind fun y_5 => bif y_5.1.2.1 != 0 then some (([],y_5.1.2.1,()),(y_5.2.1.1,y_5.2.1.2.1,()),()) else (Zhq k ((y_4.1.1,y_3.1.1,()),y.1.1,y_5.1.1,())).bind fun y => some ((y.1.1,y.1.2.1,()),(y_5.2.1.1,y_5.2.1.2.1,()),()) else (Zhp k ((y.2.1.1,y.2.1.2.1,()),a2,Jx.wrap (a4 - 8),())).bind fun y_2 => bif y_2.1.2.1 != 0 then some (([],y_2.1.2.1,()),(y_2.2.1.1,y_2.2.1.2.1,()),()) else (Zhq k ((y_1.1.1.1,y_1.1.1.2.1,()),y.1.1,y_2.1.1,())).bind fun y => some ((y.1.1,y.1.2.1,()),(y_2.2.1.1,y_2.2.1.2.1,()),())
def YC (k:Nat):=ZzA k (ZwC k)
theorem ZOP (k:Nat):∀ n,ZFQ k n = Zg (fun L1 => Zfm k L1) n:=ZO
set_option maxHeartbeats 1000000 in
noncomputable def ZYl (k:Nat):ZE k:=Zy 159 Tryz.f159 (ZUm k) ZOQ Zgk YC (A:=ZUl) (h:=fun x => by show _ = ZzA k (ZwC k) x; rw [show ZwC k = ZFQ k k from (ZOP k k).symm]; kernel_rfl)
noncomputable def ZTO (k:Nat):List (ZE k):=[ZMH k,Zp7 k,ZUj k,ZYl k]
def ZTN:Nat → Ann:=fun id => bif Ja id 26 then ⟨[14,13,2,12],[]⟩ else ⟨[],[]⟩
def ZWf:Zno → St
 | (v0,v1,v2,v3,v4,v5) => St.mk (Zq [(14,Zl v0),(13,AV.own 8192),(2,Zl v1),(12,Zl v2)]) (Zp [(0,QQ [AV.val (PV.v (UN v3)),Zl v4]),(8192,rsA v5 false)])
def Ze5 (k:Nat) (L1:XW):XW
 | (v0,v1,v2,v3,v4,v5) => bif decide (v0 < UD v5.length) then bif decide (0 ≤ v0 ∧ v0 < UD v5.length) then bif decide (v0.toNat < v5.length) then (Ztr k (v5.getD v0.toNat 0,Jx.wrap (v1 - v2),())).bind fun y => bif !y.1 then some (([],12,()),(v3,v4,()),()) else bif decide (0 ≤ v0 ∧ v0 < UD v5.length) then bif decide (v0.toNat < v5.length) then bif decide (0 ≤ v2) then bif decide (0 ≤ v0 ∧ v0 < UD v5.length) then bif decide (v0.toNat < v5.length) then L1 (Jx.wrap (v0 + 1),v1,v2,v3,v4,v5.set v0.toNat (Jx.wrap (v5.getD v0.toNat 0 * Jx.wrap ((1:Int) * (2:Int) ^ min v2.toNat 64)))) else none else none else none else none else none else none else none else some ((v5,0,()),(v3,v4,()),())
def Zp6 (k:Nat):XW:=Zg (fun L1 => Ze5 k L1) k
noncomputable def ZFt (k:Nat) (n:Nat):=QI (ZTO k) Tryz.f112 Zc4 WJ [1,1,1,1,1,1,1,1,1,1,1,1,1,1,1,0,1,0] [] n ZWf (A:=ZTN) (a:=[AV.bx (nat_lit 0) (nat_lit 0)]) (b:=[[]]) (q:=[0])
def Zzi (k:Nat) (L1:XW):(ByteArray × Int × Unit) × Int × Int × Unit → Option ((List Int × Int × Unit) × (ByteArray × Int × Unit) × Unit)
 | ((a0,a1,()),a2,a3,()) => bif decide (a2 < 1) then some (([],1,()),(a0,a1,()),()) else bif decide ((512:Int) < a2) then some (([],1,()),(a0,a1,()),()) else bif decide (a3 < 4) then some (([],1,()),(a0,a1,()),()) else bif decide ((25:Int) < a3) then some (([],1,()),(a0,a1,()),()) else (ZN k ((a0,a1,()),1,())).bind fun y => bif y.1.2.1 != 0 then some (([],y.1.2.1,()),(y.2.1.1,y.2.1.2.1,()),()) else bif y.1.1 == 1 then some (([],2,()),(y.2.1.1,y.2.1.2.1,()),()) else (ZN k ((y.2.1.1,y.2.1.2.1,()),6,())).bind fun y => bif y.1.2.1 != 0 then some (([],y.1.2.1,()),(y.2.1.1,y.2.1.2.1,()),()) else bif decide ((1:Int) < y.1.1) then bif decide (y.1.1 < 8) then bif decide (y.1.1 < 32) then some (([],2,()),(y.2.1.1,y.2.1.2.1,()),()) else bif decide ((39:Int) < y.1.1) then some (([],2,()),(y.2.1.1,y.2.1.2.1,()),()) else (ZN k ((y.2.1.1,y.2.1.2.1,()),1,())).bind fun y_1 => bif y_1.1.2.1 == 0 then bif y_1.1.1 == 1 then (Zms k ((y_1.2.1.1,y_1.2.1.2.1,()),())).bind fun y_2 => bif y_2.1.2.1 != 0 then some (([],y_2.1.2.1,()),(y_2.2.1.1,y_2.2.1.2.1,()),()) else bif decide (a3 ≤ Jx.wrap (y_2.1.1 + 1)) then some (([],2,()),(y_2.2.1.1,y_2.2.1.2.1,()),()) else (YC k ((y_2.2.1.1,y_2.2.1.2.1,()),a2,Jx.wrap (a3 - Jx.wrap (y_2.1.1 + 1)),y.1.1,())).bind fun y => bif y.1.2.1 != 0 then some (([],y.1.2.1,()),(y.2.1.1,y.2.1.2.1,()),()) else L1 (0,a3,Jx.wrap (y_2.1.1 + 1),y.2.1.1,y.2.1.2.1,y.1.1) else bif y_1.1.2.1 != 0 then some (([],y_1.1.2.1,()),(y_1.2.1.1,y_1.2.1.2.1,()),()) else bif decide (a3 ≤ 0) then some (([],2,()),(y_1.2.1.1,y_1.2.1.2.1,()),()) else (YC k ((y_1.2.1.1,y_1.2.1.2.1,()),a2,Jx.wrap (a3 - 0),y.1.1,())).bind fun y => bif y.1.2.1 != 0 then some (([],y.1.2.1,()),(y.2.1.1,y.2.1.2.1,()),()) else L1 (0,a3,(0:Int),y.2.1.1,y.2.1.2.1,y.1.1) else bif y_1.1.2.1 != 0 then some (([],y_1.1.2.1,()),(y_1.2.1.1,y_1.2.1.2.1,()),()) else bif decide (a3 ≤ 0) then some (([],2,()),(y_1.2.1.1,y_1.2.1.2.1,()),()) else (YC k ((y_1.2.1.1,y_1.2.1.2.1,()),a2,Jx.wrap (a3 - 0),y.1.1,())).bind fun y => bif y.1.2.1 != 0 then some (([],y.1.2.1,()),(y.2.1.1,y.2.1.2.1,()),()) else L1 (0,a3,(0:Int),y.2.1.1,y.2.1.2.1,y.1.1) else bif decide ((12:Int) < y.1.1) then bif decide (y.1.1 < 32) then some (([],2,()),(y.2.1.1,y.2.1.2.1,()),()) else bif decide ((39:Int) < y.1.1) then some (([],2,()),(y.2.1.1,y.2.1.2.1,()),()) else (ZN k ((y.2.1.1,y.2.1.2.1,()),1,())).bind fun y_1 => bif y_1.1.2.1 == 0 then bif y_1.1.1 == 1 then (Zms k ((y_1.2.1.1,y_1.2.1.2.1,()),())).bind fun y_2 => bif y_2.1.2.1 != 0 then some (([],y_2.1.2.1,()),(y_2.2.1.1,y_2.2.1.2.1,()),()) else bif decide (a3 ≤ Jx.wrap (y_2.1.1 + 1)) then some (([],2,()),(y_2.2.1.1,y_2.2.1.2.1,()),()) else (YC k ((y_2.2.1.1,y_2.2.1.2.1,()),a2,Jx.wrap (a3 - Jx.wrap (y_2.1.1 + 1)),y.1.1,())).bind fun y => bif y.1.2.1 != 0 then some (([],y.1.2.1,()),(y.2.1.1,y.2.1.2.1,()),()) else L1 (0,a3,Jx.wrap (y_2.1.1 + 1),y.2.1.1,y.2.1.2.1,y.1.1) else bif y_1.1.2.1 != 0 then some (([],y_1.1.2.1,()),(y_1.2.1.1,y_1.2.1.2.1,()),()) else bif decide (a3 ≤ 0) then some (([],2,()),(y_1.2.1.1,y_1.2.1.2.1,()),()) else (YC k ((y_1.2.1.1,y_1.2.1.2.1,()),a2,Jx.wrap (a3 - 0),y.1.1,())).bind fun y => bif y.1.2.1 != 0 then some (([],y.1.2.1,()),(y.2.1.1,y.2.1.2.1,()),()) else L1 (0,a3,(0:Int),y.2.1.1,y.2.1.2.1,y.1.1) else bif y_1.1.2.1 != 0 then some (([],y_1.1.2.1,()),(y_1.2.1.1,y_1.2.1.2.1,()),()) else bif decide (a3 ≤ 0) then some (([],2,()),(y_1.2.1.1,y_1.2.1.2.1,()),()) else (YC k ((y_1.2.1.1,y_1.2.1.2.1,()),a2,Jx.wrap (a3 - 0),y.1.1,())).bind fun y => bif y.1.2.1 != 0 then some (([],y.1.2.1,()),(y.2.1.1,y.2.1.2.1,()),()) else L1 (0,a3,(0:Int),y.2.1.1,y.2.1.2.1,y.1.1) else (ZN k ((y.2.1.1,y.2.1.2.1,()),1,())).bind fun y_1 => bif y_1.1.2.1 == 0 then bif y_1.1.1 == 1 then (Zms k ((y_1.2.1.1,y_1.2.1.2.1,()),())).bind fun y_2 => bif y_2.1.2.1 != 0 then some (([],y_2.1.2.1,()),(y_2.2.1.1,y_2.2.1.2.1,()),()) else bif decide (a3 ≤ Jx.wrap (y_2.1.1 + 1)) then some (([],2,()),(y_2.2.1.1,y_2.2.1.2.1,()),()) else (YC k ((y_2.2.1.1,y_2.2.1.2.1,()),a2,Jx.wrap (a3 - Jx.wrap (y_2.1.1 + 1)),y.1.1,())).bind fun y => bif y.1.2.1 != 0 then some (([],y.1.2.1,()),(y.2.1.1,y.2.1.2.1,()),()) else L1 (0,a3,Jx.wrap (y_2.1.1 + 1),y.2.1.1,y.2.1.2.1,y.1.1) else bif y_1.1.2.1 != 0 then some (([],y_1.1.2.1,()),(y_1.2.1.1,y_1.2.1.2.1,()),()) else bif decide (a3 ≤ 0) then some (([],2,()),(y_1.2.1.1,y_1.2.1.2.1,()),()) else (YC k ((y_1.2.1.1,y_1.2.1.2.1,()),a2,Jx.wrap (a3 - 0),y.1.1,())).bind fun y => bif y.1.2.1 != 0 then some (([],y.1.2.1,()),(y.2.1.1,y.2.1.2.1,()),()) else L1 (0,a3,(0:Int),y.2.1.1,y.2.1.2.1,y.1.1) else bif y_1.1.2.1 != 0 then some (([],y_1.1.2.1,()),(y_1.2.1.1,y_1.2.1.2.1,()),()) else bif decide (a3 ≤ 0) then some (([],2,()),(y_1.2.1.1,y_1.2.1.2.1,()),()) else (YC k ((y_1.2.1.1,y_1.2.1.2.1,()),a2,Jx.wrap (a3 - 0),y.1.1,())).bind fun y => bif y.1.2.1 != 0 then some (([],y.1.2.1,()),(y.2.1.1,y.2.1.2.1,()),()) else L1 (0,a3,(0:Int),y.2.1.1,y.2.1.2.1,y.1.1) else (ZN k ((y.2.1.1,y.2.1.2.1,()),1,())).bind fun y_1 => bif y_1.1.2.1 == 0 then bif y_1.1.1 == 1 then (Zms k ((y_1.2.1.1,y_1.2.1.2.1,()),())).bind fun y_2 => bif y_2.1.2.1 != 0 then some (([],y_2.1.2.1,()),(y_2.2.1.1,y_2.2.1.2.1,()),()) else bif decide (a3 ≤ Jx.wrap (y_2.1.1 + 1)) then some (([],2,()),(y_2.2.1.1,y_2.2.1.2.1,()),()) else (YC k ((y_2.2.1.1,y_2.2.1.2.1,()),a2,Jx.wrap (a3 - Jx.wrap (y_2.1.1 + 1)),y.1.1,())).bind fun y => bif y.1.2.1 != 0 then some (([],y.1.2.1,()),(y.2.1.1,y.2.1.2.1,()),()) else L1 (0,a3,Jx.wrap (y_2.1.1 + 1),y.2.1.1,y.2.1.2.1,y.1.1) else bif y_1.1.2.1 != 0 then some (([],y_1.1.2.1,()),(y_1.2.1.1,y_1.2.1.2.1,()),()) else bif decide (a3 ≤ 0) then some (([],2,()),(y_1.2.1.1,y_1.2.1.2.1,()),()) else (YC k ((y_1.2.1.1,y_1.2.1.2.1,()),a2,Jx.wrap (a3 - 0),y.1.1,())).bind fun y => bif y.1.2.1 != 0 then some (([],y.1.2.1,()),(y.2.1.1,y.2.1.2.1,()),()) else L1 (0,a3,(0:Int),y.2.1.1,y.2.1.2.1,y.1.1) else bif y_1.1.2.1 != 0 then some (([],y_1.1.2.1,()),(y_1.2.1.1,y_1.2.1.2.1,()),()) else bif decide (a3 ≤ 0) then some (([],2,()),(y_1.2.1.1,y_1.2.1.2.1,()),()) else (YC k ((y_1.2.1.1,y_1.2.1.2.1,()),a2,Jx.wrap (a3 - 0),y.1.1,())).bind fun y => bif y.1.2.1 != 0 then some (([],y.1.2.1,()),(y.2.1.1,y.2.1.2.1,()),()) else L1 (0,a3,(0:Int),y.2.1.1,y.2.1.2.1,y.1.1)
def Zp5 (k:Nat):=Zzi k (Zp6 k)
theorem ZNA (k:Nat):∀ n,ZFt k n = Zg (fun L1 => Ze5 k L1) n:=ZO
set_option maxHeartbeats 1000000 in
noncomputable def ZXY (k:Nat):ZE k:=Zy 112 Tryz.f112 (ZTO k) Zc4 WJ Zp5 (A:=ZTN) (h:=fun x => by show _ = Zzi k (Zp6 k) x; rw [show Zp6 k = ZFt k k from (ZNA k k).symm]; kernel_rfl)
noncomputable def ZTQ (k:Nat):List (ZE k):=[]
def ZTP:Nat → Ann:=fun id => bif Ja id 3 then ⟨[4,3,0],[]⟩ else ⟨[],[]⟩
abbrev ZNB:=Int × Int × ByteArray × Int
abbrev Zv4:=ZNB → Option (Int × (ByteArray × Int × Unit) × Unit)
def ZWg:ZNB → St
 | (v0,v1,v2,v3) => St.mk (Zq [(4,Zl v0),(3,Zl v1),(0,AV.bx 0 0)]) (Zp [(0,QQ [AV.val (PV.v (UN v2)),Zl v3])])
def Ze6 (k:Nat) (L1:Zv4):Zv4
 | (v0,v1,v2,v3) => bif decide (v0 < v1) then bif decide (0 ≤ v0 ∧ v0 < UD v2.size) then bif UD (v2.data.toList.getD v0.toNat 0).toNat == (49:Int) then some (2,(v2,v3,()),()) else L1 (Jx.wrap (v0 + 1),v1,v2,v3) else none else some (0,(v2,v1,()),())
def Zv5 (k:Nat):Zv4:=Zg (fun L1 => Ze6 k L1) k
noncomputable def ZFu (k:Nat) (n:Nat):=QI (ZTQ k) Tryz.f113 ZwB ZB [1,1,0,1,0] [] n ZWg (A:=ZTP) (a:=[AV.bx (nat_lit 0) (nat_lit 0)]) (b:=[[]]) (q:=[0])
def ZjA (k:Nat) (L1:Zv4):(ByteArray × Int × Unit) × Unit → Option (Int × (ByteArray × Int × Unit) × Unit)
 | ((a0,a1,()),()) => L1 (a1,Jx.wrap (Jx.wrap ((Jx.wrap (a1 + 7)).tdiv (8:Int)) * (8:Int)),a0,a1)
def Zzk (k:Nat):=ZjA k (Zv5 k)
theorem ZNC (k:Nat):∀ n,ZFu k n = Zg (fun L1 => Ze6 k L1) n:=ZO
noncomputable def ZXZ (k:Nat):ZE k:=Zy 113 Tryz.f113 (ZTQ k) ZwB ZB Zzk (A:=ZTP) (h:=fun x => by show _ = ZjA k (Zv5 k) x; rw [show Zv5 k = ZFu k k from (ZNC k k).symm]; kernel_rfl)
def ZOT (k:Nat):Int × Unit → Option (Bool × Unit)
 | (a0,()) => bif a0 == 0 then some (true,()) else bif a0 == 8 then some (true,()) else bif a0 == 9 then some (true,()) else some (a0 == 10,())
def ZOS (k:Nat):=ZOT k
noncomputable def ZYm (k:Nat):ZE k:=Zy 160 Tryz.f160 [] Ql Qd ZOS
def ZkX (k:Nat):Int × Unit → Option (Bool × Unit)
 | (a0,()) => bif decide ((-16777216:Int) ≤ a0) then some (decide (a0 ≤ 16777216),()) else some (false,())
def ZuN (k:Nat):=ZkX k
noncomputable def ZVg (k:Nat):ZE k:=Zy 212 Tryz.f212 [] Ql Qd ZuN
abbrev ZwF:List Kd:=[.view ZUx]
noncomputable def ZUo (k:Nat):List (ZE k):=[ZVg k]
abbrev ZwD:=Zlt → Option (Int × Unit)
def ZWD:Zlt → St
 | (v0,v1,v2) => St.mk (Zq [(3,Zl v0),(1,AV.bx 8192 0)]) (Zp [(8192,QQ [avL v1,avL v2])])
def Zfn (k:Nat) (L1:ZwD):ZwD
 | (v0,v1,v2) => bif decide (v0 < UD v1.length) then bif decide (0 ≤ v0 ∧ v0 < UD v1.length) then (ZuN k (v1.getD v0.toNat 0,())).bind fun y => bif !y.1 then some (12,()) else bif decide (0 ≤ v0 ∧ v0 < UD v2.length) then (ZuN k (v2.getD v0.toNat 0,())).bind fun y => bif !y.1 then some (12,()) else L1 (Jx.wrap (v0 + 1),v1,v2) else none else none else some (0,())
def ZwE (k:Nat):ZwD:=Zg (fun L1 => Zfn k L1) k
noncomputable def ZFS (k:Nat) (n:Nat):=QI (ZUo k) Tryz.f161 ZwF ZB [1,1,0,1,0] [] n ZWD (A:=ZuY)
def ZjQ (k:Nat) (L1:ZwD):(List Int × List Int × Unit) × Unit → Option (Int × Unit)
 | ((a0,a1,()),()) => bif decide ((8192:Int) < UD a0.length) then some (14,()) else L1 (0,a0,a1)
def ZFR (k:Nat):=ZjQ k (ZwE k)
theorem ZOV (k:Nat):∀ n,ZFS k n = Zg (fun L1 => Zfn k L1) n:=ZO
noncomputable def ZUn (k:Nat):ZE k:=Zy 161 Tryz.f161 (ZUo k) ZwF ZB ZFR (A:=ZuY) (h:=fun x => by show _ = ZjQ k (ZwE k) x; rw [show ZwE k = ZFS k k from (ZOV k k).symm]; kernel_rfl)
abbrev ZOZ:Kd:=.view (.sl (.cx .f64))
noncomputable def ZUq (k:Nat):List (ZE k):=[]
def ZUp:Nat → Ann:=fun id => bif Ja id 3 then ⟨[4,1,3],[.slot 3 ((Ty.cx Je))]⟩ else ⟨[],[]⟩
abbrev ZOX:=Int × List Int × List Int × List (Nat × Nat)
abbrev ZwG:=ZOX → Option (List (Nat × Nat) × Unit)
def ZWE:ZOX → St
 | (v0,v1,v2,v3) => St.mk (Zq [(4,Zl v0),(1,AV.bx 8192 0),(3,AV.own 8193)]) (Zp [(8192,QQ [avL v1,avL v2]),(8193,RS.live (Res.arr (Ty.cx Je) v3 false))])
def Zfo (k:Nat) (L1:ZwG):ZwG
 | (v0,v1,v2,v3) => bif decide (v0 < UD v1.length) then bif decide (0 ≤ v0 ∧ v0 < UD v1.length) then bif decide (0 ≤ v0 ∧ v0 < UD v2.length) then bif decide (v3.length + [(Je.nearest (v1.getD v0.toNat 0),Je.nearest (v2.getD v0.toNat 0))].length < 2147483648) then L1 (Jx.wrap (v0 + 1),v1,v2,v3 ++ [(Je.nearest (v1.getD v0.toNat 0),Je.nearest (v2.getD v0.toNat 0))]) else none else none else none else some (v3,())
def ZwH (k:Nat):ZwG:=Zg (fun L1 => Zfo k L1) k
noncomputable def ZFT (k:Nat) (n:Nat):=QI (ZUq k) Tryz.f162 ZwF ZOZ [1,1,0,1,0] [] n ZWE (A:=ZUp)
def ZjR (k:Nat) (L1:ZwG):(List Int × List Int × Unit) × Unit → Option (List (Nat × Nat) × Unit)
 | ((a0,a1,()),()) => L1 (0,a0,a1,[])
def ZOW (k:Nat):=ZjR k (ZwH k)
theorem ZOY (k:Nat):∀ n,ZFT k n = Zg (fun L1 => Zfo k L1) n:=ZO
noncomputable def ZYn (k:Nat):ZE k:=Zy 162 Tryz.f162 (ZUq k) ZwF ZOZ ZOW (A:=ZUp) (h:=fun x => by show _ = ZjR k (ZwH k) x; rw [show ZwH k = ZFT k k from (ZOY k k).symm]; kernel_rfl)
noncomputable def ZTU (k:Nat):List (ZE k):=[ZYf k,ZYm k,ZUn k,ZYn k]
def ZTT:Nat → Ann:=fun id => bif Ja id 7 then ⟨[9,0,1,2,8],[.cell 8 0 ((Ty.int Jx)),.cell 8 1 ((Ty.int Jx))]⟩ else ⟨[],[]⟩
abbrev ZNI:=Int × List Int × List Int × Int × List Int × List Int
abbrev Zv8:=ZNI → Option ((List (Nat × Nat) × Int × Unit) × Unit)
def ZWi:ZNI → St
 | (v0,v1,v2,v3,v4,v5) => St.mk (Zq [(9,Zl v0),(0,avL v1),(1,avL v2),(2,Zl v3),(8,AV.bx 8192 0)]) (Zp [(8192,QQ [AV.own 8193,AV.own 8194]),(8193,rsA v4 false),(8194,rsA v5 false)])
def Yo (k:Nat) (L1:Zv8):Zv8
 | (v0,v1,v2,v3,v4,v5) => bif decide (v0 < UD v1.length) then bif decide (0 ≤ v0 ∧ v0 < UD v1.length) then bif decide (0 ≤ v0 ∧ v0 < UD v2.length) then bif decide (v1.getD v0.toNat 0 < (-67108864:Int)) then some (([],12,()),()) else bif decide ((67108864:Int) < v1.getD v0.toNat 0) then some (([],12,()),()) else bif decide (v2.getD v0.toNat 0 < (-67108864:Int)) then some (([],12,()),()) else bif decide ((67108864:Int) < v2.getD v0.toNat 0) then some (([],12,()),()) else bif v3 == 8 then bif decide (v4.length + [v1.getD v0.toNat 0].length < 2147483648) then bif decide (v5.length + [Jx.wrap (v1.getD v0.toNat 0 - v2.getD v0.toNat 0)].length < 2147483648) then L1 (Jx.wrap (v0 + 1),v1,v2,v3,v4 ++ [v1.getD v0.toNat 0],v5 ++ [Jx.wrap (v1.getD v0.toNat 0 - v2.getD v0.toNat 0)]) else none else none else bif v3 == 9 then bif decide (v4.length + [Jx.wrap (v1.getD v0.toNat 0 + v2.getD v0.toNat 0)].length < 2147483648) then bif decide (v5.length + [v2.getD v0.toNat 0].length < 2147483648) then L1 (Jx.wrap (v0 + 1),v1,v2,v3,v4 ++ [Jx.wrap (v1.getD v0.toNat 0 + v2.getD v0.toNat 0)],v5 ++ [v2.getD v0.toNat 0]) else none else none else bif v3 == 10 then (ZFH k (Jx.wrap (Jx.wrap (Jx.wrap ((2:Int) * v1.getD v0.toNat 0) + (Jx.wrap (Int.tmod (v2.getD v0.toNat 0) (2:Int) + 2)).tmod (2:Int)) + v2.getD v0.toNat 0),())).bind fun y => (ZFH k (Jx.wrap (Jx.wrap (Jx.wrap ((2:Int) * v1.getD v0.toNat 0) + (Jx.wrap (Int.tmod (v2.getD v0.toNat 0) (2:Int) + 2)).tmod (2:Int)) - v2.getD v0.toNat 0),())).bind fun y_1 => bif decide (v4.length + [y.1].length < 2147483648) then bif decide (v5.length + [y_1.1].length < 2147483648) then L1 (Jx.wrap (v0 + 1),v1,v2,v3,v4 ++ [y.1],v5 ++ [y_1.1]) else none else none else bif decide (v4.length + [v1.getD v0.toNat 0].length < 2147483648) then bif decide (v5.length + [v2.getD v0.toNat 0].length < 2147483648) then L1 (Jx.wrap (v0 + 1),v1,v2,v3,v4 ++ [v1.getD v0.toNat 0],v5 ++ [v2.getD v0.toNat 0]) else none else none else none else none else (ZFR k ((v4,v5,()),())).bind fun y => bif y.1 != 0 then some (([],y.1,()),()) else (ZOW k ((v4,v5,()),())).bind fun y => some ((y.1,0,()),())
def Zv9 (k:Nat):Zv8:=Zg (fun L1 => Yo k L1) k
noncomputable def ZFw (k:Nat) (n:Nat):=QI (ZTU k) Tryz.f115 Zv3 Zlu [1,1,1,1,0,1,0] [] n ZWi (A:=ZTT)
def ZjC (k:Nat) (L1:Zv8):List Int × List Int × Int × Unit → Option ((List (Nat × Nat) × Int × Unit) × Unit)
 | (a0,a1,a2,()) => (ZOS k (a2,())).bind fun y => bif !y.1 then some (([],1,()),()) else bif UD a0.length != UD a1.length then some (([],1,()),()) else bif decide ((8192:Int) < UD a0.length) then some (([],14,()),()) else L1 (0,a0,a1,a2,[],[])
def Zzl (k:Nat):=ZjC k (Zv9 k)
theorem ZNJ (k:Nat):∀ n,ZFw k n = Zg (fun L1 => Yo k L1) n:=ZO
noncomputable def ZX0 (k:Nat):ZE k:=Zy 115 Tryz.f115 (ZTU k) Zv3 Zlu Zzl (A:=ZTT) (h:=fun x => by show _ = ZjC k (Zv9 k) x; rw [show Zv9 k = ZFw k k from (ZNJ k k).symm]; kernel_rfl)
abbrev ZWF:Kd:=.tup [.view (.int .i64),.view .bool]
def Zqq (k:Nat):Nat × Unit → Option ((Int × Bool × Unit) × Unit)
 | (a0,()) => bif Je.format.order a0 a0 != some Ordering.eq then some ((0,false,()),()) else bif Je.format.order a0 (4845873199050653696:Nat) == some Ordering.gt then (floatBits BinOp.sub Je a0 a0).bind fun y => bif Je.format.order y (0:Nat) != some Ordering.eq then some ((0,false,()),()) else some ((16777217,true,()),()) else bif Je.format.order a0 (14069245235905429504:Nat) == some Ordering.lt then (floatBits BinOp.sub Je a0 a0).bind fun y => bif Je.format.order y (0:Nat) != some Ordering.eq then some ((0,false,()),()) else some ((16777217,true,()),()) else (floatToIntVal Je a0 Jx).bind fun y => some ((y,Je.format.order (Je.nearest y) a0 == some Ordering.eq,()),())
def ZFU (k:Nat):=Zqq k
set_option maxHeartbeats 1000000 in
noncomputable def ZYo (k:Nat):ZE k:=Zy 163 Tryz.f163 [] Zbn ZWF ZFU
abbrev ZNN:Kd:=.tup [.view ZUx,.view (.int .i64)]
noncomputable def ZTW (k:Nat):List (ZE k):=[ZUn k,ZYo k]
def ZTV:Nat → Ann:=fun id => bif Ja id 5 then ⟨[5,0,2,4],[.cell 4 0 ((Ty.int Jx)),.cell 4 1 ((Ty.int Jx))]⟩ else ⟨[],[]⟩
abbrev ZNL:=Int × List (Nat × Nat) × List Int × List Int
abbrev Zwa:=ZNL → Option (((List Int × List Int × Unit) × Int × Unit) × Unit)
def ZWj:ZNL → St
 | (v0,v1,v2,v3) => St.mk (Zq [(5,Zl v0),(0,AV.val (PV.sl (Ty.cx Je) v1)),(2,AV.bx 8192 0),(4,AV.bx 8193 0)]) (Zp [(8192,QQ [AV.val (PV.v (V4 none (0:Nat) (0:Nat))),AV.val (PV.v (V4 none (0:Nat) (0:Nat)))]),(8193,QQ [AV.own 8194,AV.own 8195]),(8194,rsA v2 false),(8195,rsA v3 false)])
def Ze8 (k:Nat) (L1:Zwa):Zwa
 | (v0,v1,v2,v3) => bif decide (v0 < UD v1.length) then bif decide (0 ≤ v0 ∧ v0 < UD v1.length) then (ZFU k ((v1.getD v0.toNat ((0:Nat),(0:Nat))).1,())).bind fun y => bif decide (0 ≤ v0 ∧ v0 < UD v1.length) then (ZFU k ((v1.getD v0.toNat ((0:Nat),(0:Nat))).2,())).bind fun y_1 => bif !y.1.2.1 then some ((([],[],()),2,()),()) else bif !y_1.1.2.1 then some ((([],[],()),2,()),()) else bif decide (v2.length + [y.1.1].length < 2147483648) then bif decide (v3.length + [y_1.1.1].length < 2147483648) then L1 (Jx.wrap (v0 + 1),v1,v2 ++ [y.1.1],v3 ++ [y_1.1.1]) else none else none else none else none else (ZFR k ((v2,v3,()),())).bind fun y => bif y.1 != 0 then some ((([],[],()),y.1,()),()) else some (((v2,v3,()),0,()),())
def Zwb (k:Nat):Zwa:=Zg (fun L1 => Ze8 k L1) k
noncomputable def ZFx (k:Nat) (n:Nat):=QI (ZTW k) Tryz.f116 Zbl ZNN [1,1,1,0,1,0] [] n ZWj (A:=ZTV)
def ZjD (k:Nat) (L1:Zwa):List (Nat × Nat) × Unit → Option (((List Int × List Int × Unit) × Int × Unit) × Unit)
 | (a0,()) => bif decide ((8192:Int) < UD a0.length) then some ((([],[],()),14,()),()) else L1 (0,a0,[],[])
def Zzm (k:Nat):=ZjD k (Zwb k)
theorem ZNM (k:Nat):∀ n,ZFx k n = Zg (fun L1 => Ze8 k L1) n:=ZO
noncomputable def ZX1 (k:Nat):ZE k:=Zy 116 Tryz.f116 (ZTW k) Zbl ZNN Zzm (A:=ZTV) (h:=fun x => by show _ = ZjD k (Zwb k) x; rw [show Zwb k = ZFx k k from (ZNM k k).symm]; kernel_rfl)
abbrev ZVT:List Kd:=[.view ZfR,.view .str]
def ZLz (k:Nat):(Int × Int × Int × Unit) × ByteArray × Unit → Option (((Int × List (List Int) × Unit) × Int × Int × Unit) × Unit)
 | ((a0,a1,a2,()),a3,()) => (Zmn k ((a0,a1,a2,()),())).bind fun y => bif !y.1 then some ((((0:Int),[],()),0,2,()),()) else bif decide (a3.size < 1099511627776) then (ZFl k (UT (fun b => UD b.toNat) a3.data.toList,())).bind fun y => (Zts k ((a0,a1,a2,()),(y.1,0,()),a3,())).bind fun y => bif y.1.2.2.2.1 != 0 then some ((((0:Int),[],()),0,y.1.2.2.2.1,()),()) else (ZFo k (a1,y.1.1,())).bind fun y_1 => (Zp5 k ((y.2.1.1,y.2.1.2.1,()),y.1.2.2.1,y_1.1.1,())).bind fun y_2 => bif y_2.1.2.1 != 0 then some ((((0:Int),[],()),0,y_2.1.2.1,()),()) else bif a0 == 2 then (Zp5 k ((y_2.2.1.1,y_2.2.1.2.1,()),y.1.2.2.1,y_1.1.2.1,())).bind fun y_3 => bif y_3.1.2.1 != 0 then some ((((0:Int),[],()),0,y_3.1.2.1,()),()) else (Zzk k ((y_3.2.1.1,y_3.2.1.2.1,()),())).bind fun y_4 => bif y_4.1 != 0 then some ((((0:Int),[],()),0,y_4.1,()),()) else (ZN k ((y_4.2.1.1,y_4.2.1.2.1,()),16,())).bind fun y_5 => bif y_5.1.2.1 != 0 then some ((((0:Int),[],()),0,y_5.1.2.1,()),()) else bif decide ((0:Int) ≤ 0 ∧ (0:Int) ≤ Jx.wrap (UJ y_4.2.1.2.1 (8:Int)) ∧ Jx.wrap (UJ y_4.2.1.2.1 (8:Int)) ≤ UD a3.size) then (Zza k (a3.extract (0:Nat) (Jx.wrap (UJ y_4.2.1.2.1 (8:Int))).toNat,())).bind fun y_6 => bif y_5.1.1 != y_6.1 then some ((((0:Int),[],()),0,16,()),()) else bif a0 == 2 then (Zzl k (y_2.1.1,y_3.1.1,y.1.1,())).bind fun y_7 => bif y_7.1.2.1 != 0 then some ((((0:Int),[],()),0,y_7.1.2.1,()),()) else (Zzm k (y_7.1.1,())).bind fun y_8 => (Zo9 k ((a0,a1,a2,()),(y.1.2.1.1,[y_8.1.1.1,y_8.1.1.2.1],()),())).bind fun y_9 => bif y_9.1 != 0 then some ((((0:Int),[],()),0,y_9.1,()),()) else some (((y.1.2.1.1,[y_8.1.1.1,y_8.1.1.2.1],()),Jx.wrap (Jx.wrap (UJ y_4.2.1.2.1 (8:Int)) + (2:Int)),0,()),()) else (Zo9 k ((a0,a1,a2,()),(y.1.2.1.1,[y_2.1.1],()),())).bind fun y_7 => bif y_7.1 != 0 then some ((((0:Int),[],()),0,y_7.1,()),()) else some (((y.1.2.1.1,[y_2.1.1],()),Jx.wrap (Jx.wrap (UJ y_4.2.1.2.1 (8:Int)) + (2:Int)),0,()),()) else none else (Zzk k ((y_2.2.1.1,y_2.2.1.2.1,()),())).bind fun y_3 => bif y_3.1 != 0 then some ((((0:Int),[],()),0,y_3.1,()),()) else (ZN k ((y_3.2.1.1,y_3.2.1.2.1,()),16,())).bind fun y_4 => bif y_4.1.2.1 != 0 then some ((((0:Int),[],()),0,y_4.1.2.1,()),()) else bif decide ((0:Int) ≤ 0 ∧ (0:Int) ≤ Jx.wrap (UJ y_3.2.1.2.1 (8:Int)) ∧ Jx.wrap (UJ y_3.2.1.2.1 (8:Int)) ≤ UD a3.size) then (Zza k (a3.extract (0:Nat) (Jx.wrap (UJ y_3.2.1.2.1 (8:Int))).toNat,())).bind fun y_5 => bif y_4.1.1 != y_5.1 then some ((((0:Int),[],()),0,16,()),()) else bif a0 == 2 then (Zzl k (y_2.1.1,[],y.1.1,())).bind fun y_6 => bif y_6.1.2.1 != 0 then some ((((0:Int),[],()),0,y_6.1.2.1,()),()) else (Zzm k (y_6.1.1,())).bind fun y_7 => (Zo9 k ((a0,a1,a2,()),(y.1.2.1.1,[y_7.1.1.1,y_7.1.1.2.1],()),())).bind fun y_8 => bif y_8.1 != 0 then some ((((0:Int),[],()),0,y_8.1,()),()) else some (((y.1.2.1.1,[y_7.1.1.1,y_7.1.1.2.1],()),Jx.wrap (Jx.wrap (UJ y_3.2.1.2.1 (8:Int)) + (2:Int)),0,()),()) else (Zo9 k ((a0,a1,a2,()),(y.1.2.1.1,[y_2.1.1],()),())).bind fun y_6 => bif y_6.1 != 0 then some ((((0:Int),[],()),0,y_6.1,()),()) else some (((y.1.2.1.1,[y_2.1.1],()),Jx.wrap (Jx.wrap (UJ y_3.2.1.2.1 (8:Int)) + (2:Int)),0,()),()) else none else none
def ZED (k:Nat):=ZLz k
set_option maxHeartbeats 1000000 in
noncomputable def ZXF (k:Nat):ZE k:=Zy 54 Tryz.f54 [ZEg k,ZXA k,ZXM k,ZXP k,ZXQ k,ZXX k,ZXY k,ZXZ k,Zp7 k,ZX0 k,ZX1 k] ZVT ZBx ZED
end Go.Sh
