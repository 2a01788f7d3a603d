/-
  What the row needs, part 9.
-/
import Derived.Test.YtmeahimfdhdggaaGreatDoorXFrameApart8
import Derived.Test.YtmeahimfdhdggaaGreatDoorProg
set_option linter.unusedSimpArgs false
set_option linter.unusedVariables false
set_option linter.unusedSectionVars false
open BitVec renaming ofInt→UJ
open Bool renaming and_eq_true_iff→UY
open ByteArray renaming mk→UV
open Go.FloatKind renaming f64→Je
open Int renaming ofNat→UI,fdiv→UP,tdiv→UQ,toNat→UT
open Go.IntKind renaming i64→Jx,u64→UK,u8→UM
open List renaming length→UL,take→UN,drop→UO,replicate→Jd,getD→UR,Perm→US,mem_cons_self→Jm,Sublist→UW,getElem?_append_right→Vs,getElem?_append_left→UZ,perm_middle→U0,take_left'→U1
open Nat renaming beq→Ja,zero_le→UU,le_of_ble_eq_true→Jt
open Option renaming some→VF
open Go.Value renaming slice→V5,int→Jv,pointer→UX
namespace Go.Sh
open Go Go.Proofs
def deBruijnT:List Int:=[0,1,56,2,57,49,28,3,61,58,42,50,38,29,17,4,62,47,59,36,45,43,51,22,53,39,33,30,24,18,12,5,63,55,48,27,60,41,37,16,46,35,44,21,52,32,23,11,54,26,40,15,34,20,31,10,25,14,19,9,13,8,7,6]
instance frameGl:Gl:=⟨fun g => bif Ja g 1 then (.u8,deBruijnT) else (.u8,[])⟩
abbrev shapeT:Ty:=.pair (.int .i64) (.pair (.int .i64) (.pair (.int .i64) .unit))
abbrev frameT:Ty:=.pair (.int .i64) (.pair (.sl (.sl (.int .i64))) .unit)
abbrev ZeK:Ty:=.pair (.sl (.int .i64)) (.pair (.int .i64) .unit)
abbrev Zqn:Ty:=.pair (.int .i64) (.pair (.int .i64) (.pair (.int .i64) (.pair (.sl (.int .i64)) (.pair ZeK (.pair (.sl (.int .i64)) (.pair (.int .i64) .unit))))))
abbrev ZDP:Ty:=.pair (.int .i64) (.pair (.int .i64) (.pair (.int .i64) .unit))
abbrev ZIB:Ty:=.pair (.int .i64) (.pair (.int .i64) (.pair (.sl ZDP) (.pair (.int .i64) .unit)))
theorem XP:Tryz.prog.follows .mixedOrders = true:=by kernel_rfl
abbrev Zl (v:Int):AV:=AV.val (PV.v (Jv Jx v))
abbrev X6 (v:List Int):AV:=AV.val (PV.sl (Ty.int Jx) v)
abbrev avB (v:Bool):AV:=AV.val (PV.v (Value.bool v))
noncomputable abbrev cdX (f:Func):Code:=f.body.getD .skip
noncomputable def cxX (k:Nat) (l:List (Nat × Callee)) (live:Nat → List Nat:=fun _ => []):Ctx:={ P:=Tryz.prog,Φ:=phi l,k:=k,live:=live }
def nA:Nat → Ann:=fun _ => ⟨[],[]⟩
noncomputable abbrev ZFE (C:Ctx) (A:Nat → Ann) (fn:Func) (pk:List Kd) (rk:Kd) (x:Kd.dens pk):=ZuO C A fn.ntmps (cdX fn) fn.results.toList pk rk (WO pk x) (Zz3 pk rk)
noncomputable abbrev lvX (C:Ctx) (fn:Func) (pk:List Kd) (rk:Kd) (a:List AV) (b:List (List Nat)):=Yt C fn.results.toList pk a b rk (Zz3 pk rk)
noncomputable def ZGU (fn:Func):Bool:=fn.body.isSome && (!(fn.name == "runtime.NumGoroutine") && Xv Tryz.prog fn.ntmps (cdX fn))
abbrev WB (l:List AV):RS:=RS.live (Res.box l)
abbrev rsA (v:List Int) (b:Bool):RS:=RS.live (Res.arr (Ty.int Jx) v b)
abbrev ZT (k:Nat):={ p:Nat × Callee // Ctr Tryz.prog k p.1 p.2 }
noncomputable def cxP (k:Nat) (l:List (ZT k)) (live:Nat → List Nat):Ctx:={ P:=Tryz.prog,Φ:=phi (l.map Subtype.val),k:=k,live:=live }
def nL:Nat → List Nat:=fun _ => []
theorem ZJy (k:Nat) {l:List (ZT k)} {live:Nat → List Nat} {A:Nat → Ann} {f:Nat} {fn:Func} {pk:List Kd} {rk:Kd} {F:Nat → Kd.dens pk → Option (Ans pk rk)}
  (h:∀ x,ZFE (cxP k l live) A fn pk rk x = F k x) (hf:Tryz.prog.funcs[f]? = some fn) (hq:ZGU fn = true):Ctr Tryz.prog k f (mk pk rk F) :=
 have hq1:(fn.body.isSome && (!(fn.name == "runtime.NumGoroutine") && Xv Tryz.prog fn.ntmps (cdX fn))) = true:=hq
 have hq2:=UY.1 hq1
 have hq3:=UY.1 hq2.2
 have hb:fn.body = some (cdX fn):=by
  cases e:fn.body with
  | none => rw [e] at hq2; exact absurd hq2.1 (by simp)
  | some c => show some c = some (fn.body.getD .skip); rw [e]; rfl
 ZFg (C:=cxP k l live) (Zp9 (fun p hp => by obtain ⟨q,_,rfl⟩:=List.mem_map.1 hp; exact q.2)) XP hf hb (by simpa using hq3.1) hq3.2 (fun x y e => (h x).trans e)
noncomputable def ZA (f:Nat) (fn:Func) {k:Nat} (l:List (ZT k)) (pk:List Kd) (rk:Kd) (F:Nat → Kd.dens pk → Option (Ans pk rk)) (A:Nat → Ann:=nA) (live:Nat → List Nat:=nL)
  (h:∀ x,ZFE (cxP k l live) A fn pk rk x = F k x:=by intro x; kernel_rfl) (hf:Tryz.prog.funcs[f]? = some fn:=by kernel_rfl) (hq:ZGU fn = true:=by kernel_rfl):ZT k:=⟨(f,mk pk rk F),ZJy k h hf hq⟩
def ZGE {α:Type} (k:Nat) (g:Nat → α):α:=match k with | 0 => g 0 | n + 1 => g (n + 1)
theorem ZDi {α:Type} (k:Nat) (g:Nat → α):ZGE k g = g k:=by cases k <;> rfl
noncomputable def ZJ6 (f:Nat) (fn:Func) {k:Nat} (l:(k:Nat) → List (ZT k)) (pk:List Kd) (rk:Kd) (A:Nat → Ann:=nA) (live:Nat → List Nat:=nL)
  (hf:Tryz.prog.funcs[f]? = some fn:=by kernel_rfl) (hq:ZGU fn = true:=by kernel_rfl):ZT k:=⟨(f,mk pk rk fun k => ZGE k fun k => ZFE (cxP k (l k) live) A fn pk rk),ZJy k (fun x => (congrFun (ZDi k fun k => ZFE (cxP k (l k) live) A fn pk rk) x).symm) hf hq⟩
noncomputable abbrev XF {k:Nat} {V:Type} (l:List (ZT k)) (fn:Func) (pk:List Kd) (rk:Kd) (p ns:List Nat) (n:Nat) (S:V → St) (A:Nat → Ann:=nA) (live:Nat → List Nat:=nL) (a:List AV:=[]) (b:List (List Nat):=[]) (q:List Nat:=[]) (v:V):Option (Ans pk rk) :=
 ZIq (cxP k l live) A q p ns (cdX fn) (lvX (cxP k l live) fn pk rk a b) n (S v)
theorem Qs {V R:Type} {L:Nat → V → Option R} {step:(V → Option R) → V → Option R} (h:∀ n v,L (n + 1) v = step (L n) v:=by intro n v; kernel_rfl) (h0:∀ v,L 0 v = none:=by intro v; kernel_rfl):∀ n,L n = Zn step n:=Zso h0 h
abbrev ZG9:List Kd:=[.view shapeT]
abbrev Zw:Kd:=.view (.int .i64)
def Zkv (k:Nat):(Int × Int × Int × Unit) × Unit → Option (Int × Unit)
 | ((a0,a1,a2,()),()) => bif decide (a0 < 1) then some (2,()) else bif decide ((2:Int) < a0) then some (2,()) else bif decide (a1 < 4) then some (2,()) else bif decide ((24:Int) < a1) then some (2,()) else bif decide (a2 < 1) then some (2,()) else bif decide ((655350:Int) < a2) then some (2,()) else some (0,())
def Zvw (k:Nat):=Zkv k
noncomputable def ZFQ (k:Nat):ZT k:=ZA 11 Tryz.f11 [] ZG9 Zw Zvw
abbrev Zcw:List Kd:=[.view shapeT,.view frameT]
noncomputable def Zv3 (k:Nat):List (ZT k):=[ZFQ k]
def Zv0:Nat → Ann:=fun id => bif Ja id 17 then ⟨[68,69,67,2,63,62,61],[]⟩ else bif Ja id 14 then ⟨[62,63,61,2],[]⟩ else bif Ja id 8 then ⟨[42,43,41,6,3,2],[]⟩ else ⟨[],[]⟩
abbrev ZBy:=Int × Int × List Int × Int × Int × List (List Int) × Int × Int × Int
abbrev Zpc:=ZBy → Option (Int × Unit)
abbrev ZBx:=Int × Int × List (List Int) × Int × Int × Int
abbrev Zhv:=ZBx → Option (Int × Unit)
abbrev ZBw:=Int × Int × List (List Int) × Int × Int × List (List Int) × Int × Int × Int
abbrev Zpb:=ZBw → Option (Int × Unit)
def ZHO:ZBy → St
 | (v0,v1,v2,v3,v4,v5,v6,v7,v8) => St.mk (Zz [(68,Zl v0),(69,Zl v1),(67,X6 v2),(2,AV.bx 8192 0),(63,Zl v3),(62,Zl v4),(61,AV.val (PV.sl (Ty.int Jx).sl v5))]) (Zy [(8192,WB [Zl v6,Zl v7,Zl v8])])
def Zcx (k:Nat) (L2:Zhv) (L3:Zpc):Zpc
 | (v0,v1,v2,v3,v4,v5,v6,v7,v8) => bif decide (v1 < v0) then bif decide (0 ≤ v1 ∧ v1 < UI v2.length) then bif decide (0 ≤ Jx.wrap (v7 - 1)) then bif UP (v2.getD v1.toNat 0) ((2:Int) ^ min (Jx.wrap (v7 - 1)).toNat 64) != (0:Int) then bif UP (v2.getD v1.toNat 0) ((2:Int) ^ min (Jx.wrap (v7 - 1)).toNat 64) != (-1:Int) then some (12,()) else L3 (v0,Jx.wrap (v1 + 1),v2,v3,v4,v5,v6,v7,v8) else L3 (v0,Jx.wrap (v1 + 1),v2,v3,v4,v5,v6,v7,v8) else none else none else L2 (v4,Jx.wrap (v3 + 1),v5,v6,v7,v8)
def ZkO (k:Nat) (L2:Zhv):Zpc:=Zn (fun L3 => Zcx k L2 L3) k
noncomputable def Zv2 (k:Nat) (n2:Nat) (n:Nat):=XF (Zv3 k) Tryz.f23 Zcw Zw [1,1,1,1,1,0,1,0,0,1,1,0,0,1,1,0] [n2] n ZHO (A:=Zv0)
def ZHN:ZBx → St
 | (v0,v1,v2,v3,v4,v5) => St.mk (Zz [(62,Zl v0),(63,Zl v1),(61,AV.val (PV.sl (Ty.int Jx).sl v2)),(2,AV.bx 8192 0)]) (Zy [(8192,WB [Zl v3,Zl v4,Zl v5])])
def Za3 (k:Nat) (L3:Zpc) (L2:Zhv):Zhv
 | (v0,v1,v2,v3,v4,v5) => bif decide (v1 < v0) then bif decide (0 ≤ v1 ∧ v1 < UI v2.length) then L3 (UI (UL (v2.getD v1.toNat [])),(0:Int),v2.getD v1.toNat [],v1,v0,v2,v3,v4,v5) else none else some (0,())
def Zcv (k:Nat):Zhv:=Zn (fun L2 => Za3 k (ZkO k L2) L2) k
noncomputable def Zjv (k:Nat) (n:Nat):=XF (Zv3 k) Tryz.f23 Zcw Zw [1,1,1,1,1,0,1,0] [] n ZHN (A:=Zv0)
def ZHM:ZBw → St
 | (v0,v1,v2,v3,v4,v5,v6,v7,v8) => St.mk (Zz [(42,Zl v0),(43,Zl v1),(41,AV.val (PV.sl (Ty.int Jx).sl v2)),(6,Zl v3),(3,AV.bx 8192 0),(2,AV.bx 8193 0)]) (Zy [(8192,WB [Zl v4,AV.val (PV.sl (Ty.int Jx).sl v5)]),(8193,WB [Zl v6,Zl v7,Zl v8])])
def Za2 (k:Nat) (L2:Zhv) (L1:Zpb):Zpb
 | (v0,v1,v2,v3,v4,v5,v6,v7,v8) => bif decide (v1 < v0) then bif decide (0 ≤ v1 ∧ v1 < UI v2.length) then bif UI (UL (v2.getD v1.toNat [])) != v3 then some (1,()) else bif decide (v3 < 1) then some (1,()) else bif decide ((512:Int) < v3) then some (1,()) else L1 (v0,Jx.wrap (v1 + 1),v2,v3,v4,v5,v6,v7,v8) else none else L2 (UI v5.length,(0:Int),v5,v6,v7,v8)
def ZkN (k:Nat):Zpb:=Zn (fun L1 => Za2 k (Zcv k) L1) k
noncomputable def Zv1 (k:Nat) (n:Nat):=XF (Zv3 k) Tryz.f23 Zcw Zw [1,1,1,1,0,1,0] [] n ZHM (A:=Zv0)
def ZfC (k:Nat) (L1:Zpb):(Int × Int × Int × Unit) × (Int × List (List Int) × Unit) × Unit → Option (Int × Unit)
 | ((a0,a1,a2,()),(a3,a4,()),()) => (Zvw k ((a0,a1,a2,()),())).bind fun y => bif y.1 != 0 then some (y.1,()) else bif decide (a3 < 0) then some (1,()) else bif decide ((2147483647:Int) < a3) then some (1,()) else bif UI a4.length != a0 then some (1,()) else bif decide ((0:Int) ≤ 0 ∧ (0:Int) < UI a4.length) then L1 (UI a4.length,(0:Int),a4,UI (UL (a4.getD 0 [])),a3,a4,a0,a1,a2) else none
def Zii (k:Nat):=ZfC k (ZkN k)
theorem ZBB (k:Nat) (n2:Nat):∀ n,Zv2 k n2 n = Zn (fun L3 => Zcx k (Zjv k n2) L3) n:=Qs
theorem ZBA (k:Nat):∀ n,Zjv k n = Zn (fun L2 => Za3 k (ZkO k L2) L2) n:=Qs (fun n v => by rw [show (ZkO k (Zjv k n)) = Zv2 k n k from (ZBB k n k).symm]; kernel_rfl)
theorem ZBz (k:Nat):∀ n,Zv1 k n = Zn (fun L1 => Za2 k (Zcv k) L1) n:=Qs (fun n v => by rw [show (Zcv k) = Zjv k k from (ZBA k k).symm]; kernel_rfl)
set_option maxHeartbeats 1000000 in
noncomputable def ZF0 (k:Nat):ZT k:=ZA 23 Tryz.f23 (Zv3 k) Zcw Zw Zii (A:=Zv0) (h:=fun x => by show _ = ZfC k (ZkN k) x; rw [show ZkN k = Zv1 k k from (ZBz k k).symm]; kernel_rfl)
abbrev Zpr:List Kd:=[.view (.sl (.int .i64)),.view (.sl (.int .i64))]
abbrev Zps:Kd:=.tup [.view (.sl (.cx .f64)),.view (.int .i64)]
noncomputable def ZGe (k:Nat):List (ZT k):=[]
def ZGc:Nat → Ann:=fun id => bif Ja id 7 then ⟨[21,22,20,1,6],[.slot 6 ((Ty.cx Je))]⟩ else ⟨[],[]⟩
abbrev ZCf:=Int × Int × List Int × List Int × List (Nat × Nat)
abbrev Zpq:=ZCf → Option ((List (Nat × Nat) × Int × Unit) × Unit)
def ZH0:ZCf → St
 | (v0,v1,v2,v3,v4) => St.mk (Zz [(21,Zl v0),(22,Zl v1),(20,X6 v2),(1,X6 v3),(6,AV.own 8192)]) (Zy [(8192,RS.live (Res.arr (Ty.cx Je) v4 false))])
def YO (k:Nat) (L1:Zpq):Zpq
 | (v0,v1,v2,v3,v4) => bif decide (v1 < v0) then bif decide (0 ≤ v1 ∧ v1 < UI v2.length) then bif decide (0 ≤ v1 ∧ v1 < UI v3.length) then bif decide (v2.getD v1.toNat 0 < (-16777216:Int)) then some (([],12,()),()) else bif decide ((16777216:Int) < v2.getD v1.toNat 0) then some (([],12,()),()) else bif decide (v3.getD v1.toNat 0 < (-16777216:Int)) then some (([],12,()),()) else bif decide ((16777216:Int) < v3.getD v1.toNat 0) then some (([],12,()),()) else bif decide (v4.length + [(Je.nearest (v2.getD v1.toNat 0),Je.nearest (v3.getD v1.toNat 0))].length < 2147483648) then L1 (v0,Jx.wrap (v1 + 1),v2,v3,v4 ++ [(Je.nearest (v2.getD v1.toNat 0),Je.nearest (v3.getD v1.toNat 0))]) else none else none else none else some ((v4,0,()),())
def Zk1 (k:Nat):Zpq:=Zn (fun L1 => YO k L1) k
noncomputable def Zwg (k:Nat) (n:Nat):=XF (ZGe k) Tryz.f59 Zpr Zps [1,1,1,0,1,0] [] n ZH0 (A:=ZGc)
def Za6 (k:Nat) (L1:Zpq):List Int × List Int × Unit → Option ((List (Nat × Nat) × Int × Unit) × Unit)
 | (a0,a1,()) => bif UI a0.length != UI a1.length then some (([],1,()),()) else bif decide ((8192:Int) < UI a0.length) then some (([],14,()),()) else L1 (UI a0.length,(0:Int),a0,a1,[])
def ZrW (k:Nat):=Za6 k (Zk1 k)
theorem ZCg (k:Nat):∀ n,Zwg k n = Zn (fun L1 => YO k L1) n:=Qs
noncomputable def ZGd (k:Nat):ZT k:=ZA 59 Tryz.f59 (ZGe k) Zpr Zps ZrW (A:=ZGc) (h:=fun x => by show _ = Za6 k (Zk1 k) x; rw [show Zk1 k = Zwg k k from (ZCg k k).symm]; kernel_rfl)
abbrev QG:List Kd:=[.view (.int .i64)]
abbrev Qz:Kd:=.view .bool
def ZCZ (k:Nat):Int × Unit → Option (Bool × Unit)
 | (a0,()) => bif a0 == 0 then some (true,()) else bif decide (8 ≤ a0) then some (decide (a0 ≤ 10),()) else some (false,())
def ZwB (k:Nat):=ZCZ k
noncomputable def ZGA (k:Nat):ZT k:=ZA 91 Tryz.f91 [] QG Qz ZwB
abbrev ZbG:List Kd:=[.view (.fl .f64)]
abbrev ZbH:Kd:=.view (.fl .f64)
def Zg2 (k:Nat):Nat × Unit → Option (Nat × Unit)
 | (a0,()) => some ((UK.wrap (UI (UJ 64 (UI a0) &&& ~~~UJ 64 (9223372036854775808:Int)).toNat)).toNat,())
def Zg1 (k:Nat):=Zg2 k
noncomputable def ZtR (k:Nat):ZT k:=ZA 143 Tryz.f143 [] ZbG ZbH Zg1
abbrev ZE6:List Kd:=[.view (.fl .f64),.view (.fl .f64)]
def ZyN (k:Nat):Nat × Nat × Unit → Option (Nat × Unit)
 | (a0,a1,()) => some ((UK.wrap (UI (UJ 64 (UK.wrap (UI (UJ 64 (UI a0) &&& ~~~UJ 64 (9223372036854775808:Int)).toNat)) ||| UJ 64 (UK.wrap (UI (UJ 64 (UI a1) &&& UJ 64 (9223372036854775808:Int)).toNat))).toNat)).toNat,())
def Zuc (k:Nat):=ZyN k
noncomputable def ZBp (k:Nat):ZT k:=ZA 193 Tryz.f193 [] ZE6 ZbH Zuc
def ZyF (k:Nat):Nat × Unit → Option (Nat × Unit)
 | (a0,()) => (Zg1 k (a0,())).bind fun y => bif Je.format.order y.1 (4607182418800017408:Nat) == some Ordering.lt then (Zuc k (0,a0,())).bind fun y => some (y.1,()) else bif decide (UK.wrap (UK.wrap (UI (UJ 64 ((UI a0).fdiv (4503599627370496:Int)) &&& UJ 64 (2047:Int)).toNat) - 1023) < (52:Int)) then bif decide (0 ≤ UK.wrap ((52:Int) - UK.wrap (UK.wrap (UI (UJ 64 ((UI a0).fdiv (4503599627370496:Int)) &&& UJ 64 (2047:Int)).toNat) - 1023))) then some ((UK.wrap (UI (UJ 64 (UI a0) &&& ~~~UJ 64 (UK.wrap (UK.wrap ((1:Int) * (2:Int) ^ min (UK.wrap ((52:Int) - UK.wrap (UK.wrap (UI (UJ 64 ((UI a0).fdiv (4503599627370496:Int)) &&& UJ 64 (2047:Int)).toNat) - 1023))).toNat 64) - (1:Int)))).toNat)).toNat,()) else none else some ((UI a0).toNat,())
def ZHv (k:Nat):=ZyF k
set_option maxHeartbeats 1000000 in
noncomputable def ZHw (k:Nat):ZT k:=ZA 177 Tryz.f177 [ZtR k,ZBp k] ZbG ZbH ZHv
def ZgZ (k:Nat):Nat × Unit → Option (Nat × Unit)
 | (a0,()) => (Wm Ieee.Toward.zero a0).bind fun y => some (y,())
def ZgY (k:Nat):=ZgZ k
noncomputable def ZAK (k:Nat):ZT k:=ZA 141 Tryz.f141 [ZHw k] ZbG ZbH ZgY
abbrev ZEP:List Kd:=[.view (.fl .f64),.view (.int .i64)]
def Zg0 (k:Nat):Nat × Int × Unit → Option (Bool × Unit)
 | (a0,a1,()) => bif a1 == 0 then (Zg1 k (a0,())).bind fun y => some (Je.format.order y.1 (9218868437227405311:Nat) == some Ordering.gt,()) else bif decide (a1 < 0) then some (Je.format.order (a0 ^^^ (9223372036854775808:Nat)) (9218868437227405311:Nat) == some Ordering.gt,()) else some (Je.format.order a0 (9218868437227405311:Nat) == some Ordering.gt,())
def ZoO (k:Nat):=Zg0 k
noncomputable def ZAL (k:Nat):ZT k:=ZA 142 Tryz.f142 [ZtR k] ZEP Qz ZoO
abbrev ZbD:List Kd:=[.view (.sl (.cx .f64))]
noncomputable def Zov (k:Nat):List (ZT k):=[ZAK k,ZAL k,ZtR k]
def Zou:Nat → Ann:=fun id => bif Ja id 14 then ⟨[37,38,36],[]⟩ else bif Ja id 7 then ⟨[23,22,14,13,12,0],[]⟩ else bif Ja id 4 then ⟨[13,14,12,0],[]⟩ else ⟨[],[]⟩
abbrev Zvi:=Int × Nat × Nat × Int × Int × List (Nat × Nat) × List (Nat × Nat)
abbrev ZiO:=Zvi → Option (Int × Unit)
abbrev Zvj:=Int × Int × List (Nat × Nat)
abbrev ZiP:=Zvj → Option (Int × Unit)
abbrev Zvh:=Int × Int × List (Nat × Nat) × List (Nat × Nat)
abbrev Zdp:=Zvh → Option (Int × Unit)
def ZEn:Zvi → St
 | (v0,v1,v2,v3,v4,v5,v6) => St.mk (Zz [(23,Zl v0),(22,AV.agg [AV.val (PV.v (Value.float Je v1)),AV.val (PV.v (Value.float Je v2))]),(14,Zl v3),(13,Zl v4),(12,AV.val (PV.sl (Ty.cx Je) v5)),(0,AV.val (PV.sl (Ty.cx Je) v6))]) (Zy [])
def ZaC (k:Nat) (L1:Zdp) (L2:ZiO):ZiO
 | (v0,v1,v2,v3,v4,v5,v6) => bif decide (v0 < 2) then bif decide (0 ≤ v0 ∧ v0 < 2) then (ZgY k ([v1,v2].getD v0.toNat 0,())).bind fun y => bif Je.format.order y.1 ([v1,v2].getD v0.toNat 0) != some Ordering.eq then some (2,()) else (ZoO k ([v1,v2].getD v0.toNat 0,0,())).bind fun y => bif y.1 then some (2,()) else L2 (Jx.wrap (v0 + 1),v1,v2,v3,v4,v5,v6) else none else L1 (v4,Jx.wrap (v3 + 1),v5,v6)
def Zfm (k:Nat) (L1:Zdp):ZiO:=Zn (fun L2 => ZaC k L1 L2) k
noncomputable def ZqX (k:Nat) (n1:Nat) (n:Nat):=XF (Zov k) Tryz.f100 ZbD Zw [1,1,0,1,0,0,1,1,0,0,1,1,0] [n1] n ZEn (A:=Zou)
def ZEo:Zvj → St
 | (v0,v1,v2) => St.mk (Zz [(37,Zl v0),(38,Zl v1),(36,AV.val (PV.sl (Ty.cx Je) v2))]) (Zy [])
def ZaD (k:Nat) (L3:ZiP):ZiP
 | (v0,v1,v2) => bif decide (v1 < v0) then bif decide (0 ≤ v1 ∧ v1 < UI v2.length) then (Zg1 k ((v2.getD v1.toNat ((0:Nat),(0:Nat))).1,())).bind fun y => (Zg1 k ((v2.getD v1.toNat ((0:Nat),(0:Nat))).2,())).bind fun y_1 => (Zst Je y.1 y_1.1).bind fun y => bif Je.format.order y (4715268809856909312:Nat) == some Ordering.gt then some (12,()) else L3 (v0,Jx.wrap (v1 + 1),v2) else none else some (0,())
def Zfn (k:Nat):ZiP:=Zn (fun L3 => ZaD k L3) k
noncomputable def ZqY (k:Nat) (n:Nat):=XF (Zov k) Tryz.f100 ZbD Zw [1,1,1,0,1,0] [] n ZEo (A:=Zou)
def ZEm:Zvh → St
 | (v0,v1,v2,v3) => St.mk (Zz [(13,Zl v0),(14,Zl v1),(12,AV.val (PV.sl (Ty.cx Je) v2)),(0,AV.val (PV.sl (Ty.cx Je) v3))]) (Zy [])
def ZaB (k:Nat) (L2:ZiO) (L3:ZiP) (L1:Zdp):Zdp
 | (v0,v1,v2,v3) => bif decide (v1 < v0) then bif decide (0 ≤ v1 ∧ v1 < UI v2.length) then L2 (0,(v2.getD v1.toNat ((0:Nat),(0:Nat))).1,(v2.getD v1.toNat ((0:Nat),(0:Nat))).2,v1,v0,v2,v3) else none else L3 (UI v3.length,(0:Int),v3)
def ZiQ (k:Nat):Zdp:=Zn (fun L1 => ZaB k (Zfm k L1) (Zfn k) L1) k
noncomputable def Zfo (k:Nat) (n:Nat):=XF (Zov k) Tryz.f100 ZbD Zw [1,1,0,1,0] [] n ZEm (A:=Zou)
def Zdq (k:Nat) (L1:Zdp):List (Nat × Nat) × Unit → Option (Int × Unit)
 | (a0,()) => bif decide ((8192:Int) < UI a0.length) then some (14,()) else L1 (UI a0.length,(0:Int),a0,a0)
def ZtE (k:Nat):=Zdq k (ZiQ k)
theorem Zxy (k:Nat) (n1:Nat):∀ n,ZqX k n1 n = Zn (fun L2 => ZaC k (Zfo k n1) L2) n:=Qs
theorem Zxz (k:Nat):∀ n,ZqY k n = Zn (fun L3 => ZaD k L3) n:=Qs
theorem Zxx (k:Nat):∀ n,Zfo k n = Zn (fun L1 => ZaB k (Zfm k L1) (Zfn k) L1) n:=Qs (fun n v => by rw [show (Zfm k (Zfo k n)) = ZqX k n k from (Zxy k n k).symm,show (Zfn k) = ZqY k k from (Zxz k k).symm]; kernel_rfl)
noncomputable def ZGY (k:Nat):ZT k:=ZA 100 Tryz.f100 (Zov k) ZbD Zw ZtE (A:=Zou) (h:=fun x => by show _ = Zdq k (ZiQ k) x; rw [show ZiQ k = Zfo k k from (Zxx k k).symm]; kernel_rfl)
abbrev ZEp:List Kd:=[.view (.cx .f64)]
def ZgF (k:Nat):(Nat × Nat) × Unit → Option (Nat × Unit)
 | (a0,()) => (cMulBits a0.1 a0.2 (4607182418800017408:Nat) (4607182418800017408:Nat)).bind fun y => some (y.1,())
def Zkl (k:Nat):=ZgF k
noncomputable def ZGZ (k:Nat):ZT k:=ZA 101 Tryz.f101 [] ZEp ZbH Zkl
def ZyG (k:Nat):Nat × Unit → Option (Bool × Unit)
 | (a0,()) => some (Je.format.order a0 a0 != some Ordering.eq,())
def ZBj (k:Nat):=ZyG k
noncomputable def ZHx (k:Nat):ZT k:=ZA 180 Tryz.f180 [] ZbG Qz ZBj
abbrev ZE3:Kd:=.tup [.view (.fl .f64),.view (.fl .f64)]
def ZyH (k:Nat):Nat × Unit → Option ((Nat × Nat × Unit) × Unit)
 | (a0,()) => (ZgY k (a0,())).bind fun y => (floatBits BinOp.sub Je a0 y.1).bind fun y_1 => (Zuc k (y_1,a0,())).bind fun y_2 => some ((y.1,y_2.1,()),())
def Zt4 (k:Nat):=ZyH k
noncomputable def ZHy (k:Nat):ZT k:=ZA 181 Tryz.f181 [ZAK k,ZBp k] ZbG ZE3 Zt4
def Zyh (k:Nat):Nat × Unit → Option (Nat × Unit)
 | (a0,()) => bif Je.format.order a0 (0:Nat) == some Ordering.eq then some (a0,()) else (ZBj k (a0,())).bind fun y => bif y.1 then some (a0,()) else (ZoO k (a0,0,())).bind fun y => bif y.1 then some (a0,()) else bif Je.format.order a0 (0:Nat) == some Ordering.lt then (Zt4 k (a0 ^^^ (9223372036854775808:Nat),())).bind fun y => bif Je.format.order y.1.2.1 (0:Nat) != some Ordering.eq then (floatBits BinOp.add Je y.1.1 (4607182418800017408:Nat)).bind fun y => some (y ^^^ (9223372036854775808:Nat),()) else some (y.1.1 ^^^ (9223372036854775808:Nat),()) else (Zt4 k (a0,())).bind fun y => some (y.1.1,())
def ZHg (k:Nat):=Zyh k
set_option maxHeartbeats 1000000 in
noncomputable def ZHh (k:Nat):ZT k:=ZA 145 Tryz.f145 [ZAL k,ZHx k,ZHy k] ZbG ZbH ZHg
def ZgG (k:Nat):Nat × Unit → Option (Nat × Unit)
 | (a0,()) => (Wm Ieee.Toward.down a0).bind fun y => some (y,())
def ZtG (k:Nat):=ZgG k
noncomputable def ZG0 (k:Nat):ZT k:=ZA 102 Tryz.f102 [ZHh k] ZbG ZbH ZtG
abbrev ZCp:List Kd:=[.view (.sl (.cx .f64)),.view (.int .i64)]
abbrev Zui:Kd:=.tup [.view (.sl (.int .i64)),.view (.sl (.int .i64)),.view (.int .i64)]
noncomputable def ZGi (k:Nat):List (ZT k):=[ZGA k,ZGY k,ZGZ k,ZG0 k]
def ZGh:Nat → Ann:=fun id => bif Ja id 8 then ⟨[23,24,22,1,8,9],[.slot 8 ((Ty.int Jx)),.slot 9 ((Ty.int Jx))]⟩ else ⟨[],[]⟩
abbrev ZCm:=Int × Int × List (Nat × Nat) × Int × List Int × List Int
abbrev Zpu:=ZCm → Option ((List Int × List Int × Int × Unit) × Unit)
def ZH2:ZCm → St
 | (v0,v1,v2,v3,v4,v5) => St.mk (Zz [(23,Zl v0),(24,Zl v1),(22,AV.val (PV.sl (Ty.cx Je) v2)),(1,Zl v3),(8,AV.own 8192),(9,AV.own 8193)]) (Zy [(8192,rsA v4 false),(8193,rsA v5 false)])
def ZcE (k:Nat) (L1:Zpu):Zpu
 | (v0,v1,v2,v3,v4,v5) => bif decide (v1 < v0) then bif decide (0 ≤ v1 ∧ v1 < UI v2.length) then bif v3 == 8 then (Zkl k (((v2.getD v1.toNat ((0:Nat),(0:Nat))).1,(v2.getD v1.toNat ((0:Nat),(0:Nat))).2),())).bind fun y => (floatToIntVal Je (v2.getD v1.toNat ((0:Nat),(0:Nat))).1 Jx).bind fun y_1 => bif decide (v4.length + [y_1].length < 2147483648) then (floatToIntVal Je y.1 Jx).bind fun y => bif decide (v5.length + [y].length < 2147483648) then L1 (v0,Jx.wrap (v1 + 1),v2,v3,v4 ++ [y_1],v5 ++ [y]) else none else none else bif v3 == 9 then (Zkl k (((v2.getD v1.toNat ((0:Nat),(0:Nat))).1,(v2.getD v1.toNat ((0:Nat),(0:Nat))).2),())).bind fun y => (floatToIntVal Je y.1 Jx).bind fun y => bif decide (v4.length + [y].length < 2147483648) then (floatToIntVal Je (v2.getD v1.toNat ((0:Nat),(0:Nat))).2 Jx).bind fun y_1 => bif decide (v5.length + [y_1].length < 2147483648) then L1 (v0,Jx.wrap (v1 + 1),v2,v3,v4 ++ [y],v5 ++ [y_1]) else none else none else bif v3 == 10 then (floatBits BinOp.add Je (v2.getD v1.toNat ((0:Nat),(0:Nat))).1 (v2.getD v1.toNat ((0:Nat),(0:Nat))).2).bind fun y => (floatBits BinOp.quo Je y (4611686018427387904:Nat)).bind fun y => (ZtG k (y,())).bind fun y => (Zkl k (((v2.getD v1.toNat ((0:Nat),(0:Nat))).1,(v2.getD v1.toNat ((0:Nat),(0:Nat))).2),())).bind fun y_1 => (floatToIntVal Je y.1 Jx).bind fun y => bif decide (v4.length + [y].length < 2147483648) then (floatToIntVal Je y_1.1 Jx).bind fun y_2 => bif decide (v5.length + [y_2].length < 2147483648) then L1 (v0,Jx.wrap (v1 + 1),v2,v3,v4 ++ [y],v5 ++ [y_2]) else none else none else (floatToIntVal Je (v2.getD v1.toNat ((0:Nat),(0:Nat))).1 Jx).bind fun y => bif decide (v4.length + [y].length < 2147483648) then (floatToIntVal Je (v2.getD v1.toNat ((0:Nat),(0:Nat))).2 Jx).bind fun y_1 => bif decide (v5.length + [y_1].length < 2147483648) then L1 (v0,Jx.wrap (v1 + 1),v2,v3,v4 ++ [y],v5 ++ [y_1]) else none else none else none else some ((v4,v5,0,()),())
def Zpv (k:Nat):Zpu:=Zn (fun L1 => ZcE k L1) k
noncomputable def Zwi (k:Nat) (n:Nat):=XF (ZGi k) Tryz.f61 ZCp Zui [1,1,1,1,0,1,0] [] n ZH2 (A:=ZGh)
def ZfK (k:Nat) (L1:Zpu):List (Nat × Nat) × Int × Unit → Option ((List Int × List Int × Int × Unit) × Unit)
 | (a0,a1,()) => (ZwB k (a1,())).bind fun y => bif !y.1 then some (([],[],1,()),()) else (ZtE k (a0,())).bind fun y => bif y.1 != 0 then some (([],[],y.1,()),()) else L1 (UI a0.length,(0:Int),a0,a1,[],[])
def ZrY (k:Nat):=ZfK k (Zpv k)
theorem ZCo (k:Nat):∀ n,Zwi k n = Zn (fun L1 => ZcE k L1) n:=Qs
noncomputable def ZCn (k:Nat):ZT k:=ZA 61 Tryz.f61 (ZGi k) ZCp Zui ZrY (A:=ZGh) (h:=fun x => by show _ = ZfK k (Zpv k) x; rw [show Zpv k = Zwi k k from (ZCo k k).symm]; kernel_rfl)
abbrev ZhH:List Kd:=[.view (.sl (.int .i64))]
noncomputable def ZGC (k:Nat):List (ZT k):=[]
def ZGB:Nat → Ann:=fun id => bif Ja id 3 then ⟨[8,9,7,3,4],[]⟩ else ⟨[],[]⟩
abbrev ZhG:=Int × Int × List Int × Int × Int
abbrev ZpO:=ZhG → Option (Int × Unit)
def ZIh:ZhG → St
 | (v0,v1,v2,v3,v4) => St.mk (Zz [(8,Zl v0),(9,Zl v1),(7,X6 v2),(3,Zl v3),(4,Zl v4)]) (Zy [])
def ZcO (k:Nat) (L1:ZpO):ZpO
 | (v0,v1,v2,v3,v4) => bif decide (v1 < v0) then bif decide (0 ≤ v1 ∧ v1 < UI v2.length) then L1 (v0,Jx.wrap (v1 + 1),v2,Jx.wrap (v3 + if Jx.wrap (v2.getD v1.toNat 0 - v4) < Jx.wrap (v4 - v2.getD v1.toNat 0) then Jx.wrap (v4 - v2.getD v1.toNat 0) else Jx.wrap (v2.getD v1.toNat 0 - v4)),v2.getD v1.toNat 0) else none else some (v3,())
def ZpP (k:Nat):ZpO:=Zn (fun L1 => ZcO k L1) k
noncomputable def ZwD (k:Nat) (n:Nat):=XF (ZGC k) Tryz.f99 ZhH Zw [1,1,0,1,0] [] n ZIh (A:=ZGB)
def ZfS (k:Nat) (L1:ZpO):List Int × Unit → Option (Int × Unit)
 | (a0,()) => L1 (UI a0.length,(0:Int),a0,(0:Int),(0:Int))
def ZwC (k:Nat):=ZfS k (ZpP k)
theorem ZC0 (k:Nat):∀ n,ZwD k n = Zn (fun L1 => ZcO k L1) n:=Qs
noncomputable def ZJr (k:Nat):ZT k:=ZA 99 Tryz.f99 (ZGC k) ZhH Zw ZwC (A:=ZGB) (h:=fun x => by show _ = ZfS k (ZpP k) x; rw [show ZpP k = ZwD k k from (ZC0 k k).symm]; kernel_rfl)
abbrev WS:Kd:=.tup [.view (.int .i64),.view (.int .i64)]
noncomputable def ZGg (k:Nat):List (ZT k):=[ZCn k,ZJr k]
def ZGf:Nat → Ann:=fun id => bif Ja id 3 then ⟨[13,12,0,5,4],[]⟩ else ⟨[],[]⟩
abbrev ZCj:=Int × Int × Int × Int × Int × List (Nat × Nat) × Int × Int
abbrev Zpt:=ZCj → Option ((Int × Int × Unit) × Unit)
def ZH1:ZCj → St
 | (v0,v1,v2,v3,v4,v5,v6,v7) => St.mk (Zz [(13,Zl v0),(12,AV.agg [Zl v1,Zl v2,Zl v3,Zl v4]),(0,AV.val (PV.sl (Ty.cx Je) v5)),(5,Zl v6),(4,Zl v7)]) (Zy [])
def ZcD (k:Nat) (L1:Zpt):Zpt
 | (v0,v1,v2,v3,v4,v5,v6,v7) => bif decide (v0 < 4) then bif decide (0 ≤ v0 ∧ v0 < 4) then (ZrY k (v5,[v1,v2,v3,v4].getD v0.toNat (0:Int),())).bind fun y => bif y.1.2.2.1 != 0 then some ((0,y.1.2.2.1,()),()) else (ZwC k (y.1.1,())).bind fun y_1 => (ZwC k (y.1.2.1,())).bind fun y => bif decide (v6 < 0) then L1 (Jx.wrap (v0 + 1),v1,v2,v3,v4,v5,Jx.wrap (y_1.1 + y.1),[v1,v2,v3,v4].getD v0.toNat (0:Int)) else bif decide (Jx.wrap (y_1.1 + y.1) < v6) then L1 (Jx.wrap (v0 + 1),v1,v2,v3,v4,v5,Jx.wrap (y_1.1 + y.1),[v1,v2,v3,v4].getD v0.toNat (0:Int)) else L1 (Jx.wrap (v0 + 1),v1,v2,v3,v4,v5,v6,v7) else none else some ((v7,0,()),())
def Zuh (k:Nat):Zpt:=Zn (fun L1 => ZcD k L1) k
noncomputable def Zwh (k:Nat) (n:Nat):=XF (ZGg k) Tryz.f60 ZbD WS [1,1,0,1,0] [] n ZH1 (A:=ZGf)
def ZrX (k:Nat) (L1:Zpt):List (Nat × Nat) × Unit → Option ((Int × Int × Unit) × Unit)
 | (a0,()) => L1 (0,(0:Int),(8:Int),(9:Int),(10:Int),a0,(-1:Int),(0:Int))
def ZCi (k:Nat):=ZrX k (Zuh k)
theorem ZCk (k:Nat):∀ n,Zwh k n = Zn (fun L1 => ZcD k L1) n:=Qs
noncomputable def ZJi (k:Nat):ZT k:=ZA 60 Tryz.f60 (ZGg k) ZbD WS ZCi (A:=ZGf) (h:=fun x => by show _ = ZrX k (Zuh k) x; rw [show Zuh k = Zwh k k from (ZCk k k).symm]; kernel_rfl)
abbrev Zhw:List Kd:=[.view frameT]
abbrev ZHP:Kd:=.tup [.view (.sl (.sl (.int .i64))),.view (.int .i64),.view (.int .i64)]
def ZkP (k:Nat):(Int × List (List Int) × Unit) × Unit → Option ((List (List Int) × Int × Int × Unit) × Unit)
 | ((a0,a1,()),()) => bif UI a1.length == (1:Int) then some ((a1,0,0,()),()) else bif decide ((0:Int) ≤ 0 ∧ (0:Int) < UI a1.length) then bif decide ((0:Int) ≤ 1 ∧ (1:Int) < UI a1.length) then (ZrW k (a1.getD 0 [],a1.getD 1 [],())).bind fun y => bif y.1.2.1 != 0 then some (([],0,y.1.2.1,()),()) else (ZCi k (y.1.1,())).bind fun y_1 => bif y_1.1.2.1 != 0 then some (([],0,y_1.1.2.1,()),()) else (ZrY k (y.1.1,y_1.1.1,())).bind fun y => bif y_1.1.1 == 0 then some (([y.1.1,y.1.2.1],1,y.1.2.2.1,()),()) else some (([y.1.1,y.1.2.1],y_1.1.1,y.1.2.2.1,()),()) else none else none
def ZBC (k:Nat):=ZkP k
set_option maxHeartbeats 1000000 in
noncomputable def ZI4 (k:Nat):ZT k:=ZA 24 Tryz.f24 [ZGd k,ZJi k,ZCn k] Zhw ZHP ZBC
abbrev Zuf:List Kd:=[]
abbrev ZHQ:Kd:=.box [.own (.int .u8) false,.view (.int .i64)]
def ZBE (k:Nat):Unit → Option ((List Int × Int × Unit) × Unit)
 | () => some (([],0,()),())
def ZrK (k:Nat):=ZBE k
noncomputable def ZI5 (k:Nat):ZT k:=ZA 25 Tryz.f25 [] Zuf ZHQ ZrK
def Zk3 (k:Nat):Int × Unit → Option (Bool × Unit)
 | (a0,()) => bif decide (a0 < 0) then some (true,()) else some (decide ((32:Int) < a0),())
def ZrZ (k:Nat):=Zk3 k
noncomputable def ZCq (k:Nat):ZT k:=ZA 62 Tryz.f62 [] QG Qz ZrZ
abbrev Zow:List Kd:=[.box [.own (.int .u8) false,.view (.int .i64)],.view (.int .i64)]
abbrev YD:Kd:=.tup []
def ZgH (k:Nat):(List Int × Int × Unit) × Int × Unit → Option (Unit × (List Int × Int × Unit) × Unit)
 | ((a0,a1,()),a2,()) => bif a1.tmod (8:Int) == 0 then bif decide (a0.length + (1:Nat) < (2147483648:Nat)) then bif decide (0 ≤ Jx.wrap (a1.tdiv (8:Int)) ∧ Jx.wrap (a1.tdiv (8:Int)) < UI (a0 ++ [(0:Int)]).length) then bif decide ((Jx.wrap (a1.tdiv (8:Int))).toNat < (a0 ++ [(0:Int)]).length) then bif decide (0 ≤ Jx.wrap ((7:Int) - a1.tmod (8:Int))) then bif decide (0 ≤ Jx.wrap (a1.tdiv (8:Int)) ∧ Jx.wrap (a1.tdiv (8:Int)) < UI (a0 ++ [(0:Int)]).length) then bif decide ((Jx.wrap (a1.tdiv (8:Int))).toNat < (a0 ++ [(0:Int)]).length) then some ((),((a0 ++ [(0:Int)]).set (Jx.wrap (a1.tdiv (8:Int))).toNat (UM.wrap (UI (UJ 8 ((a0 ++ [(0:Int)]).getD (Jx.wrap (a1.tdiv (8:Int))).toNat 0) ||| UJ 8 (UM.wrap (Jx.wrap (a2 * (2:Int) ^ min (Jx.wrap ((7:Int) - a1.tmod (8:Int))).toNat 64)))).toNat)),Jx.wrap (a1 + 1),()),()) else none else none else none else none else none else none else bif decide (0 ≤ Jx.wrap (a1.tdiv (8:Int)) ∧ Jx.wrap (a1.tdiv (8:Int)) < UI a0.length) then bif decide ((Jx.wrap (a1.tdiv (8:Int))).toNat < a0.length) then bif decide (0 ≤ Jx.wrap ((7:Int) - a1.tmod (8:Int))) then bif decide (0 ≤ Jx.wrap (a1.tdiv (8:Int)) ∧ Jx.wrap (a1.tdiv (8:Int)) < UI a0.length) then bif decide ((Jx.wrap (a1.tdiv (8:Int))).toNat < a0.length) then some ((),(a0.set (Jx.wrap (a1.tdiv (8:Int))).toNat (UM.wrap (UI (UJ 8 (a0.getD (Jx.wrap (a1.tdiv (8:Int))).toNat 0) ||| UJ 8 (UM.wrap (Jx.wrap (a2 * (2:Int) ^ min (Jx.wrap ((7:Int) - a1.tmod (8:Int))).toNat 64)))).toNat)),Jx.wrap (a1 + 1),()),()) else none else none else none else none else none
def Zkn (k:Nat):=ZgH k
set_option maxHeartbeats 1000000 in
noncomputable def ZAa (k:Nat):ZT k:=ZA 103 Tryz.f103 [] Zow YD Zkn
abbrev ZCs:List Kd:=[.box [.own (.int .u8) false,.view (.int .i64)],.view (.int .u64),.view (.int .i64)]
noncomputable def ZGl (k:Nat):List (ZT k):=[ZAa k]
def ZGj:Nat → Ann:=fun id => bif Ja id 1 then ⟨[6,0,1],[]⟩ else ⟨[],[]⟩
abbrev Zhz:=Int × Int × Int × List Int
abbrev Zpw:=Zhz → Option (Unit × (List Int × Int × Unit) × Unit)
def ZH3:Zhz → St
 | (v0,v1,v2,v3) => St.mk (Zz [(6,Zl v0),(0,AV.bx 0 0),(1,AV.val (PV.v (Jv UK v1)))]) (Zy [(0,WB [AV.own 8192,Zl v2]),(8192,RS.live (Res.arr (Ty.int UM) v3 false))])
def ZcF (k:Nat) (L1:Zpw):Zpw
 | (v0,v1,v2,v3) => bif decide (0 ≤ v0) then bif decide (0 ≤ v0) then (Zkn k ((v3,v2,()),Jx.wrap (UK.wrap (UI (UJ 64 (v1.fdiv ((2:Int) ^ min v0.toNat 64)) &&& UJ 64 (1:Int)).toNat)),())).bind fun y => L1 (Jx.wrap (v0 - 1),v1,y.2.1.2.1,y.2.1.1) else none else some ((),(v3,v2,()),())
def Zpx (k:Nat):Zpw:=Zn (fun L1 => ZcF k L1) k
noncomputable def Zwj (k:Nat) (n:Nat):=XF (ZGl k) Tryz.f63 ZCs YD [1,0] [] n ZH3 (A:=ZGj) (a:=[AV.bx (nat_lit 0) (nat_lit 0)]) (b:=[[]]) (q:=[0])
def ZfL (k:Nat) (L1:Zpw):(List Int × Int × Unit) × Int × Int × Unit → Option (Unit × (List Int × Int × Unit) × Unit)
 | ((a0,a1,()),a2,a3,()) => L1 (Jx.wrap (a3 - 1),a2,a1,a0)
def Zee (k:Nat):=ZfL k (Zpx k)
theorem ZCr (k:Nat):∀ n,Zwj k n = Zn (fun L1 => ZcF k L1) n:=Qs
noncomputable def ZGk (k:Nat):ZT k:=ZA 63 Tryz.f63 (ZGl k) ZCs YD Zee (A:=ZGj) (h:=fun x => by show _ = ZfL k (Zpx k) x; rw [show Zpx k = Zwj k k from (ZCr k k).symm]; kernel_rfl)
abbrev ZBH:List Kd:=[.box [.own (.int .u8) false,.view (.int .i64)],.view (.int .i64),.view (.int .i64)]
def ZkQ (k:Nat):(List Int × Int × Unit) × Int × Int × Unit → Option (Int × (List Int × Int × Unit) × Unit)
 | ((a0,a1,()),a2,a3,()) => (ZrZ k (a3,())).bind fun y => bif y.1 then some (1,(a0,a1,()),()) else bif decide (a2 < 0) then some (12,(a0,a1,()),()) else bif decide (0 ≤ a3) then bif a2.fdiv ((2:Int) ^ min a3.toNat 64) != (0:Int) then some (12,(a0,a1,()),()) else (Zee k ((a0,a1,()),UK.wrap a2,a3,())).bind fun y => some (0,(y.2.1.1,y.2.1.2.1,()),()) else none
def QH (k:Nat):=ZkQ k
noncomputable def ZBG (k:Nat):ZT k:=ZA 26 Tryz.f26 [ZCq k,ZGk k] ZBH Zw QH
def Zk5 (k:Nat):Int × Unit → Option (Int × Unit)
 | (a0,()) => bif a0 == 1 then some (7,()) else some (Jx.wrap (Jx.wrap ((5:Int) * a0) + 1),())
def Zwk (k:Nat):=Zk5 k
noncomputable def ZGm (k:Nat):ZT k:=ZA 64 Tryz.f64 [] QG Zw Zwk
abbrev Zug:Kd:=.tup [.view (.sl (.int .u8)),.view (.int .i64)]
noncomputable def ZBK (k:Nat):List (ZT k):=[ZGm k]
def ZBI:Nat → Ann:=fun id => bif Ja id 10 then ⟨[6,5,0,4],[]⟩ else bif Ja id 6 then ⟨[0,4],[]⟩ else ⟨[],[]⟩
abbrev Zpe:=Zhz → Option ((List Int × Int × Unit) × Unit)
abbrev ZBJ:=Int × Int
abbrev Zpd:=ZBJ → Option ((List Int × Int × Unit) × Unit)
def ZHS:Zhz → St
 | (v0,v1,v2,v3) => St.mk (Zz [(6,Zl v0),(5,AV.own 8192),(0,Zl v1),(4,Zl v2)]) (Zy [(8192,RS.live (Res.arr (Ty.int UM) v3 false))])
def Zcz (k:Nat) (L2:Zpe):Zpe
 | (v0,v1,v2,v3) => bif decide ((0:Int) < v0) then bif decide (0 ≤ v0 ∧ v0 < UI v3.length) then bif decide (v0.toNat < v3.length) then L2 (Jx.wrap (v0 - 1),v1.fdiv (64:Int),v2,v3.set v0.toNat (UM.wrap (UI (UJ 8 (128:Int) ||| UJ 8 (UM.wrap (Jx.wrap (UI (UJ 64 v1 &&& UJ 64 (63:Int)).toNat)))).toNat))) else none else none else bif decide (0 ≤ v2) then bif decide ((0:Int) ≤ 0 ∧ (0:Int) < UI v3.length) then bif decide ((0:Nat) < v3.length) then some ((v3.set (0:Nat) (UM.wrap (UI (UJ 8 (UM.wrap (UP (65280:Int) ((2:Int) ^ min v2.toNat 64))) ||| UJ 8 (UM.wrap v1)).toNat)),0,()),()) else none else none else none
def ZkR (k:Nat):Zpe:=Zn (fun L2 => Zcz k L2) k
noncomputable def Zv5 (k:Nat) (n:Nat):=XF (ZBK k) Tryz.f27 QG Zug [1,1,1,1,1,1,0,1,0] [] n ZHS (A:=ZBI)
def ZHR:ZBJ → St
 | (v0,v1) => St.mk (Zz [(0,Zl v0),(4,Zl v1)]) (Zy [])
def Zcy (k:Nat) (L2:Zpe) (L1:Zpd):Zpd
 | (v0,v1) => (Zwk k (v1,())).bind fun y => bif decide ((0:Int) ≤ y.1) then bif decide ((0:Int) < v0.fdiv ((2:Int) ^ min (UT y.1) (64:Nat))) then L1 (v0,Jx.wrap (v1 + 1)) else bif decide (0 ≤ v1 ∧ v1 ≤ v1 ∧ v1 < 4294967296) then L2 (Jx.wrap (v1 - 1),v0,v1,Jd v1.toNat (0:Int)) else none else none
def Zpf (k:Nat):Zpd:=Zn (fun L1 => Zcy k (ZkR k) L1) k
noncomputable def Zv4 (k:Nat) (n:Nat):=XF (ZBK k) Tryz.f27 QG Zug [1,1,1,1,0,0] [] n ZHR (A:=ZBI)
def ZfD (k:Nat) (L1:Zpd):Int × Unit → Option ((List Int × Int × Unit) × Unit)
 | (a0,()) => bif decide (a0 < 0) then some (([],12,()),()) else bif decide ((68719476735:Int) < a0) then some (([],12,()),()) else bif decide (a0 < 128) then some (([UM.wrap a0],0,()),()) else L1 (a0,(2:Int))
def ZrL (k:Nat):=ZfD k (Zpf k)
theorem ZBM (k:Nat):∀ n,Zv5 k n = Zn (fun L2 => Zcz k L2) n:=Qs
theorem ZBL (k:Nat):∀ n,Zv4 k n = Zn (fun L1 => Zcy k (ZkR k) L1) n:=Qs (fun n v => by rw [show (ZkR k) = Zv5 k k from (ZBM k k).symm]; kernel_rfl)
noncomputable def ZI6 (k:Nat):ZT k:=ZA 27 Tryz.f27 (ZBK k) QG Zug ZrL (A:=ZBI) (h:=fun x => by show _ = ZfD k (Zpf k) x; rw [show Zpf k = Zv4 k k from (ZBL k k).symm]; kernel_rfl)
abbrev Zuj:List Kd:=[.view (.sl (.int .u8)),.view (.int .i64),.view (.int .u64)]
noncomputable def ZCw (k:Nat):List (ZT k):=[]
def ZCt:Nat → Ann:=fun id => bif Ja id 7 then ⟨[24,7,1,2,13,12,11],[]⟩ else bif Ja id 3 then ⟨[12,13,11,7,1,2],[]⟩ else ⟨[],[]⟩
abbrev ZCv:=Int × Int × Int × Int × Int × Int × List Int
abbrev Zpy:=ZCv → Option (Int × Unit)
abbrev ZCu:=Int × Int × List Int × Int × Int × Int
abbrev ZhA:=ZCu → Option (Int × Unit)
def ZH5:ZCv → St
 | (v0,v1,v2,v3,v4,v5,v6) => St.mk (Zz [(24,Zl v0),(7,AV.val (PV.v (Jv UK v1))),(1,Zl v2),(2,AV.val (PV.v (Jv UK v3))),(13,Zl v4),(12,Zl v5),(11,AV.val (PV.sl (Ty.int UM) v6))]) (Zy [])
def ZcH (k:Nat) (L1:ZhA) (L2:Zpy):Zpy
 | (v0,v1,v2,v3,v4,v5,v6) => bif decide (v0 < 8) then bif decide (0 ≤ Jx.wrap (v2 - 1)) then bif decide (0 ≤ v2) then L2 (Jx.wrap (v0 + 1),UK.wrap (UI (UJ 64 (UK.wrap (UI (UJ 64 (UK.wrap (v1 * (2:Int))) &&& UJ 64 (UK.wrap (UK.wrap ((1:Int) * (2:Int) ^ min v2.toNat 64) - (1:Int)))).toNat)) ^^^ UJ 64 (UK.wrap (UK.wrap (UI (UJ 64 (v1.fdiv ((2:Int) ^ min (Jx.wrap (v2 - 1)).toNat 64)) &&& UJ 64 (1:Int)).toNat) * v3))).toNat),v2,v3,v4,v5,v6) else none else none else L1 (v5,Jx.wrap (v4 + 1),v6,v1,v2,v3)
def ZpA (k:Nat) (L1:ZhA):Zpy:=Zn (fun L2 => ZcH k L1 L2) k
noncomputable def Zwl (k:Nat) (n1:Nat) (n:Nat):=XF (ZCw k) Tryz.f65 Zuj Zw [1,1,0,1,0,0,1,1,0,0,1,1,1,0] [n1] n ZH5 (A:=ZCt)
def ZH4:ZCu → St
 | (v0,v1,v2,v3,v4,v5) => St.mk (Zz [(12,Zl v0),(13,Zl v1),(11,AV.val (PV.sl (Ty.int UM) v2)),(7,AV.val (PV.v (Jv UK v3))),(1,Zl v4),(2,AV.val (PV.v (Jv UK v5)))]) (Zy [])
def ZcG (k:Nat) (L2:Zpy) (L1:ZhA):ZhA
 | (v0,v1,v2,v3,v4,v5) => bif decide (v1 < v0) then bif decide (0 ≤ v1 ∧ v1 < UI v2.length) then bif decide (0 ≤ Jx.wrap (v4 - 8)) then L2 (0,UK.wrap (UI (UJ 64 v3 ^^^ UJ 64 (UK.wrap (UK.wrap (v2.getD v1.toNat 0) * (2:Int) ^ min (Jx.wrap (v4 - 8)).toNat 64))).toNat),v4,v5,v1,v0,v2) else none else none else some (Jx.wrap v3,())
def Zpz (k:Nat):ZhA:=Zn (fun L1 => ZcG k (ZpA k L1) L1) k
noncomputable def Zjw (k:Nat) (n:Nat):=XF (ZCw k) Tryz.f65 Zuj Zw [1,1,0,1,0] [] n ZH4 (A:=ZCt)
def ZfM (k:Nat) (L1:ZhA):List Int × Int × Int × Unit → Option (Int × Unit)
 | (a0,a1,a2,()) => L1 (UI a0.length,(0:Int),a0,(0:Int),a1,a2)
def Zik (k:Nat):=ZfM k (Zpz k)
theorem ZCy (k:Nat) (n1:Nat):∀ n,Zwl k n1 n = Zn (fun L2 => ZcH k (Zjw k n1) L2) n:=Qs
theorem ZCx (k:Nat):∀ n,Zjw k n = Zn (fun L1 => ZcG k (ZpA k L1) L1) n:=Qs (fun n v => by rw [show (ZpA k (Zjw k n)) = Zwl k n k from (ZCy k n k).symm]; kernel_rfl)
noncomputable def ZGn (k:Nat):ZT k:=ZA 65 Tryz.f65 (ZCw k) Zuj Zw Zik (A:=ZCt) (h:=fun x => by show _ = ZfM k (Zpz k) x; rw [show Zpz k = Zjw k k from (ZCx k k).symm]; kernel_rfl)
abbrev ZeG:List Kd:=[.view (.sl (.int .u8))]
def ZkS (k:Nat):List Int × Unit → Option (Int × Unit)
 | (a0,()) => (Zik k (a0,8,7,())).bind fun y => some (y.1,())
def Zv6 (k:Nat):=ZkS k
noncomputable def ZF1 (k:Nat):ZT k:=ZA 28 Tryz.f28 [ZGn k] ZeG Zw Zv6
abbrev Zuk:Kd:=.own (.int .u8) false
def Znp (k:Nat):List Int × Unit → Option (List Int × Unit):=fun x => Y2 x
noncomputable def ZGo (k:Nat):Ctx:={ P:=Tryz.prog,Φ:=phi [],k:=k,live:=fun _ => [] }
noncomputable def Zr2:Code:=ZzW Tryz.f66
theorem ZE8 (k:Nat):Ctr Tryz.prog k 66 (mk ZeG Zuk Znp) :=
 ZmR (C:=ZGo k) (A:=fun _ => ⟨[],[]⟩) (Zp9 Zvf) XP (f:=66) (fn:=Tryz.f66) (o0:=ZhQ (Zae [0] Zr2) 0) (o1:=ZhQ (Zae [1,0,0] Zr2) 0) (o2:=ZhQ (Zae [1,0,0] Zr2) 1)
  (r0:=0) (r1:=1) (X:=Zae [1,0,1,0] Zr2) (Y:=Zae [1,1] Zr2) (T:=32) (E:=5) (U:=32) (t:=(.int .u8))
  (by kernel_rfl) (by kernel_rfl) (by kernel_rfl) (by kernel_rfl) (by kernel_rfl) (of_decide_eq_true (by kernel_rfl)) (by kernel_rfl) ⟨by kernel_rfl,by kernel_rfl,by kernel_rfl⟩ ⟨by kernel_rfl,by kernel_rfl,by kernel_rfl⟩ ⟨by kernel_rfl,by kernel_rfl,by kernel_rfl⟩ (fun xs => by kernel_rfl) (by kernel_rfl)
noncomputable def ZGp (k:Nat):ZT k:=⟨(66,mk ZeG Zuk Znp),ZE8 k⟩
abbrev ZBO:List Kd:=[.box [.own (.int .u8) false,.view (.int .i64)]]
def ZkT (k:Nat):(List Int × Int × Unit) × Unit → Option (List Int × (List Int × Int × Unit) × Unit)
 | ((a0,a1,()),()) => (Znp k (a0,())).bind fun y => some (y.1,(a0,a1,()),())
def ZrO (k:Nat):=ZkT k
noncomputable def ZI7 (k:Nat):ZT k:=ZA 29 Tryz.f29 [ZGp k] ZBO Zuk ZrO (live:=fun r => bif Ja r 999998 then [66] else [])
abbrev ZBP:List Kd:=[.view shapeT,.view (.int .i64)]
abbrev Zhx:Kd:=.view (.sl (.int .i64))
def ZkV (k:Nat):(Int × Int × Int × Unit) × Int × Unit → Option (List Int × Unit)
 | ((a0,a1,a2,()),a3,()) => bif decide ((0:Int) ≤ 0 ∧ (0:Int) ≤ a0 ∧ a0 ≤ UI [a1,a1].length) then bif a3 == 8 then bif decide ((0:Nat) ≤ a0.toNat ∧ a0.toNat ≤ [a1,a1].length ∧ (0:Int) ≤ 1 ∧ (1:Nat) < a0.toNat - (0:Nat)) then bif decide ((0:Nat) ≤ a0.toNat ∧ a0.toNat ≤ [a1,a1].length ∧ (0:Int) ≤ 1 ∧ (1:Nat) < a0.toNat - (0:Nat)) then bif decide ((0:Nat) ≤ a0.toNat ∧ a0.toNat ≤ ([a1,a1].set (1:Nat) (Jx.wrap ([a1,a1].getD 1 0 + (1:Int)))).length) then some (UO 0 (UN a0.toNat ([a1,a1].set (1:Nat) (Jx.wrap ([a1,a1].getD 1 0 + (1:Int))))),()) else none else none else none else bif a3 == 10 then bif decide ((0:Nat) ≤ a0.toNat ∧ a0.toNat ≤ [a1,a1].length ∧ (0:Int) ≤ 1 ∧ (1:Nat) < a0.toNat - (0:Nat)) then bif decide ((0:Nat) ≤ a0.toNat ∧ a0.toNat ≤ [a1,a1].length ∧ (0:Int) ≤ 1 ∧ (1:Nat) < a0.toNat - (0:Nat)) then bif decide ((0:Nat) ≤ a0.toNat ∧ a0.toNat ≤ ([a1,a1].set (1:Nat) (Jx.wrap ([a1,a1].getD 1 0 + (1:Int)))).length) then some (UO 0 (UN a0.toNat ([a1,a1].set (1:Nat) (Jx.wrap ([a1,a1].getD 1 0 + (1:Int))))),()) else none else none else none else bif a3 == 9 then bif decide ((0:Nat) ≤ a0.toNat ∧ a0.toNat ≤ [a1,a1].length ∧ (0:Int) ≤ 0 ∧ (0:Nat) < a0.toNat - (0:Nat)) then bif decide ((0:Nat) ≤ a0.toNat ∧ a0.toNat ≤ [a1,a1].length ∧ (0:Int) ≤ 0 ∧ (0:Nat) < a0.toNat - (0:Nat)) then bif decide ((0:Nat) ≤ a0.toNat ∧ a0.toNat ≤ ([a1,a1].set (0:Nat) (Jx.wrap ([a1,a1].getD 0 0 + (1:Int)))).length) then some (UO 0 (UN a0.toNat ([a1,a1].set (0:Nat) (Jx.wrap ([a1,a1].getD 0 0 + (1:Int))))),()) else none else none else none else bif decide ((0:Nat) ≤ a0.toNat ∧ a0.toNat ≤ [a1,a1].length) then some (UO 0 (UN a0.toNat [a1,a1]),()) else none else none
def Zv7 (k:Nat):=ZkV k
set_option maxHeartbeats 1000000 in
noncomputable def ZF2 (k:Nat):ZT k:=ZA 30 Tryz.f30 [] ZBP Zhx Zv7 (live:=fun r => bif Ja r 999999 then [1] else [])
abbrev Zul:List Kd:=[.view (.int .i64),.view (.int .i64)]
def Zld (k:Nat):Int × Int × Unit → Option (Bool × Unit)
 | (a0,a1,()) => bif decide (1 ≤ a0) then bif decide (a0 ≤ 512) then bif decide (4 ≤ a1) then some (decide (a1 ≤ 25),()) else some (false,()) else some (false,()) else some (false,())
def Zwz (k:Nat):=Zld k
noncomputable def ZGx (k:Nat):ZT k:=ZA 86 Tryz.f86 [] Zul Qz Zwz
def Zlg (k:Nat):Int × Int × Unit → Option (Bool × Unit)
 | (a0,a1,()) => bif decide (0 ≤ Jx.wrap (a1 - 1)) then bif a0.fdiv ((2:Int) ^ min (Jx.wrap (a1 - 1)).toNat 64) == (0:Int) then some (true,()) else bif decide (0 ≤ Jx.wrap (a1 - 1)) then some (a0.fdiv ((2:Int) ^ min (Jx.wrap (a1 - 1)).toNat 64) == (-1:Int),()) else none else none
def ZwA (k:Nat):=Zlg k
noncomputable def ZGz (k:Nat):ZT k:=ZA 89 Tryz.f89 [] Zul Qz ZwA
abbrev ZEr:List Kd:=[.view (.int .i64),.box [.view (.int .i64)]]
def ZgJ (k:Nat):Int × (Int × Unit) × Unit → Option (Bool × (Int × Unit) × Unit)
 | (a0,(a1,()),()) => (ZwA k (a0,a1,())).bind fun y => some (!y.1,(a1,()),())
def ZtI (k:Nat):=ZgJ k
noncomputable def ZG1 (k:Nat):ZT k:=ZA 105 Tryz.f105 [ZGz k] ZEr Qz ZtI
abbrev Zg4:List Kd:=[.view (.sl (.int .i64)),.clo 105 [.box [.view (.int .i64)]]]
noncomputable def Zrk (k:Nat):List (ZT k):=[ZG1 k]
def Xt:Nat → Ann:=fun id => bif Ja id 2 then ⟨[7,8,1,0],[]⟩ else ⟨[],[]⟩
abbrev XZ:=Int × Int × List Int × Int
abbrev ZdG:=XZ → Option (Int × (Int × Unit) × Unit)
def Zyi:XZ → St
 | (v0,v1,v2,v3) => St.mk (Zz [(7,Zl v0),(8,Zl v1),(1,AV.clo 105 [AV.bx 0 0]),(0,X6 v2)]) (Zy [(0,WB [Zl v3])])
def YI (k:Nat) (L1:ZdG):ZdG
 | (v0,v1,v2,v3) => bif decide (v1 < v0) then bif decide (0 ≤ v1 ∧ v1 < UI v2.length) then (ZtI k (v2.getD v1.toNat 0,(v3,()),())).bind fun y => bif y.1 then some (v1,(y.2.1.1,()),()) else L1 (v0,Jx.wrap (v1 + 1),v2,y.2.1.1) else none else some ((-1:Int),(v3,()),())
def Zg3 (k:Nat):ZdG:=Zn (fun L1 => YI k L1) k
noncomputable def Zkz (k:Nat) (n:Nat):=XF (Zrk k) Tryz.f146 Zg4 Zw [1,0,1,0] [] n Zyi (A:=Xt) (a:=[AV.bx (nat_lit 0) (nat_lit 0)]) (b:=[[]]) (q:=[0])
def Zid (k:Nat) (L1:ZdG):List Int × ((Int × Unit) × Unit) × Unit → Option (Int × (Int × Unit) × Unit)
 | (a0,((a1,()),()),()) => L1 (UI a0.length,(0:Int),a0,a1)
def Zky (k:Nat):=Zid k (Zg3 k)
theorem Zrl (k:Nat):∀ n,Zkz k n = Zn (fun L1 => YI k L1) n:=Qs
noncomputable def ZAM (k:Nat):ZT k:=ZA 146 Tryz.f146 (Zrk k) Zg4 Zw Zky (A:=Xt) (h:=fun x => by show _ = Zid k (Zg3 k) x; rw [show Zg3 k = Zkz k k from (Zrl k k).symm]; kernel_rfl)
def Zcl (k:Nat):List Int × ((Int × Unit) × Unit) × Unit → Option (Bool × (Int × Unit) × Unit)
 | (a0,((a1,()),()),()) => (Zky k (a0,((a1,()),()),())).bind fun y => some (decide ((0:Int) ≤ y.1),(y.2.1.1,()),())
def Zko (k:Nat):=Zcl k
noncomputable def ZAb (k:Nat):ZT k:=ZA 104 Tryz.f104 [ZAM k] Zg4 Qz Zko
abbrev Wl:List Kd:=[.view (.sl (.int .i64)),.view (.int .i64)]
def Zk7 (k:Nat):List Int × Int × Unit → Option (Int × Unit)
 | (a0,a1,()) => (Zwz k (UI a0.length,a1,())).bind fun y => bif !y.1 then some (1,()) else (Zko k (a0,((a1,()),()),())).bind fun y => bif y.1 then some (12,()) else some (0,())
def Zwm (k:Nat):=Zk7 k
noncomputable def ZJj (k:Nat):ZT k:=ZA 67 Tryz.f67 [ZGx k,ZAb k] Wl Zw Zwm
abbrev ZEu:List Kd:=[.view (.int .i64),.box [.view (.int .i64),.view (.int .i64),.view (.int .i64),.view (.sl (.int .i64)),.view (.sl (.int .i64)),.view (.int .i64),.view (.sl (.int .i64)),.view (.int .i64)]]
def ZgK (k:Nat):Int × (Int × Int × Int × List Int × List Int × Int × List Int × Int × Unit) × Unit → Option (Bool × (Int × Int × Int × List Int × List Int × Int × List Int × Int × Unit) × Unit)
 | (a0,(a1,a2,a3,a4,a5,a6,a7,a8,()),()) => bif decide ((0:Int) ≤ 0 ∧ (0:Int) < UI a4.length) then some (a0 != a4.getD 0 0,(a1,a2,a3,a4,a5,a6,a7,a8,()),()) else none
def ZtK (k:Nat):=ZgK k
noncomputable def ZG4 (k:Nat):ZT k:=ZA 108 Tryz.f108 [] ZEu Qz ZtK
abbrev Zg6:List Kd:=[.view (.sl (.int .i64)),.clo 108 [.box [.view (.int .i64),.view (.int .i64),.view (.int .i64),.view (.sl (.int .i64)),.view (.sl (.int .i64)),.view (.int .i64),.view (.sl (.int .i64)),.view (.int .i64)]]]
noncomputable def Zrm (k:Nat):List (ZT k):=[ZG4 k]
abbrev Znd:=Int × Int × List Int × Int × Int × Int × List Int × List Int × Int × List Int × Int
abbrev ZdH:=Znd → Option (Int × (Int × Int × Int × List Int × List Int × Int × List Int × Int × Unit) × Unit)
def Zyj:Znd → St
 | (v0,v1,v2,v3,v4,v5,v6,v7,v8,v9,v10) => St.mk (Zz [(7,Zl v0),(8,Zl v1),(1,AV.clo 108 [AV.bx 0 0]),(0,X6 v2)]) (Zy [(0,WB [Zl v3,Zl v4,Zl v5,X6 v6,X6 v7,Zl v8,X6 v9,Zl v10])])
def YJ (k:Nat) (L1:ZdH):ZdH
 | (v0,v1,v2,v3,v4,v5,v6,v7,v8,v9,v10) => bif decide (v1 < v0) then bif decide (0 ≤ v1 ∧ v1 < UI v2.length) then (ZtK k (v2.getD v1.toNat 0,(v3,v4,v5,v6,v7,v8,v9,v10,()),())).bind fun y => bif y.1 then some (v1,(y.2.1.1,y.2.1.2.1,y.2.1.2.2.1,y.2.1.2.2.2.1,y.2.1.2.2.2.2.1,y.2.1.2.2.2.2.2.1,y.2.1.2.2.2.2.2.2.1,y.2.1.2.2.2.2.2.2.2.1,()),()) else L1 (v0,Jx.wrap (v1 + 1),v2,y.2.1.1,y.2.1.2.1,y.2.1.2.2.1,y.2.1.2.2.2.1,y.2.1.2.2.2.2.1,y.2.1.2.2.2.2.2.1,y.2.1.2.2.2.2.2.2.1,y.2.1.2.2.2.2.2.2.2.1) else none else some ((-1:Int),(v3,v4,v5,v6,v7,v8,v9,v10,()),())
def Zg5 (k:Nat):ZdH:=Zn (fun L1 => YJ k L1) k
noncomputable def ZkB (k:Nat) (n:Nat):=XF (Zrm k) Tryz.f146 Zg6 Zw [1,0,1,0] [] n Zyj (A:=Xt) (a:=[AV.bx (nat_lit 0) (nat_lit 0)]) (b:=[[]]) (q:=[0])
def Zie (k:Nat) (L1:ZdH):List Int × ((Int × Int × Int × List Int × List Int × Int × List Int × Int × Unit) × Unit) × Unit → Option (Int × (Int × Int × Int × List Int × List Int × Int × List Int × Int × Unit) × Unit)
 | (a0,((a1,a2,a3,a4,a5,a6,a7,a8,()),()),()) => L1 (UI a0.length,(0:Int),a0,a1,a2,a3,a4,a5,a6,a7,a8)
def ZkA (k:Nat):=Zie k (Zg5 k)
theorem Zrn (k:Nat):∀ n,ZkB k n = Zn (fun L1 => YJ k L1) n:=Qs
noncomputable def ZAN (k:Nat):ZT k:=ZA 146 Tryz.f146 (Zrm k) Zg6 Zw ZkA (A:=Xt) (h:=fun x => by show _ = Zie k (Zg5 k) x; rw [show Zg5 k = ZkB k k from (Zrn k k).symm]; kernel_rfl)
def Zcm (k:Nat):List Int × ((Int × Int × Int × List Int × List Int × Int × List Int × Int × Unit) × Unit) × Unit → Option (Bool × (Int × Int × Int × List Int × List Int × Int × List Int × Int × Unit) × Unit)
 | (a0,((a1,a2,a3,a4,a5,a6,a7,a8,()),()),()) => (ZkA k (a0,((a1,a2,a3,a4,a5,a6,a7,a8,()),()),())).bind fun y => some (decide ((0:Int) ≤ y.1),(y.2.1.1,y.2.1.2.1,y.2.1.2.2.1,y.2.1.2.2.2.1,y.2.1.2.2.2.2.1,y.2.1.2.2.2.2.2.1,y.2.1.2.2.2.2.2.2.1,y.2.1.2.2.2.2.2.2.2.1,()),())
def Zkp (k:Nat):=Zcm k
noncomputable def ZAc (k:Nat):ZT k:=ZA 104 Tryz.f104 [ZAN k] Zg6 Qz Zkp
abbrev Zjh:List Kd:=[.view (.int .u64)]
def ZtS (k:Nat):Int × Unit → Option (Int × Unit):=fun x => tzF x
def ZJI:Go.Shelf.Ren:=⟨fun n => match n with | 29 => 147 | _ => 0,fun n => match n with | 0 => 0 | 3 => 3 | 4 => 4 | 5 => 5 | 22 => 49 | 25 => 114 | 54 => 216 | _ => 0,fun n => n⟩
set_option maxRecDepth 100000 in
theorem ZIE:Go.Proofs.Lays7.n29 Tryz.prog ZJI:=by
 constructor <;> first | kernel_rfl | (intro w; rfl)
set_option maxRecDepth 100000 in
theorem ZAR (k:Nat):Ctr Tryz.prog k 147 (mk Zjh Zw ZtS):=ZIF ZIE (fn:=Tryz.f147) (by kernel_rfl) rfl (by kernel_rfl) (by kernel_rfl) (by kernel_rfl)
noncomputable def ZHi (k:Nat):ZT k:=⟨(147,mk Zjh Zw ZtS),ZAR k⟩
noncomputable def ZAh (k:Nat):List (ZT k):=[ZHi k]
def ZAg:Nat → Ann:=fun id => bif Ja id 3 then ⟨[7,8,6,3],[]⟩ else ⟨[],[]⟩
abbrev ZiR:=XZ → Option (Int × Unit)
def ZEs:XZ → St
 | (v0,v1,v2,v3) => St.mk (Zz [(7,Zl v0),(8,Zl v1),(6,X6 v2),(3,Zl v3)]) (Zy [])
def ZaF (k:Nat) (L1:ZiR):ZiR
 | (v0,v1,v2,v3) => bif decide (v1 < v0) then bif decide (0 ≤ v1 ∧ v1 < UI v2.length) then L1 (v0,Jx.wrap (v1 + 1),v2,Jx.wrap (UI (UJ 64 v3 ||| UJ 64 (v2.getD v1.toNat 0)).toNat)) else none else bif v3 == 0 then some (0,()) else (ZtS k (UK.wrap v3,())).bind fun y => some (y.1,())
def ZiS (k:Nat):ZiR:=Zn (fun L1 => ZaF k L1) k
noncomputable def Zq3 (k:Nat) (n:Nat):=XF (ZAh k) Tryz.f106 ZhH Zw [1,1,0,1,0] [] n ZEs (A:=ZAg)
def Zdr (k:Nat) (L1:ZiR):List Int × Unit → Option (Int × Unit)
 | (a0,()) => L1 (UI a0.length,(0:Int),a0,(0:Int))
def ZtJ (k:Nat):=Zdr k (ZiS k)
theorem ZxC (k:Nat):∀ n,Zq3 k n = Zn (fun L1 => ZaF k L1) n:=Qs
noncomputable def ZG2 (k:Nat):ZT k:=ZA 106 Tryz.f106 (ZAh k) ZhH Zw ZtJ (A:=ZAg) (h:=fun x => by show _ = Zdr k (ZiS k) x; rw [show ZiS k = Zq3 k k from (ZxC k k).symm]; kernel_rfl)
abbrev KX:Kd:=.tup [.view ZeK,.view (.int .i64)]
noncomputable def ZoC (k:Nat):List (ZT k):=[]
def Zoy:Nat → Ann:=fun id => bif Ja id 17 then ⟨[48,49,47,8,2],[.cell 8 0 ((Ty.int Jx))]⟩ else bif Ja id 9 then ⟨[29,30,28,5,20,19,2],[]⟩ else bif Ja id 5 then ⟨[19,20,4,2],[]⟩ else ⟨[],[]⟩
abbrev Zvk:=Int × Int × Int × Int × List Int × List Int × Int
abbrev ZiT:=Zvk → Option (((List Int × Int × Unit) × Int × Unit) × Unit)
abbrev ZiV:=Int × Int × List Int × Int × List Int × Int
abbrev ZiU:=ZiV → Option (((List Int × Int × Unit) × Int × Unit) × Unit)
abbrev Zds:=XZ → Option (((List Int × Int × Unit) × Int × Unit) × Unit)
def ZEw:Zvk → St
 | (v0,v1,v2,v3,v4,v5,v6) => St.mk (Zz [(29,Zl v0),(30,Zl v1),(28,AV.own 8192),(5,AV.own 8193),(20,Zl v2),(19,Zl v3),(2,AV.bx 8194 0)]) (Zy [(8192,rsA v4 false),(8193,rsA v5 false),(8194,WB [AV.val (PV.v (V5 none (0:Nat) (0:Nat))),Zl v6])])
def Zm2 (k:Nat) (L1:Zds) (L2:ZiT):ZiT
 | (v0,v1,v2,v3,v4,v5,v6) => bif decide (v1 < v0) then bif decide (0 ≤ v1 ∧ v1 < UI v4.length) then bif decide (v1.toNat < v4.length) then bif decide (0 ≤ Jx.wrap (v1 + 1) ∧ Jx.wrap (v1 + 1) < UI v5.length) then bif decide ((Jx.wrap (v1 + 1)).toNat < v5.length) then bif decide (0 ≤ Jx.wrap (v1 + 1) ∧ Jx.wrap (v1 + 1) < UI v5.length) then bif decide ((Jx.wrap (v1 + 1)).toNat < v5.length) then L2 (v0,Jx.wrap (v1 + 1),v2,v3,v4,v5.set (Jx.wrap (v1 + 1)).toNat (Jx.wrap (v5.getD (Jx.wrap (v1 + 1)).toNat 0 - v4.getD v1.toNat 0)),v6) else none else none else none else none else none else none else L1 (v3,Jx.wrap (v2 + 1),v5,v6)
def ZoA (k:Nat) (L1:Zds):ZiT:=Zn (fun L2 => Zm2 k L1 L2) k
noncomputable def Zq5 (k:Nat) (n1:Nat) (n:Nat):=XF (ZoC k) Tryz.f109 QG KX [1,1,1,0,1,0,0,1,1,0,0,1,1,0,1,0] [n1] n ZEw (A:=Zoy)
def ZEx:ZiV → St
 | (v0,v1,v2,v3,v4,v5) => St.mk (Zz [(48,Zl v0),(49,Zl v1),(47,X6 v2),(8,AV.bx 8192 0),(2,AV.bx 8194 0)]) (Zy [(8192,WB [AV.own 8193,Zl v3]),(8193,rsA v4 false),(8194,WB [AV.val (PV.v (V5 none (0:Nat) (0:Nat))),Zl v5])])
def Zm3 (k:Nat) (L3:ZiU):ZiU
 | (v0,v1,v2,v3,v4,v5) => bif decide (v1 < v0) then bif decide (0 ≤ v1 ∧ v1 < UI v2.length) then bif decide (v4.length + [Jx.wrap ((0:Int) - v2.getD v1.toNat 0)].length < 2147483648) then L3 (v0,Jx.wrap (v1 + 1),v2,v3,v4 ++ [Jx.wrap ((0:Int) - v2.getD v1.toNat 0)],v5) else none else none else some (((v4,v3,()),0,()),())
def ZoB (k:Nat):ZiU:=Zn (fun L3 => Zm3 k L3) k
noncomputable def Zq6 (k:Nat) (n:Nat):=XF (ZoC k) Tryz.f109 QG KX [1,1,1,1,1,0,1,0] [] n ZEx (A:=Zoy)
def ZEv:XZ → St
 | (v0,v1,v2,v3) => St.mk (Zz [(19,Zl v0),(20,Zl v1),(4,AV.own 8192),(2,AV.bx 8193 0)]) (Zy [(8192,rsA v2 false),(8193,WB [AV.val (PV.v (V5 none (0:Nat) (0:Nat))),Zl v3])])
def Zm1 (k:Nat) (L2:ZiT) (L3:ZiU) (L1:Zds):Zds
 | (v0,v1,v2,v3) => bif decide (v1 < v0) then bif decide ((0:Nat) + v2.length < 2147483648) then bif decide (([] ++ v2).length + (1:Nat) < (2147483648:Nat)) then L2 (UI v2.length,(0:Int),v1,v0,v2,[] ++ v2 ++ [(0:Int)],v3) else none else none else bif decide ((0:Int) ≤ 1 ∧ (1:Int) ≤ UI v2.length ∧ UI v2.length ≤ UI v2.length) then L3 (UI (UO 1 (UN (UI v2.length).toNat v2)).length,(0:Int),UO 1 (UN (UI v2.length).toNat v2),(0:Int),[],v3) else none
def Zoz (k:Nat):Zds:=Zn (fun L1 => Zm1 k (ZoA k L1) (ZoB k) L1) k
noncomputable def Zfp (k:Nat) (n:Nat):=XF (ZoC k) Tryz.f109 QG KX [1,1,1,0,1,0] [] n ZEv (A:=Zoy)
def Zm0 (k:Nat) (L1:Zds):Int × Unit → Option (((List Int × Int × Unit) × Int × Unit) × Unit)
 | (a0,()) => bif decide (a0 < 0) then some ((([],(0:Int),()),1,()),()) else bif decide ((4:Int) < a0) then some ((([],(0:Int),()),1,()),()) else L1 (a0,(0:Int),[(1:Int)],(0:Int))
def ZgL (k:Nat):=Zm0 k (Zoz k)
theorem ZxG (k:Nat) (n1:Nat):∀ n,Zq5 k n1 n = Zn (fun L2 => Zm2 k (Zfp k n1) L2) n:=Qs
theorem ZxH (k:Nat):∀ n,Zq6 k n = Zn (fun L3 => Zm3 k L3) n:=Qs
theorem ZxF (k:Nat):∀ n,Zfp k n = Zn (fun L1 => Zm1 k (ZoA k L1) (ZoB k) L1) n:=Qs (fun n v => by rw [show (ZoA k (Zfp k n)) = Zq5 k n k from (ZxG k n k).symm,show (ZoB k) = Zq6 k k from (ZxH k k).symm]; kernel_rfl)
noncomputable def ZtL (k:Nat):ZT k:=ZA 109 Tryz.f109 (ZoC k) QG KX ZgL (A:=Zoy) (h:=fun x => by show _ = Zm0 k (Zoz k) x; rw [show Zoz k = Zfp k k from (ZxF k k).symm]; kernel_rfl)
def Zhf (k:Nat):Int × Unit → Option (Bool × Unit)
 | (a0,()) => bif decide (a0 ≤ -2147483648) then some (true,()) else some (decide (2147483648 ≤ a0),())
def ZkI (k:Nat):=Zhf k
noncomputable def ZtU (k:Nat):ZT k:=ZA 150 Tryz.f150 [] QG Qz ZkI
abbrev Zg8:List Kd:=[.view (.sl (.int .i64)),.fn 150]
noncomputable def Zro (k:Nat):List (ZT k):=[ZtU k]
abbrev ZdI:=Int × Int × List Int
abbrev Q9:=ZdI → Option (Int × Unit)
def Zyk:ZdI → St
 | (v0,v1,v2) => St.mk (Zz [(7,Zl v0),(8,Zl v1),(1,AV.fn 150),(0,X6 v2)]) (Zy [])
def YK (k:Nat) (L1:Q9):Q9
 | (v0,v1,v2) => bif decide (v1 < v0) then bif decide (0 ≤ v1 ∧ v1 < UI v2.length) then (ZkI k (v2.getD v1.toNat 0,())).bind fun y => bif y.1 then some (v1,()) else L1 (v0,Jx.wrap (v1 + 1),v2) else none else some ((-1:Int),())
def Zg7 (k:Nat):Q9:=Zn (fun L1 => YK k L1) k
noncomputable def ZkD (k:Nat) (n:Nat):=XF (Zro k) Tryz.f146 Zg8 Zw [1,0,1,0] [] n Zyk (A:=Xt)
def Zif (k:Nat) (L1:Q9):List Int × Unit × Unit → Option (Int × Unit)
 | (a0,(),()) => L1 (UI a0.length,(0:Int),a0)
def ZkC (k:Nat):=Zif k (Zg7 k)
theorem Zrp (k:Nat):∀ n,ZkD k n = Zn (fun L1 => YK k L1) n:=Qs
noncomputable def ZAO (k:Nat):ZT k:=ZA 146 Tryz.f146 (Zro k) Zg8 Zw ZkC (A:=Xt) (h:=fun x => by show _ = Zif k (Zg7 k) x; rw [show Zg7 k = ZkD k k from (Zrp k k).symm]; kernel_rfl)
def Zcn (k:Nat):List Int × Unit × Unit → Option (Bool × Unit)
 | (a0,(),()) => (ZkC k (a0,(),())).bind fun y => some (decide ((0:Int) ≤ y.1),())
def ZaE (k:Nat):=Zcn k
noncomputable def Zkq (k:Nat):ZT k:=ZA 104 Tryz.f104 [ZAO k] Zg8 Qz ZaE
def Zht (k:Nat):Int × Unit → Option (Bool × Unit)
 | (a0,()) => bif decide (a0 < -2048) then some (true,()) else some (decide ((2047:Int) < a0),())
def Zub (k:Nat):=Zht k
noncomputable def ZHI (k:Nat):ZT k:=ZA 192 Tryz.f192 [] QG Qz Zub
abbrev Zhc:List Kd:=[.view (.sl (.int .i64)),.fn 192]
noncomputable def Zrs (k:Nat):List (ZT k):=[ZHI k]
def Zym:ZdI → St
 | (v0,v1,v2) => St.mk (Zz [(7,Zl v0),(8,Zl v1),(1,AV.fn 192),(0,X6 v2)]) (Zy [])
def YM (k:Nat) (L1:Q9):Q9
 | (v0,v1,v2) => bif decide (v1 < v0) then bif decide (0 ≤ v1 ∧ v1 < UI v2.length) then (Zub k (v2.getD v1.toNat 0,())).bind fun y => bif y.1 then some (v1,()) else L1 (v0,Jx.wrap (v1 + 1),v2) else none else some ((-1:Int),())
def Zhb (k:Nat):Q9:=Zn (fun L1 => YM k L1) k
noncomputable def ZkH (k:Nat) (n:Nat):=XF (Zrs k) Tryz.f146 Zhc Zw [1,0,1,0] [] n Zym (A:=Xt)
def Zih (k:Nat) (L1:Q9):List Int × Unit × Unit → Option (Int × Unit)
 | (a0,(),()) => L1 (UI a0.length,(0:Int),a0)
def ZkG (k:Nat):=Zih k (Zhb k)
theorem Zrt (k:Nat):∀ n,ZkH k n = Zn (fun L1 => YM k L1) n:=Qs
noncomputable def ZAQ (k:Nat):ZT k:=ZA 146 Tryz.f146 (Zrs k) Zhc Zw ZkG (A:=Xt) (h:=fun x => by show _ = Zih k (Zhb k) x; rw [show Zhb k = ZkH k k from (Zrt k k).symm]; kernel_rfl)
def Zcp (k:Nat):List Int × Unit × Unit → Option (Bool × Unit)
 | (a0,(),()) => (ZkG k (a0,(),())).bind fun y => some (decide ((0:Int) ≤ y.1),())
def Zks (k:Nat):=Zcp k
noncomputable def ZAe (k:Nat):ZT k:=ZA 104 Tryz.f104 [ZAQ k] Zhc Qz Zks
abbrev ZE1:List Kd:=[.view ZeK]
def Zhn (k:Nat):(List Int × Int × Unit) × Unit → Option (Int × Unit)
 | ((a0,a1,()),()) => bif decide ((8:Int) < UI a0.length) then some (2,()) else bif decide (a1 < 0) then some (2,()) else bif decide ((15:Int) < a1) then some (2,()) else (Zks k (a0,(),())).bind fun y => bif y.1 then some (2,()) else some (0,())
def Zo2 (k:Nat):=Zhn k
noncomputable def ZBf (k:Nat):ZT k:=ZA 172 Tryz.f172 [ZAe k] ZE1 Zw Zo2
abbrev ZdO:List Kd:=[.view ZeK,.view (.sl (.int .i64))]
noncomputable def ZBi (k:Nat):List (ZT k):=[]
def ZBg:Nat → Ann:=fun id => bif Ja id 3 then ⟨[10,11,9,5,1,2],[]⟩ else ⟨[],[]⟩
abbrev ZvR:=Int × Int × List Int × Int × List Int × List Int × Int
abbrev Zjs:=ZvR → Option (Int × Unit)
def ZE2:ZvR → St
 | (v0,v1,v2,v3,v4,v5,v6) => St.mk (Zz [(10,Zl v0),(11,Zl v1),(9,X6 v2),(5,Zl v3),(1,X6 v4),(2,AV.bx 8192 0)]) (Zy [(8192,WB [X6 v5,Zl v6])])
def Za1 (k:Nat) (L1:Zjs):Zjs
 | (v0,v1,v2,v3,v4,v5,v6) => bif decide (v1 < v0) then bif decide (0 ≤ v1 ∧ v1 < UI v2.length) then bif decide (0 ≤ Jx.wrap (Jx.wrap (UI v4.length - (1:Int)) - v1) ∧ Jx.wrap (Jx.wrap (UI v4.length - (1:Int)) - v1) < UI v4.length) then L1 (v0,Jx.wrap (v1 + 1),v2,Jx.wrap (v3 + Jx.wrap (v2.getD v1.toNat 0 * v4.getD (Jx.wrap (Jx.wrap (UI v4.length - (1:Int)) - v1)).toNat 0)),v4,v5,v6) else none else none else bif decide (0 ≤ v6) then some (v3.fdiv ((2:Int) ^ min v6.toNat 64),()) else none
def Zjt (k:Nat):Zjs:=Zn (fun L1 => Za1 k L1) k
noncomputable def ZrG (k:Nat) (n:Nat):=XF (ZBi k) Tryz.f173 ZdO Zw [1,1,0,1,0] [] n ZE2 (A:=ZBg)
def ZdP (k:Nat) (L1:Zjs):(List Int × Int × Unit) × List Int × Unit → Option (Int × Unit)
 | ((a0,a1,()),a2,()) => L1 (UI a0.length,(0:Int),a0,(0:Int),a2,a0,a1)
def Zo3 (k:Nat):=ZdP k (Zjt k)
theorem ZyE (k:Nat):∀ n,ZrG k n = Zn (fun L1 => Za1 k L1) n:=Qs
noncomputable def ZBh (k:Nat):ZT k:=ZA 173 Tryz.f173 (ZBi k) ZdO Zw Zo3 (A:=ZBg) (h:=fun x => by show _ = ZdP k (Zjt k) x; rw [show Zjt k = ZrG k k from (ZyE k k).symm]; kernel_rfl)
abbrev X9:Kd:=.tup [.view (.sl (.int .i64)),.view (.int .i64)]
noncomputable def ZAU (k:Nat):List (ZT k):=[Zkq k,ZtU k,ZBf k,ZBh k]
def ZAS:Nat → Ann:=fun id => bif Ja id 9 then ⟨[7,1,2,6],[.slot 6 ((Ty.int Jx))]⟩ else ⟨[],[]⟩
abbrev ZvG:=Int × List Int × List Int × Int × List Int
abbrev Zji:=ZvG → Option ((List Int × Int × Unit) × Unit)
def ZEQ:ZvG → St
 | (v0,v1,v2,v3,v4) => St.mk (Zz [(7,Zl v0),(1,X6 v1),(2,AV.bx 8192 0),(6,AV.own 8193)]) (Zy [(8192,WB [X6 v2,Zl v3]),(8193,rsA v4 false)])
def ZaT (k:Nat) (L1:Zji):Zji
 | (v0,v1,v2,v3,v4) => bif decide (v0 < UI v1.length) then bif decide (0 ≤ v0 ∧ v0 < UI v1.length) then bif decide ((0:Int) ≤ 0 ∧ (0:Int) ≤ v0 ∧ v0 ≤ UI v1.length) then (Zo3 k ((v2,v3,()),UO 0 (UN v0.toNat v1),())).bind fun y => (ZkI k (Jx.wrap (v1.getD v0.toNat 0 - y.1),())).bind fun y_1 => bif y_1.1 then some (([],12,()),()) else bif decide (v4.length + [Jx.wrap (v1.getD v0.toNat 0 - y.1)].length < 2147483648) then L1 (Jx.wrap (v0 + 1),v1,v2,v3,v4 ++ [Jx.wrap (v1.getD v0.toNat 0 - y.1)]) else none else none else none else some ((v4,0,()),())
def Zjj (k:Nat):Zji:=Zn (fun L1 => ZaT k L1) k
noncomputable def Zru (k:Nat) (n:Nat):=XF (ZAU k) Tryz.f148 ZdO X9 [1,1,1,0,1,0] [] n ZEQ (A:=ZAS)
def ZdJ (k:Nat) (L1:Zji):(List Int × Int × Unit) × List Int × Unit → Option ((List Int × Int × Unit) × Unit)
 | ((a0,a1,()),a2,()) => (Zo2 k ((a0,a1,()),())).bind fun y => bif y.1 != 0 then some (([],2,()),()) else bif decide (UI a2.length < UI a0.length) then some (([],1,()),()) else (ZaE k (a2,(),())).bind fun y => bif y.1 then some (([],12,()),()) else L1 (UI a0.length,a2,a0,a1,[])
def ZoP (k:Nat):=ZdJ k (Zjj k)
theorem Zyn (k:Nat):∀ n,Zru k n = Zn (fun L1 => ZaT k L1) n:=Qs
noncomputable def ZAT (k:Nat):ZT k:=ZA 148 Tryz.f148 (ZAU k) ZdO X9 ZoP (A:=ZAS) (h:=fun x => by show _ = ZdJ k (Zjj k) x; rw [show Zjj k = Zru k k from (Zyn k k).symm]; kernel_rfl)
def Zhj (k:Nat):Int × Unit → Option (Bool × Unit)
 | (a0,()) => bif decide (a0 ≤ -2147483648) then some (true,()) else some (decide (2147483648 ≤ a0),())
def ZtW (k:Nat):=Zhj k
noncomputable def ZHo (k:Nat):ZT k:=ZA 155 Tryz.f155 [] QG Qz ZtW
abbrev Zha:List Kd:=[.view (.sl (.int .i64)),.fn 155]
noncomputable def Zrq (k:Nat):List (ZT k):=[ZHo k]
def Zyl:ZdI → St
 | (v0,v1,v2) => St.mk (Zz [(7,Zl v0),(8,Zl v1),(1,AV.fn 155),(0,X6 v2)]) (Zy [])
def YL (k:Nat) (L1:Q9):Q9
 | (v0,v1,v2) => bif decide (v1 < v0) then bif decide (0 ≤ v1 ∧ v1 < UI v2.length) then (ZtW k (v2.getD v1.toNat 0,())).bind fun y => bif y.1 then some (v1,()) else L1 (v0,Jx.wrap (v1 + 1),v2) else none else some ((-1:Int),())
def Zg9 (k:Nat):Q9:=Zn (fun L1 => YL k L1) k
noncomputable def ZkF (k:Nat) (n:Nat):=XF (Zrq k) Tryz.f146 Zha Zw [1,0,1,0] [] n Zyl (A:=Xt)
def Zig (k:Nat) (L1:Q9):List Int × Unit × Unit → Option (Int × Unit)
 | (a0,(),()) => L1 (UI a0.length,(0:Int),a0)
def ZkE (k:Nat):=Zig k (Zg9 k)
theorem Zrr (k:Nat):∀ n,ZkF k n = Zn (fun L1 => YL k L1) n:=Qs
noncomputable def ZAP (k:Nat):ZT k:=ZA 146 Tryz.f146 (Zrq k) Zha Zw ZkE (A:=Xt) (h:=fun x => by show _ = Zig k (Zg9 k) x; rw [show Zg9 k = ZkF k k from (Zrr k k).symm]; kernel_rfl)
def Zco (k:Nat):List Int × Unit × Unit → Option (Bool × Unit)
 | (a0,(),()) => (ZkE k (a0,(),())).bind fun y => some (decide ((0:Int) ≤ y.1),())
def Zkr (k:Nat):=Zco k
noncomputable def ZAd (k:Nat):ZT k:=ZA 104 Tryz.f104 [ZAP k] Zha Qz Zkr
def Zhi (k:Nat):Int × Int × Unit → Option (Bool × Unit)
 | (a0,a1,()) => bif decide (1 ≤ a0) then bif decide (a0 ≤ 512) then bif decide (0 ≤ a1) then some (decide (a1 ≤ if a0 < 8 then a0 else (8:Int)),()) else some (false,()) else some (false,()) else some (false,())
def ZoV (k:Nat):=Zhi k
noncomputable def ZA7 (k:Nat):ZT k:=ZA 154 Tryz.f154 [] Zul Qz ZoV
def ZgP (k:Nat):List Int × Int × Unit → Option (Int × Unit)
 | (a0,a1,()) => bif decide (a1 < 0) then some (1,()) else bif decide ((8:Int) < a1) then some (1,()) else (ZoV k (Jx.wrap (UI a0.length + a1),a1,())).bind fun y => bif !y.1 then some (1,()) else (Zkr k (a0,(),())).bind fun y => bif y.1 then some (12,()) else some (0,())
def ZoG (k:Nat):=ZgP k
noncomputable def ZAm (k:Nat):ZT k:=ZA 113 Tryz.f113 [ZAd k,ZA7 k] Wl Zw ZoG
abbrev Zvt:List Kd:=[.view (.sl (.int .i64)),.view (.int .i64),.view (.int .i64)]
abbrev Zvu:Kd:=.view (.sl (.sl (.int .i64)))
noncomputable def ZAq (k:Nat):List (ZT k):=[]
def ZAo:Nat → Ann:=fun id => bif Ja id 4 then ⟨[8,2,9,7],[]⟩ else ⟨[],[]⟩
abbrev Zvs:=Int × List Int × Int × List (List Int)
abbrev Zi1:=Zvs → Option (List (List Int) × Unit)
def ZEG:Zvs → St
 | (v0,v1,v2,v3) => St.mk (Zz [(8,AV.own 8192),(2,Zl v0),(9,X6 v1),(7,Zl v2)]) (Zy [(8192,RS.live (Res.arr (Ty.int Jx).sl v3 false))])
def ZaK (k:Nat) (L1:Zi1):Zi1
 | (v0,v1,v2,v3) => bif decide (0 ≤ v0) then bif decide (UI v3.length < Jx.wrap ((1:Int) * (2:Int) ^ min v0.toNat 64)) then bif decide ((0:Int) ≤ 0 ∧ (0:Int) ≤ v2 ∧ v2 ≤ UI v1.length) then bif decide (v3.length + [UO 0 (UN v2.toNat v1)].length < 2147483648) then bif decide (0 ≤ v2 ∧ v2 ≤ UI v1.length ∧ UI v1.length ≤ UI v1.length) then L1 (v0,UO v2.toNat (UN (UI v1.length).toNat v1),v2,v3 ++ [UO 0 (UN v2.toNat v1)]) else none else none else none else some (v3,()) else none
def Zi2 (k:Nat):Zi1:=Zn (fun L1 => ZaK k L1) k
noncomputable def Zq9 (k:Nat) (n:Nat):=XF (ZAq k) Tryz.f115 Zvt Zvu [1,1,1,0,1,0] [] n ZEG (A:=ZAo)
def Zdx (k:Nat) (L1:Zi1):List Int × Int × Int × Unit → Option (List (List Int) × Unit)
 | (a0,a1,a2,()) => bif decide (0 ≤ a2) then bif decide ((0:Int) ≤ 0 ∧ (0:Int) ≤ Jx.wrap ((Jx.wrap (UI a0.length + a1)).fdiv ((2:Int) ^ min a2.toNat 64) - a1) ∧ Jx.wrap ((Jx.wrap (UI a0.length + a1)).fdiv ((2:Int) ^ min a2.toNat 64) - a1) ≤ UI a0.length) then bif decide (0 ≤ Jx.wrap ((Jx.wrap (UI a0.length + a1)).fdiv ((2:Int) ^ min a2.toNat 64) - a1) ∧ Jx.wrap ((Jx.wrap (UI a0.length + a1)).fdiv ((2:Int) ^ min a2.toNat 64) - a1) ≤ UI a0.length ∧ UI a0.length ≤ UI a0.length) then L1 (a2,UO (Jx.wrap ((Jx.wrap (UI a0.length + a1)).fdiv ((2:Int) ^ min a2.toNat 64) - a1)).toNat (UN (UI a0.length).toNat a0),(Jx.wrap (UI a0.length + a1)).fdiv ((2:Int) ^ min a2.toNat 64),[UO 0 (UN (Jx.wrap ((Jx.wrap (UI a0.length + a1)).fdiv ((2:Int) ^ min a2.toNat 64) - a1)).toNat a0)]) else none else none else none
def ZoK (k:Nat):=Zdx k (Zi2 k)
theorem ZxS (k:Nat):∀ n,Zq9 k n = Zn (fun L1 => ZaK k L1) n:=Qs
set_option maxHeartbeats 1000000 in
noncomputable def ZAp (k:Nat):ZT k:=ZA 115 Tryz.f115 (ZAq k) Zvt Zvu ZoK (A:=ZAo) (h:=fun x => by show _ = Zdx k (Zi2 k) x; rw [show Zi2 k = Zq9 k k from (ZxS k k).symm]; kernel_rfl)
def ZxV (k:Nat):Int × Unit → Option (Int × Unit)
 | (a0,()) => some (Jx.wrap ((4:Int) + a0),())
def ZeB (k:Nat):=ZxV k
noncomputable def ZAr (k:Nat):ZT k:=ZA 116 Tryz.f116 [] QG Zw ZeB
abbrev ZoW:List Kd:=[.view (.int .i64),.view (.int .i64),.view (.int .i64)]
def Zhk (k:Nat):Int × Int × Int × Unit → Option (Bool × Unit)
 | (a0,a1,a2,()) => bif decide (0 ≤ a2) then bif Jx.wrap (UI (UJ 64 a0 &&& UJ 64 (Jx.wrap (Jx.wrap ((1:Int) * (2:Int) ^ min a2.toNat 64) - (1:Int)))).toNat) == 0 then bif decide (0 ≤ a2) then some (decide (a1 ≤ a0.fdiv ((2:Int) ^ min a2.toNat 64)),()) else none else some (false,()) else none
def ZeF (k:Nat):=Zhk k
noncomputable def ZA8 (k:Nat):ZT k:=ZA 156 Tryz.f156 [] ZoW Qz ZeF
def ZxX (k:Nat):Int × Unit → Option (Int × Unit)
 | (a0,()) => (ZeB k (a0,())).bind fun y => bif decide ((0:Int) ≤ y.1) then some (Jx.wrap (Jx.wrap ((1:Int) * (2:Int) ^ min (UT y.1) (64:Nat)) - (1:Int)),()) else none
def ZeD (k:Nat):=ZxX k
noncomputable def ZG7 (k:Nat):ZT k:=ZA 117 Tryz.f117 [ZAr k] QG Zw ZeD
def ZgT (k:Nat):Int × Unit → Option ((Int × Int × Unit) × Unit)
 | (a0,()) => bif decide (a0 < -1099511627776) then some ((0,12,()),()) else bif decide ((1099511627776:Int) < a0) then some ((0,12,()),()) else some ((Jx.wrap (UI (UJ 64 (Jx.wrap (a0 * (2:Int))) ^^^ UJ 64 (a0.fdiv (9223372036854775808:Int))).toNat),0,()),())
def ZgR (k:Nat):=ZgT k
noncomputable def ZG8 (k:Nat):ZT k:=ZA 118 Tryz.f118 [] QG WS ZgR
def Zo6 (k:Nat):Int × Unit → Option (Int × Unit):=fun x => ZDm x
def ZIp:Go.Shelf.Ren:=⟨fun n => match n with | 129 => 194 | _ => 0,fun n => match n with | 0 => 0 | 3 => 3 | 4 => 4 | 5 => 5 | 9 => 9 | 46 => 114 | 53 => 49 | _ => 0,fun n => n⟩
set_option maxRecDepth 100000 in
theorem ZFj:Go.Proofs.Lays.n129 Tryz.prog ZIp:=by
 constructor <;> first | kernel_rfl | (intro w; rfl)
set_option maxRecDepth 100000 in
theorem ZBq (k:Nat):Ctr Tryz.prog k 194 (mk Zjh Zw Zo6):=Zy9 ZFj (fn:=Tryz.f194) (by kernel_rfl) (by kernel_rfl) (by kernel_rfl) (by kernel_rfl)
noncomputable def ZHJ (k:Nat):ZT k:=⟨(194,mk Zjh Zw Zo6),ZBq k⟩
def Zho (k:Nat):Int × Unit → Option (Int × Unit)
 | (a0,()) => (Zo6 k (UK.wrap (Jx.wrap (UI (UJ 64 a0 ^^^ UJ 64 (a0.fdiv (9223372036854775808:Int))).toNat)),())).bind fun y => some (Jx.wrap (y.1 + 1),())
def Zt5 (k:Nat):=Zho k
noncomputable def ZHz (k:Nat):ZT k:=ZA 182 Tryz.f182 [ZHJ k] QG Zw Zt5
def Zao (k:Nat):Int × Unit → Option (Int × Unit):=match k with | 0 => ZeD 0 | n + 1 => ZeD (n + 1)
theorem Zm9:Zao = ZeD:=by funext k; cases k <;> rfl
theorem ZxW (k:Nat):Ctr Tryz.prog k 117 (mk QG Zw Zao):=by rw [Zm9]; exact (ZG7 k).2
noncomputable def ZoM (k:Nat):ZT k:=⟨(117,mk QG Zw Zao),ZxW k⟩
def ZgS (k:Nat):Int × Unit → Option ((Int × Int × Unit) × Unit):=match k with | 0 => ZgR 0 | n + 1 => ZgR (n + 1)
theorem Zna:ZgS = ZgR:=by funext k; cases k <;> rfl
theorem ZxZ (k:Nat):Ctr Tryz.prog k 118 (mk QG WS ZgS):=by rw [Zna]; exact (ZG8 k).2
noncomputable def Zvv (k:Nat):ZT k:=⟨(118,mk QG WS ZgS),ZxZ k⟩
abbrev Zjq:Kd:=.tup [.view ZDP,.view .bool]
noncomputable def ZoY (k:Nat):List (ZT k):=[ZoM k,Zvv k,ZHz k]
noncomputable def ZoX:Nat → Ann:=fun id => bif Ja id 16 then ⟨[55,56,54,13,12,14,7,6,46,45,0,8,9,1,4],[]⟩ else bif Ja id 12 then ⟨[45,46,0,8,7,6,9,1,4],[]⟩ else bif Ja id 5 then ⟨[23,24,22,8,9,1,0,7,6,4],[]⟩ else ⟨[],[]⟩
abbrev ZvP:=Int × Int × Int × Int × Bool × Bool × Int × Int × List Int × Int × Int × List Int × Int × Int × Int × Int × Int × Int
abbrev Zjo:=ZvP → Option (((Int × Int × Int × Unit) × Bool × Unit) × Unit)
abbrev ZvO:=Int × Int × List Int × Bool × Int × Int × List Int × Int × Int × Int × Int × Int × Int
abbrev ZdL:=ZvO → Option (((Int × Int × Int × Unit) × Bool × Unit) × Unit)
abbrev ZvN:=Int × Int × List Int × Int × Int × List Int × Bool × List Int × Int × Int × Int × Int × Int × Int
abbrev Zjn:=ZvN → Option (((Int × Int × Int × Unit) × Bool × Unit) × Unit)
noncomputable def ZEW:ZvP → St
 | (v0,v1,v2,v3,v4,v5,v6,v7,v8,v9,v10,v11,v12,v13,v14,v15,v16,v17) => St.mk (Zz [(55,Zl v0),(56,Zl v1),(54,AV.own 8192),(13,Zl v2),(12,Zl v3),(14,avB v4),(7,avB v5),(6,AV.bx 8193 0),(46,Zl v6),(45,Zl v7),(0,X6 v8),(8,AV.own 8192),(9,Zl v9),(1,Zl v10),(4,AV.bx 8194 0)]) (Zy [(8192,rsA v11 false),(8193,WB [Zl v12,Zl v13,Zl v14]),(8194,WB [Zl v15,Zl v16,Zl v17])])
noncomputable def ZaY (k:Nat) (L2:ZdL) (L3:Zjo):Zjo
 | (v0,v1,v2,v3,v4,v5,v6,v7,v8,v9,v10,v11,v12,v13,v14,v15,v16,v17) => bif decide (v1 < v0) then bif decide (0 ≤ v1 ∧ v1 < UI v11.length) then bif decide (v1.toNat < v11.length) then bif decide (0 ≤ v3) then bif v4 then L3 (v0,Jx.wrap (v1 + 1),Jx.wrap (v2 + UP (v11.getD v1.toNat 0) ((2:Int) ^ min v3.toNat 64)),v3,true,v5,v6,v7,v8,v9,v10,v11,v12,v13,v14,v15,v16,v17) else bif decide (0 ≤ v3) then L3 (v0,Jx.wrap (v1 + 1),Jx.wrap (v2 + UP (v11.getD v1.toNat 0) ((2:Int) ^ min v3.toNat 64)),v3,decide ((65536:Int) < UP (v11.getD v1.toNat 0) ((2:Int) ^ min v3.toNat 64)),v5,v6,v7,v8,v9,v10,v11,v12,v13,v14,v15,v16,v17) else none else none else none else none else bif !v4 then bif !v5 then L2 (v7,Jx.wrap (v6 + 1),v8,true,v9,v10,v11,v3,(0:Int),v2,v15,v16,v17) else bif decide (v2 < v14) then L2 (v7,Jx.wrap (v6 + 1),v8,true,v9,v10,v11,v3,(0:Int),v2,v15,v16,v17) else L2 (v7,Jx.wrap (v6 + 1),v8,v5,v9,v10,v11,v12,v13,v14,v15,v16,v17) else L2 (v7,Jx.wrap (v6 + 1),v8,v5,v9,v10,v11,v12,v13,v14,v15,v16,v17)
noncomputable def Zfx (k:Nat) (L2:ZdL):Zjo:=Zn (fun L3 => ZaY k L2 L3) k
noncomputable def ZrB (k:Nat) (n2:Nat) (n:Nat):=XF (ZoY k) Tryz.f157 Wl Zjq [1,1,1,1,1,0,1,0,0,1,1,0,0,1,1,0,1,0] [n2] n ZEW (A:=ZoX)
noncomputable def ZEV:ZvO → St
 | (v0,v1,v2,v3,v4,v5,v6,v7,v8,v9,v10,v11,v12) => St.mk (Zz [(45,Zl v0),(46,Zl v1),(0,X6 v2),(8,AV.own 8192),(7,avB v3),(6,AV.bx 8193 0),(9,Zl v4),(1,Zl v5),(4,AV.bx 8194 0)]) (Zy [(8192,rsA v6 false),(8193,WB [Zl v7,Zl v8,Zl v9]),(8194,WB [Zl v10,Zl v11,Zl v12])])
noncomputable def ZaX (k:Nat) (L3:Zjo) (L2:ZdL):ZdL
 | (v0,v1,v2,v3,v4,v5,v6,v7,v8,v9,v10,v11,v12) => bif decide (v1 < v0) then L3 (UI v6.length,(0:Int),Jx.wrap (Jx.wrap (v1 + 1) * UI v2.length),v1,false,v3,v1,v0,v2,v4,v5,v6,v7,v8,v9,v10,v11,v12) else bif decide (v4 ≤ 31) then bif !v3 then (Zao k (v5,())).bind fun y => some (((y.1,v4,Jx.wrap ((5:Int) + Jx.wrap (v4 * UI v2.length)),()),true,()),()) else bif decide (Jx.wrap ((5:Int) + Jx.wrap (v4 * UI v2.length)) < v9) then (Zao k (v5,())).bind fun y => some (((y.1,v4,Jx.wrap ((5:Int) + Jx.wrap (v4 * UI v2.length)),()),true,()),()) else some (((v7,v8,v9,()),v3,()),()) else some (((v7,v8,v9,()),v3,()),())
noncomputable def Zfw (k:Nat):ZdL:=Zn (fun L2 => ZaX k (Zfx k L2) L2) k
noncomputable def Zfy (k:Nat) (n:Nat):=XF (ZoY k) Tryz.f157 Wl Zjq [1,1,1,1,1,0,1,0] [] n ZEV (A:=ZoX)
noncomputable def ZEU:ZvN → St
 | (v0,v1,v2,v3,v4,v5,v6,v7,v8,v9,v10,v11,v12,v13) => St.mk (Zz [(23,Zl v0),(24,Zl v1),(22,X6 v2),(8,AV.own 8192),(9,Zl v3),(1,Zl v4),(0,X6 v5),(7,avB v6),(6,AV.bx 8193 0),(4,AV.bx 8194 0)]) (Zy [(8192,rsA v7 false),(8193,WB [Zl v8,Zl v9,Zl v10]),(8194,WB [Zl v11,Zl v12,Zl v13])])
noncomputable def ZaW (k:Nat) (L2:ZdL) (L1:Zjn):Zjn
 | (v0,v1,v2,v3,v4,v5,v6,v7,v8,v9,v10,v11,v12,v13) => bif decide (v1 < v0) then bif decide (0 ≤ v1 ∧ v1 < UI v2.length) then (ZgS k (v2.getD v1.toNat 0,())).bind fun y => bif decide (0 ≤ v1 ∧ v1 < UI v7.length) then bif decide (v1.toNat < v7.length) then bif v2.getD v1.toNat 0 != (0:Int) then (Zt5 k (v2.getD v1.toNat 0,())).bind fun y_1 => L1 (v0,Jx.wrap (v1 + 1),v2,if v3 < y_1.1 then y_1.1 else v3,v4,v5,v6,v7.set v1.toNat y.1.1,v8,v9,v10,v11,v12,v13) else L1 (v0,Jx.wrap (v1 + 1),v2,v3,v4,v5,v6,v7.set v1.toNat y.1.1,v8,v9,v10,v11,v12,v13) else none else none else none else (Zao k (v4,())).bind fun y => L2 (y.1,(0:Int),v5,v6,v3,v4,v7,v8,v9,v10,v11,v12,v13)
noncomputable def Zjp (k:Nat):Zjn:=Zn (fun L1 => ZaW k (Zfw k) L1) k
noncomputable def ZrA (k:Nat) (n:Nat):=XF (ZoY k) Tryz.f157 Wl Zjq [1,1,1,1,0,1,0] [] n ZEU (A:=ZoX)
noncomputable def ZdM (k:Nat) (L1:Zjn):List Int × Int × Unit → Option (((Int × Int × Int × Unit) × Bool × Unit) × Unit)
 | (a0,a1,()) => bif decide ((0:Int) ≤ UI a0.length ∧ UI a0.length ≤ UI a0.length ∧ UI a0.length < (4294967296:Int)) then L1 (UI a0.length,(0:Int),a0,(0:Int),a1,a0,false,Jd (UI a0.length).toNat (0:Int),(0:Int),(0:Int),(0:Int),(0:Int),(0:Int),(0:Int)) else none
noncomputable def ZtX (k:Nat):=ZdM k (Zjp k)
theorem Zyw (k:Nat) (n2:Nat):∀ n,ZrB k n2 n = Zn (fun L3 => ZaY k (Zfy k n2) L3) n:=Qs
theorem Zyv (k:Nat):∀ n,Zfy k n = Zn (fun L2 => ZaX k (Zfx k L2) L2) n:=Qs (fun n v => by rw [show (Zfx k (Zfy k n)) = ZrB k n k from (Zyw k n k).symm]; kernel_rfl)
theorem Zyu (k:Nat):∀ n,ZrA k n = Zn (fun L1 => ZaW k (Zfw k) L1) n:=Qs (fun n v => by rw [show (Zfw k) = Zfy k k from (Zyv k k).symm]; kernel_rfl)
set_option maxHeartbeats 1000000 in
noncomputable def ZHp (k:Nat):ZT k:=ZA 157 Tryz.f157 (ZoY k) Wl Zjq ZtX (A:=ZoX) (h:=fun x => by show _ = ZdM k (Zjp k) x; rw [show Zjp k = ZrA k k from (Zyu k k).symm]; kernel_rfl)
def ZeC (k:Nat):Int × Unit → Option (Int × Unit):=match k with | 0 => ZeB 0 | n + 1 => ZeB (n + 1)
theorem Zm8:ZeC = ZeB:=by funext k; cases k <;> rfl
theorem ZxU (k:Nat):Ctr Tryz.prog k 116 (mk QG Zw ZeC):=by rw [Zm8]; exact (ZAr k).2
noncomputable def ZoL (k:Nat):ZT k:=⟨(116,mk QG Zw ZeC),ZxU k⟩
def ZkK (k:Nat):Int × Int × Int × Unit → Option (Bool × Unit):=match k with | 0 => ZeF 0 | n + 1 => ZeF (n + 1)
theorem Znj:ZkK = ZeF:=by funext k; cases k <;> rfl
theorem Zyt (k:Nat):Ctr Tryz.prog k 156 (mk ZoW Qz ZkK):=by rw [Znj]; exact (ZA8 k).2
noncomputable def ZET (k:Nat):ZT k:=⟨(156,mk ZoW Qz ZkK),Zyt k⟩
abbrev Zi0:Kd:=.view ZIB
noncomputable def ZoJ (k:Nat):List (ZT k):=[ZAp k,ZoL k,ZET k,ZHp k]
noncomputable def ZoH:Nat → Ann:=fun id => bif Ja id 11 then ⟨[37,38,36,7,5,8,6,0,1,4,9],[.cell 8 2 (((Ty.int Jx).pair ((Ty.int Jx).pair ((Ty.int Jx).pair Ty.unit))))]⟩ else bif Ja id 7 then ⟨[7,6,0,1,5,4],[.cell 5 2 (((Ty.int Jx).pair ((Ty.int Jx).pair ((Ty.int Jx).pair Ty.unit))))]⟩ else bif Ja id 3 then ⟨[6,0,1,5,4],[.cell 5 2 (((Ty.int Jx).pair ((Ty.int Jx).pair ((Ty.int Jx).pair Ty.unit))))]⟩ else ⟨[],[]⟩
abbrev Zvr:=Int × Int × List (List Int) × Int × Int × List Int × Int × Bool × Int × Int × Int × List (Int × Int × Int × Unit) × Int × Int × Int × List (Int × Int × Int × Unit) × Int × Int × Int
abbrev ZiY:=Zvr → Option ((Int × Int × List (Int × Int × Int × Unit) × Int × Unit) × Unit)
abbrev Zvq:=Int × Int × List Int × Int × Int × Int × Int × List (Int × Int × Int × Unit) × Int × Int × Int
abbrev Zdv:=Zvq → Option ((Int × Int × List (Int × Int × Int × Unit) × Int × Unit) × Unit)
abbrev Zvp:=Int × List Int × Int × Int × Int × Int × List (Int × Int × Int × Unit) × Int × Int × Int
abbrev KZ:=Zvp → Option ((Int × Int × List (Int × Int × Int × Unit) × Int × Unit) × Unit)
noncomputable def ZEF:Zvr → St
 | (v0,v1,v2,v3,v4,v5,v6,v7,v8,v9,v10,v11,v12,v13,v14,v15,v16,v17,v18) => St.mk (Zz [(37,Zl v0),(38,Zl v1),(36,AV.val (PV.sl (Ty.int Jx).sl v2)),(7,Zl v3),(5,AV.bx 8192 0),(8,AV.bx 8194 0),(6,Zl v4),(0,X6 v5),(1,Zl v6),(4,AV.bx 8196 0),(9,avB v7)]) (Zy [(8192,WB [Zl v8,Zl v9,AV.own 8193,Zl v10]),(8193,RS.live (Res.arr ((Ty.int Jx).pair ((Ty.int Jx).pair ((Ty.int Jx).pair Ty.unit))) v11 false)),(8194,WB [Zl v12,Zl v13,AV.own 8195,Zl v14]),(8195,RS.live (Res.arr ((Ty.int Jx).pair ((Ty.int Jx).pair ((Ty.int Jx).pair Ty.unit))) v15 false)),(8196,WB [Zl v16,Zl v17,AV.val (PV.v (V5 none (0:Nat) (0:Nat))),Zl v18])])
noncomputable def ZaJ (k:Nat) (L1:KZ) (L2:Zdv) (L3:ZiY):ZiY
 | (v0,v1,v2,v3,v4,v5,v6,v7,v8,v9,v10,v11,v12,v13,v14,v15,v16,v17,v18) => bif decide (v1 < v0) then bif decide (0 ≤ v1 ∧ v1 < UI v2.length) then (ZtX k (v2.getD v1.toNat [],v3,())).bind fun y => bif !y.1.2.1 then bif y.1.2.1 then bif decide (v10 < 0) then L2 (Jx.wrap (v3 + 1),v4,v5,v6,v12,v13,v14,v15,v16,v17,v18) else bif decide (v14 < v10) then L2 (Jx.wrap (v3 + 1),v4,v5,v6,v12,v13,v14,v15,v16,v17,v18) else L2 (Jx.wrap (v3 + 1),v4,v5,v6,v8,v9,v10,v11,v16,v17,v18) else L2 (Jx.wrap (v3 + 1),v4,v5,v6,v8,v9,v10,v11,v16,v17,v18) else bif decide (v15.length + [(y.1.1.1,y.1.1.2.1,y.1.1.2.2.1,())].length < 2147483648) then (ZeC k (v3,())).bind fun y_1 => L3 (v0,Jx.wrap (v1 + 1),v2,v3,v4,v5,v6,y.1.2.1,v8,v9,v10,v11,v12,v13,Jx.wrap (v14 + Jx.wrap (y_1.1 + y.1.1.2.2.1)),v15 ++ [(y.1.1.1,y.1.1.2.1,y.1.1.2.2.1,())],v16,v17,v18) else none else none else bif v7 then bif decide (v10 < 0) then L2 (Jx.wrap (v3 + 1),v4,v5,v6,v12,v13,v14,v15,v16,v17,v18) else bif decide (v14 < v10) then L2 (Jx.wrap (v3 + 1),v4,v5,v6,v12,v13,v14,v15,v16,v17,v18) else L2 (Jx.wrap (v3 + 1),v4,v5,v6,v8,v9,v10,v11,v16,v17,v18) else L2 (Jx.wrap (v3 + 1),v4,v5,v6,v8,v9,v10,v11,v16,v17,v18)
noncomputable def ZbE (k:Nat) (L1:KZ) (L2:Zdv):ZiY:=Zn (fun L3 => ZaJ k L1 L2 L3) k
noncomputable def Zq8 (k:Nat) (n1 n2:Nat) (n:Nat):=XF (ZoJ k) Tryz.f114 Wl Zi0 [1,1,0,1,0,0,1,0,0,1,1,0,0,1,0,0,1,0,1,0] [n1,n2] n ZEF (A:=ZoH)
noncomputable def ZEE:Zvq → St
 | (v0,v1,v2,v3,v4,v5,v6,v7,v8,v9,v10) => St.mk (Zz [(7,Zl v0),(6,Zl v1),(0,X6 v2),(1,Zl v3),(5,AV.bx 8192 0),(4,AV.bx 8194 0)]) (Zy [(8192,WB [Zl v4,Zl v5,AV.own 8193,Zl v6]),(8193,RS.live (Res.arr ((Ty.int Jx).pair ((Ty.int Jx).pair ((Ty.int Jx).pair Ty.unit))) v7 false)),(8194,WB [Zl v8,Zl v9,AV.val (PV.v (V5 none (0:Nat) (0:Nat))),Zl v10])])
noncomputable def Yp (k:Nat) (L3:ZiY) (L1:KZ) (L2:Zdv):Zdv
 | (v0,v1,v2,v3,v4,v5,v6,v7,v8,v9,v10) => bif decide (v0 < 2) then (ZoK k (v2,v3,v1,())).bind fun y => L3 (UI (UL y.1),(0:Int),y.1,v0,v1,v2,v3,true,v4,v5,v6,v7,v0,v1,(6:Int),[],v8,v9,v10) else L1 (Jx.wrap (v1 + 1),v2,v3,v4,v5,v6,v7,v8,v9,v10)
noncomputable def Zft (k:Nat) (L1:KZ):Zdv:=Zn (fun L2 => Yp k (ZbE k L1 L2) L1 L2) k
noncomputable def Zfu (k:Nat) (n1:Nat) (n:Nat):=XF (ZoJ k) Tryz.f114 Wl Zi0 [1,1,0,1,0,0,1,0,0,1,1,0] [n1] n ZEE (A:=ZoH)
noncomputable def ZED:Zvp → St
 | (v0,v1,v2,v3,v4,v5,v6,v7,v8,v9) => St.mk (Zz [(6,Zl v0),(0,X6 v1),(1,Zl v2),(5,AV.bx 8192 0),(4,AV.bx 8194 0)]) (Zy [(8192,WB [Zl v3,Zl v4,AV.own 8193,Zl v5]),(8193,RS.live (Res.arr ((Ty.int Jx).pair ((Ty.int Jx).pair ((Ty.int Jx).pair Ty.unit))) v6 false)),(8194,WB [Zl v7,Zl v8,AV.val (PV.v (V5 none (0:Nat) (0:Nat))),Zl v9])])
noncomputable def ZaI (k:Nat) (L2:Zdv) (L1:KZ):KZ
 | (v0,v1,v2,v3,v4,v5,v6,v7,v8,v9) => bif decide (v0 ≤ 4) then (ZkK k (Jx.wrap (UI v1.length + v2),v2,v0,())).bind fun y => bif !y.1 then L1 (Jx.wrap (v0 + 1),v1,v2,v3,v4,v5,v6,v7,v8,v9) else L2 (0,v0,v1,v2,v3,v4,v5,v6,v7,v8,v9) else some ((v3,v4,v6,v5,()),())
noncomputable def ZiZ (k:Nat):KZ:=Zn (fun L1 => ZaI k (Zft k L1) L1) k
noncomputable def Kw (k:Nat) (n:Nat):=XF (ZoJ k) Tryz.f114 Wl Zi0 [1,1,0,1,0] [] n ZED (A:=ZoH)
noncomputable def Zdw (k:Nat) (L1:KZ):List Int × Int × Unit → Option ((Int × Int × List (Int × Int × Int × Unit) × Int × Unit) × Unit)
 | (a0,a1,()) => L1 (0,a0,a1,(0:Int),(0:Int),(-1:Int),[],(0:Int),(0:Int),(0:Int))
noncomputable def ZoI (k:Nat):=Zdw k (ZiZ k)
theorem ZxR (k:Nat) (n1 n2:Nat):∀ n,Zq8 k n1 n2 n = Zn (fun L3 => ZaJ k (Kw k n1) (Zfu k n1 n2) L3) n:=Qs
theorem ZxQ (k:Nat) (n1:Nat):∀ n,Zfu k n1 n = Zn (fun L2 => Yp k (ZbE k (Kw k n1) L2) (Kw k n1) L2) n:=Qs (fun n v => by rw [show (ZbE k (Kw k n1) (Zfu k n1 n)) = Zq8 k n1 n k from (ZxR k n1 n k).symm]; kernel_rfl)
theorem ZxP (k:Nat):∀ n,Kw k n = Zn (fun L1 => ZaI k (Zft k L1) L1) n:=Qs (fun n v => by rw [show (Zft k (Kw k n)) = Zfu k n k from (ZxQ k n k).symm]; kernel_rfl)
noncomputable def ZAn (k:Nat):ZT k:=ZA 114 Tryz.f114 (ZoJ k) Wl Zi0 ZoI (A:=ZoH) (h:=fun x => by show _ = Zdw k (ZiZ k) x; rw [show ZiZ k = Kw k k from (ZxP k k).symm]; kernel_rfl)
noncomputable def Zhd (k:Nat):List Int × Int × Unit → Option ((Int × Int × Unit) × Unit)
 | (a0,a1,()) => (ZoG k (a0,a1,())).bind fun y => bif y.1 != 0 then some ((0,y.1,()),()) else (ZoI k (a0,a1,())).bind fun y => some ((y.1.2.2.2.1,0,()),())
noncomputable def ZtT (k:Nat):=Zhd k
noncomputable def ZHj (k:Nat):ZT k:=ZA 149 Tryz.f149 [ZAm k,ZAn k] Wl WS ZtT
abbrev ZEy:List Kd:=[.view Zqn,.view (.int .i64),.view ZeK,.view (.int .i64)]
abbrev ZEz:Kd:=.tup [.view Zqn,.view .bool]
noncomputable def ZgN (k:Nat):(Int × Int × Int × List Int × (List Int × Int × Unit) × List Int × Int × Unit) × Int × (List Int × Int × Unit) × Int × Unit → Option (((Int × Int × Int × List Int × (List Int × Int × Unit) × List Int × Int × Unit) × Bool × Unit) × Unit)
 | ((a0,a1,a2,a3,(a4,a5,()),a6,a7,()),a8,(a9,a10,()),a11,()) => (ZoP k ((a9,a10,()),a3,())).bind fun y => bif y.1.2.1 != 0 then some (((a0,a1,a2,a3,(a4,a5,()),a6,a7,()),false,()),()) else (ZtT k (y.1.1,UI a9.length,())).bind fun y_1 => bif y_1.1.2.1 != 0 then some (((a0,a1,a2,a3,(a4,a5,()),a6,a7,()),false,()),()) else some (((a8,a1,a2,a3,(a9,a10,()),y.1.1,Jx.wrap (Jx.wrap (a11 + Jx.wrap (UI a9.length * a2)) + y_1.1.1),()),true,()),())
noncomputable def Zku (k:Nat):=ZgN k
set_option maxHeartbeats 1000000 in
noncomputable def ZG5 (k:Nat):ZT k:=ZA 110 Tryz.f110 [ZAT k,ZHj k] ZEy ZEz Zku
abbrev ZvL:Kd:=.view ZeK
noncomputable def ZA2 (k:Nat):List (ZT k):=[ZtL k]
def ZA1:Nat → Ann:=fun id => bif Ja id 4 then ⟨[19,20,18,3,2],[]⟩ else ⟨[],[]⟩
abbrev Zjk:=ZiV → Option ((List Int × Int × Unit) × Unit)
def ZER:ZiV → St
 | (v0,v1,v2,v3,v4,v5) => St.mk (Zz [(19,Zl v0),(20,Zl v1),(18,X6 v2),(3,AV.bx 8192 0),(2,AV.bx 8194 0)]) (Zy [(8192,WB [AV.own 8193,Zl v3]),(8193,rsA v4 false),(8194,WB [AV.val (PV.v (V5 none (0:Nat) (0:Nat))),Zl v5])])
def Zng (k:Nat) (L1:Zjk):Zjk
 | (v0,v1,v2,v3,v4,v5) => bif decide (v1 < v0) then bif decide (0 ≤ v1 ∧ v1 < UI v2.length) then bif decide (0 ≤ v1 ∧ v1 < UI v4.length) then bif decide (v1.toNat < v4.length) then L1 (v0,Jx.wrap (v1 + 1),v2,v3,v4.set v1.toNat (Jx.wrap (v2.getD v1.toNat 0 * (16:Int))),v5) else none else none else none else some ((v4,v3,()),())
def ZoT (k:Nat):Zjk:=Zn (fun L1 => Zng k L1) k
noncomputable def Zry (k:Nat) (n:Nat):=XF (ZA2 k) Tryz.f151 QG ZvL [1,1,1,0,1,0] [] n ZER (A:=ZA1)
def Znf (k:Nat) (L1:Zjk):Int × Unit → Option ((List Int × Int × Unit) × Unit)
 | (a0,()) => bif decide (0 ≤ a0 ∧ a0 ≤ a0 ∧ a0 < 4294967296) then (ZgL k (if (4:Int) < a0 then (4:Int) else a0,())).bind fun y => L1 (UI (UL y.1.1.1),(0:Int),y.1.1.1,(4:Int),Jd a0.toNat (0:Int),(0:Int)) else none
def ZtV (k:Nat):=Znf k (ZoT k)
theorem Zyp (k:Nat):∀ n,Zry k n = Zn (fun L1 => Zng k L1) n:=Qs
noncomputable def ZHm (k:Nat):ZT k:=ZA 151 Tryz.f151 (ZA2 k) QG ZvL ZtV (A:=ZA1) (h:=fun x => by show _ = Znf k (ZoT k) x; rw [show ZoT k = Zry k k from (Zyp k k).symm]; kernel_rfl)
noncomputable def ZA4 (k:Nat):List (ZT k):=[ZAT k]
def ZA3:Nat → Ann:=fun id => bif Ja id 4 then ⟨[18,19,17,8,7],[]⟩ else ⟨[],[]⟩
abbrev Zjl:=ZhG → Option ((Int × Int × Unit) × Unit)
def ZES:ZhG → St
 | (v0,v1,v2,v3,v4) => St.mk (Zz [(18,Zl v0),(19,Zl v1),(17,X6 v2),(8,Zl v3),(7,Zl v4)]) (Zy [])
def ZaV (k:Nat) (L1:Zjl):Zjl
 | (v0,v1,v2,v3,v4) => bif decide (v1 < v0) then bif decide (0 ≤ v1 ∧ v1 < UI v2.length) then L1 (v0,Jx.wrap (v1 + 1),v2,Jx.wrap (v3 + if v2.getD v1.toNat 0 < Jx.wrap ((0:Int) - v2.getD v1.toNat 0) then Jx.wrap ((0:Int) - v2.getD v1.toNat 0) else v2.getD v1.toNat 0),v4) else none else some ((v3,v4,()),())
def Zjm (k:Nat):Zjl:=Zn (fun L1 => ZaV k L1) k
noncomputable def Zrz (k:Nat) (n:Nat):=XF (ZA4 k) Tryz.f152 ZdO WS [1,1,1,0,1,0] [] n ZES (A:=ZA3)
def ZdK (k:Nat) (L1:Zjl):(List Int × Int × Unit) × List Int × Unit → Option ((Int × Int × Unit) × Unit)
 | ((a0,a1,()),a2,()) => (ZoP k ((a0,a1,()),a2,())).bind fun y => L1 (UI (UL y.1.1),(0:Int),y.1.1,(0:Int),y.1.2.1)
def ZoU (k:Nat):=ZdK k (Zjm k)
theorem Zyr (k:Nat):∀ n,Zrz k n = Zn (fun L1 => ZaV k L1) n:=Qs
noncomputable def ZHn (k:Nat):ZT k:=ZA 152 Tryz.f152 (ZA4 k) ZdO WS ZoU (A:=ZA3) (h:=fun x => by show _ = ZdK k (Zjm k) x; rw [show Zjm k = Zrz k k from (Zyr k k).symm]; kernel_rfl)
abbrev ZvM:Kd:=.own (.int .i64) false
def Zhh (k:Nat):List Int × Unit → Option (List Int × Unit):=fun x => Y2 x
noncomputable def ZkJ:Code:=ZzW Tryz.f153
theorem ZA6 (k:Nat):Ctr Tryz.prog k 153 (mk ZhH ZvM Zhh) :=
 ZmR (C:=ZGo k) (A:=fun _ => ⟨[],[]⟩) (Zp9 Zvf) XP (f:=153) (fn:=Tryz.f153) (o0:=ZhQ (Zae [0] ZkJ) 0) (o1:=ZhQ (Zae [1,0,0] ZkJ) 0) (o2:=ZhQ (Zae [1,0,0] ZkJ) 1)
  (r0:=0) (r1:=1) (X:=Zae [1,0,1,0] ZkJ) (Y:=Zae [1,1] ZkJ) (T:=51) (E:=3) (U:=51) (t:=(.int .i64))
  (by kernel_rfl) (by kernel_rfl) (by kernel_rfl) (by kernel_rfl) (by kernel_rfl) (of_decide_eq_true (by kernel_rfl)) (by kernel_rfl) ⟨by kernel_rfl,by kernel_rfl,by kernel_rfl⟩ ⟨by kernel_rfl,by kernel_rfl,by kernel_rfl⟩ ⟨by kernel_rfl,by kernel_rfl,by kernel_rfl⟩ (fun xs => by kernel_rfl) (by kernel_rfl)
noncomputable def ZA5 (k:Nat):ZT k:=⟨(153,mk ZhH ZvM Zhh),ZA6 k⟩
noncomputable def ZoE (k:Nat):List (ZT k):=[Zkq k,ZHm k,ZHn k,ZA5 k]
def ZoD:Nat → Ann:=fun id => bif Ja id 15 then ⟨[57,56,6,11,0,9,7,50,49,10,1,4],[.seen 6 0]⟩ else bif Ja id 12 then ⟨[49,50,10,6,0,9,7,1,4],[]⟩ else bif Ja id 9 then ⟨[10,1,6,0,9,7,4],[]⟩ else ⟨[],[]⟩
abbrev Zvo:=Int × Int × Int × Int × List Int × Bool × Int × Int × Int × Int × Int × List Int × Int × Int
abbrev ZiW:=Zvo → Option (((List Int × Int × Unit) × Int × Unit) × Unit)
abbrev Zvn:=Int × Int × Int × List Int × Bool × Int × Int × List Int × Int × Int
abbrev Zdt:=Zvn → Option (((List Int × Int × Unit) × Int × Unit) × Unit)
abbrev Zvm:=Int × Int × List Int × Bool × Int × List Int × Int × Int
abbrev KY:=Zvm → Option (((List Int × Int × Unit) × Int × Unit) × Unit)
def ZEC:Zvo → St
 | (v0,v1,v2,v3,v4,v5,v6,v7,v8,v9,v10,v11,v12,v13) => St.mk (Zz [(57,Zl v0),(56,AV.agg [Zl v1,Zl v2]),(6,AV.bx 8192 0),(11,Zl v3),(0,X6 v4),(9,avB v5),(7,Zl v6),(50,Zl v7),(49,Zl v8),(10,Zl v9),(1,Zl v10),(4,AV.bx 8193 0)]) (Zy [(8192,WB [X6 v11,Zl v12]),(8193,WB [AV.val (PV.v (V5 none (0:Nat) (0:Nat))),Zl v13])])
def Kl (k:Nat) (L1:KY) (L2:Zdt) (L3:ZiW):ZiW
 | (v0,v1,v2,v3,v4,v5,v6,v7,v8,v9,v10,v11,v12,v13) => bif decide (v0 < 2) then bif decide (0 ≤ v0 ∧ v0 < 2) then (Zhh k (v11,())).bind fun y => bif decide (0 ≤ v3 ∧ v3 < UI (UL y.1)) then bif decide (v3.toNat < UL y.1) then bif decide (0 ≤ v3 ∧ v3 < UI (UL y.1)) then bif decide (v3.toNat < UL y.1) then (ZoU k ((List.set y.1 v3.toNat (Jx.wrap (UR y.1 v3.toNat 0 + [v1,v2].getD v0.toNat (0:Int))),v12,()),v4,())).bind fun y_1 => bif y_1.1.2.1 == 0 then bif !v5 then L3 (Jx.wrap (v0 + 1),v1,v2,v3,v4,true,y_1.1.1,v7,v8,v9,v10,List.set y.1 v3.toNat (Jx.wrap (UR y.1 v3.toNat 0 + [v1,v2].getD v0.toNat (0:Int))),v12,v13) else bif decide (y_1.1.1 < v6) then L3 (Jx.wrap (v0 + 1),v1,v2,v3,v4,true,y_1.1.1,v7,v8,v9,v10,List.set y.1 v3.toNat (Jx.wrap (UR y.1 v3.toNat 0 + [v1,v2].getD v0.toNat (0:Int))),v12,v13) else L3 (Jx.wrap (v0 + 1),v1,v2,v3,v4,v5,v6,v7,v8,v9,v10,v11,v12,v13) else L3 (Jx.wrap (v0 + 1),v1,v2,v3,v4,v5,v6,v7,v8,v9,v10,v11,v12,v13) else none else none else none else none else none else L2 (v8,Jx.wrap (v7 + 1),v9,v4,v5,v6,v10,v11,v12,v13)
def Zfr (k:Nat) (L1:KY) (L2:Zdt):ZiW:=Zn (fun L3 => Kl k L1 L2 L3) k
noncomputable def Zq7 (k:Nat) (n1 n2:Nat) (n:Nat):=XF (ZoE k) Tryz.f111 Wl KX [1,1,1,1,1,0,1,0,0,1,0,0,1,0,0,1,1,0,0,1,1,0] [n1,n2] n ZEC (A:=ZoD)
def ZEB:Zvn → St
 | (v0,v1,v2,v3,v4,v5,v6,v7,v8,v9) => St.mk (Zz [(49,Zl v0),(50,Zl v1),(10,Zl v2),(6,AV.bx 8192 0),(0,X6 v3),(9,avB v4),(7,Zl v5),(1,Zl v6),(4,AV.bx 8193 0)]) (Zy [(8192,WB [X6 v7,Zl v8]),(8193,WB [AV.val (PV.v (V5 none (0:Nat) (0:Nat))),Zl v9])])
def ZaH (k:Nat) (L3:ZiW) (L1:KY) (L2:Zdt):Zdt
 | (v0,v1,v2,v3,v4,v5,v6,v7,v8,v9) => bif decide (v1 < v0) then L3 (0,v2,Jx.wrap ((0:Int) - v2),v1,v3,v4,v5,v1,v0,v2,v6,v7,v8,v9) else L1 (Jx.wrap (v2.tdiv (2:Int)),v6,v3,v4,v5,v7,v8,v9)
def Zfq (k:Nat) (L1:KY):Zdt:=Zn (fun L2 => ZaH k (Zfr k L1 L2) L1 L2) k
noncomputable def Zfs (k:Nat) (n1:Nat) (n:Nat):=XF (ZoE k) Tryz.f111 Wl KX [1,1,1,1,1,0,1,0,0,1,0,0,1,0] [n1] n ZEB (A:=ZoD)
def ZEA:Zvm → St
 | (v0,v1,v2,v3,v4,v5,v6,v7) => St.mk (Zz [(10,Zl v0),(1,Zl v1),(6,AV.bx 8192 0),(0,X6 v2),(9,avB v3),(7,Zl v4),(4,AV.bx 8193 0)]) (Zy [(8192,WB [X6 v5,Zl v6]),(8193,WB [AV.val (PV.v (V5 none (0:Nat) (0:Nat))),Zl v7])])
def ZaG (k:Nat) (L2:Zdt) (L1:KY):KY
 | (v0,v1,v2,v3,v4,v5,v6,v7) => bif decide ((0:Int) < v0) then L2 (v1,(0:Int),v0,v2,v3,v4,v1,v5,v6,v7) else some (((v5,v6,()),0,()),())
def ZiX (k:Nat):KY:=Zn (fun L1 => ZaG k (Zfq k L1) L1) k
noncomputable def Kv (k:Nat) (n:Nat):=XF (ZoE k) Tryz.f111 Wl KX [1,1,1,1,1,0,1,0] [] n ZEA (A:=ZoD)
def Zdu (k:Nat) (L1:KY):List Int × Int × Unit → Option (((List Int × Int × Unit) × Int × Unit) × Unit)
 | (a0,a1,()) => bif decide (a1 < 0) then some ((([],(0:Int),()),1,()),()) else bif decide ((8:Int) < a1) then some ((([],(0:Int),()),1,()),()) else bif decide (UI a0.length < a1) then some ((([],(0:Int),()),1,()),()) else (ZaE k (a0,(),())).bind fun y => bif y.1 then some ((([],(0:Int),()),12,()),()) else (ZtV k (a1,())).bind fun y => (ZoU k ((y.1.1,y.1.2.1,()),a0,())).bind fun y_1 => L1 (8,a1,a0,y_1.1.2.1 == 0,y_1.1.1,y.1.1,y.1.2.1,(0:Int))
def ZtM (k:Nat):=Zdu k (ZiX k)
theorem ZxM (k:Nat) (n1 n2:Nat):∀ n,Zq7 k n1 n2 n = Zn (fun L3 => Kl k (Kv k n1) (Zfs k n1 n2) L3) n:=Qs
theorem ZxL (k:Nat) (n1:Nat):∀ n,Zfs k n1 n = Zn (fun L2 => ZaH k (Zfr k (Kv k n1) L2) (Kv k n1) L2) n:=Qs (fun n v => by rw [show (Zfr k (Kv k n1) (Zfs k n1 n)) = Zq7 k n1 n k from (ZxM k n1 n k).symm]; kernel_rfl)
theorem ZxK (k:Nat):∀ n,Kv k n = Zn (fun L1 => ZaG k (Zfq k L1) L1) n:=Qs (fun n v => by rw [show (Zfq k (Kv k n)) = Zfs k n k from (ZxL k n k).symm]; kernel_rfl)
set_option maxHeartbeats 1000000 in
noncomputable def ZG6 (k:Nat):ZT k:=ZA 111 Tryz.f111 (ZoE k) Wl KX ZtM (A:=ZoD) (h:=fun x => by show _ = Zdu k (ZiX k) x; rw [show ZiX k = Kv k k from (ZxK k k).symm]; kernel_rfl)
abbrev ZEt:List Kd:=[.view Zqn,.view .bool,.box [.view (.int .i64),.view (.int .i64),.view (.int .i64),.view (.sl (.int .i64)),.view (.sl (.int .i64)),.view (.int .i64),.view (.sl (.int .i64)),.view (.int .i64)]]
def ZxE (k:Nat):(Int × Int × Int × List Int × (List Int × Int × Unit) × List Int × Int × Unit) × Bool × (Int × Int × Int × List Int × List Int × Int × List Int × Int × Unit) × Unit → Option (Unit × (Int × Int × Int × List Int × List Int × Int × List Int × Int × Unit) × Unit)
 | ((a0,a1,a2,a3,(a4,a5,()),a6,a7,()),a8,(a9,a10,a11,a12,a13,a14,a15,a16,()),()) => bif a8 then bif decide (a16 < 0) then some ((),(a0,a1,a2,a3,a4,a5,a6,a7,()),()) else bif decide (a7 < a16) then some ((),(a0,a1,a2,a3,a4,a5,a6,a7,()),()) else some ((),(a9,a10,a11,a12,a13,a14,a15,a16,()),()) else some ((),(a9,a10,a11,a12,a13,a14,a15,a16,()),())
def Zcq (k:Nat):=ZxE k
set_option maxHeartbeats 1000000 in
noncomputable def ZG3 (k:Nat):ZT k:=ZA 107 Tryz.f107 [] ZEt YD Zcq
abbrev ZpF:Kd:=.view Zqn
noncomputable def Zws (k:Nat):List (ZT k):=[ZAc k,ZG2 k,ZtL k,ZG5 k,ZG6 k,ZG3 k]
def Zwn:Nat → Ann:=fun id => bif Ja id 21 then ⟨[82,81,11,6,10,12,9,4],[]⟩ else bif Ja id 15 then ⟨[62,63,10,6,11,12,9,4],[]⟩ else bif Ja id 4 then ⟨[28,29,27,6,5,4],[.cell 6 3 ((Ty.int Jx))]⟩ else ⟨[],[]⟩
abbrev ZCC:=Int × Int × Int × Int × Int × Int × Int × Int × List Int × List Int × Int × List Int × Int × Int × Int × Int × List Int × List Int × Int × List Int × Int × Int × Int × Int × Int × Int × List Int × Int × Int × Int × Int × Int
abbrev ZpD:=ZCC → Option ((Int × Int × Int × List Int × (List Int × Int × Unit) × List Int × Int × Unit) × Unit)
abbrev ZCB:=Int × Int × Int × Int × Int × Int × List Int × List Int × Int × List Int × Int × Int × Int × Int × List Int × List Int × Int × List Int × Int × Int × Int × Int × Int × Int × List Int × Int × Int × Int × Int × Int
abbrev ZpC:=ZCB → Option ((Int × Int × Int × List Int × (List Int × Int × Unit) × List Int × Int × Unit) × Unit)
abbrev ZCA:=Int × Int × List Int × Int × Int × Int × Int × Int × Int × List Int × Int × Int × Int × Int × Int
abbrev ZpB:=ZCA → Option ((Int × Int × Int × List Int × (List Int × Int × Unit) × List Int × Int × Unit) × Unit)
def ZH8:ZCC → St
 | (v0,v1,v2,v3,v4,v5,v6,v7,v8,v9,v10,v11,v12,v13,v14,v15,v16,v17,v18,v19,v20,v21,v22,v23,v24,v25,v26,v27,v28,v29,v30,v31) => St.mk (Zz [(82,Zl v0),(81,AV.agg [Zl v1,Zl v2,Zl v3]),(11,Zl v4),(6,AV.bx 8192 0),(10,AV.clo 107 [AV.bx 8193 0]),(12,AV.bx 8194 0),(9,AV.bx 8193 0),(4,AV.bx 8196 0)]) (Zy [(8192,WB [Zl v5,Zl v6,Zl v7,X6 v8,X6 v9,Zl v10,X6 v11,Zl v12]),(8193,WB [Zl v13,Zl v14,Zl v15,X6 v16,X6 v17,Zl v18,X6 v19,Zl v20]),(8194,WB [Zl v21,Zl v22,Zl v23,AV.own 8195,AV.val (PV.v (V5 none (0:Nat) (0:Nat))),Zl v24,AV.val (PV.v (V5 none (0:Nat) (0:Nat))),Zl v25]),(8195,rsA v26 true),(8196,WB [Zl v27,Zl v28,Zl v29,AV.val (PV.v (V5 none (0:Nat) (0:Nat))),AV.val (PV.v (V5 none (0:Nat) (0:Nat))),Zl v30,AV.val (PV.v (V5 none (0:Nat) (0:Nat))),Zl v31])])
noncomputable def Za7 (k:Nat) (L3:ZpD):ZpD
 | (v0,v1,v2,v3,v4,v5,v6,v7,v8,v9,v10,v11,v12,v13,v14,v15,v16,v17,v18,v19,v20,v21,v22,v23,v24,v25,v26,v27,v28,v29,v30,v31) => bif decide (v0 < 3) then bif decide (0 ≤ v0 ∧ v0 < 3) then bif decide ([v1,v2,v3].getD v0.toNat (0:Int) < v4) then (ZtM k (v8,[v1,v2,v3].getD v0.toNat (0:Int),())).bind fun y => (Zku k ((v5,v6,v7,v8,(v9,v10,()),v11,v12,()),Jx.wrap ((31:Int) + [v1,v2,v3].getD v0.toNat (0:Int)),(y.1.1.1,y.1.1.2.1,()),Jx.wrap ((9:Int) + Jx.wrap ((12:Int) * [v1,v2,v3].getD v0.toNat (0:Int))),())).bind fun y => (Zcq k ((y.1.1.1,y.1.1.2.1,y.1.1.2.2.1,y.1.1.2.2.2.1,(y.1.1.2.2.2.2.1.1,y.1.1.2.2.2.2.1.2.1,()),y.1.1.2.2.2.2.2.1,y.1.1.2.2.2.2.2.2.1,()),y.1.2.1,(v13,v14,v15,v16,v17,v18,v19,v20,()),())).bind fun y => L3 (Jx.wrap (v0 + 1),v1,v2,v3,v4,v5,v6,v7,v8,v9,v10,v11,v12,y.2.1.1,y.2.1.2.1,y.2.1.2.2.1,y.2.1.2.2.2.1,y.2.1.2.2.2.2.1,y.2.1.2.2.2.2.2.1,y.2.1.2.2.2.2.2.2.1,y.2.1.2.2.2.2.2.2.2.1,v21,v22,v23,v24,v25,v26,v27,v28,v29,v30,v31) else L3 (Jx.wrap (v0 + 1),v1,v2,v3,v4,v5,v6,v7,v8,v9,v10,v11,v12,v13,v14,v15,v16,v17,v18,v19,v20,v21,v22,v23,v24,v25,v26,v27,v28,v29,v30,v31) else none else (Zcq k (((1:Int),v22,v23,v26,([],v24,()),[],Jx.wrap (v4 * v7),()),true,(v13,v14,v15,v16,v17,v18,v19,v20,()),())).bind fun y => some ((y.2.1.1,y.2.1.2.1,y.2.1.2.2.1,y.2.1.2.2.2.1,(y.2.1.2.2.2.2.1,y.2.1.2.2.2.2.2.1,()),y.2.1.2.2.2.2.2.2.1,y.2.1.2.2.2.2.2.2.2.1,()),())
noncomputable def ZhC (k:Nat):ZpD:=Zn (fun L3 => Za7 k L3) k
noncomputable def Zwr (k:Nat) (n:Nat):=XF (Zws k) Tryz.f68 Wl ZpF [1,1,1,1,1,1,1,1,1,1,1,0,1,0] [] n ZH8 (A:=Zwn)
def ZH7:ZCB → St
 | (v0,v1,v2,v3,v4,v5,v6,v7,v8,v9,v10,v11,v12,v13,v14,v15,v16,v17,v18,v19,v20,v21,v22,v23,v24,v25,v26,v27,v28,v29) => St.mk (Zz [(62,Zl v0),(63,Zl v1),(10,AV.clo 107 [AV.bx 8192 0]),(6,AV.bx 8193 0),(11,Zl v2),(12,AV.bx 8194 0),(9,AV.bx 8192 0),(4,AV.bx 8196 0)]) (Zy [(8192,WB [Zl v3,Zl v4,Zl v5,X6 v6,X6 v7,Zl v8,X6 v9,Zl v10]),(8193,WB [Zl v11,Zl v12,Zl v13,X6 v14,X6 v15,Zl v16,X6 v17,Zl v18]),(8194,WB [Zl v19,Zl v20,Zl v21,AV.own 8195,AV.val (PV.v (V5 none (0:Nat) (0:Nat))),Zl v22,AV.val (PV.v (V5 none (0:Nat) (0:Nat))),Zl v23]),(8195,rsA v24 true),(8196,WB [Zl v25,Zl v26,Zl v27,AV.val (PV.v (V5 none (0:Nat) (0:Nat))),AV.val (PV.v (V5 none (0:Nat) (0:Nat))),Zl v28,AV.val (PV.v (V5 none (0:Nat) (0:Nat))),Zl v29])])
noncomputable def ZcI (k:Nat) (L3:ZpD) (L2:ZpC):ZpC
 | (v0,v1,v2,v3,v4,v5,v6,v7,v8,v9,v10,v11,v12,v13,v14,v15,v16,v17,v18,v19,v20,v21,v22,v23,v24,v25,v26,v27,v28,v29) => bif decide (v1 < v0) then (ZgL k (v1,())).bind fun y => (Zku k ((v11,v12,v13,v14,(v15,v16,()),v17,v18,()),Jx.wrap ((8:Int) + v1),(y.1.1.1,y.1.1.2.1,()),0,())).bind fun y => (Zcq k ((y.1.1.1,y.1.1.2.1,y.1.1.2.2.1,y.1.1.2.2.2.1,(y.1.1.2.2.2.2.1.1,y.1.1.2.2.2.2.1.2.1,()),y.1.1.2.2.2.2.2.1,y.1.1.2.2.2.2.2.2.1,()),y.1.2.1,(v3,v4,v5,v6,v7,v8,v9,v10,()),())).bind fun y => L2 (v0,Jx.wrap (v1 + 1),v2,y.2.1.1,y.2.1.2.1,y.2.1.2.2.1,y.2.1.2.2.2.1,y.2.1.2.2.2.2.1,y.2.1.2.2.2.2.2.1,y.2.1.2.2.2.2.2.2.1,y.2.1.2.2.2.2.2.2.2.1,v11,v12,v13,v14,v15,v16,v17,v18,v19,v20,v21,v22,v23,v24,v25,v26,v27,v28,v29) else L3 (0,(2:Int),(4:Int),(8:Int),v2,v11,v12,v13,v14,v15,v16,v17,v18,v3,v4,v5,v6,v7,v8,v9,v10,v19,v20,v21,v22,v23,v24,v25,v26,v27,v28,v29)
noncomputable def ZhB (k:Nat):ZpC:=Zn (fun L2 => ZcI k (ZhC k) L2) k
noncomputable def Zwq (k:Nat) (n:Nat):=XF (Zws k) Tryz.f68 Wl ZpF [1,1,1,1,1,1,1,1,1,1,0,1,0] [] n ZH7 (A:=Zwn)
def ZH6:ZCA → St
 | (v0,v1,v2,v3,v4,v5,v6,v7,v8,v9,v10,v11,v12,v13,v14) => St.mk (Zz [(28,Zl v0),(29,Zl v1),(27,X6 v2),(6,AV.bx 8192 0),(5,Zl v3),(4,AV.bx 8194 0)]) (Zy [(8192,WB [Zl v4,Zl v5,Zl v6,AV.own 8193,AV.val (PV.v (V5 none (0:Nat) (0:Nat))),Zl v7,AV.val (PV.v (V5 none (0:Nat) (0:Nat))),Zl v8]),(8193,rsA v9 false),(8194,WB [Zl v10,Zl v11,Zl v12,AV.val (PV.v (V5 none (0:Nat) (0:Nat))),AV.val (PV.v (V5 none (0:Nat) (0:Nat))),Zl v13,AV.val (PV.v (V5 none (0:Nat) (0:Nat))),Zl v14])])
def YP (k:Nat) (L2:ZpC) (L1:ZpB):ZpB
 | (v0,v1,v2,v3,v4,v5,v6,v7,v8,v9,v10,v11,v12,v13,v14) => bif decide (v1 < v0) then bif decide (0 ≤ v1 ∧ v1 < UI v2.length) then bif decide (0 ≤ v3) then bif decide (v9.length + [UP (v2.getD v1.toNat 0) ((2:Int) ^ min v3.toNat 64)].length < 2147483648) then L1 (v0,Jx.wrap (v1 + 1),v2,v3,v4,v5,v6,v7,v8,v9 ++ [UP (v2.getD v1.toNat 0) ((2:Int) ^ min v3.toNat 64)],v10,v11,v12,v13,v14) else none else none else none else (Zkp k (v9,((v4,v5,v6,v9,[],v7,[],v8,()),()),())).bind fun y => (Zcq k (((0:Int),v5,v6,v9,([],v7,()),[],v6,()),!y.1,(0,0,0,[],[],0,[],(-1:Int),()),())).bind fun y_1 => L2 (Jx.wrap ((if UI v9.length < (4:Int) then UI v9.length else (4:Int)) + (1:Int)),(0:Int),UI v9.length,y_1.2.1.1,y_1.2.1.2.1,y_1.2.1.2.2.1,y_1.2.1.2.2.2.1,y_1.2.1.2.2.2.2.1,y_1.2.1.2.2.2.2.2.1,y_1.2.1.2.2.2.2.2.2.1,y_1.2.1.2.2.2.2.2.2.2.1,y.2.1.1,y.2.1.2.1,y.2.1.2.2.1,y.2.1.2.2.2.1,y.2.1.2.2.2.2.1,y.2.1.2.2.2.2.2.1,y.2.1.2.2.2.2.2.2.1,y.2.1.2.2.2.2.2.2.2.1,(0:Int),v5,v6,v7,v6,v9,v10,v11,v12,v13,v14)
noncomputable def ZpE (k:Nat):ZpB:=Zn (fun L1 => YP k (ZhB k) L1) k
noncomputable def Zwp (k:Nat) (n:Nat):=XF (Zws k) Tryz.f68 Wl ZpF [1,1,1,0,1,0] [] n ZH6 (A:=Zwn)
def ZfN (k:Nat) (L1:ZpB):List Int × Int × Unit → Option ((Int × Int × Int × List Int × (List Int × Int × Unit) × List Int × Int × Unit) × Unit)
 | (a0,a1,()) => (ZtJ k (a0,())).bind fun y => L1 (UI a0.length,(0:Int),a0,y.1,(0:Int),y.1,Jx.wrap (a1 - y.1),(0:Int),(0:Int),[],(0:Int),(0:Int),(0:Int),(0:Int),(0:Int))
noncomputable def Zwo (k:Nat):=ZfN k (ZpE k)
theorem ZCF (k:Nat):∀ n,Zwr k n = Zn (fun L3 => Za7 k L3) n:=Qs
theorem ZCE (k:Nat):∀ n,Zwq k n = Zn (fun L2 => ZcI k (ZhC k) L2) n:=Qs (fun n v => by rw [show (ZhC k) = Zwr k k from (ZCF k k).symm]; kernel_rfl)
theorem ZCD (k:Nat):∀ n,Zwp k n = Zn (fun L1 => YP k (ZhB k) L1) n:=Qs (fun n v => by rw [show (ZhB k) = Zwq k k from (ZCE k k).symm]; kernel_rfl)
noncomputable def ZJk (k:Nat):ZT k:=ZA 68 Tryz.f68 (Zws k) Wl ZpF Zwo (A:=Zwn) (h:=fun x => by show _ = ZfN k (ZpE k) x; rw [show ZpE k = Zwp k k from (ZCD k k).symm]; kernel_rfl)
noncomputable def ZGs (k:Nat):List (ZT k):=[ZAa k]
def ZGq:Nat → Ann:=fun id => bif Ja id 4 then ⟨[15,16,0],[]⟩ else ⟨[],[]⟩
abbrev ZpG:=Zhz → Option (Int × (List Int × Int × Unit) × Unit)
def ZH9:Zhz → St
 | (v0,v1,v2,v3) => St.mk (Zz [(15,Zl v0),(16,Zl v1),(0,AV.bx 0 0)]) (Zy [(0,WB [AV.own 8192,Zl v2]),(8192,RS.live (Res.arr (Ty.int UM) v3 false))])
def ZcJ (k:Nat) (L1:ZpG):ZpG
 | (v0,v1,v2,v3) => bif decide (v1 < v0) then (Zkn k ((v3,v2,()),0,())).bind fun y => L1 (v0,Jx.wrap (v1 + 1),y.2.1.2.1,y.2.1.1) else (Zkn k ((v3,v2,()),1,())).bind fun y => some (0,(y.2.1.1,y.2.1.2.1,()),())
def ZpH (k:Nat):ZpG:=Zn (fun L1 => ZcJ k L1) k
noncomputable def Zwt (k:Nat) (n:Nat):=XF (ZGs k) Tryz.f69 Zow Zw [1,1,0,1,0] [] n ZH9 (A:=ZGq) (a:=[AV.bx (nat_lit 0) (nat_lit 0)]) (b:=[[]]) (q:=[0])
def ZfO (k:Nat) (L1:ZpG):(List Int × Int × Unit) × Int × Unit → Option (Int × (List Int × Int × Unit) × Unit)
 | ((a0,a1,()),a2,()) => bif decide (a2 < 0) then some (1,(a0,a1,()),()) else bif decide ((65536:Int) < a2) then some (1,(a0,a1,()),()) else L1 (a2,(0:Int),a1,a0)
def Znq (k:Nat):=ZfO k (ZpH k)
theorem ZCH (k:Nat):∀ n,Zwt k n = Zn (fun L1 => ZcJ k L1) n:=Qs
noncomputable def ZGr (k:Nat):ZT k:=ZA 69 Tryz.f69 (ZGs k) Zow Zw Znq (A:=ZGq) (h:=fun x => by show _ = ZfO k (ZpH k) x; rw [show ZpH k = Zwt k k from (ZCH k k).symm]; kernel_rfl)
def ZgO (k:Nat):(List Int × Int × Unit) × Int × Int × Unit → Option (Int × (List Int × Int × Unit) × Unit)
 | ((a0,a1,()),a2,a3,()) => (ZrZ k (a3,())).bind fun y => bif y.1 then some (1,(a0,a1,()),()) else bif a3 == 0 then bif a2 != 0 then some (12,(a0,a1,()),()) else bif decide ((0:Int) < a3) then bif decide (0 ≤ Jx.wrap (a3 - 1)) then bif a2.fdiv ((2:Int) ^ min (Jx.wrap (a3 - 1)).toNat 64) != (0:Int) then bif decide (0 ≤ Jx.wrap (a3 - 1)) then bif a2.fdiv ((2:Int) ^ min (Jx.wrap (a3 - 1)).toNat 64) != (-1:Int) then some (12,(a0,a1,()),()) else (Zee k ((a0,a1,()),UK.wrap a2,a3,())).bind fun y => some (0,(y.2.1.1,y.2.1.2.1,()),()) else none else (Zee k ((a0,a1,()),UK.wrap a2,a3,())).bind fun y => some (0,(y.2.1.1,y.2.1.2.1,()),()) else none else (Zee k ((a0,a1,()),UK.wrap a2,a3,())).bind fun y => some (0,(y.2.1.1,y.2.1.2.1,()),()) else bif decide ((0:Int) < a3) then bif decide (0 ≤ Jx.wrap (a3 - 1)) then bif a2.fdiv ((2:Int) ^ min (Jx.wrap (a3 - 1)).toNat 64) != (0:Int) then bif decide (0 ≤ Jx.wrap (a3 - 1)) then bif a2.fdiv ((2:Int) ^ min (Jx.wrap (a3 - 1)).toNat 64) != (-1:Int) then some (12,(a0,a1,()),()) else (Zee k ((a0,a1,()),UK.wrap a2,a3,())).bind fun y => some (0,(y.2.1.1,y.2.1.2.1,()),()) else none else (Zee k ((a0,a1,()),UK.wrap a2,a3,())).bind fun y => some (0,(y.2.1.1,y.2.1.2.1,()),()) else none else (Zee k ((a0,a1,()),UK.wrap a2,a3,())).bind fun y => some (0,(y.2.1.1,y.2.1.2.1,()),())
def ZoF (k:Nat):=ZgO k
set_option maxHeartbeats 1000000 in
noncomputable def ZAl (k:Nat):ZT k:=ZA 112 Tryz.f112 [ZCq k,ZGk k] ZBH Zw ZoF
abbrev ZhD:List Kd:=[.box [.own (.int .u8) false,.view (.int .i64)],.view (.sl (.int .i64)),.view (.int .i64)]
noncomputable def ZGu (k:Nat):List (ZT k):=[ZAl k]
def ZGt:Nat → Ann:=fun id => bif Ja id 1 then ⟨[9,10,8,0,2],[]⟩ else ⟨[],[]⟩
abbrev Zk8:=Int × Int × List Int × Int × Int × List Int
abbrev ZpI:=Zk8 → Option (Unit × (List Int × Int × Unit) × Unit)
def ZIa:Zk8 → St
 | (v0,v1,v2,v3,v4,v5) => St.mk (Zz [(9,Zl v0),(10,Zl v1),(8,X6 v2),(0,AV.bx 0 0),(2,Zl v3)]) (Zy [(0,WB [AV.own 8192,Zl v4]),(8192,RS.live (Res.arr (Ty.int UM) v5 false))])
def ZcK (k:Nat) (L1:ZpI):ZpI
 | (v0,v1,v2,v3,v4,v5) => bif decide (v1 < v0) then bif decide (0 ≤ v1 ∧ v1 < UI v2.length) then (ZoF k ((v5,v4,()),v2.getD v1.toNat 0,v3,())).bind fun y => L1 (v0,Jx.wrap (v1 + 1),v2,v3,y.2.1.2.1,y.2.1.1) else none else some ((),(v5,v4,()),())
def ZpJ (k:Nat):ZpI:=Zn (fun L1 => ZcK k L1) k
noncomputable def Zwu (k:Nat) (n:Nat):=XF (ZGu k) Tryz.f70 ZhD YD [1,0] [] n ZIa (A:=ZGt) (a:=[AV.bx (nat_lit 0) (nat_lit 0)]) (b:=[[]]) (q:=[0])
def ZfP (k:Nat) (L1:ZpI):(List Int × Int × Unit) × List Int × Int × Unit → Option (Unit × (List Int × Int × Unit) × Unit)
 | ((a0,a1,()),a2,a3,()) => L1 (UI a2.length,(0:Int),a2,a3,a1,a0)
def K1 (k:Nat):=ZfP k (ZpJ k)
theorem ZCI (k:Nat):∀ n,Zwu k n = Zn (fun L1 => ZcK k L1) n:=Qs
noncomputable def ZJl (k:Nat):ZT k:=ZA 70 Tryz.f70 (ZGu k) ZhD YD K1 (A:=ZGt) (h:=fun x => by show _ = ZfP k (ZpJ k) x; rw [show ZpJ k = Zwu k k from (ZCI k k).symm]; kernel_rfl)
noncomputable def ZCM (k:Nat):List (ZT k):=[ZBG k,ZGr k,ZAm k,ZAn k,ZAp k,ZoL k,ZoM k,Zvv k,ZAl k]
noncomputable def ZCJ:Nat → Ann:=fun id => bif Ja id 17 then ⟨[69,70,68,11,8,0,41,40,39],[]⟩ else bif Ja id 10 then ⟨[40,41,39,8,0],[]⟩ else ⟨[],[]⟩
abbrev ZCL:=Int × Int × List Int × Int × Int × List (List Int) × Int × List Int × Int × Int × Int × Int × Int × List (Int × Int × Int × Unit) × Int
abbrev ZpK:=ZCL → Option (Int × (List Int × Int × Unit) × Unit)
abbrev ZCK:=Int × Int × List (List Int) × Int × List Int × Int × Int × List (Int × Int × Int × Unit) × Int
abbrev ZhE:=ZCK → Option (Int × (List Int × Int × Unit) × Unit)
noncomputable def ZIc:ZCL → St
 | (v0,v1,v2,v3,v4,v5,v6,v7,v8,v9,v10,v11,v12,v13,v14) => St.mk (Zz [(69,Zl v0),(70,Zl v1),(68,X6 v2),(11,AV.bx 8193 0),(8,AV.bx 8194 0),(0,AV.bx 0 0),(41,Zl v3),(40,Zl v4),(39,AV.val (PV.sl (Ty.int Jx).sl v5))]) (Zy [(0,WB [AV.own 8192,Zl v6]),(8192,RS.live (Res.arr (Ty.int UM) v7 false)),(8193,WB [Zl v8,Zl v9,Zl v10]),(8194,WB [Zl v11,Zl v12,AV.val (PV.sl ((Ty.int Jx).pair ((Ty.int Jx).pair ((Ty.int Jx).pair Ty.unit))) v13),Zl v14])])
noncomputable def Kx (k:Nat) (L1:ZhE) (L2:ZpK):ZpK
 | (v0,v1,v2,v3,v4,v5,v6,v7,v8,v9,v10,v11,v12,v13,v14) => bif decide (v1 < v0) then bif decide (0 ≤ v1 ∧ v1 < UI v2.length) then (Zao k (v11,())).bind fun y => bif v8 == y.1 then (ZoF k ((v7,v6,()),v2.getD v1.toNat 0,v9,())).bind fun y => L2 (v0,Jx.wrap (v1 + 1),v2,v3,v4,v5,y.2.1.2.1,y.2.1.1,v8,v9,v10,v11,v12,v13,v14) else (ZgS k (v2.getD v1.toNat 0,())).bind fun y => bif decide (0 ≤ v8) then (Znq k ((v7,v6,()),UP y.1.1 ((2:Int) ^ min v8.toNat 64),())).bind fun y_1 => bif decide (0 ≤ v8) then (QH k ((y_1.2.1.1,y_1.2.1.2.1,()),Jx.wrap (UI (UJ 64 y.1.1 &&& UJ 64 (Jx.wrap (Jx.wrap ((1:Int) * (2:Int) ^ min v8.toNat 64) - (1:Int)))).toNat),v8,())).bind fun y => L2 (v0,Jx.wrap (v1 + 1),v2,v3,v4,v5,y.2.1.2.1,y.2.1.1,v8,v9,v10,v11,v12,v13,v14) else none else none else none else L1 (v4,Jx.wrap (v3 + 1),v5,v6,v7,v11,v12,v13,v14)
noncomputable def ZhF (k:Nat) (L1:ZhE):ZpK:=Zn (fun L2 => Kx k L1 L2) k
noncomputable def Zwv (k:Nat) (n1:Nat) (n:Nat):=XF (ZCM k) Tryz.f71 ZhD Zw [1,1,1,1,1,1,0,1,0,0,1,1,0,0,1,1,1,1,1,0] [n1] n ZIc (A:=ZCJ) (a:=[AV.bx (nat_lit 0) (nat_lit 0)]) (b:=[[]]) (q:=[0])
noncomputable def ZIb:ZCK → St
 | (v0,v1,v2,v3,v4,v5,v6,v7,v8) => St.mk (Zz [(40,Zl v0),(41,Zl v1),(39,AV.val (PV.sl (Ty.int Jx).sl v2)),(8,AV.bx 8193 0),(0,AV.bx 0 0)]) (Zy [(0,WB [AV.own 8192,Zl v3]),(8192,RS.live (Res.arr (Ty.int UM) v4 false)),(8193,WB [Zl v5,Zl v6,AV.val (PV.sl ((Ty.int Jx).pair ((Ty.int Jx).pair ((Ty.int Jx).pair Ty.unit))) v7),Zl v8])])
noncomputable def ZcM (k:Nat) (L2:ZpK) (L1:ZhE):ZhE
 | (v0,v1,v2,v3,v4,v5,v6,v7,v8) => bif decide (v1 < v0) then bif decide (0 ≤ v1 ∧ v1 < UI v2.length) then bif decide (0 ≤ v1 ∧ v1 < UI v7.length) then (ZeC k (v5,())).bind fun y => (QH k ((v4,v3,()),(v7.getD v1.toNat (0,0,0,())).1,y.1,())).bind fun y => (Zao k (v5,())).bind fun y_1 => bif (v7.getD v1.toNat (0,0,0,())).1 == y_1.1 then (QH k ((y.2.1.1,y.2.1.2.1,()),(v7.getD v1.toNat (0,0,0,())).2.1,5,())).bind fun y => L2 (UI (UL (v2.getD v1.toNat [])),(0:Int),v2.getD v1.toNat [],v1,v0,v2,y.2.1.2.1,y.2.1.1,(v7.getD v1.toNat (0,0,0,())).1,(v7.getD v1.toNat (0,0,0,())).2.1,(v7.getD v1.toNat (0,0,0,())).2.2.1,v5,v6,v7,v8) else L2 (UI (UL (v2.getD v1.toNat [])),(0:Int),v2.getD v1.toNat [],v1,v0,v2,y.2.1.2.1,y.2.1.1,(v7.getD v1.toNat (0,0,0,())).1,(v7.getD v1.toNat (0,0,0,())).2.1,(v7.getD v1.toNat (0,0,0,())).2.2.1,v5,v6,v7,v8) else none else none else some (0,(v4,v3,()),())
noncomputable def ZpL (k:Nat):ZhE:=Zn (fun L1 => ZcM k (ZhF k L1) L1) k
noncomputable def Zjx (k:Nat) (n:Nat):=XF (ZCM k) Tryz.f71 ZhD Zw [1,1,1,1,1,1,0,1,0] [] n ZIb (A:=ZCJ) (a:=[AV.bx (nat_lit 0) (nat_lit 0)]) (b:=[[]]) (q:=[0])
noncomputable def ZfQ (k:Nat) (L1:ZhE):(List Int × Int × Unit) × List Int × Int × Unit → Option (Int × (List Int × Int × Unit) × Unit)
 | ((a0,a1,()),a2,a3,()) => (ZoG k (a2,a3,())).bind fun y => bif y.1 != 0 then some (y.1,(a0,a1,()),()) else (ZoI k (a2,a3,())).bind fun y => (QH k ((a0,a1,()),y.1.1,2,())).bind fun y_1 => (QH k ((y_1.2.1.1,y_1.2.1.2.1,()),y.1.2.1,4,())).bind fun y_2 => (ZoK k (a2,a3,y.1.2.1,())).bind fun y_3 => L1 (UI (UL y_3.1),(0:Int),y_3.1,y_2.2.1.2.1,y_2.2.1.1,y.1.1,y.1.2.1,y.1.2.2.1,y.1.2.2.2.1)
noncomputable def Zil (k:Nat):=ZfQ k (ZpL k)
theorem ZCO (k:Nat) (n1:Nat):∀ n,Zwv k n1 n = Zn (fun L2 => Kx k (Zjx k n1) L2) n:=Qs
theorem ZCN (k:Nat):∀ n,Zjx k n = Zn (fun L1 => ZcM k (ZhF k L1) L1) n:=Qs (fun n v => by rw [show (ZhF k (Zjx k n)) = Zwv k n k from (ZCO k n k).symm]; kernel_rfl)
set_option maxHeartbeats 1000000 in
noncomputable def ZJm (k:Nat):ZT k:=ZA 71 Tryz.f71 (ZCM k) ZhD Zw Zil (A:=ZCJ) (h:=fun x => by show _ = ZfQ k (ZpL k) x; rw [show ZpL k = Zjx k k from (ZCN k k).symm]; kernel_rfl)
noncomputable def ZBQ (k:Nat):(List Int × Int × Unit) × List Int × Int × Unit → Option (Int × (List Int × Int × Unit) × Unit)
 | ((a0,a1,()),a2,a3,()) => (Zwm k (a2,a3,())).bind fun y => bif y.1 != 0 then some (y.1,(a0,a1,()),()) else (Zwo k (a2,a3,())).bind fun y => (QH k ((a0,a1,()),y.1.1,7,())).bind fun y_1 => bif decide ((0:Int) < y.1.2.1) then (QH k ((y_1.2.1.1,y_1.2.1.2.1,()),1,1,())).bind fun y_2 => (Znq k ((y_2.2.1.1,y_2.2.1.2.1,()),Jx.wrap (y.1.2.1 - 1),())).bind fun y_3 => bif y.1.1 == 0 then bif decide ((0:Int) ≤ 0 ∧ (0:Int) ≤ 1 ∧ (1:Int) ≤ UI (UL y.1.2.2.2.1)) then (K1 k ((y_3.2.1.1,y_3.2.1.2.1,()),UO 0 (UN 1 y.1.2.2.2.1),y.1.2.2.1,())).bind fun y => some (0,(y.2.1.1,y.2.1.2.1,()),()) else none else bif y.1.1 == 1 then (K1 k ((y_3.2.1.1,y_3.2.1.2.1,()),y.1.2.2.2.1,y.1.2.2.1,())).bind fun y => some (0,(y.2.1.1,y.2.1.2.1,()),()) else bif decide ((0:Int) ≤ 0 ∧ (0:Int) ≤ UI (UL y.1.2.2.2.2.1.1) ∧ UI (UL y.1.2.2.2.2.1.1) ≤ UI (UL y.1.2.2.2.1)) then (K1 k ((y_3.2.1.1,y_3.2.1.2.1,()),UO 0 (UN (UI (UL y.1.2.2.2.2.1.1)).toNat y.1.2.2.2.1),y.1.2.2.1,())).bind fun y_4 => bif decide ((31:Int) < y.1.1) then (QH k ((y_4.2.1.1,y_4.2.1.2.1,()),11,4,())).bind fun y_5 => (QH k ((y_5.2.1.1,y_5.2.1.2.1,()),y.1.2.2.2.2.1.2.1,5,())).bind fun y_6 => (K1 k ((y_6.2.1.1,y_6.2.1.2.1,()),y.1.2.2.2.2.1.1,12,())).bind fun y_7 => (Zil k ((y_7.2.1.1,y_7.2.1.2.1,()),y.1.2.2.2.2.2.1,UI (UL y.1.2.2.2.2.1.1),())).bind fun y => some (y.1,(y.2.1.1,y.2.1.2.1,()),()) else (Zil k ((y_4.2.1.1,y_4.2.1.2.1,()),y.1.2.2.2.2.2.1,UI (UL y.1.2.2.2.2.1.1),())).bind fun y => some (y.1,(y.2.1.1,y.2.1.2.1,()),()) else none else (QH k ((y_1.2.1.1,y_1.2.1.2.1,()),0,1,())).bind fun y_2 => bif y.1.1 == 0 then bif decide ((0:Int) ≤ 0 ∧ (0:Int) ≤ 1 ∧ (1:Int) ≤ UI (UL y.1.2.2.2.1)) then (K1 k ((y_2.2.1.1,y_2.2.1.2.1,()),UO 0 (UN 1 y.1.2.2.2.1),y.1.2.2.1,())).bind fun y => some (0,(y.2.1.1,y.2.1.2.1,()),()) else none else bif y.1.1 == 1 then (K1 k ((y_2.2.1.1,y_2.2.1.2.1,()),y.1.2.2.2.1,y.1.2.2.1,())).bind fun y => some (0,(y.2.1.1,y.2.1.2.1,()),()) else bif decide ((0:Int) ≤ 0 ∧ (0:Int) ≤ UI (UL y.1.2.2.2.2.1.1) ∧ UI (UL y.1.2.2.2.2.1.1) ≤ UI (UL y.1.2.2.2.1)) then (K1 k ((y_2.2.1.1,y_2.2.1.2.1,()),UO 0 (UN (UI (UL y.1.2.2.2.2.1.1)).toNat y.1.2.2.2.1),y.1.2.2.1,())).bind fun y_3 => bif decide ((31:Int) < y.1.1) then (QH k ((y_3.2.1.1,y_3.2.1.2.1,()),11,4,())).bind fun y_4 => (QH k ((y_4.2.1.1,y_4.2.1.2.1,()),y.1.2.2.2.2.1.2.1,5,())).bind fun y_5 => (K1 k ((y_5.2.1.1,y_5.2.1.2.1,()),y.1.2.2.2.2.1.1,12,())).bind fun y_6 => (Zil k ((y_6.2.1.1,y_6.2.1.2.1,()),y.1.2.2.2.2.2.1,UI (UL y.1.2.2.2.2.1.1),())).bind fun y => some (y.1,(y.2.1.1,y.2.1.2.1,()),()) else (Zil k ((y_3.2.1.1,y_3.2.1.2.1,()),y.1.2.2.2.2.2.1,UI (UL y.1.2.2.2.2.1.1),())).bind fun y => some (y.1,(y.2.1.1,y.2.1.2.1,()),()) else none
noncomputable def Zv8 (k:Nat):=ZBQ k
set_option maxHeartbeats 1000000 in
noncomputable def ZI8 (k:Nat):ZT k:=ZA 31 Tryz.f31 [ZBG k,ZJj k,ZJk k,ZGr k,ZJl k,ZJm k] ZhD Zw Zv8
def ZkW (k:Nat):(List Int × Int × Unit) × Unit → Option (Int × (List Int × Int × Unit) × Unit)
 | ((a0,a1,()),()) => some (Jx.wrap (UI (UJ 64 (Jx.wrap ((0:Int) - a1)) &&& UJ 64 (7:Int)).toNat),(a0,Jx.wrap (a1 + Jx.wrap (UI (UJ 64 (Jx.wrap ((0:Int) - a1)) &&& UJ 64 (7:Int)).toNat)),()),())
def ZBS (k:Nat):=ZkW k
noncomputable def ZI9 (k:Nat):ZT k:=ZA 32 Tryz.f32 [] ZBO Zw ZBS
def ZkX (k:Nat):List Int × Unit → Option (Int × Unit)
 | (a0,()) => (Zik k (a0,16,32773,())).bind fun y => some (y.1,())
def Zv9 (k:Nat):=ZkX k
noncomputable def ZF3 (k:Nat):ZT k:=ZA 33 Tryz.f33 [ZGn k] ZeG Zw Zv9
abbrev ZoS:Kd:=.tup [.own (.int .u8) false,.view (.int .i64)]
noncomputable def ZAY (k:Nat):List (ZT k):=[ZF0 k,ZI4 k,ZI5 k,ZBG k,ZI6 k,ZF1 k,ZI7 k,ZF2 k,ZI8 k,ZI9 k,ZF3 k]
def ZAV:Nat → Ann:=fun id => bif Ja id 27 then ⟨[87,88,86,12,7],[]⟩ else bif Ja id 20 then ⟨[61,62,60,12,10,11,2,8,7],[]⟩ else ⟨[],[]⟩
abbrev ZAX:=Int × Int × List Int × List (List Int) × Int × List Int
abbrev ZoR:=ZAX → Option ((List Int × Int × Unit) × Unit)
abbrev ZAW:=Int × Int × List Int × Int × Int × Int × List (List Int) × Int × List Int × Int × Int × Int
abbrev ZoQ:=ZAW → Option ((List Int × Int × Unit) × Unit)
def ZHl:ZAX → St
 | (v0,v1,v2,v3,v4,v5) => St.mk (Zz [(87,Zl v0),(88,Zl v1),(86,X6 v2),(12,AV.bx 8192 0),(7,AV.val (PV.sl (Ty.int Jx).sl v3))]) (Zy [(8192,WB [AV.own 8193,Zl v4]),(8193,RS.live (Res.arr (Ty.int UM) v5 false))])
noncomputable def ZaU (k:Nat) (L2:ZoR):ZoR
 | (v0,v1,v2,v3,v4,v5) => bif decide (v1 < v0) then bif decide (0 ≤ v1 ∧ v1 < UI v2.length) then bif decide (0 ≤ v1 ∧ v1 < UI v3.length) then (Zv8 k ((v5,v4,()),v3.getD v1.toNat [],v2.getD v1.toNat 0,())).bind fun y => bif y.1 != 0 then some (([],y.1,()),()) else L2 (v0,Jx.wrap (v1 + 1),v2,v3,y.2.1.2.1,y.2.1.1) else none else none else (ZBS k ((v5,v4,()),())).bind fun y => (ZrO k ((y.2.1.1,y.2.1.2.1,()),())).bind fun y => (Zv9 k (y.1,())).bind fun y_1 => (QH k ((y.2.1.1,y.2.1.2.1,()),y_1.1,16,())).bind fun y => (ZrO k ((y.2.1.1,y.2.1.2.1,()),())).bind fun y => some ((y.1,0,()),())
noncomputable def ZeE (k:Nat):ZoR:=Zn (fun L2 => ZaU k L2) k
noncomputable def ZvJ (k:Nat) (n:Nat):=XF (ZAY k) Tryz.f14 Zcw ZoS [1,1,1,1,1,1,1,1,1,1,1,1,1,1,1,1,1,0,1,0] [] n ZHl (A:=ZAV)
def ZHk:ZAW → St
 | (v0,v1,v2,v3,v4,v5,v6,v7,v8,v9,v10,v11) => St.mk (Zz [(61,Zl v0),(62,Zl v1),(60,AV.val (PV.sl (Ty.int UM) v2)),(12,AV.bx 8192 0),(10,Zl v3),(11,Zl v4),(2,AV.bx 8194 0),(8,Zl v5),(7,AV.val (PV.sl (Ty.int Jx).sl v6))]) (Zy [(8192,WB [AV.own 8193,Zl v7]),(8193,RS.live (Res.arr (Ty.int UM) v8 false)),(8194,WB [Zl v9,Zl v10,Zl v11])])
def YN (k:Nat) (L2:ZoR) (L1:ZoQ):ZoQ
 | (v0,v1,v2,v3,v4,v5,v6,v7,v8,v9,v10,v11) => bif decide (v1 < v0) then bif decide (0 ≤ v1 ∧ v1 < UI v2.length) then (QH k ((v8,v7,()),Jx.wrap (v2.getD v1.toNat 0),8,())).bind fun y => L1 (v0,Jx.wrap (v1 + 1),v2,v3,v4,v5,v6,y.2.1.2.1,y.2.1.1,v9,v10,v11) else none else (QH k ((v8,v7,()),Jx.wrap (v3 - 1),Jx.wrap ((8:Int) * Jx.wrap (Jx.wrap (v4 - 6) + (1:Int))),())).bind fun y => (ZrO k ((y.2.1.1,y.2.1.2.1,()),())).bind fun y => (Zv6 k (y.1,())).bind fun y_1 => (QH k ((y.2.1.1,y.2.1.2.1,()),y_1.1,8,())).bind fun y => (Zv7 k ((v9,v10,v11,()),v5,())).bind fun y_2 => L2 (UI (UL y_2.1),(0:Int),y_2.1,v6,y.2.1.2.1,y.2.1.1)
noncomputable def Zhe (k:Nat):ZoQ:=Zn (fun L1 => YN k (ZeE k) L1) k
noncomputable def ZvI (k:Nat) (n:Nat):=XF (ZAY k) Tryz.f14 Zcw ZoS [1,1,1,1,1,1,1,1,1,1,1,1,1,1,0,1,0] [] n ZHk (A:=ZAV)
def Zfv (k:Nat) (L1:ZoQ):(Int × Int × Int × Unit) × (Int × List (List Int) × Unit) × Unit → Option ((List Int × Int × Unit) × Unit)
 | ((a0,a1,a2,()),(a3,a4,()),()) => (Zii k ((a0,a1,a2,()),(a3,a4,()),())).bind fun y => bif y.1 != 0 then some (([],y.1,()),()) else (ZBC k ((a3,a4,()),())).bind fun y => bif y.1.2.2.1 != 0 then some (([],y.1.2.2.1,()),()) else bif decide ((0:Int) ≤ 0 ∧ (0:Int) < UI (UL y.1.1)) then bif decide ((256:Int) < UI (UL (UR y.1.1 (0:Nat) []))) then (ZrK k ()).bind fun y_1 => (QH k ((y_1.1.1,y_1.1.2.1,()),16382,14,())).bind fun y_2 => (QH k ((y_2.2.1.1,y_2.2.1.2.1,()),7,6,())).bind fun y_3 => (QH k ((y_3.2.1.1,y_3.2.1.2.1,()),y.1.2.1,8,())).bind fun y_4 => (QH k ((y_4.2.1.1,y_4.2.1.2.1,()),0,4,())).bind fun y_5 => (ZrL k (a3,())).bind fun y_6 => bif y_6.1.2.1 != 0 then some (([],y_6.1.2.1,()),()) else L1 (UI (UL y_6.1.1),(0:Int),y_6.1.1,UI (UL (UR y.1.1 (0:Nat) [])),(7:Int),y.1.2.1,y.1.1,y_5.2.1.2.1,y_5.2.1.1,a0,a1,a2) else (ZrK k ()).bind fun y_1 => (QH k ((y_1.1.1,y_1.1.2.1,()),16382,14,())).bind fun y_2 => (QH k ((y_2.2.1.1,y_2.2.1.2.1,()),6,6,())).bind fun y_3 => (QH k ((y_3.2.1.1,y_3.2.1.2.1,()),y.1.2.1,8,())).bind fun y_4 => (QH k ((y_4.2.1.1,y_4.2.1.2.1,()),0,4,())).bind fun y_5 => (ZrL k (a3,())).bind fun y_6 => bif y_6.1.2.1 != 0 then some (([],y_6.1.2.1,()),()) else L1 (UI (UL y_6.1.1),(0:Int),y_6.1.1,UI (UL (UR y.1.1 (0:Nat) [])),(6:Int),y.1.2.1,y.1.1,y_5.2.1.2.1,y_5.2.1.1,a0,a1,a2) else none
noncomputable def ZvH (k:Nat):=Zfv k (Zhe k)
theorem ZA0 (k:Nat):∀ n,ZvJ k n = Zn (fun L2 => ZaU k L2) n:=Qs
theorem ZAZ (k:Nat):∀ n,ZvI k n = Zn (fun L1 => YN k (ZeE k) L1) n:=Qs (fun n v => by rw [show (ZeE k) = ZvJ k k from (ZA0 k k).symm]; kernel_rfl)
set_option maxHeartbeats 1000000 in
noncomputable def ZFR (k:Nat):ZT k:=ZA 14 Tryz.f14 (ZAY k) Zcw ZoS ZvH (A:=ZAV) (h:=fun x => by show _ = Zfv k (Zhe k) x; rw [show Zhe k = ZvI k k from (ZAZ k k).symm]; kernel_rfl)
theorem ZvK (k:Nat):Ctr Tryz.prog k 14 (mk Zcw ZoS ZvH):=(ZFR k).2
abbrev ZHT:Kd:=.box [.view (.sl (.int .u8)),.view (.int .i64)]
def ZkY (k:Nat):List Int × Unit → Option ((List Int × Int × Unit) × Unit)
 | (a0,()) => (Znp k (a0,())).bind fun y => some ((y.1,0,()),())
def ZBU (k:Nat):=ZkY k
noncomputable def ZJa (k:Nat):ZT k:=ZA 44 Tryz.f44 [ZGp k] ZeG ZHT ZBU
abbrev Zhy:List Kd:=[.box [.view (.sl (.int .u8)),.view (.int .i64)]]
def ZCa (k:Nat):(List Int × Int × Unit) × Unit → Option (Int × (List Int × Int × Unit) × Unit)
 | ((a0,a1,()),()) => some (a1,(a0,a1,()),())
def Za5 (k:Nat):=ZCa k
noncomputable def Zwe (k:Nat):ZT k:=ZA 51 Tryz.f51 [] Zhy Zw Za5
abbrev ZId:List Kd:=[.box [.view (.sl (.int .u8)),.ref [.view (.sl (.int .u8)),.view (.int .i64)],.view (.int .i64)],.view .bool,.view (.int .i64)]
def Zk9 (k:Nat):(List Int × (List Int × Int × Unit) × Int × Unit) × Bool × Int × Unit → Option (Unit × (List Int × (List Int × Int × Unit) × Int × Unit) × Unit)
 | ((a0,(a1,a2,()),a3,()),a4,a5,()) => bif a3 == 0 then bif !a4 then some ((),(a0,(a1,a2,()),a5,()),()) else some ((),(a0,(a1,a2,()),a3,()),()) else some ((),(a0,(a1,a2,()),a3,()),())
def QY (k:Nat):=Zk9 k
noncomputable def Zww (k:Nat):ZT k:=ZA 82 Tryz.f82 [] ZId YD QY
abbrev Zlh:List Kd:=[.box [.view (.sl (.int .u8)),.view (.int .i64)],.view (.int .i64)]
def Zli (k:Nat):(List Int × Int × Unit) × Int × Unit → Option (Int × (List Int × Int × Unit) × Unit)
 | ((a0,a1,()),a2,()) => bif decide (0 ≤ Jx.wrap (a2.tdiv (8:Int)) ∧ Jx.wrap (a2.tdiv (8:Int)) < UI a0.length) then bif decide (0 ≤ Jx.wrap ((7:Int) - a2.tmod (8:Int))) then some (Jx.wrap (UI (UJ 64 (Jx.wrap (UP (a0.getD (Jx.wrap (a2.tdiv (8:Int))).toNat 0) ((2:Int) ^ min (Jx.wrap ((7:Int) - a2.tmod (8:Int))).toNat 8))) &&& UJ 64 (1:Int)).toNat),(a0,a1,()),()) else none else none
def Zr9 (k:Nat):=Zli k
set_option maxHeartbeats 1000000 in
noncomputable def ZCY (k:Nat):ZT k:=ZA 90 Tryz.f90 [] Zlh Zw Zr9
def Zhl (k:Nat):(List Int × Int × Unit) × Unit → Option (Int × (List Int × Int × Unit) × Unit)
 | ((a0,a1,()),()) => some (Jx.wrap (Jx.wrap ((8:Int) * UI a0.length) - a1),(a0,a1,()),())
def Zt0 (k:Nat):=Zhl k
noncomputable def ZHr (k:Nat):ZT k:=ZA 167 Tryz.f167 [] Zhy Zw Zt0
noncomputable def ZAt (k:Nat):List (ZT k):=[ZCq k,ZCY k,ZHr k]
def ZAs:Nat → Ann:=fun id => bif Ja id 7 then ⟨[19,20,6,0],[]⟩ else ⟨[],[]⟩
abbrev Zvx:=Int × Int × Int × List Int × Int
abbrev Zi3:=Zvx → Option ((Int × Int × Unit) × (List Int × Int × Unit) × Unit)
def ZEH:Zvx → St
 | (v0,v1,v2,v3,v4) => St.mk (Zz [(19,Zl v0),(20,Zl v1),(6,Zl v2),(0,AV.bx 0 0)]) (Zy [(0,WB [AV.val (PV.sl (Ty.int UM) v3),Zl v4])])
def ZaM (k:Nat) (L1:Zi3):Zi3
 | (v0,v1,v2,v3,v4) => bif decide (v1 < v0) then (Zr9 k ((v3,v4,()),v4,())).bind fun y => L1 (v0,Jx.wrap (v1 + 1),Jx.wrap (UI (UJ 64 (Jx.wrap (v2 * (2:Int))) ||| UJ 64 y.1).toNat),y.2.1.1,Jx.wrap (y.2.1.2.1 + 1)) else some ((v2,0,()),(v3,v4,()),())
def Zi4 (k:Nat):Zi3:=Zn (fun L1 => ZaM k L1) k
noncomputable def Zrb (k:Nat) (n:Nat):=XF (ZAt k) Tryz.f126 Zlh WS [1,1,1,0,1,0] [] n ZEH (A:=ZAs) (a:=[AV.bx (nat_lit 0) (nat_lit 0)]) (b:=[[]]) (q:=[0])
def Zdy (k:Nat) (L1:Zi3):(List Int × Int × Unit) × Int × Unit → Option ((Int × Int × Unit) × (List Int × Int × Unit) × Unit)
 | ((a0,a1,()),a2,()) => (ZrZ k (a2,())).bind fun y => bif y.1 then some ((0,1,()),(a0,a1,()),()) else (Zt0 k ((a0,a1,()),())).bind fun y => bif decide (y.1 < a2) then some ((0,10,()),(y.2.1.1,y.2.1.2.1,()),()) else L1 (a2,(0:Int),(0:Int),y.2.1.1,y.2.1.2.1)
def Y3 (k:Nat):=Zdy k (Zi4 k)
theorem Zx0 (k:Nat):∀ n,Zrb k n = Zn (fun L1 => ZaM k L1) n:=Qs
noncomputable def ZgU (k:Nat):ZT k:=ZA 126 Tryz.f126 (ZAt k) Zlh WS Y3 (A:=ZAs) (h:=fun x => by show _ = Zdy k (Zi4 k) x; rw [show Zi4 k = Zrb k k from (Zx0 k k).symm]; kernel_rfl)
abbrev ZIe:List Kd:=[.box [.view (.sl (.int .u8)),.ref [.view (.sl (.int .u8)),.view (.int .i64)],.view (.int .i64)],.view (.int .i64)]
def Zla (k:Nat):(List Int × (List Int × Int × Unit) × Int × Unit) × Int × Unit → Option (Int × (List Int × (List Int × Int × Unit) × Int × Unit) × Unit)
 | ((a0,(a1,a2,()),a3,()),a4,()) => bif a3 == 0 then (Y3 k ((a1,a2,()),a4,())).bind fun y => some (y.1.1,(a0,(y.2.1.1,y.2.1.2.1,()),y.1.2.1,()),()) else some (0,(a0,(a1,a2,()),a3,()),())
def Wt (k:Nat):=Zla k
noncomputable def Zwx (k:Nat):ZT k:=ZA 83 Tryz.f83 [ZgU k] ZIe Zw Wt
abbrev ZHX:List Kd:=[.box [.view (.sl (.int .u8)),.ref [.view (.sl (.int .u8)),.view (.int .i64)],.view (.int .i64)],.view (.int .i64),.fn 28]
def ZkZ (k:Nat):(List Int × (List Int × Int × Unit) × Int × Unit) × Int × Unit × Unit → Option (Unit × (List Int × (List Int × Int × Unit) × Int × Unit) × Unit)
 | ((a0,(a1,a2,()),a3,()),a4,(),()) => (Za5 k ((a1,a2,()),())).bind fun y => (Wt k ((a0,(y.2.1.1,y.2.1.2.1,()),a3,()),a4,())).bind fun y_1 => bif y_1.2.1.2.2.1 != 0 then (QY k ((y_1.2.1.1,(y_1.2.1.2.1.1,y_1.2.1.2.1.2.1,()),y_1.2.1.2.2.1,()),true,16,())).bind fun y => some ((),(y.2.1.1,(y.2.1.2.1.1,y.2.1.2.1.2.1,()),y.2.1.2.2.1,()),()) else bif decide ((0:Int) ≤ 0 ∧ (0:Int) ≤ Jx.wrap (UQ y.1 (8:Int)) ∧ Jx.wrap (UQ y.1 (8:Int)) ≤ UI (UL y_1.2.1.1)) then (Zv6 k (UO 0 (UN (Jx.wrap (UQ y.1 (8:Int))).toNat y_1.2.1.1),())).bind fun y => (QY k ((y_1.2.1.1,(y_1.2.1.2.1.1,y_1.2.1.2.1.2.1,()),y_1.2.1.2.2.1,()),y_1.1 == y.1,16,())).bind fun y => some ((),(y.2.1.1,(y.2.1.2.1.1,y.2.1.2.1.2.1,()),y.2.1.2.2.1,()),()) else none
def Zij (k:Nat):=ZkZ k
set_option maxHeartbeats 1000000 in
noncomputable def ZJe (k:Nat):ZT k:=ZA 48 Tryz.f48 [Zwe k,Zww k,Zwx k,ZF1 k] ZHX YD Zij
def Zlb (k:Nat):(Int × Int × Int × Unit) × Int × Unit → Option (Bool × Unit)
 | ((a0,a1,a2,()),a3,()) => bif a0 == 1 then some (a3 == 0,()) else bif a3 == 1 then some (true,()) else bif decide (8 ≤ a3) then some (decide (a3 ≤ 10),()) else some (false,())
def Zr6 (k:Nat):=Zlb k
noncomputable def ZJn (k:Nat):ZT k:=ZA 84 Tryz.f84 [] ZBP Qz Zr6
abbrev ZvS:List Kd:=[.view (.int .u8)]
def ZyJ (k:Nat):Int × Unit → Option (Int × Unit)
 | (a0,()) => bif decide (0 ≤ a0 ∧ a0 < 256) then some (Jx.wrap (UI ((UV (([0,1,2,2,3,3,3,3,4,4,4,4,4,4,4,4,5,5,5,5,5,5,5,5,5,5,5,5,5,5,5,5,6,6,6,6,6,6,6,6,6,6,6,6,6,6,6,6,6,6,6,6,6,6,6,6,6,6,6,6,6,6,6,6].append [7,7,7,7,7,7,7,7,7,7,7,7,7,7,7,7,7,7,7,7,7,7,7,7,7,7,7,7,7,7,7,7,7,7,7,7,7,7,7,7,7,7,7,7,7,7,7,7,7,7,7,7,7,7,7,7,7,7,7,7,7,7,7,7]).append ([8,8,8,8,8,8,8,8,8,8,8,8,8,8,8,8,8,8,8,8,8,8,8,8,8,8,8,8,8,8,8,8,8,8,8,8,8,8,8,8,8,8,8,8,8,8,8,8,8,8,8,8,8,8,8,8,8,8,8,8,8,8,8,8].append [8,8,8,8,8,8,8,8,8,8,8,8,8,8,8,8,8,8,8,8,8,8,8,8,8,8,8,8,8,8,8,8,8,8,8,8,8,8,8,8,8,8,8,8,8,8,8,8,8,8,8,8,8,8,8,8,8,8,8,8,8,8,8,8])).toArray).data.toList.getD a0.toNat 0).toNat),()) else none
def ZBk (k:Nat):=ZyJ k
set_option maxHeartbeats 1000000 in
noncomputable def ZHA (k:Nat):ZT k:=ZA 186 Tryz.f186 [] ZvS Zw ZBk
def Zyy (k:Nat):Int × Unit → Option (Int × Unit)
 | (a0,()) => (ZBk k (a0,())).bind fun y => some (Jx.wrap ((8:Int) - y.1),())
def Zo0 (k:Nat):=Zyy k
noncomputable def ZHs (k:Nat):ZT k:=ZA 168 Tryz.f168 [ZHA k] ZvS Zw Zo0
abbrev ZoN:Kd:=.tup [.view (.int .i64),.view (.int .i64),.view (.int .i64)]
noncomputable def ZAv (k:Nat):List (ZT k):=[ZGm k,ZHs k]
def ZAu:Nat → Ann:=fun id => bif Ja id 10 then ⟨[8,5,0,6,7],[]⟩ else ⟨[],[]⟩
abbrev Zi5:=ZhG → Option ((Int × Int × Int × Unit) × Unit)
def ZEI:ZhG → St
 | (v0,v1,v2,v3,v4) => St.mk (Zz [(8,Zl v0),(5,Zl v1),(0,AV.val (PV.sl (Ty.int UM) v2)),(6,Zl v3),(7,Zl v4)]) (Zy [])
def ZaN (k:Nat) (L1:Zi5):Zi5
 | (v0,v1,v2,v3,v4) => bif decide (v0 < v1) then bif decide (v0 < UI v2.length) then bif decide (0 ≤ v0 ∧ v0 < UI v2.length) then bif UP (v2.getD v0.toNat 0) (64:Int) != 2 then some ((0,0,2,()),()) else bif decide (0 ≤ v0 ∧ v0 < UI v2.length) then L1 (Jx.wrap (v0 + 1),v1,v2,Jx.wrap (UI (UJ 64 (Jx.wrap (v3 * (64:Int))) ||| UJ 64 (Jx.wrap (UI (UJ 64 (Jx.wrap (v2.getD v0.toNat 0)) &&& UJ 64 (63:Int)).toNat))).toNat),Jx.wrap (UI (UJ 64 (Jx.wrap (v4 * (64:Int))) ||| UJ 64 (Jx.wrap (UI (UJ 64 (Jx.wrap (v2.getD v0.toNat 0)) &&& UJ 64 (63:Int)).toNat))).toNat)) else none else none else L1 (Jx.wrap (v0 + 1),v1,v2,Jx.wrap (UI (UJ 64 (Jx.wrap (v3 * (64:Int))) ||| UJ 64 (0:Int)).toNat),Jx.wrap (UI (UJ 64 (Jx.wrap (v4 * (64:Int))) ||| UJ 64 (63:Int)).toNat)) else (Zwk k (Jx.wrap (v1 - 1),())).bind fun y => bif decide ((0:Int) ≤ y.1) then bif decide (v4 < Jx.wrap ((1:Int) * (2:Int) ^ min (UT y.1) (64:Nat))) then some ((0,0,2,()),()) else bif decide (UI v2.length < v1) then some ((0,0,10,()),()) else some ((v3,v1,0,()),()) else none
def Zi6 (k:Nat):Zi5:=Zn (fun L1 => ZaN k L1) k
noncomputable def Zrc (k:Nat) (n:Nat):=XF (ZAv k) Tryz.f127 ZeG ZoN [1,1,1,1,1,0,1,0] [] n ZEI (A:=ZAu)
def Zdz (k:Nat) (L1:Zi5):List Int × Unit → Option ((Int × Int × Int × Unit) × Unit)
 | (a0,()) => bif UI a0.length == (0:Int) then some ((0,0,10,()),()) else bif decide ((0:Int) ≤ 0 ∧ (0:Int) < UI a0.length) then (Zo0 k (UM.wrap (UI (UJ 8 (255:Int) ^^^ UJ 8 (a0.getD 0 0)).toNat),())).bind fun y => bif y.1 == 0 then bif decide ((0:Int) ≤ 0 ∧ (0:Int) < UI a0.length) then some ((Jx.wrap (a0.getD 0 0),1,0,()),()) else none else bif y.1 == 1 then some ((0,0,2,()),()) else bif decide ((7:Int) < y.1) then some ((0,0,2,()),()) else bif decide ((0:Int) ≤ 0 ∧ (0:Int) < UI a0.length) then bif decide ((0:Int) ≤ y.1) then bif decide ((0:Int) ≤ 0 ∧ (0:Int) < UI a0.length) then bif decide ((0:Int) ≤ y.1) then L1 (1,y.1,a0,Jx.wrap (UI (UJ 64 (Jx.wrap (a0.getD 0 0)) &&& UJ 64 (UP (127:Int) ((2:Int) ^ min (UT y.1) (64:Nat)))).toNat),Jx.wrap (UI (UJ 64 (Jx.wrap (a0.getD 0 0)) &&& UJ 64 (UP (127:Int) ((2:Int) ^ min (UT y.1) (64:Nat)))).toNat)) else none else none else none else none else none
def ZtO (k:Nat):=Zdz k (Zi6 k)
theorem Zx2 (k:Nat):∀ n,Zrc k n = Zn (fun L1 => ZaN k L1) n:=Qs
set_option maxHeartbeats 1000000 in
noncomputable def ZHa (k:Nat):ZT k:=ZA 127 Tryz.f127 (ZAv k) ZeG ZoN ZtO (A:=ZAu) (h:=fun x => by show _ = Zdz k (Zi6 k) x; rw [show Zi6 k = Zrc k k from (Zx2 k k).symm]; kernel_rfl)
abbrev ZCS:List Kd:=[.box [.view (.sl (.int .u8)),.ref [.view (.sl (.int .u8)),.view (.int .i64)],.view (.int .i64)]]
noncomputable def ZGw (k:Nat):List (ZT k):=[Zwe k,Zww k,Zwx k,ZHa k]
def ZGv:Nat → Ann:=fun id => bif Ja id 6 then ⟨[31,32,0,3],[]⟩ else ⟨[],[]⟩
abbrev ZCQ:=Int × Int × Int × List Int × Int × List Int × Int
abbrev ZpM:=ZCQ → Option (Int × (List Int × (List Int × Int × Unit) × Int × Unit) × Unit)
def ZIf:ZCQ → St
 | (v0,v1,v2,v3,v4,v5,v6) => St.mk (Zz [(31,Zl v0),(32,Zl v1),(0,AV.bx 0 0),(3,Zl v2)]) (Zy [(0,WB [AV.val (PV.sl (Ty.int UM) v3),AV.bx 1 0,Zl v4]),(1,WB [AV.val (PV.sl (Ty.int UM) v5),Zl v6])])
def ZcN (k:Nat) (L1:ZpM):ZpM
 | (v0,v1,v2,v3,v4,v5,v6) => bif decide (v1 < v0) then (Wt k ((v3,(v5,v6,()),v4,()),8,())).bind fun y => L1 (v0,Jx.wrap (v1 + 1),v2,y.2.1.1,y.2.1.2.2.1,y.2.1.2.1.1,y.2.1.2.1.2.1) else (QY k ((v3,(v5,v6,()),v4,()),decide (v2 ≤ 2147483647),2,())).bind fun y => some (v2,(y.2.1.1,(y.2.1.2.1.1,y.2.1.2.1.2.1,()),y.2.1.2.2.1,()),())
def ZpN (k:Nat):ZpM:=Zn (fun L1 => ZcN k L1) k
noncomputable def Zwy (k:Nat) (n:Nat):=XF (ZGw k) Tryz.f85 ZCS Zw [1,1,1,1,0,1,0] [] n ZIf (A:=ZGv) (a:=[AV.bx (nat_lit 0) (nat_lit 0)]) (b:=[[1]]) (q:=[0,1])
def ZfR (k:Nat) (L1:ZpM):(List Int × (List Int × Int × Unit) × Int × Unit) × Unit → Option (Int × (List Int × (List Int × Int × Unit) × Int × Unit) × Unit)
 | ((a0,(a1,a2,()),a3,()),()) => bif a3 != 0 then some (0,(a0,(a1,a2,()),a3,()),()) else (Za5 k ((a1,a2,()),())).bind fun y => bif decide (0 ≤ Jx.wrap (UQ y.1 (8:Int)) ∧ Jx.wrap (UQ y.1 (8:Int)) ≤ UI a0.length ∧ UI a0.length ≤ UI a0.length) then (ZtO k (UO (Jx.wrap (UQ y.1 (8:Int))).toNat (UN (UI a0.length).toNat a0),())).bind fun y_1 => L1 (y_1.1.2.1,(0:Int),y_1.1.1,a0,y_1.1.2.2.1,y.2.1.1,y.2.1.2.1) else none
def Zlc (k:Nat):=ZfR k (ZpN k)
theorem ZCR (k:Nat):∀ n,Zwy k n = Zn (fun L1 => ZcN k L1) n:=Qs
set_option maxHeartbeats 1000000 in
noncomputable def ZJo (k:Nat):ZT k:=ZA 85 Tryz.f85 (ZGw k) ZCS Zw Zlc (A:=ZGv) (h:=fun x => by show _ = ZfR k (ZpN k) x; rw [show ZpN k = Zwy k k from (ZCR k k).symm]; kernel_rfl)
abbrev ZHU:List Kd:=[.box [.view (.sl (.int .u8)),.ref [.view (.sl (.int .u8)),.view (.int .i64)],.view (.int .i64)],.view shapeT]
def ZBV (k:Nat):(List Int × (List Int × Int × Unit) × Int × Unit) × (Int × Int × Int × Unit) × Unit → Option ((Int × Int × Int × Unit) × (List Int × (List Int × Int × Unit) × Int × Unit) × Unit)
 | ((a0,(a1,a2,()),a3,()),(a4,a5,a6,()),()) => (Wt k ((a0,(a1,a2,()),a3,()),15,())).bind fun y => (QY k ((y.2.1.1,(y.2.1.2.1.1,y.2.1.2.1.2.1,()),y.2.1.2.2.1,()),y.1 == 32764,11,())).bind fun y => (Wt k ((y.2.1.1,(y.2.1.2.1.1,y.2.1.2.1.2.1,()),y.2.1.2.2.1,()),1,())).bind fun y => (QY k ((y.2.1.1,(y.2.1.2.1.1,y.2.1.2.1.2.1,()),y.2.1.2.2.1,()),y.1 == 0,2,())).bind fun y => (Wt k ((y.2.1.1,(y.2.1.2.1.1,y.2.1.2.1.2.1,()),y.2.1.2.2.1,()),4,())).bind fun y => bif y.1 == 6 then (QY k ((y.2.1.1,(y.2.1.2.1.1,y.2.1.2.1.2.1,()),y.2.1.2.2.1,()),true,2,())).bind fun y_1 => (Wt k ((y_1.2.1.1,(y_1.2.1.2.1.1,y_1.2.1.2.1.2.1,()),y_1.2.1.2.2.1,()),4,())).bind fun y_2 => (QY k ((y_2.2.1.1,(y_2.2.1.2.1.1,y_2.2.1.2.1.2.1,()),y_2.2.1.2.2.1,()),y_2.1 == 0,2,())).bind fun y_3 => (Wt k ((y_3.2.1.1,(y_3.2.1.2.1.1,y_3.2.1.2.1.2.1,()),y_3.2.1.2.2.1,()),4,())).bind fun y_4 => (Zr6 k ((a4,a5,a6,()),y_4.1,())).bind fun y_5 => (QY k ((y_4.2.1.1,(y_4.2.1.2.1.1,y_4.2.1.2.1.2.1,()),y_4.2.1.2.2.1,()),y_5.1,2,())).bind fun y_6 => (Wt k ((y_6.2.1.1,(y_6.2.1.2.1.1,y_6.2.1.2.1.2.1,()),y_6.2.1.2.2.1,()),4,())).bind fun y_7 => (QY k ((y_7.2.1.1,(y_7.2.1.2.1.1,y_7.2.1.2.1.2.1,()),y_7.2.1.2.2.1,()),y_7.1 == 0,2,())).bind fun y_8 => (Zlc k ((y_8.2.1.1,(y_8.2.1.2.1.1,y_8.2.1.2.1.2.1,()),y_8.2.1.2.2.1,()),())).bind fun y_9 => bif y_9.2.1.2.2.1 == 0 then (Wt k ((y_9.2.1.1,(y_9.2.1.2.1.1,y_9.2.1.2.1.2.1,()),y_9.2.1.2.2.1,()),Jx.wrap ((8:Int) * Jx.wrap (Jx.wrap (y.1 - 6) + (1:Int))),())).bind fun y => (QY k ((y.2.1.1,(y.2.1.2.1.1,y.2.1.2.1.2.1,()),y.2.1.2.2.1,()),decide (Jx.wrap (y.1 + 1) ≤ (512:Int)),1,())).bind fun y_10 => (Zij k ((y_10.2.1.1,(y_10.2.1.2.1.1,y_10.2.1.2.1.2.1,()),y_10.2.1.2.2.1,()),8,(),())).bind fun y_11 => some ((y_4.1,y_9.1,Jx.wrap (y.1 + 1),()),(y_11.2.1.1,(y_11.2.1.2.1.1,y_11.2.1.2.1.2.1,()),y_11.2.1.2.2.1,()),()) else (QY k ((y_9.2.1.1,(y_9.2.1.2.1.1,y_9.2.1.2.1.2.1,()),y_9.2.1.2.2.1,()),decide ((0:Int) ≤ 512),1,())).bind fun y => (Zij k ((y.2.1.1,(y.2.1.2.1.1,y.2.1.2.1.2.1,()),y.2.1.2.2.1,()),8,(),())).bind fun y => some ((y_4.1,y_9.1,0,()),(y.2.1.1,(y.2.1.2.1.1,y.2.1.2.1.2.1,()),y.2.1.2.2.1,()),()) else (QY k ((y.2.1.1,(y.2.1.2.1.1,y.2.1.2.1.2.1,()),y.2.1.2.2.1,()),y.1 == 7,2,())).bind fun y_1 => (Wt k ((y_1.2.1.1,(y_1.2.1.2.1.1,y_1.2.1.2.1.2.1,()),y_1.2.1.2.2.1,()),4,())).bind fun y_2 => (QY k ((y_2.2.1.1,(y_2.2.1.2.1.1,y_2.2.1.2.1.2.1,()),y_2.2.1.2.2.1,()),y_2.1 == 0,2,())).bind fun y_3 => (Wt k ((y_3.2.1.1,(y_3.2.1.2.1.1,y_3.2.1.2.1.2.1,()),y_3.2.1.2.2.1,()),4,())).bind fun y_4 => (Zr6 k ((a4,a5,a6,()),y_4.1,())).bind fun y_5 => (QY k ((y_4.2.1.1,(y_4.2.1.2.1.1,y_4.2.1.2.1.2.1,()),y_4.2.1.2.2.1,()),y_5.1,2,())).bind fun y_6 => (Wt k ((y_6.2.1.1,(y_6.2.1.2.1.1,y_6.2.1.2.1.2.1,()),y_6.2.1.2.2.1,()),4,())).bind fun y_7 => (QY k ((y_7.2.1.1,(y_7.2.1.2.1.1,y_7.2.1.2.1.2.1,()),y_7.2.1.2.2.1,()),y_7.1 == 0,2,())).bind fun y_8 => (Zlc k ((y_8.2.1.1,(y_8.2.1.2.1.1,y_8.2.1.2.1.2.1,()),y_8.2.1.2.2.1,()),())).bind fun y_9 => bif y_9.2.1.2.2.1 == 0 then (Wt k ((y_9.2.1.1,(y_9.2.1.2.1.1,y_9.2.1.2.1.2.1,()),y_9.2.1.2.2.1,()),Jx.wrap ((8:Int) * Jx.wrap (Jx.wrap (y.1 - 6) + (1:Int))),())).bind fun y => (QY k ((y.2.1.1,(y.2.1.2.1.1,y.2.1.2.1.2.1,()),y.2.1.2.2.1,()),decide (Jx.wrap (y.1 + 1) ≤ (512:Int)),1,())).bind fun y_10 => (Zij k ((y_10.2.1.1,(y_10.2.1.2.1.1,y_10.2.1.2.1.2.1,()),y_10.2.1.2.2.1,()),8,(),())).bind fun y_11 => some ((y_4.1,y_9.1,Jx.wrap (y.1 + 1),()),(y_11.2.1.1,(y_11.2.1.2.1.1,y_11.2.1.2.1.2.1,()),y_11.2.1.2.2.1,()),()) else (QY k ((y_9.2.1.1,(y_9.2.1.2.1.1,y_9.2.1.2.1.2.1,()),y_9.2.1.2.2.1,()),decide ((0:Int) ≤ 512),1,())).bind fun y => (Zij k ((y.2.1.1,(y.2.1.2.1.1,y.2.1.2.1.2.1,()),y.2.1.2.2.1,()),8,(),())).bind fun y => some ((y_4.1,y_9.1,0,()),(y.2.1.1,(y.2.1.2.1.1,y.2.1.2.1.2.1,()),y.2.1.2.2.1,()),())
def Zwa (k:Nat):=ZBV k
set_option maxHeartbeats 1000000 in
noncomputable def ZJb (k:Nat):ZT k:=ZA 45 Tryz.f45 [ZJe k,Zww k,Zwx k,ZJn k,ZJo k] ZHU ZoN Zwa
abbrev ZEJ:List Kd:=[.box [.ref [.view (.sl (.int .u8)),.view (.int .i64)],.view (.int .i64)],.view .bool]
def ZgV (k:Nat):((List Int × Int × Unit) × Int × Unit) × Bool × Unit → Option (Unit × ((List Int × Int × Unit) × Int × Unit) × Unit)
 | (((a0,a1,()),a2,()),a3,()) => bif a2 == 0 then bif !a3 then some ((),((a0,a1,()),2,()),()) else some ((),((a0,a1,()),a2,()),()) else some ((),((a0,a1,()),a2,()),())
def W4 (k:Nat):=ZgV k
noncomputable def ZAw (k:Nat):ZT k:=ZA 128 Tryz.f128 [] ZEJ YD W4
abbrev Zvy:List Kd:=[.box [.ref [.view (.sl (.int .u8)),.view (.int .i64)],.view (.int .i64)],.view (.int .i64)]
def ZgW (k:Nat):((List Int × Int × Unit) × Int × Unit) × Int × Unit → Option (Int × ((List Int × Int × Unit) × Int × Unit) × Unit)
 | (((a0,a1,()),a2,()),a3,()) => bif a2 == 0 then (Y3 k ((a0,a1,()),a3,())).bind fun y => some (y.1.1,((y.2.1.1,y.2.1.2.1,()),y.1.2.1,()),()) else some (0,((a0,a1,()),a2,()),())
def Y4 (k:Nat):=ZgW k
noncomputable def ZAx (k:Nat):ZT k:=ZA 129 Tryz.f129 [ZgU k] Zvy Zw Y4
def ZgX (k:Nat):Int × Unit → Option (Bool × Unit)
 | (a0,()) => bif a0 == 0 then some (true,()) else bif a0 == 1 then some (true,()) else bif decide (8 ≤ a0) then bif decide (a0 ≤ 12) then some (true,()) else bif decide ((31:Int) < a0) then some (decide (a0 ≤ 39),()) else some (false,()) else bif decide ((31:Int) < a0) then some (decide (a0 ≤ 39),()) else some (false,())
def ZtP (k:Nat):=ZgX k
noncomputable def ZHb (k:Nat):ZT k:=ZA 130 Tryz.f130 [] QG Qz ZtP
noncomputable def ZAA (k:Nat):List (ZT k):=[ZCY k]
def ZAy:Nat → Ann:=fun id => bif Ja id 4 then ⟨[4,0],[]⟩ else ⟨[],[]⟩
abbrev Zvz:=Int × List Int × Int
abbrev Zi7:=Zvz → Option ((Int × Int × Unit) × (List Int × Int × Unit) × Unit)
def ZEK:Zvz → St
 | (v0,v1,v2) => St.mk (Zz [(4,Zl v0),(0,AV.bx 0 0)]) (Zy [(0,WB [AV.val (PV.sl (Ty.int UM) v1),Zl v2])])
def ZaP (k:Nat) (L1:Zi7):Zi7
 | (v0,v1,v2) => bif decide (v0 < Jx.wrap ((8:Int) * UI v1.length)) then (Zr9 k ((v1,v2,()),v0,())).bind fun y => bif y.1 == 1 then some ((Jx.wrap (v0 - y.2.1.2.1),0,()),(y.2.1.1,Jx.wrap (v0 + 1),()),()) else L1 (Jx.wrap (v0 + 1),y.2.1.1,y.2.1.2.1) else some ((0,10,()),(v1,v2,()),())
def Zi8 (k:Nat):Zi7:=Zn (fun L1 => ZaP k L1) k
noncomputable def Zrd (k:Nat) (n:Nat):=XF (ZAA k) Tryz.f131 Zhy WS [1,1,0,1,0] [] n ZEK (A:=ZAy) (a:=[AV.bx (nat_lit 0) (nat_lit 0)]) (b:=[[]]) (q:=[0])
def ZdA (k:Nat) (L1:Zi7):(List Int × Int × Unit) × Unit → Option ((Int × Int × Unit) × (List Int × Int × Unit) × Unit)
 | ((a0,a1,()),()) => L1 (a1,a0,a1)
def Zkw (k:Nat):=ZdA k (Zi8 k)
theorem Zx6 (k:Nat):∀ n,Zrd k n = Zn (fun L1 => ZaP k L1) n:=Qs
noncomputable def ZAz (k:Nat):ZT k:=ZA 131 Tryz.f131 (ZAA k) Zhy WS Zkw (A:=ZAy) (h:=fun x => by show _ = ZdA k (Zi8 k) x; rw [show Zi8 k = Zrd k k from (Zx6 k k).symm]; kernel_rfl)
def Zle (k:Nat):((List Int × Int × Unit) × Int × Unit) × Int × Unit → Option ((Int × Int × Unit) × ((List Int × Int × Unit) × Int × Unit) × Unit)
 | (((a0,a1,()),a2,()),a3,()) => (Y4 k (((a0,a1,()),a2,()),1,())).bind fun y => (W4 k (((y.2.1.1.1,y.2.1.1.2.1,()),y.2.1.2.1,()),y.1 == 0,())).bind fun y => (Y4 k (((y.2.1.1.1,y.2.1.1.2.1,()),y.2.1.2.1,()),6,())).bind fun y => (ZtP k (y.1,())).bind fun y_1 => (W4 k (((y.2.1.1.1,y.2.1.1.2.1,()),y.2.1.2.1,()),y_1.1,())).bind fun y_2 => (Y4 k (((y_2.2.1.1.1,y_2.2.1.1.2.1,()),y_2.2.1.2.1,()),1,())).bind fun y_3 => bif y_3.1 == 1 then bif y_3.2.1.2.1 == 0 then (Zkw k ((y_3.2.1.1.1,y_3.2.1.1.2.1,()),())).bind fun y_4 => (W4 k (((y_4.2.1.1,y_4.2.1.2.1,()),y_4.1.2.1,()),decide (Jx.wrap (y_4.1.1 + 1) < a3),())).bind fun y_5 => some ((y.1,Jx.wrap (y_4.1.1 + 1),()),((y_5.2.1.1.1,y_5.2.1.1.2.1,()),y_5.2.1.2.1,()),()) else (W4 k (((y_3.2.1.1.1,y_3.2.1.1.2.1,()),y_3.2.1.2.1,()),decide ((0:Int) < a3),())).bind fun y_4 => some ((y.1,0,()),((y_4.2.1.1.1,y_4.2.1.1.2.1,()),y_4.2.1.2.1,()),()) else (W4 k (((y_3.2.1.1.1,y_3.2.1.1.2.1,()),y_3.2.1.2.1,()),decide ((0:Int) < a3),())).bind fun y_4 => some ((y.1,0,()),((y_4.2.1.1.1,y_4.2.1.1.2.1,()),y_4.2.1.2.1,()),())
def ZCU (k:Nat):=Zle k
set_option maxHeartbeats 1000000 in
noncomputable def ZJp (k:Nat):ZT k:=ZA 87 Tryz.f87 [ZAw k,ZAx k,ZHb k,ZAz k] Zvy WS ZCU
abbrev ZE4:List Kd:=[.view (.int .u32),.view (.int .u32)]
abbrev ZE5:Kd:=.tup [.view (.int .u32),.view (.int .u32)]
def ZyK (k:Nat):Int × Int × Unit → Option ((Int × Int × Unit) × Unit)
 | (a0,a1,()) => some ((IntKind.u32.wrap ((UK.wrap (UK.wrap a0 * UK.wrap a1)).fdiv (4294967296:Int)),IntKind.u32.wrap (UK.wrap (UK.wrap a0 * UK.wrap a1)),()),())
def ZHB (k:Nat):=ZyK k
noncomputable def ZHC (k:Nat):ZT k:=ZA 187 Tryz.f187 [] ZE4 ZE5 ZHB
abbrev ZvT:List Kd:=[.view (.int .u64),.view (.int .u64)]
abbrev ZvU:Kd:=.tup [.view (.int .u64),.view (.int .u64)]
def Zhp (k:Nat):Int × Int × Unit → Option ((Int × Int × Unit) × Unit)
 | (a0,a1,()) => some ((UK.wrap (UK.wrap (UK.wrap (a0.fdiv (4294967296:Int) * a1.fdiv (4294967296:Int)) + (UK.wrap (UK.wrap (a0.fdiv (4294967296:Int) * UK.wrap (UI (UJ 64 a1 &&& UJ 64 (4294967295:Int)).toNat)) + (UK.wrap (UK.wrap (UI (UJ 64 a0 &&& UJ 64 (4294967295:Int)).toNat) * UK.wrap (UI (UJ 64 a1 &&& UJ 64 (4294967295:Int)).toNat))).fdiv (4294967296:Int))).fdiv (4294967296:Int)) + (UK.wrap (UK.wrap (UI (UJ 64 (UK.wrap (UK.wrap (a0.fdiv (4294967296:Int) * UK.wrap (UI (UJ 64 a1 &&& UJ 64 (4294967295:Int)).toNat)) + (UK.wrap (UK.wrap (UI (UJ 64 a0 &&& UJ 64 (4294967295:Int)).toNat) * UK.wrap (UI (UJ 64 a1 &&& UJ 64 (4294967295:Int)).toNat))).fdiv (4294967296:Int))) &&& UJ 64 (4294967295:Int)).toNat) + UK.wrap (UK.wrap (UI (UJ 64 a0 &&& UJ 64 (4294967295:Int)).toNat) * a1.fdiv (4294967296:Int)))).fdiv (4294967296:Int)),UK.wrap (a0 * a1),()),())
def ZBl (k:Nat):=Zhp k
set_option maxHeartbeats 1000000 in
noncomputable def ZHD (k:Nat):ZT k:=ZA 188 Tryz.f188 [] ZvT ZvU ZBl
def ZyA (k:Nat):Int × Int × Unit → Option ((Int × Int × Unit) × Unit)
 | (a0,a1,()) => (ZBl k (a0,a1,())).bind fun y => some ((y.1.1,y.1.2.1,()),())
def Zt1 (k:Nat):=ZyA k
noncomputable def ZHt (k:Nat):ZT k:=ZA 169 Tryz.f169 [ZHC k,ZHD k] ZvT ZvU Zt1
noncomputable def ZAC (k:Nat):List (ZT k):=[ZHt k]
def ZAD:Nat → List Nat:=fun r => bif Ja r 999999 then [1] else []
def ZAB:Nat → Ann:=fun id => bif Ja id 8 then ⟨[8,7],[]⟩ else ⟨[],[]⟩
abbrev ZvA:=Int × List Int
abbrev Zi9:=ZvA → Option (List Int × Unit)
def ZEL:ZvA → St
 | (v0,v1) => St.mk (Zz [(8,Zl v0),(7,AV.own 8192)]) (Zy [(8192,rsA v1 false)])
def ZdC (k:Nat) (L1:Zi9):Zi9
 | (v0,v1) => bif decide (v0 < UI v1.length) then bif decide (0 ≤ v0 ∧ v0 ≤ UI v1.length ∧ UI v1.length ≤ UI v1.length) then bif decide ((0:Int) ≤ 0 ∧ (0:Int) ≤ v0 ∧ v0 ≤ UI v1.length) then bif decide (v0.toNat ≤ (UI v1.length).toNat ∧ (UI v1.length).toNat ≤ v1.length) then bif decide ((0:Nat) ≤ v0.toNat ∧ v0.toNat ≤ v1.length) then L1 (Jx.wrap (v0 + UI (min (UO 0 (UN v0.toNat v1)).length ((UI v1.length).toNat - v0.toNat))),UN v0.toNat v1 ++ UN ((UI v1.length).toNat - v0.toNat) (UO 0 (UN v0.toNat v1)) ++ UO (v0.toNat + min (UO 0 (UN v0.toNat v1)).length ((UI v1.length).toNat - v0.toNat)) v1) else none else none else none else none else some (v1,())
def Zja (k:Nat):Zi9:=Zn (fun L1 => ZdC k L1) k
noncomputable def Zre (k:Nat) (n:Nat):=XF (ZAC k) Tryz.f132 Wl Zhx [1,1,1,1,1,1,0,0] [] n ZEL (A:=ZAB) (live:=ZAD)
def ZdB (k:Nat) (L1:Zi9):List Int × Int × Unit → Option (List Int × Unit)
 | (a0,a1,()) => bif decide (a1 < 0) then none else (Zt1 k (UK.wrap (UI a0.length),UK.wrap a1,())).bind fun y => bif decide ((0:Int) < y.1.1) then none else bif decide ((9223372036854775807:Int) < y.1.2.1) then none else bif decide (0 ≤ Jx.wrap y.1.2.1 ∧ Jx.wrap y.1.2.1 ≤ Jx.wrap y.1.2.1 ∧ Jx.wrap y.1.2.1 < 4294967296) then L1 (UI (min a0.length ((Jd (Jx.wrap y.1.2.1).toNat (0:Int)).length - (0:Nat))),UN 0 (Jd (Jx.wrap y.1.2.1).toNat (0:Int)) ++ UN ((Jd (Jx.wrap y.1.2.1).toNat (0:Int)).length - (0:Nat)) a0 ++ UO ((0:Nat) + min a0.length ((Jd (Jx.wrap y.1.2.1).toNat (0:Int)).length - (0:Nat))) (Jd (Jx.wrap y.1.2.1).toNat (0:Int))) else none
def ZtQ (k:Nat):=ZdB k (Zja k)
theorem Zx8 (k:Nat):∀ n,Zre k n = Zn (fun L1 => ZdC k L1) n:=Qs
set_option maxHeartbeats 1000000 in
noncomputable def ZHc (k:Nat):ZT k:=ZA 132 Tryz.f132 (ZAC k) Wl Zhx ZtQ (A:=ZAB) (live:=ZAD) (h:=fun x => by show _ = ZdB k (Zja k) x; rw [show Zja k = Zre k k from (Zx8 k k).symm]; kernel_rfl)
def Zhm (k:Nat):(List Int × Int × Unit) × Int × Unit → Option ((Int × Int × Unit) × (List Int × Int × Unit) × Unit)
 | ((a0,a1,()),a2,()) => (Y3 k ((a0,a1,()),a2,())).bind fun y => bif y.1.2.1 == 0 then bif decide ((0:Int) < a2) then bif decide (0 ≤ Jx.wrap (a2 - 1)) then bif UP y.1.1 ((2:Int) ^ min (Jx.wrap (a2 - 1)).toNat 64) == (1:Int) then bif decide (0 ≤ a2) then some ((Jx.wrap (y.1.1 - Jx.wrap ((1:Int) * (2:Int) ^ min a2.toNat 64)),y.1.2.1,()),(y.2.1.1,y.2.1.2.1,()),()) else none else some ((y.1.1,y.1.2.1,()),(y.2.1.1,y.2.1.2.1,()),()) else none else some ((y.1.1,y.1.2.1,()),(y.2.1.1,y.2.1.2.1,()),()) else some ((y.1.1,y.1.2.1,()),(y.2.1.1,y.2.1.2.1,()),())
def Zo1 (k:Nat):=Zhm k
set_option maxHeartbeats 1000000 in
noncomputable def ZBd (k:Nat):ZT k:=ZA 170 Tryz.f170 [ZgU k] Zlh WS Zo1
abbrev ZvC:List Kd:=[.box [.ref [.view (.sl (.int .u8)),.view (.int .i64)],.view (.int .i64)],.view (.int .i64),.view (.int .i64)]
noncomputable def ZAF (k:Nat):List (ZT k):=[ZBd k]
def ZAE:Nat → Ann:=fun id => bif Ja id 3 then ⟨[9,10,0,2,7],[.slot 7 ((Ty.int Jx))]⟩ else ⟨[],[]⟩
abbrev ZvB:=Int × Int × Int × Int × List Int × Int × List Int
abbrev Zjb:=ZvB → Option (List Int × ((List Int × Int × Unit) × Int × Unit) × Unit)
def ZEM:ZvB → St
 | (v0,v1,v2,v3,v4,v5,v6) => St.mk (Zz [(9,Zl v0),(10,Zl v1),(0,AV.bx 0 0),(2,Zl v2),(7,AV.own 8192)]) (Zy [(0,WB [AV.bx 1 0,Zl v3]),(1,WB [AV.val (PV.sl (Ty.int UM) v4),Zl v5]),(8192,rsA v6 false)])
def ZaQ (k:Nat) (L1:Zjb):Zjb
 | (v0,v1,v2,v3,v4,v5,v6) => bif decide (v1 < v0) then bif v3 == 0 then (Zo1 k ((v4,v5,()),v2,())).bind fun y => bif decide (v6.length + [y.1.1].length < 2147483648) then L1 (v0,Jx.wrap (v1 + 1),v2,y.1.2.1,y.2.1.1,y.2.1.2.1,v6 ++ [y.1.1]) else none else bif decide (v6.length + (1:Nat) < (2147483648:Nat)) then L1 (v0,Jx.wrap (v1 + 1),v2,v3,v4,v5,v6 ++ [(0:Int)]) else none else some (v6,((v4,v5,()),v3,()),())
def Zjc (k:Nat):Zjb:=Zn (fun L1 => ZaQ k L1) k
noncomputable def Zrf (k:Nat) (n:Nat):=XF (ZAF k) Tryz.f133 ZvC Zhx [1,1,0,1,0] [] n ZEM (A:=ZAE) (a:=[AV.bx (nat_lit 0) (nat_lit 0)]) (b:=[[1]]) (q:=[0,1])
def ZdD (k:Nat) (L1:Zjb):((List Int × Int × Unit) × Int × Unit) × Int × Int × Unit → Option (List Int × ((List Int × Int × Unit) × Int × Unit) × Unit)
 | (((a0,a1,()),a2,()),a3,a4,()) => L1 (a3,(0:Int),a4,a2,a0,a1,[])
def ZbF (k:Nat):=ZdD k (Zjc k)
theorem Zyb (k:Nat):∀ n,Zrf k n = Zn (fun L1 => ZaQ k L1) n:=Qs
noncomputable def ZHd (k:Nat):ZT k:=ZA 133 Tryz.f133 (ZAF k) ZvC Zhx ZbF (A:=ZAE) (h:=fun x => by show _ = ZdD k (Zjc k) x; rw [show Zjc k = Zrf k k from (Zyb k k).symm]; kernel_rfl)
def Zhu (k:Nat):Int × Unit → Option ((Int × Int × Unit) × Unit)
 | (a0,()) => bif decide (a0 < 0) then some ((0,12,()),()) else bif decide ((2199023255552:Int) < a0) then some ((0,12,()),()) else some ((Jx.wrap (UI (UJ 64 (a0.fdiv (2:Int)) ^^^ UJ 64 (Jx.wrap ((0:Int) - Jx.wrap (UI (UJ 64 a0 &&& UJ 64 (1:Int)).toNat)))).toNat),0,()),())
def Zud (k:Nat):=Zhu k
noncomputable def ZHK (k:Nat):ZT k:=ZA 195 Tryz.f195 [] QG WS Zud
def Zhr (k:Nat):(List Int × Int × Unit) × Int × Unit → Option ((Int × Int × Unit) × (List Int × Int × Unit) × Unit)
 | ((a0,a1,()),a2,()) => (Zkw k ((a0,a1,()),())).bind fun y => bif y.1.2.1 != 0 then some ((0,y.1.2.1,()),(y.2.1.1,y.2.1.2.1,()),()) else (Y3 k ((y.2.1.1,y.2.1.2.1,()),a2,())).bind fun y_1 => bif y_1.1.2.1 != 0 then some ((0,y_1.1.2.1,()),(y_1.2.1.1,y_1.2.1.2.1,()),()) else bif decide (0 ≤ a2) then bif decide (4294967295 ≤ Jx.wrap (UI (UJ 64 (Jx.wrap (y.1.1 * (2:Int) ^ min a2.toNat 64)) ||| UJ 64 y_1.1.1).toNat)) then some ((0,12,()),(y_1.2.1.1,y_1.2.1.2.1,()),()) else (Zud k (Jx.wrap (UI (UJ 64 (Jx.wrap (y.1.1 * (2:Int) ^ min a2.toNat 64)) ||| UJ 64 y_1.1.1).toNat),())).bind fun y => some ((y.1.1,y.1.2.1,()),(y_1.2.1.1,y_1.2.1.2.1,()),()) else none
def Zt9 (k:Nat):=Zhr k
set_option maxHeartbeats 1000000 in
noncomputable def ZHG (k:Nat):ZT k:=ZA 190 Tryz.f190 [ZgU k,ZAz k,ZHK k] Zlh WS Zt9
abbrev ZvV:List Kd:=[.box [.ref [.view (.sl (.int .u8)),.view (.int .i64)]],.box [.view (.int .i64)]]
def Zhq (k:Nat):((List Int × Int × Unit) × Unit) × (Int × Unit) × Unit → Option ((Int × Int × Unit) × ((List Int × Int × Unit) × Unit) × (Int × Unit) × Unit)
 | (((a0,a1,()),()),(a2,()),()) => (Zt9 k ((a0,a1,()),a2,())).bind fun y => some ((y.1.1,y.1.2.1,()),((y.2.1.1,y.2.1.2.1,()),()),(a2,()),())
def Zt6 (k:Nat):=Zhq k
noncomputable def ZHE (k:Nat):ZT k:=ZA 189 Tryz.f189 [ZHG k] ZvV WS Zt6
def Zhs (k:Nat):((List Int × Int × Unit) × Unit) × (Int × Unit) × Unit → Option ((Int × Int × Unit) × ((List Int × Int × Unit) × Unit) × (Int × Unit) × Unit)
 | (((a0,a1,()),()),(a2,()),()) => (Zo1 k ((a0,a1,()),a2,())).bind fun y => some ((y.1.1,y.1.2.1,()),((y.2.1.1,y.2.1.2.1,()),()),(a2,()),())
def Zua (k:Nat):=Zhs k
noncomputable def ZHH (k:Nat):ZT k:=ZA 191 Tryz.f191 [ZBd k] ZvV WS Zua
abbrev ZbI:List Kd:=[.box [.view (.sl (.int .u8)),.view (.int .i64)],.view (.int .i64),.view (.int .i64)]
noncomputable def Zt3 (k:Nat):List (ZT k):=[ZoL k,ZoM k,ZgU k,ZHE k,ZHH k]
noncomputable def Zt2:Nat → Ann:=fun id => bif Ja id 12 then ⟨[40,41,10,13],[.slot 13 ((Ty.int Jx))]⟩ else ⟨[],[]⟩
abbrev K0:=Zk8 → Option ((List Int × Int × Unit) × (List Int × Int × Unit) × Unit)
noncomputable def ZEY:Zk8 → St
 | (v0,v1,v2,v3,v4,v5) => St.mk (Zz [(40,Zl v0),(41,Zl v1),(10,AV.clo 191 [AV.bx 8192 0,AV.bx 8193 0]),(13,AV.own 8194)]) (Zy [(0,WB [AV.val (PV.sl (Ty.int UM) v2),Zl v3]),(8192,WB [AV.bx 0 0]),(8193,WB [Zl v4]),(8194,rsA v5 false)])
noncomputable def ZaZ (k:Nat) (L1:K0):K0
 | (v0,v1,v2,v3,v4,v5) => bif decide (v1 < v0) then (Zua k (((v2,v3,()),()),(v4,()),())).bind fun y => bif y.1.2.1 != 0 then some (([],y.1.2.1,()),(y.2.1.1.1,y.2.1.1.2.1,()),()) else bif decide (v5.length + [y.1.1].length < 2147483648) then L1 (v0,Jx.wrap (v1 + 1),y.2.1.1.1,y.2.1.1.2.1,y.2.2.1.1,v5 ++ [y.1.1]) else none else some ((v5,0,()),(v2,v3,()),())
noncomputable def Zjr (k:Nat):K0:=Zn (fun L1 => ZaZ k L1) k
noncomputable def ZrE (k:Nat) (n:Nat):=XF (Zt3 k) Tryz.f171 ZbI X9 [1,1,1,1,1,1,0,1,0] [] n ZEY (A:=Zt2) (a:=[AV.bx (nat_lit 0) (nat_lit 0)]) (b:=[[]]) (q:=[0])
noncomputable def ZEZ:Zk8 → St
 | (v0,v1,v2,v3,v4,v5) => St.mk (Zz [(40,Zl v0),(41,Zl v1),(10,AV.clo 189 [AV.bx 8192 0,AV.bx 8193 0]),(13,AV.own 8194)]) (Zy [(0,WB [AV.val (PV.sl (Ty.int UM) v2),Zl v3]),(8192,WB [AV.bx 0 0]),(8193,WB [Zl v4]),(8194,rsA v5 false)])
noncomputable def Za0 (k:Nat) (L2:K0):K0
 | (v0,v1,v2,v3,v4,v5) => bif decide (v1 < v0) then (Zt6 k (((v2,v3,()),()),(v4,()),())).bind fun y => bif y.1.2.1 != 0 then some (([],y.1.2.1,()),(y.2.1.1.1,y.2.1.1.2.1,()),()) else bif decide (v5.length + [y.1.1].length < 2147483648) then L2 (v0,Jx.wrap (v1 + 1),y.2.1.1.1,y.2.1.1.2.1,y.2.2.1.1,v5 ++ [y.1.1]) else none else some ((v5,0,()),(v2,v3,()),())
noncomputable def Zfz (k:Nat):K0:=Zn (fun L2 => Za0 k L2) k
noncomputable def ZrF (k:Nat) (n:Nat):=XF (Zt3 k) Tryz.f171 ZbI X9 [1,1,1,1,1,1,0,1,0] [] n ZEZ (A:=Zt2) (a:=[AV.bx (nat_lit 0) (nat_lit 0)]) (b:=[[]]) (q:=[0])
noncomputable def ZdN (k:Nat) (L1:K0) (L2:K0):(List Int × Int × Unit) × Int × Int × Unit → Option ((List Int × Int × Unit) × (List Int × Int × Unit) × Unit)
 | ((a0,a1,()),a2,a3,()) => (ZeC k (a2,())).bind fun y => (Y3 k ((a0,a1,()),y.1,())).bind fun y => bif y.1.2.1 != 0 then some (([],y.1.2.1,()),(y.2.1.1,y.2.1.2.1,()),()) else (Zao k (a2,())).bind fun y_1 => bif y.1.1 == y_1.1 then (Y3 k ((y.2.1.1,y.2.1.2.1,()),5,())).bind fun y => bif y.1.2.1 != 0 then some (([],y.1.2.1,()),(y.2.1.1,y.2.1.2.1,()),()) else L1 (a3,(0:Int),y.2.1.1,y.2.1.2.1,y.1.1,[]) else L2 (a3,(0:Int),y.2.1.1,y.2.1.2.1,y.1.1,[])
noncomputable def ZkM (k:Nat):=ZdN k (Zjr k) (Zfz k)
theorem ZyB (k:Nat):∀ n,ZrE k n = Zn (fun L1 => ZaZ k L1) n:=Qs
theorem ZyC (k:Nat):∀ n,ZrF k n = Zn (fun L2 => Za0 k L2) n:=Qs
set_option maxHeartbeats 1000000 in
noncomputable def ZHu (k:Nat):ZT k:=ZA 171 Tryz.f171 (Zt3 k) ZbI X9 ZkM (A:=Zt2) (h:=fun x => by show _ = ZdN k (Zjr k) (Zfz k) x; rw [show Zjr k = ZrE k k from (ZyB k k).symm,show Zfz k = ZrF k k from (ZyC k k).symm]; kernel_rfl)
noncomputable def ZAH (k:Nat):List (ZT k):=[ZgU k,ZA7 k,ZA8 k,ZHu k]
def ZAG:Nat → Ann:=fun id => bif Ja id 15 then ⟨[52,53,1,10,2,0,8,11],[.slot 11 ((Ty.int Jx))]⟩ else ⟨[],[]⟩
abbrev ZvD:=Int × Int × Int × Int × Int × Int × List Int × Int × List Int
abbrev Zjd:=ZvD → Option ((List Int × Int × Unit) × (List Int × Int × Unit) × Unit)
def ZEN:ZvD → St
 | (v0,v1,v2,v3,v4,v5,v6,v7,v8) => St.mk (Zz [(52,Zl v0),(53,Zl v1),(1,Zl v2),(10,Zl v3),(2,Zl v4),(0,AV.bx 0 0),(8,Zl v5),(11,AV.own 8192)]) (Zy [(0,WB [AV.val (PV.sl (Ty.int UM) v6),Zl v7]),(8192,rsA v8 false)])
noncomputable def Km (k:Nat) (L1:Zjd):Zjd
 | (v0,v1,v2,v3,v4,v5,v6,v7,v8) => bif decide (v1 < v0) then bif decide (0 ≤ v3) then bif v1 == 0 then (ZkM k ((v6,v7,()),v5,Jx.wrap (v2.fdiv ((2:Int) ^ min v3.toNat 64) - v4),())).bind fun y => bif y.1.2.1 != 0 then some (([],y.1.2.1,()),(y.2.1.1,y.2.1.2.1,()),()) else bif decide (v8.length + UL y.1.1 < 2147483648) then L1 (v0,Jx.wrap (v1 + 1),v2,v3,v4,v5,y.2.1.1,y.2.1.2.1,v8 ++ y.1.1) else none else (ZkM k ((v6,v7,()),v5,v2.fdiv ((2:Int) ^ min v3.toNat 64),())).bind fun y => bif y.1.2.1 != 0 then some (([],y.1.2.1,()),(y.2.1.1,y.2.1.2.1,()),()) else bif decide (v8.length + UL y.1.1 < 2147483648) then L1 (v0,Jx.wrap (v1 + 1),v2,v3,v4,v5,y.2.1.1,y.2.1.2.1,v8 ++ y.1.1) else none else none else some ((v8,0,()),(v6,v7,()),())
noncomputable def Zje (k:Nat):Zjd:=Zn (fun L1 => Km k L1) k
noncomputable def Zrg (k:Nat) (n:Nat):=XF (ZAH k) Tryz.f134 ZbI X9 [1,1,1,1,1,1,1,0,1,0] [] n ZEN (A:=ZAG) (a:=[AV.bx (nat_lit 0) (nat_lit 0)]) (b:=[[]]) (q:=[0])
def ZdE (k:Nat) (L1:Zjd):(List Int × Int × Unit) × Int × Int × Unit → Option ((List Int × Int × Unit) × (List Int × Int × Unit) × Unit)
 | ((a0,a1,()),a2,a3,()) => (ZoV k (a2,a3,())).bind fun y => bif !y.1 then some (([],1,()),(a0,a1,()),()) else (Y3 k ((a0,a1,()),2,())).bind fun y => bif y.1.2.1 != 0 then some (([],y.1.2.1,()),(y.2.1.1,y.2.1.2.1,()),()) else bif decide ((1:Int) < y.1.1) then some (([],2,()),(y.2.1.1,y.2.1.2.1,()),()) else (Y3 k ((y.2.1.1,y.2.1.2.1,()),4,())).bind fun y_1 => bif y_1.1.2.1 != 0 then some (([],y_1.1.2.1,()),(y_1.2.1.1,y_1.2.1.2.1,()),()) else (ZeF k (a2,a3,y_1.1.1,())).bind fun y_2 => bif !y_2.1 then some (([],2,()),(y_1.2.1.1,y_1.2.1.2.1,()),()) else bif decide ((0:Int) ≤ y_1.1.1) then L1 (Jx.wrap ((1:Int) * (2:Int) ^ min (UT y_1.1.1) (64:Nat)),(0:Int),a2,y_1.1.1,a3,y.1.1,y_1.2.1.1,y_1.2.1.2.1,[]) else none
noncomputable def Zcr (k:Nat):=ZdE k (Zje k)
theorem Zyc (k:Nat):∀ n,Zrg k n = Zn (fun L1 => Km k L1) n:=Qs
set_option maxHeartbeats 1000000 in
noncomputable def ZHe (k:Nat):ZT k:=ZA 134 Tryz.f134 (ZAH k) ZbI X9 Zcr (A:=ZAG) (h:=fun x => by show _ = ZdE k (Zje k) x; rw [show Zje k = Zrg k k from (Zyc k k).symm]; kernel_rfl)
abbrev ZvF:List Kd:=[.view ZeK,.view (.sl (.int .i64)),.view (.sl (.int .i64))]
noncomputable def ZAJ (k:Nat):List (ZT k):=[Zkq k,ZtU k,ZA5 k,ZBf k,ZBh k]
def ZAI:Nat → Ann:=fun id => bif Ja id 9 then ⟨[32,33,31,3,8],[.«show» 8]⟩ else ⟨[],[]⟩
abbrev ZvE:=Int × Int × List Int × List Int × Int × List Int
abbrev Zjf:=ZvE → Option ((List Int × Int × Unit) × Unit)
def ZEO:ZvE → St
 | (v0,v1,v2,v3,v4,v5) => St.mk (Zz [(32,Zl v0),(33,Zl v1),(31,X6 v2),(3,AV.bx 8192 0),(8,AV.own 8193)]) (Zy [(8192,WB [X6 v3,Zl v4]),(8193,rsA v5 true)])
def ZaS (k:Nat) (L1:Zjf):Zjf
 | (v0,v1,v2,v3,v4,v5) => bif decide (v1 < v0) then bif decide (0 ≤ v1 ∧ v1 < UI v2.length) then (Zo3 k ((v3,v4,()),v5,())).bind fun y => (ZkI k (Jx.wrap (v2.getD v1.toNat 0 + y.1),())).bind fun y_1 => bif y_1.1 then some (([],12,()),()) else bif decide (v5.length + [Jx.wrap (v2.getD v1.toNat 0 + y.1)].length < 2147483648) then L1 (v0,Jx.wrap (v1 + 1),v2,v3,v4,v5 ++ [Jx.wrap (v2.getD v1.toNat 0 + y.1)]) else none else none else some ((v5,0,()),())
def Zjg (k:Nat):Zjf:=Zn (fun L1 => ZaS k L1) k
noncomputable def Zrh (k:Nat) (n:Nat):=XF (ZAJ k) Tryz.f135 ZvF X9 [1,1,1,0,1,0] [] n ZEO (A:=ZAI)
def ZdF (k:Nat) (L1:Zjf):(List Int × Int × Unit) × List Int × List Int × Unit → Option ((List Int × Int × Unit) × Unit)
 | ((a0,a1,()),a2,a3,()) => (Zo2 k ((a0,a1,()),())).bind fun y => bif y.1 != 0 then some (([],2,()),()) else bif UI a2.length != UI a0.length then some (([],1,()),()) else (ZaE k (a2,(),())).bind fun y => bif y.1 then some (([],12,()),()) else (ZaE k (a3,(),())).bind fun y => bif y.1 then some (([],12,()),()) else (Zhh k (a2,())).bind fun y => L1 (UI a3.length,(0:Int),a3,a0,a1,y.1)
def Zcs (k:Nat):=ZdF k (Zjg k)
theorem Zyf (k:Nat):∀ n,Zrh k n = Zn (fun L1 => ZaS k L1) n:=Qs
set_option maxHeartbeats 1000000 in
noncomputable def ZHf (k:Nat):ZT k:=ZA 135 Tryz.f135 (ZAJ k) ZvF X9 Zcs (A:=ZAI) (h:=fun x => by show _ = ZdF k (Zjg k) x; rw [show Zjg k = Zrh k k from (Zyf k k).symm]; kernel_rfl)
abbrev ZIg:List Kd:=[.box [.ref [.view (.sl (.int .u8)),.view (.int .i64)],.view (.int .i64)],.view (.int .i64),.view (.int .i64),.view (.int .i64)]
noncomputable def Zlf (k:Nat):((List Int × Int × Unit) × Int × Unit) × Int × Int × Int × Unit → Option (List Int × ((List Int × Int × Unit) × Int × Unit) × Unit)
 | (((a0,a1,()),a2,()),a3,a4,a5,()) => bif a3 == 0 then (ZbF k (((a0,a1,()),a2,()),1,a5,())).bind fun y => (ZtQ k (y.1,a4,())).bind fun y_1 => some (y_1.1,((y.2.1.1.1,y.2.1.1.2.1,()),y.2.1.2.1,()),()) else bif a3 == 1 then (ZbF k (((a0,a1,()),a2,()),a4,a5,())).bind fun y => some (y.1,((y.2.1.1.1,y.2.1.1.2.1,()),y.2.1.2.1,()),()) else bif decide ((31:Int) < a3) then (W4 k (((a0,a1,()),a2,()),decide (Jx.wrap (a3 - 31) ≤ a4),())).bind fun y => bif y.2.1.2.1 != 0 then some ([],((y.2.1.1.1,y.2.1.1.2.1,()),y.2.1.2.1,()),()) else (ZbF k (((y.2.1.1.1,y.2.1.1.2.1,()),y.2.1.2.1,()),Jx.wrap (a3 - 31),a5,())).bind fun y => (ZgL k (if (4:Int) < Jx.wrap (a3 - 31) then (4:Int) else Jx.wrap (a3 - 31),())).bind fun y_1 => bif decide ((31:Int) < a3) then (Y4 k (((y.2.1.1.1,y.2.1.1.2.1,()),y.2.1.2.1,()),4,())).bind fun y_2 => (W4 k (((y_2.2.1.1.1,y_2.2.1.1.2.1,()),y_2.2.1.2.1,()),y_2.1 == 11,())).bind fun y_3 => (Y4 k (((y_3.2.1.1.1,y_3.2.1.1.2.1,()),y_3.2.1.2.1,()),5,())).bind fun y_4 => (W4 k (((y_4.2.1.1.1,y_4.2.1.1.2.1,()),y_4.2.1.2.1,()),decide (y_4.1 ≤ 15),())).bind fun y_5 => (ZbF k (((y_5.2.1.1.1,y_5.2.1.1.2.1,()),y_5.2.1.2.1,()),Jx.wrap (a3 - 31),12,())).bind fun y_6 => bif y_6.2.1.2.1 != 0 then some ([],((y_6.2.1.1.1,y_6.2.1.1.2.1,()),y_6.2.1.2.1,()),()) else (Zcr k ((y_6.2.1.1.1,y_6.2.1.1.2.1,()),a4,Jx.wrap (a3 - 31),())).bind fun y_7 => bif y_7.1.2.1 != 0 then some ([],((y_7.2.1.1,y_7.2.1.2.1,()),y_7.1.2.1,()),()) else (Zcs k ((y_6.1,y_4.1,()),y.1,y_7.1.1,())).bind fun y => some (y.1.1,((y_7.2.1.1,y_7.2.1.2.1,()),y.1.2.1,()),()) else bif y.2.1.2.1 != 0 then some ([],((y.2.1.1.1,y.2.1.1.2.1,()),y.2.1.2.1,()),()) else (Zcr k ((y.2.1.1.1,y.2.1.1.2.1,()),a4,Jx.wrap (a3 - 31),())).bind fun y_2 => bif y_2.1.2.1 != 0 then some ([],((y_2.2.1.1,y_2.2.1.2.1,()),y_2.1.2.1,()),()) else (Zcs k ((y_1.1.1.1,y_1.1.1.2.1,()),y.1,y_2.1.1,())).bind fun y => some (y.1.1,((y_2.2.1.1,y_2.2.1.2.1,()),y.1.2.1,()),()) else (W4 k (((a0,a1,()),a2,()),decide (Jx.wrap (a3 - 8) ≤ a4),())).bind fun y => bif y.2.1.2.1 != 0 then some ([],((y.2.1.1.1,y.2.1.1.2.1,()),y.2.1.2.1,()),()) else (ZbF k (((y.2.1.1.1,y.2.1.1.2.1,()),y.2.1.2.1,()),Jx.wrap (a3 - 8),a5,())).bind fun y => (ZgL k (if (4:Int) < Jx.wrap (a3 - 8) then (4:Int) else Jx.wrap (a3 - 8),())).bind fun y_1 => bif decide ((31:Int) < a3) then (Y4 k (((y.2.1.1.1,y.2.1.1.2.1,()),y.2.1.2.1,()),4,())).bind fun y_2 => (W4 k (((y_2.2.1.1.1,y_2.2.1.1.2.1,()),y_2.2.1.2.1,()),y_2.1 == 11,())).bind fun y_3 => (Y4 k (((y_3.2.1.1.1,y_3.2.1.1.2.1,()),y_3.2.1.2.1,()),5,())).bind fun y_4 => (W4 k (((y_4.2.1.1.1,y_4.2.1.1.2.1,()),y_4.2.1.2.1,()),decide (y_4.1 ≤ 15),())).bind fun y_5 => (ZbF k (((y_5.2.1.1.1,y_5.2.1.1.2.1,()),y_5.2.1.2.1,()),Jx.wrap (a3 - 8),12,())).bind fun y_6 => bif y_6.2.1.2.1 != 0 then some ([],((y_6.2.1.1.1,y_6.2.1.1.2.1,()),y_6.2.1.2.1,()),()) else (Zcr k ((y_6.2.1.1.1,y_6.2.1.1.2.1,()),a4,Jx.wrap (a3 - 8),())).bind fun y_7 => bif y_7.1.2.1 != 0 then some ([],((y_7.2.1.1,y_7.2.1.2.1,()),y_7.1.2.1,()),()) else (Zcs k ((y_6.1,y_4.1,()),y.1,y_7.1.1,())).bind fun y => some (y.1.1,((y_7.2.1.1,y_7.2.1.2.1,()),y.1.2.1,()),()) else bif y.2.1.2.1 != 0 then some ([],((y.2.1.1.1,y.2.1.1.2.1,()),y.2.1.2.1,()),()) else (Zcr k ((y.2.1.1.1,y.2.1.1.2.1,()),a4,Jx.wrap (a3 - 8),())).bind fun y_2 => bif y_2.1.2.1 != 0 then some ([],((y_2.2.1.1,y_2.2.1.2.1,()),y_2.1.2.1,()),()) else (Zcs k ((y_1.1.1.1,y_1.1.1.2.1,()),y.1,y_2.1.1,())).bind fun y => some (y.1.1,((y_2.2.1.1,y_2.2.1.2.1,()),y.1.2.1,()),())
noncomputable def ZCW (k:Nat):=Zlf k
set_option maxHeartbeats 1000000 in
noncomputable def ZJq (k:Nat):ZT k:=ZA 88 Tryz.f88 [ZtL k,ZAw k,ZAx k,ZHc k,ZHd k,ZHe k,ZHf k] ZIg Zhx ZCW
noncomputable def ZF5 (k:Nat):List (ZT k):=[ZGx k,ZJp k,ZJq k,ZGz k]
def ZF4:Nat → Ann:=fun id => bif Ja id 12 then ⟨[58,59,57,2,10,12],[.slot 12 ((Ty.int Jx))]⟩ else ⟨[],[]⟩
abbrev ZBY:=Int × Int × List Int × Int × Int × List Int × Int × List Int
abbrev Zpi:=ZBY → Option ((List Int × Int × Unit) × (List Int × Int × Unit) × Unit)
def ZHV:ZBY → St
 | (v0,v1,v2,v3,v4,v5,v6,v7) => St.mk (Zz [(58,Zl v0),(59,Zl v1),(57,X6 v2),(2,Zl v3),(10,Zl v4),(12,AV.own 8192)]) (Zy [(0,WB [AV.val (PV.sl (Ty.int UM) v5),Zl v6]),(8192,rsA v7 false)])
def ZcA (k:Nat) (L1:Zpi):Zpi
 | (v0,v1,v2,v3,v4,v5,v6,v7) => bif decide (v1 < v0) then bif decide (0 ≤ v1 ∧ v1 < UI v2.length) then (ZwA k (v2.getD v1.toNat 0,Jx.wrap (v3 - v4),())).bind fun y => bif !y.1 then some (([],12,()),(v5,v6,()),()) else bif decide (0 ≤ v4) then bif decide (v7.length + [Jx.wrap (v2.getD v1.toNat 0 * (2:Int) ^ min v4.toNat 64)].length < 2147483648) then L1 (v0,Jx.wrap (v1 + 1),v2,v3,v4,v5,v6,v7 ++ [Jx.wrap (v2.getD v1.toNat 0 * (2:Int) ^ min v4.toNat 64)]) else none else none else none else some ((v7,0,()),(v5,v6,()),())
def Zpj (k:Nat):Zpi:=Zn (fun L1 => ZcA k L1) k
noncomputable def Zwb (k:Nat) (n:Nat):=XF (ZF5 k) Tryz.f46 ZbI X9 [1,1,1,1,1,1,1,1,0,1,0] [] n ZHV (A:=ZF4) (a:=[AV.bx (nat_lit 0) (nat_lit 0)]) (b:=[[]]) (q:=[0])
noncomputable def ZfF (k:Nat) (L1:Zpi):(List Int × Int × Unit) × Int × Int × Unit → Option ((List Int × Int × Unit) × (List Int × Int × Unit) × Unit)
 | ((a0,a1,()),a2,a3,()) => (Zwz k (a2,a3,())).bind fun y => bif !y.1 then some (([],1,()),(a0,a1,()),()) else (ZCU k (((a0,a1,()),0,()),a3,())).bind fun y => bif y.2.1.2.1 != 0 then some (([],y.2.1.2.1,()),(y.2.1.1.1,y.2.1.1.2.1,()),()) else (ZCW k (((y.2.1.1.1,y.2.1.1.2.1,()),y.2.1.2.1,()),y.1.1,a2,Jx.wrap (a3 - y.1.2.1),())).bind fun y_1 => bif y_1.2.1.2.1 != 0 then some (([],y_1.2.1.2.1,()),(y_1.2.1.1.1,y_1.2.1.1.2.1,()),()) else L1 (UI (UL y_1.1),(0:Int),y_1.1,a3,y.1.2.1,y_1.2.1.1.1,y_1.2.1.1.2.1,[])
noncomputable def ZBX (k:Nat):=ZfF k (Zpj k)
theorem ZBZ (k:Nat):∀ n,Zwb k n = Zn (fun L1 => ZcA k L1) n:=Qs
set_option maxHeartbeats 1000000 in
noncomputable def ZJc (k:Nat):ZT k:=ZA 46 Tryz.f46 (ZF5 k) ZbI X9 ZBX (A:=ZF4) (h:=fun x => by show _ = ZfF k (Zpj k) x; rw [show Zpj k = Zwb k k from (ZBZ k k).symm]; kernel_rfl)
noncomputable def ZF7 (k:Nat):List (ZT k):=[ZCY k]
def ZF6:Nat → Ann:=fun id => bif Ja id 5 then ⟨[4,3,0],[]⟩ else ⟨[],[]⟩
abbrev Zpk:=XZ → Option (Int × (List Int × Int × Unit) × Unit)
def ZHW:XZ → St
 | (v0,v1,v2,v3) => St.mk (Zz [(4,Zl v0),(3,Zl v1),(0,AV.bx 0 0)]) (Zy [(0,WB [AV.val (PV.sl (Ty.int UM) v2),Zl v3])])
def ZcB (k:Nat) (L1:Zpk):Zpk
 | (v0,v1,v2,v3) => bif decide (v0 < v1) then (Zr9 k ((v2,v3,()),v0,())).bind fun y => bif y.1 == 1 then some (2,(y.2.1.1,y.2.1.2.1,()),()) else L1 (Jx.wrap (v0 + 1),v1,y.2.1.1,y.2.1.2.1) else some (0,(v2,v1,()),())
def Zpl (k:Nat):Zpk:=Zn (fun L1 => ZcB k L1) k
noncomputable def Zwc (k:Nat) (n:Nat):=XF (ZF7 k) Tryz.f47 Zhy Zw [1,1,1,0,1,0] [] n ZHW (A:=ZF6) (a:=[AV.bx (nat_lit 0) (nat_lit 0)]) (b:=[[]]) (q:=[0])
def ZfG (k:Nat) (L1:Zpk):(List Int × Int × Unit) × Unit → Option (Int × (List Int × Int × Unit) × Unit)
 | ((a0,a1,()),()) => L1 (a1,Jx.wrap (UI (UJ 64 (Jx.wrap (a1 + 7)) &&& ~~~UJ 64 (7:Int)).toNat),a0,a1)
def ZB1 (k:Nat):=ZfG k (Zpl k)
theorem ZB2 (k:Nat):∀ n,Zwc k n = Zn (fun L1 => ZcB k L1) n:=Qs
noncomputable def ZJd (k:Nat):ZT k:=ZA 47 Tryz.f47 (ZF7 k) Zhy Zw ZB1 (A:=ZF6) (h:=fun x => by show _ = ZfG k (Zpl k) x; rw [show Zpl k = Zwc k k from (ZB2 k k).symm]; kernel_rfl)
abbrev ZAf:List Kd:=[.box [.view (.sl (.int .u8)),.ref [.view (.sl (.int .u8)),.view (.int .i64)],.view (.int .i64)],.view (.int .i64),.fn 33]
def ZeA (k:Nat):(List Int × (List Int × Int × Unit) × Int × Unit) × Int × Unit × Unit → Option (Unit × (List Int × (List Int × Int × Unit) × Int × Unit) × Unit)
 | ((a0,(a1,a2,()),a3,()),a4,(),()) => (Za5 k ((a1,a2,()),())).bind fun y => (Wt k ((a0,(y.2.1.1,y.2.1.2.1,()),a3,()),a4,())).bind fun y_1 => bif y_1.2.1.2.2.1 != 0 then (QY k ((y_1.2.1.1,(y_1.2.1.2.1.1,y_1.2.1.2.1.2.1,()),y_1.2.1.2.2.1,()),true,16,())).bind fun y => some ((),(y.2.1.1,(y.2.1.2.1.1,y.2.1.2.1.2.1,()),y.2.1.2.2.1,()),()) else bif decide ((0:Int) ≤ 0 ∧ (0:Int) ≤ Jx.wrap (UQ y.1 (8:Int)) ∧ Jx.wrap (UQ y.1 (8:Int)) ≤ UI (UL y_1.2.1.1)) then (Zv9 k (UO 0 (UN (Jx.wrap (UQ y.1 (8:Int))).toNat y_1.2.1.1),())).bind fun y => (QY k ((y_1.2.1.1,(y_1.2.1.2.1.1,y_1.2.1.2.1.2.1,()),y_1.2.1.2.2.1,()),y_1.1 == y.1,16,())).bind fun y => some ((),(y.2.1.1,(y.2.1.2.1.1,y.2.1.2.1.2.1,()),y.2.1.2.2.1,()),()) else none
def Zox (k:Nat):=ZeA k
set_option maxHeartbeats 1000000 in
noncomputable def ZEq (k:Nat):ZT k:=ZA 48 Tryz.f48 [Zwe k,Zww k,Zwx k,ZF3 k] ZAf YD Zox
abbrev ZB7:List Kd:=[.view (.sl (.int .i64)),.view (.sl (.int .i64)),.view (.int .i64)]
noncomputable def ZF9 (k:Nat):List (ZT k):=[ZGd k,ZGA k]
def ZF8:Nat → Ann:=fun id => bif Ja id 7 then ⟨[36,37,35,1,2,8,9],[]⟩ else ⟨[],[]⟩
abbrev ZB5:=Int × Int × List Int × List Int × Int × List Int × List Int
abbrev Zpm:=ZB5 → Option ((List (Nat × Nat) × Int × Unit) × Unit)
def ZHY:ZB5 → St
 | (v0,v1,v2,v3,v4,v5,v6) => St.mk (Zz [(36,Zl v0),(37,Zl v1),(35,X6 v2),(1,X6 v3),(2,Zl v4),(8,AV.own 8192),(9,AV.own 8193)]) (Zy [(8192,rsA v5 false),(8193,rsA v6 false)])
def Za4 (k:Nat) (L1:Zpm):Zpm
 | (v0,v1,v2,v3,v4,v5,v6) => bif decide (v1 < v0) then bif decide (0 ≤ v1 ∧ v1 < UI v2.length) then bif decide (0 ≤ v1 ∧ v1 < UI v3.length) then bif decide ((if v3.getD v1.toNat 0 < v2.getD v1.toNat 0 then v3.getD v1.toNat 0 else v2.getD v1.toNat 0) < -67108864) then some (([],12,()),()) else bif decide ((67108864:Int) < if v2.getD v1.toNat 0 < v3.getD v1.toNat 0 then v3.getD v1.toNat 0 else v2.getD v1.toNat 0) then some (([],12,()),()) else bif v4 == 0 then bif decide (0 ≤ v1 ∧ v1 < UI v5.length) then bif decide (v1.toNat < v5.length) then bif decide (0 ≤ v1 ∧ v1 < UI v6.length) then bif decide (v1.toNat < v6.length) then L1 (v0,Jx.wrap (v1 + 1),v2,v3,v4,v5.set v1.toNat (v2.getD v1.toNat 0),v6.set v1.toNat (v3.getD v1.toNat 0)) else none else none else none else none else bif v4 == 8 then bif decide (0 ≤ v1 ∧ v1 < UI v5.length) then bif decide (v1.toNat < v5.length) then bif decide (0 ≤ v1 ∧ v1 < UI v6.length) then bif decide (v1.toNat < v6.length) then L1 (v0,Jx.wrap (v1 + 1),v2,v3,v4,v5.set v1.toNat (v2.getD v1.toNat 0),v6.set v1.toNat (Jx.wrap (v2.getD v1.toNat 0 - v3.getD v1.toNat 0))) else none else none else none else none else bif v4 == 9 then bif decide (0 ≤ v1 ∧ v1 < UI v5.length) then bif decide (v1.toNat < v5.length) then bif decide (0 ≤ v1 ∧ v1 < UI v6.length) then bif decide (v1.toNat < v6.length) then L1 (v0,Jx.wrap (v1 + 1),v2,v3,v4,v5.set v1.toNat (Jx.wrap (v2.getD v1.toNat 0 + v3.getD v1.toNat 0)),v6.set v1.toNat (v3.getD v1.toNat 0)) else none else none else none else none else bif v4 == 10 then bif decide (0 ≤ v1 ∧ v1 < UI v5.length) then bif decide (v1.toNat < v5.length) then bif decide (0 ≤ v1 ∧ v1 < UI v6.length) then bif decide (v1.toNat < v6.length) then L1 (v0,Jx.wrap (v1 + 1),v2,v3,v4,v5.set v1.toNat ((Jx.wrap (Jx.wrap (UI (UJ 64 (Jx.wrap (v2.getD v1.toNat 0 * (2:Int))) ||| UJ 64 (Jx.wrap (UI (UJ 64 (v3.getD v1.toNat 0) &&& UJ 64 (1:Int)).toNat))).toNat) + v3.getD v1.toNat 0)).fdiv (2:Int)),v6.set v1.toNat ((Jx.wrap (Jx.wrap (UI (UJ 64 (Jx.wrap (v2.getD v1.toNat 0 * (2:Int))) ||| UJ 64 (Jx.wrap (UI (UJ 64 (v3.getD v1.toNat 0) &&& UJ 64 (1:Int)).toNat))).toNat) - v3.getD v1.toNat 0)).fdiv (2:Int))) else none else none else none else none else L1 (v0,Jx.wrap (v1 + 1),v2,v3,v4,v5,v6) else none else none else (ZrW k (v5,v6,())).bind fun y => some ((y.1.1,y.1.2.1,()),())
def Zpn (k:Nat):Zpm:=Zn (fun L1 => Za4 k L1) k
noncomputable def Zwd (k:Nat) (n:Nat):=XF (ZF9 k) Tryz.f49 ZB7 Zps [1,1,1,0,1,0] [] n ZHY (A:=ZF8)
def ZfH (k:Nat) (L1:Zpm):List Int × List Int × Int × Unit → Option ((List (Nat × Nat) × Int × Unit) × Unit)
 | (a0,a1,a2,()) => (ZwB k (a2,())).bind fun y => bif !y.1 then some (([],1,()),()) else bif UI a0.length != UI a1.length then some (([],1,()),()) else bif decide ((8192:Int) < UI a0.length) then some (([],14,()),()) else bif decide ((0:Int) ≤ UI a0.length ∧ UI a0.length ≤ UI a0.length ∧ UI a0.length < (4294967296:Int)) then bif decide ((0:Int) ≤ UI a0.length ∧ UI a0.length ≤ UI a0.length ∧ UI a0.length < (4294967296:Int)) then L1 (UI a0.length,(0:Int),a0,a1,a2,Jd (UI a0.length).toNat (0:Int),Jd (UI a0.length).toNat (0:Int)) else none else none
def ZrU (k:Nat):=ZfH k (Zpn k)
theorem ZB6 (k:Nat):∀ n,Zwd k n = Zn (fun L1 => Za4 k L1) n:=Qs
set_option maxHeartbeats 1000000 in
noncomputable def ZJf (k:Nat):ZT k:=ZA 49 Tryz.f49 (ZF9 k) ZB7 Zps ZrU (A:=ZF8) (h:=fun x => by show _ = ZfH k (Zpn k) x; rw [show Zpn k = Zwd k k from (ZB6 k k).symm]; kernel_rfl)
def Zk0 (k:Nat):List (Nat × Nat) × Unit → Option ((List Int × List Int × Int × Unit) × Unit)
 | (a0,()) => (ZrY k (a0,0,())).bind fun y => some ((y.1.1,y.1.2.1,y.1.2.2.1,()),())
def ZrV (k:Nat):=Zk0 k
noncomputable def ZJg (k:Nat):ZT k:=ZA 50 Tryz.f50 [ZCn k] ZbD Zui ZrV
abbrev Zt7:List Kd:=[.view shapeT,.view (.sl (.int .u8))]
abbrev Zt8:Kd:=.tup [.view frameT,.view (.int .i64),.view (.int .i64)]
noncomputable def ZFX (k:Nat):List (ZT k):=[ZFQ k,ZF0 k,ZF2 k,ZJa k,ZJb k,ZJc k,ZJd k,ZEq k,ZJf k,ZJg k,Zwe k]
def ZFV:Nat → Ann:=fun id => bif Ja id 10 then ⟨[55,56,54,8,11,4,12,2,9],[.cell 12 1 ((Ty.int Jx).sl)]⟩ else ⟨[],[]⟩
abbrev ZBm:=Int × Int × List Int × Int × Int × List Int × Int × List Int × Int × Int × Int × List (List Int) × Int × Int × Int
abbrev Zo4:=ZBm → Option (((Int × List (List Int) × Unit) × Int × Int × Unit) × Unit)
def ZHF:ZBm → St
 | (v0,v1,v2,v3,v4,v5,v6,v7,v8,v9,v10,v11,v12,v13,v14) => St.mk (Zz [(55,Zl v0),(56,Zl v1),(54,X6 v2),(8,AV.bx 8192 0),(11,Zl v3),(4,AV.bx 8194 0),(12,AV.bx 8195 0),(2,AV.bx 8197 0),(9,Zl v4)]) (Zy [(8192,WB [AV.val (PV.sl (Ty.int UM) v5),AV.bx 8193 0,Zl v6]),(8193,WB [AV.val (PV.sl (Ty.int UM) v7),Zl v8]),(8194,WB [Zl v9,AV.val (PV.v (V5 none (0:Nat) (0:Nat)))]),(8195,WB [Zl v10,AV.own 8196]),(8196,RS.live (Res.arr (Ty.int Jx).sl v11 false)),(8197,WB [Zl v12,Zl v13,Zl v14])])
noncomputable def Zct (k:Nat) (L1:Zo4):Zo4
 | (v0,v1,v2,v3,v4,v5,v6,v7,v8,v9,v10,v11,v12,v13,v14) => bif decide (v1 < v0) then bif decide (0 ≤ v1 ∧ v1 < UI v2.length) then (ZBX k ((v7,v8,()),v3,v2.getD v1.toNat 0,())).bind fun y => bif y.1.2.1 != 0 then some ((((0:Int),[],()),0,y.1.2.1,()),()) else bif decide (v11.length + [y.1.1].length < 2147483648) then L1 (v0,Jx.wrap (v1 + 1),v2,v3,v4,v5,v6,y.2.1.1,y.2.1.2.1,v9,v10,v11 ++ [y.1.1],v12,v13,v14) else none else none else (ZB1 k ((v7,v8,()),())).bind fun y => (Zox k ((v5,(y.2.1.1,y.2.1.2.1,()),y.1,()),16,(),())).bind fun y => bif y.2.1.2.2.1 != 0 then some ((((0:Int),[],()),0,y.2.1.2.2.1,()),()) else bif decide ((1:Int) < v12) then bif v4 == 1 then bif decide ((0:Int) ≤ 0 ∧ (0:Int) < UI v11.length) then bif decide ((0:Nat) < v11.length) then bif decide ((0:Int) ≤ 1 ∧ (1:Int) < UI v11.length) then bif decide ((1:Nat) < v11.length) then (ZrU k (v11.getD 0 [],v11.getD 1 [],0,())).bind fun y_1 => bif y_1.1.2.1 != 0 then some ((((0:Int),[],()),0,y_1.1.2.1,()),()) else (ZrV k (y_1.1.1,())).bind fun y_2 => bif y_2.1.2.2.1 != 0 then some ((((0:Int),[],()),0,y_2.1.2.2.1,()),()) else (Zii k ((v12,v13,v14,()),(v10,[y_2.1.1,y_2.1.2.1],()),())).bind fun y_3 => bif y_3.1 != 0 then some ((((0:Int),[],()),0,y_3.1,()),()) else (Za5 k ((y.2.1.2.1.1,y.2.1.2.1.2.1,()),())).bind fun y => some (((v10,[y_2.1.1,y_2.1.2.1],()),Jx.wrap (UQ y.1 (8:Int)),0,()),()) else none else none else none else none else bif decide ((0:Int) ≤ 0 ∧ (0:Int) < UI v11.length) then bif decide ((0:Nat) < v11.length) then bif decide ((0:Int) ≤ 1 ∧ (1:Int) < UI v11.length) then bif decide ((1:Nat) < v11.length) then (ZrU k (v11.getD 0 [],v11.getD 1 [],v4,())).bind fun y_1 => bif y_1.1.2.1 != 0 then some ((((0:Int),[],()),0,y_1.1.2.1,()),()) else (ZrV k (y_1.1.1,())).bind fun y_2 => bif y_2.1.2.2.1 != 0 then some ((((0:Int),[],()),0,y_2.1.2.2.1,()),()) else (Zii k ((v12,v13,v14,()),(v10,[y_2.1.1,y_2.1.2.1],()),())).bind fun y_3 => bif y_3.1 != 0 then some ((((0:Int),[],()),0,y_3.1,()),()) else (Za5 k ((y.2.1.2.1.1,y.2.1.2.1.2.1,()),())).bind fun y => some (((v10,[y_2.1.1,y_2.1.2.1],()),Jx.wrap (UQ y.1 (8:Int)),0,()),()) else none else none else none else none else (Zii k ((v12,v13,v14,()),(v10,v11,()),())).bind fun y_1 => bif y_1.1 != 0 then some ((((0:Int),[],()),0,y_1.1,()),()) else (Za5 k ((y.2.1.2.1.1,y.2.1.2.1.2.1,()),())).bind fun y => some (((v10,v11,()),Jx.wrap (UQ y.1 (8:Int)),0,()),())
noncomputable def Zo5 (k:Nat):Zo4:=Zn (fun L1 => Zct k L1) k
noncomputable def ZvW (k:Nat) (n:Nat):=XF (ZFX k) Tryz.f18 Zt7 Zt8 [1,1,1,1,1,1,0,1,0] [] n ZHF (A:=ZFV)
def ZfA (k:Nat) (L1:Zo4):(Int × Int × Int × Unit) × List Int × Unit → Option (((Int × List (List Int) × Unit) × Int × Int × Unit) × Unit)
 | ((a0,a1,a2,()),a3,()) => (Zvw k ((a0,a1,a2,()),())).bind fun y => bif y.1 != 0 then some ((((0:Int),[],()),0,y.1,()),()) else (ZBU k (a3,())).bind fun y => (Zwa k ((a3,(y.1.1,y.1.2.1,()),0,()),(a0,a1,a2,()),())).bind fun y => bif y.2.1.2.2.1 != 0 then some ((((0:Int),[],()),0,y.2.1.2.2.1,()),()) else (Zv7 k ((a0,a1,a2,()),y.1.1,())).bind fun y_1 => L1 (UI (UL y_1.1),(0:Int),y_1.1,y.1.2.2.1,y.1.1,y.2.1.1,y.2.1.2.2.1,y.2.1.2.1.1,y.2.1.2.1.2.1,(0:Int),y.1.2.1,[],a0,a1,a2)
noncomputable def Zno (k:Nat):=ZfA k (Zo5 k)
theorem ZBn (k:Nat):∀ n,ZvW k n = Zn (fun L1 => Zct k L1) n:=Qs
set_option maxHeartbeats 1000000 in
noncomputable def ZFW (k:Nat):ZT k:=ZA 18 Tryz.f18 (ZFX k) Zt7 Zt8 Zno (A:=ZFV) (h:=fun x => by show _ = ZfA k (Zo5 k) x; rw [show Zo5 k = ZvW k k from (ZBn k k).symm]; kernel_rfl)
theorem Zju (k:Nat):Ctr Tryz.prog k 18 (mk Zt7 Zt8 Zno):=(ZFW k).2
noncomputable def Zkt (k:Nat):Unit → Option (Bool × Unit)
 | () => (ZvH k (((1:Int),(8:Int),(44100:Int),()),((0:Int),[[(5:Int),(5:Int),(5:Int)]],()),())).bind fun y => bif y.1.2.1 != 0 then some (false,()) else bif UI (UL y.1.1) != 11 then some (false,()) else bif decide ((0:Int) ≤ 0 ∧ (0:Int) ≤ 6 ∧ (6:Int) ≤ UI (UL y.1.1)) then bif !(UV (List.map (fun n => UInt8.ofNat n.toNat) (UO 0 (UN 6 y.1.1))).toArray).toList == (UV #[255,248,96,0,0,2]).toList then some (false,()) else (Zno k (((1:Int),(8:Int),(44100:Int),()),y.1.1,())).bind fun y => bif y.1.2.2.1 == 0 then bif y.1.2.1 == 11 then bif UI (UL y.1.1.2.1) == 1 then bif decide ((0:Int) ≤ 0 ∧ (0:Int) < UI (UL y.1.1.2.1)) then bif UI (UL (UR y.1.1.2.1 (0:Nat) [])) == (3:Int) then bif decide ((0:Int) ≤ 0 ∧ (0:Int) < UI (UL y.1.1.2.1)) then bif decide ((0:Int) ≤ 2 ∧ (2:Int) < UI (UL (UR y.1.1.2.1 (0:Nat) []))) then some (UR (UR y.1.1.2.1 (0:Nat) []) (2:Nat) 0 == (5:Int),()) else none else none else some (false,()) else none else some (false,()) else some (false,()) else some (false,()) else none
noncomputable def ZAi (k:Nat):=Zkt k
set_option maxHeartbeats 1000000 in
noncomputable def ZI0 (k:Nat):ZT k:=ZA 10 Tryz.f10 [ZFR k,ZFW k] Zuf Qz ZAi
theorem Zvl (k:Nat):Ctr Tryz.prog k 10 (mk Zuf Qz ZAi):=(ZI0 k).2
abbrev ZkL:Kd:=.view frameT
noncomputable def ZFU (k:Nat):List (ZT k):=[]
def ZFS:Nat → Ann:=fun id => bif Ja id 3 then ⟨[4,1,3,2],[.cell 3 1 ((Ty.int Jx).sl)]⟩ else ⟨[],[]⟩
abbrev ZBa:=Int × Int × List (List Int) × Int × List (List Int) × Int
abbrev ZoZ:=ZBa → Option ((Int × List (List Int) × Unit) × Unit)
def ZHq:ZBa → St
 | (v0,v1,v2,v3,v4,v5) => St.mk (Zz [(4,Zl v0),(1,AV.bx 8192 0),(3,AV.bx 8193 0),(2,AV.bx 8195 0)]) (Zy [(8192,WB [Zl v1,AV.val (PV.sl (Ty.int Jx).sl v2)]),(8193,WB [Zl v3,AV.own 8194]),(8194,RS.live (Res.arr (Ty.int Jx).sl v4 false)),(8195,WB [Zl v5,AV.val (PV.v (V5 none (0:Nat) (0:Nat)))])])
def ZrD (k:Nat) (L1:ZoZ):ZoZ
 | (v0,v1,v2,v3,v4,v5) => bif decide (v0 < UI v2.length) then bif decide (0 ≤ v0 ∧ v0 < UI v2.length) then bif decide ((0:Int) ≤ 0 ∧ (0:Int) ≤ Jx.wrap (UI (UL (v2.getD v0.toNat [])) + (2:Int)) ∧ Jx.wrap (UI (UL (v2.getD v0.toNat [])) + (2:Int)) < (4294967296:Int)) then bif decide (0 ≤ v0 ∧ v0 < UI v2.length) then bif decide ((0:Nat) + UL (v2.getD v0.toNat []) < 2147483648) then bif decide (v4.length + [Jd (0:Nat) (0:Int) ++ v2.getD v0.toNat []].length < 2147483648) then L1 (Jx.wrap (v0 + 1),v1,v2,v3,v4 ++ [Jd (0:Nat) (0:Int) ++ v2.getD v0.toNat []],v5) else none else none else none else none else none else some ((v3,v4,()),())
def ZtZ (k:Nat):ZoZ:=Zn (fun L1 => ZrD k L1) k
noncomputable def ZvQ (k:Nat) (n:Nat):=XF (ZFU k) Tryz.f15 Zhw ZkL [1,1,0,1,0] [] n ZHq (A:=ZFS)
def ZrC (k:Nat) (L1:ZoZ):(Int × List (List Int) × Unit) × Unit → Option ((Int × List (List Int) × Unit) × Unit)
 | ((a0,a1,()),()) => L1 (0,a0,a1,a0,[],(0:Int))
def ZFT (k:Nat):=ZrC k (ZtZ k)
theorem ZBb (k:Nat):∀ n,ZvQ k n = Zn (fun L1 => ZrD k L1) n:=Qs
noncomputable def ZI1 (k:Nat):ZT k:=ZA 15 Tryz.f15 (ZFU k) Zhw ZkL ZFT (A:=ZFS) (h:=fun x => by show _ = ZrC k (ZtZ k) x; rw [show ZtZ k = ZvQ k k from (ZBb k k).symm]; kernel_rfl)
theorem ZEX (k:Nat):Ctr Tryz.prog k 15 (mk Zhw ZkL ZFT):=(ZI1 k).2
noncomputable def ZGb (k:Nat):List (ZT k):=[]
def ZGa:Nat → Ann:=fun id => bif Ja id 4 then ⟨[5,0,1],[]⟩ else ⟨[],[]⟩
abbrev ZCc:=Int × List Int × List Int
abbrev Zpo:=ZCc → Option (Bool × Unit)
def ZHZ:ZCc → St
 | (v0,v1,v2) => St.mk (Zz [(5,Zl v0),(0,X6 v1),(1,X6 v2)]) (Zy [])
def ZcC (k:Nat) (L1:Zpo):Zpo
 | (v0,v1,v2) => bif decide (v0 < UI v1.length) then bif decide (0 ≤ v0 ∧ v0 < UI v1.length) then bif decide (0 ≤ v0 ∧ v0 < UI v2.length) then bif v1.getD v0.toNat 0 != v2.getD v0.toNat 0 then some (false,()) else L1 (Jx.wrap (v0 + 1),v1,v2) else none else none else some (true,())
def Zpp (k:Nat):Zpo:=Zn (fun L1 => ZcC k L1) k
noncomputable def Zwf (k:Nat) (n:Nat):=XF (ZGb k) Tryz.f58 Zpr Qz [1,1,0,1,0] [] n ZHZ (A:=ZGa)
def ZfI (k:Nat) (L1:Zpo):List Int × List Int × Unit → Option (Bool × Unit)
 | (a0,a1,()) => bif UI a0.length != UI a1.length then some (false,()) else L1 (0,a0,a1)
def ZCb (k:Nat):=ZfI k (Zpp k)
theorem ZCd (k:Nat):∀ n,Zwf k n = Zn (fun L1 => ZcC k L1) n:=Qs
noncomputable def ZJh (k:Nat):ZT k:=ZA 58 Tryz.f58 (ZGb k) Zpr Qz ZCb (A:=ZGa) (h:=fun x => by show _ = ZfI k (Zpp k) x; rw [show Zpp k = Zwf k k from (ZCd k k).symm]; kernel_rfl)
abbrev Zue:List Kd:=[.view frameT,.view frameT]
noncomputable def ZFZ (k:Nat):List (ZT k):=[ZJh k]
def ZFY:Nat → Ann:=fun id => bif Ja id 4 then ⟨[5,2,3],[]⟩ else ⟨[],[]⟩
abbrev ZBr:=Int × Int × List (List Int) × Int × List (List Int)
abbrev Zo7:=ZBr → Option (Bool × Unit)
def ZHL:ZBr → St
 | (v0,v1,v2,v3,v4) => St.mk (Zz [(5,Zl v0),(2,AV.bx 8192 0),(3,AV.bx 8193 0)]) (Zy [(8192,WB [Zl v1,AV.val (PV.sl (Ty.int Jx).sl v2)]),(8193,WB [Zl v3,AV.val (PV.sl (Ty.int Jx).sl v4)])])
def Zcu (k:Nat) (L1:Zo7):Zo7
 | (v0,v1,v2,v3,v4) => bif decide (v0 < UI v2.length) then bif decide (0 ≤ v0 ∧ v0 < UI v2.length) then bif decide (0 ≤ v0 ∧ v0 < UI v4.length) then (ZCb k (v2.getD v0.toNat [],v4.getD v0.toNat [],())).bind fun y => bif !y.1 then some (false,()) else L1 (Jx.wrap (v0 + 1),v1,v2,v3,v4) else none else none else some (true,())
def Zo8 (k:Nat):Zo7:=Zn (fun L1 => Zcu k L1) k
noncomputable def ZvZ (k:Nat) (n:Nat):=XF (ZFZ k) Tryz.f20 Zue Qz [1,1,0,1,0] [] n ZHL (A:=ZFY)
def ZfB (k:Nat) (L1:Zo7):(Int × List (List Int) × Unit) × (Int × List (List Int) × Unit) × Unit → Option (Bool × Unit)
 | ((a0,a1,()),(a2,a3,()),()) => bif a0 != a2 then some (false,()) else bif UI a1.length != UI a3.length then some (false,()) else L1 (0,a0,a1,a2,a3)
def ZvY (k:Nat):=ZfB k (Zo8 k)
theorem ZBs (k:Nat):∀ n,ZvZ k n = Zn (fun L1 => Zcu k L1) n:=Qs
noncomputable def ZI2 (k:Nat):ZT k:=ZA 20 Tryz.f20 (ZFZ k) Zue Qz ZvY (A:=ZFY) (h:=fun x => by show _ = ZfB k (Zo8 k) x; rw [show Zo8 k = ZvZ k k from (ZBs k k).symm]; kernel_rfl)
theorem Zo9 (k:Nat):Ctr Tryz.prog k 20 (mk Zue Qz ZvY):=(ZI2 k).2
def ZBv (k:Nat):(Int × List (List Int) × Unit) × Unit → Option ((Int × List (List Int) × Unit) × Unit)
 | ((a0,a1,()),()) => some ((a0,a1,()),())
def ZBu (k:Nat):=ZBv k
noncomputable def ZI3 (k:Nat):ZT k:=ZA 21 Tryz.f21 [] Zhw ZkL ZBu
theorem Zpa (k:Nat):Ctr Tryz.prog k 21 (mk Zhw ZkL ZBu):=(ZI3 k).2
end Go.Sh
namespace Go.Sh
open Go Go.Proofs
noncomputable def ZFd:Array Field:=(match Tryz.prog.underlying 26 with | some (.struct fs) => fs | _ => #[])
noncomputable def ZFe:Array Field:=(match Tryz.prog.underlying 35 with | some (.struct fs) => fs | _ => #[])
theorem ZFh:Tryz.prog.underlying 26 = some (.struct ZFd):=by kernel_rfl
theorem ZpX:Tryz.prog.underlying 35 = some (.struct ZFe):=by kernel_rfl
noncomputable def ZyU (n:Nat):Field:=(ZFd[n]?).getD default
noncomputable def ZIk (n:Nat):Field:=(ZFe[n]?).getD default
theorem ZJv:ZFd[0]? = some (ZyU 0):=by kernel_rfl
theorem ZDh:ZFd[1]? = some (ZyU 1):=by kernel_rfl
theorem ZfV:ZFe[1]? = some (ZIk 1):=by kernel_rfl
theorem ZJw:0 = 0 + (ZyU 0).offset:=by kernel_rfl
theorem ZDj:1 = 0 + (ZyU 1).offset:=by kernel_rfl
theorem ZfW:1 = 0 + (ZIk 1).offset:=by kernel_rfl
theorem ZJx:Ja (Tryz.prog.cellsOf (ZyU 0).type) 0 = false:=by kernel_rfl
theorem ZDk:Ja (Tryz.prog.cellsOf (ZyU 1).type) 0 = false:=by kernel_rfl
theorem ZfX:Ja (Tryz.prog.cellsOf (ZIk 1).type) 0 = false:=by kernel_rfl
def Zd6 (c:List Int):List Value:=c.map (Jv .i64) ++ [.int .i64 0,.int .i64 0]
def Kj (m:Nat) (c:List Int):Value:=.slice (some ⟨m,0,none⟩) c.length (c.length + 2)
def ZDN (rs:List Nat) (ch:List (List Int)):List (Nat × Obj):=List.zipWith (fun m c => (m,Obj.cells (Zd6 c).toArray 3)) rs ch
def Ziy (rs:List Nat) (ch:List (List Int)):List Value:=List.zipWith Kj rs ch
def ZmI (A:Option Addr) (n cap:Nat) (vs:Array Value) (l:List Value):Prop:=l.length = n ∧ ((A = none ∧ n = 0 ∧ cap = 0) ∨ ∃ b,A = some ⟨b,0,none⟩ ∧ n ≤ cap ∧ cap ≤ vs.size ∧ vs.toList.take n = l)
theorem ZzF (n:Nat):(Jd n [Jv .i64 0]).flatten = Jd n (.int .i64 0):=by
 induction n with
 | zero => rfl
 | succ n ih => simp [List.replicate_succ,ih]
theorem ZDO {rs:List Nat} {cs:List (List Int)} (h:rs.length = cs.length) (m:Nat) (c:List Int):ZDN (rs ++ [m]) (cs ++ [c]) = ZDN rs cs ++ [(m,Obj.cells (Zd6 c).toArray 3)] ∧ Ziy (rs ++ [m]) (cs ++ [c]) = Ziy rs cs ++ [Kj m c]:=by
 simp [ZDN,Ziy,List.zipWith_append h]
noncomputable def o15:Code:=Tryz.f15.body.getD .skip
noncomputable def ZJA:Code:=cr (cl (cr (cr o15)))
noncomputable def ZJ0:Code:=cl (cr (cb (cb ZJA)))
theorem H.sub' {w0 w:World} {B B':List (Nat × Obj)} (h:H w0 w B) (hs:B'.Sublist B):H w0 w B' where
 keep:=h.keep
 nd:=(hs.map (·.1)).nodup h.nd
 at' p hp:=h.at' p (hs.subset hp)
 new p hp:=h.new p (hs.subset hp)
theorem ZGI {α:Type} (L:List α) (q b:α) (M:List α):(L ++ (q :: b :: M)).Perm (b :: (L ++ (q :: M))):=by
 have h1:(L ++ (q :: b :: M)).Perm (L ++ (b :: q :: M)):=(US.swap ..).append_left L
 exact h1.trans U0
theorem ZJB {α:Type} (L:List α) (q b:α) (M:List α):(b :: (L ++ (q :: M))).Perm (L ++ (q :: b :: M)):=(ZGI L q b M).symm
theorem ZJC {α:Type} (L:List α) (q b c:α) (M:List α):(L ++ (q :: b :: c :: M)).Perm (L ++ (b :: c :: q :: M)):=by
 refine US.append_left L ?_
 exact (US.swap b q _).trans ((US.swap c q M).cons b)
set_option maxRecDepth 20000 in
set_option maxHeartbeats 1000000 in
theorem ZDw {w0:World} {n:Int} {sl:Value} {b1 b2 b3:Nat} {bo oo N cap0:Nat} (hsl:sl = .slice (some ⟨bo,oo,none⟩) N cap0) {i:Nat} (hi:i < N) {A':Option Addr} {c:List Int} {cap':Nat} {lim:Nat → Nat} (hcell:w0.cell? ⟨bo,oo + i,none⟩ = some (.slice A' c.length cap')) (hrow:Rt w0 lim (.sl (.int .i64)) c [.slice A' c.length cap'])
  (hcl:c.length < 1073741824) (hN:N < 1073741824) {A:Option Addr} {cap:Nat} {vs:Array Value} {l:List Value} (hO:ZmI A i cap vs l) {B:List (Nat × Obj)} {z2:Obj} {e:En} {w:World}
  (hH:H w0 w (Zca 51 A vs ++ ((b3,.cells #[.int .i64 n,.slice A i cap] 35 (0,0)) :: (b1,.cells #[.int .i64 n,sl] 26 (0,0)) :: B))) (h1:e 1 = .pointer (some ⟨b1,0,none⟩)) (h2:e 2 = .pointer (some ⟨b2,0,none⟩)) (h3:e 3 = .pointer (some ⟨b3,0,none⟩)) (h4:e 4 = .int .i64 (i:Int))
  {Q:Exit → En → World → Prop} (hQ:∀ e' w' q A2 cap2 vs2,e' 1 = .pointer (some ⟨b1,0,none⟩) → e' 2 = .pointer (some ⟨b2,0,none⟩) → e' 3 = .pointer (some ⟨b3,0,none⟩) → e' 4 = .int .i64 (i:Int) → ZmI A2 (i + 1) cap2 vs2 (l ++ [Kj q c]) →
   H w0 w' (Zca 51 A2 vs2 ++ ((b3,.cells #[.int .i64 n,.slice A2 (i + 1) cap2] 35 (0,0)) :: (b1,.cells #[.int .i64 n,sl] 26 (0,0)) :: (q,.cells (Zd6 c).toArray 3 (0,0)) :: B)) → Q .normal e' w'):T Tryz.prog 35 ZJ0 Q e w:=by
 subst hsl
 let c1:Obj:=.cells #[.int .i64 n,.slice (some ⟨bo,oo,none⟩) N cap0] 26
 let c3:Obj:=.cells #[.int .i64 n,.slice A i cap] 35
 obtain ⟨A1,cp,e1,hle,css,hcss,hrow5⟩:=Zbj (Zbk hrow)
 cases e1
 have hfl:=Zqj hcss
 let qv:Nat → Value:=fun j => match j with
  | 0 => .pointer (some ⟨b3,1,none⟩) | 1 => .slice A i cap | 2 => .pointer (some ⟨b1,1,none⟩) | 3 => .slice (some ⟨bo,oo,none⟩) N cap0 | 4 => .int .i64 (i:Int) | 5 => .pointer (some ⟨bo,oo + i,none⟩) | 6 => .slice A' c.length cap' | 7 => .int .i64 (c.length:Int) | 8 => .int .i64 ((c.length + 2:Nat):Int)
  | 10 => .pointer (some ⟨b1,1,none⟩) | 11 => .slice (some ⟨bo,oo,none⟩) N cap0 | 12 => .int .i64 (i:Int) | 13 => .pointer (some ⟨bo,oo + i,none⟩) | 14 => .slice A' c.length cap' | 18 => .pointer (some ⟨b3,1,none⟩) | _ => undef
 let zr:Obj:=.cells (Jd (c.length + 2) (Jv .i64 0)).toArray 3
 let rr:Obj:=.cells (Zd6 c).toArray 3
 let tail:List (Nat × Obj):=(b3,c3) :: (b1,c1) :: B
 let Ph:Nat → En → World → Prop:=fun m e w' => e 1 = .pointer (some ⟨b1,0,none⟩) ∧ e 2 = .pointer (some ⟨b2,0,none⟩) ∧ e 3 = .pointer (some ⟨b3,0,none⟩) ∧ e 4 = .int .i64 (i:Int) ∧ match m with
  | 0 => H w0 w' (Zca 51 A vs ++ tail)
  | 1 => ∃ q,H w0 w' ((q,zr) :: (Zca 51 A vs ++ tail)) ∧ e 24 = .slice (some ⟨q,0,none⟩) 0 (c.length + 2)
  | 2 => ∃ q,H w0 w' ((q,rr) :: (Zca 51 A vs ++ tail)) ∧ e 30 = Kj q c
  | 3 => ∃ q p,H w0 w' ((p,.cells #[Kj q c] 51) :: (q,rr) :: (Zca 51 A vs ++ tail)) ∧ e 31 = .slice (some ⟨p,0,none⟩) 1 1
  | 4 => ∃ q A2 cap2 vs2,H w0 w' (Zca 51 A2 vs2 ++ ((q,rr) :: tail)) ∧ ZmI A2 (i + 1) cap2 vs2 (l ++ [Kj q c]) ∧ e 32 = .slice A2 (i + 1) cap2
  | 5 => ∃ q A2 cap2 vs2,H w0 w' (Zca 51 A2 vs2 ++ ((q,rr) :: (b3,.cells #[.int .i64 n,.slice A2 (i + 1) cap2] 35) :: (b1,c1) :: B)) ∧ ZmI A2 (i + 1) cap2 vs2 (l ++ [Kj q c])
  | _ => False
 have hb1:∀ {m e w'},Ph m e w' → e 1 = .pointer (some ⟨b1,0,none⟩) ∧ w'.heap[b1]? = some c1 ∧ Keep w0 w':=by
  rintro m e w' ⟨g1,-,-,-,g⟩
  refine ⟨g1,?_⟩
  match m,g with
  | 0,g => exact ⟨g.at' (b1,c1) (by simp [tail]),g.keep⟩
  | 1,⟨q,g,_⟩ => exact ⟨g.at' (b1,c1) (by simp [tail]),g.keep⟩
  | 2,⟨q,g,_⟩ => exact ⟨g.at' (b1,c1) (by simp [tail]),g.keep⟩
  | 3,⟨q,p,g,_⟩ => exact ⟨g.at' (b1,c1) (by simp [tail]),g.keep⟩
  | 4,⟨q,A2,cap2,vs2,g,_⟩ => exact ⟨g.at' (b1,c1) (by simp [tail]),g.keep⟩
  | 5,⟨q,A2,cap2,vs2,g,_⟩ => exact ⟨g.at' (b1,c1) (by simp),g.keep⟩
 have hb3:∀ {m e w'},Ph m e w' → m ≤ 4 → w'.heap[b3]? = some c3:=by
  rintro m e w' ⟨g1,-,-,-,g⟩ hm
  match m,hm,g with
  | 0,_,g => exact g.at' (b3,c3) (by simp [tail])
  | 1,_,⟨q,g,_⟩ => exact g.at' (b3,c3) (by simp [tail])
  | 2,_,⟨q,g,_⟩ => exact g.at' (b3,c3) (by simp [tail])
  | 3,_,⟨q,p,g,_⟩ => exact g.at' (b3,c3) (by simp [tail])
  | 4,_,⟨q,A2,cap2,vs2,g,_⟩ => exact g.at' (b3,c3) (by simp [tail])
 refine T.block (T.mixed [9,15,16,17,19] (fun j => 15 + j) qv Ph XP (by kernel_rfl) ?_ ?_ ?_ ?_ ?_)
 ·exact ⟨h1,h2,h3,h4,hH.drw⟩
 ·rintro m e w' j v hj hc ⟨g1,g2,g3,g4,g⟩
  have hj':j < 20:=hj
  have hn:j ≠ 9 ∧ j ≠ 15 ∧ j ≠ 16 ∧ j ≠ 17 ∧ j ≠ 19:=by refine ⟨?_,?_,?_,?_,?_⟩ <;> (rintro rfl; simp at hc)
  have ho:∀ s,(s < 15 ∨ s = 24 ∨ s = 30 ∨ s = 31 ∨ s = 32) → upd e (15 + j) v s = e s:=fun s h => Zx e v (by omega)
  refine ⟨(ho 1 (by simp)).trans g1,(ho 2 (by simp)).trans g2,(ho 3 (by simp)).trans g3,(ho 4 (by simp)).trans g4,?_⟩
  match m,g with
  | 0,g => exact g
  | 1,⟨q,g,k⟩ => exact ⟨q,g,(ho 24 (by simp)).trans k⟩
  | 2,⟨q,g,k⟩ => exact ⟨q,g,(ho 30 (by simp)).trans k⟩
  | 3,⟨q,p,g,k⟩ => exact ⟨q,p,g,(ho 31 (by simp)).trans k⟩
  | 4,⟨q,A2,cap2,vs2,g,g',k⟩ => exact ⟨q,A2,cap2,vs2,g,g',(ho 32 (by simp)).trans k⟩
  | 5,g => exact g
 ·refine ⟨fun _ m e w' hP hd hp hup => ⟨trivial,?_⟩,fun _ m e w' hP hd hp hup => ⟨trivial,?_⟩,fun _ m e w' hP hd hp hup => ⟨trivial,?_⟩,fun _ m e w' hP hd hp hup => ⟨trivial,?_⟩,fun _ m e w' hP hd hp hup => ⟨trivial,?_⟩,fun _ m e w' hP hd hp hup => ⟨trivial,?_⟩,fun _ m e w' hP hd hp hup => ⟨trivial,?_⟩,
   fun _ m e w' hP hd hp hup => ⟨trivial,?_⟩,fun _ m e w' hP hd hp hup => ⟨trivial,?_⟩,fun h => (by cases h),fun _ m e w' hP hd hp hup => ⟨trivial,?_⟩,fun _ m e w' hP hd hp hup => ⟨trivial,?_⟩,fun _ m e w' hP hd hp hup => ⟨trivial,?_⟩,fun _ m e w' hP hd hp hup => ⟨trivial,?_⟩,fun _ m e w' hP hd hp hup => ⟨trivial,?_⟩,
   fun h => (by cases h),fun h => (by cases h),fun h => (by cases h),fun _ m e w' hP hd hp hup => ⟨trivial,?_⟩,fun h => (by cases h),trivial⟩
  ·exact Qx (x:=.tmp 3) (f:=1) (b:=b3) (off:=0) (off':=1) rfl hP.2.2.1 ZpX ZfV ZfX ZfW
  ·exact Xh (x:=.tmp 15) rfl (hd 0 rfl rfl) (hb3 hP (Nat.le_trans (hup 3 17 _ rfl rfl rfl) (by decide))) (dd:=.slice 51) (by kernel_rfl) rfl rfl
  ·exact Qx (x:=.tmp 1) (f:=1) (b:=b1) (off:=0) (off':=1) rfl (hb1 hP).1 ZFh ZDh ZDk ZDj
  ·exact Xh (x:=.tmp 17) rfl (hd 2 rfl rfl) (hb1 hP).2.1 (dd:=.slice 51) (by kernel_rfl) rfl rfl
  ·exact ZE (x:=.tmp 4) (.inl rfl) hP.2.2.2.1
  ·exact Wg (x:=.tmp 18) (y:=.tmp 19) (e':=51) (t:=.sl (.int .i64)) rfl (by kernel_rfl) (hd 3 rfl rfl) (hd 4 rfl rfl) (by omega) (by omega) (by simp [Ty.size])
  ·exact ZbO (x:=.tmp 20) rfl (hd 5 rfl rfl) (QT (hb1 hP).2.2 hcell) (dd:=.slice 3) (by kernel_rfl) rfl
  ·exact Zix (x:=.tmp 21) rfl (hd 6 rfl rfl) (el:=3) (by kernel_rfl)
  ·refine YW (x:=.tmp 22) (y:=.const (.int .i64 2)) rfl (hd 7 rfl rfl) rfl rfl ?_
   show some (Jv .i64 (Jx.wrap ((c.length:Int) + 2))) = _
   rw [Q2 (by omega) (by omega)]; rfl
  ·exact Qx (x:=.tmp 1) (f:=1) (b:=b1) (off:=0) (off':=1) rfl (hb1 hP).1 ZFh ZDh ZDk ZDj
  ·exact Xh (x:=.tmp 25) rfl (hd 10 rfl rfl) (hb1 hP).2.1 (dd:=.slice 51) (by kernel_rfl) rfl rfl
  ·exact ZE (x:=.tmp 4) (.inl rfl) hP.2.2.2.1
  ·exact Wg (x:=.tmp 26) (y:=.tmp 27) (e':=51) (t:=.sl (.int .i64)) rfl (by kernel_rfl) (hd 11 rfl rfl) (hd 12 rfl rfl) (by omega) (by omega) (by simp [Ty.size])
  ·exact ZbO (x:=.tmp 28) rfl (hd 13 rfl rfl) (QT (hb1 hP).2.2 hcell) (dd:=.slice 3) (by kernel_rfl) rfl
  ·exact Qx (x:=.tmp 3) (f:=1) (b:=b3) (off:=0) (off':=1) rfl hP.2.2.1 ZpX ZfV ZfX ZfW
 ·refine ⟨fun o ho e w' hP hd => ⟨?_,?_⟩,fun o ho e w' hP hd => ⟨?_,?_⟩,fun o ho e w' hP hd => ⟨?_,?_⟩,fun o ho e w' hP hd => ⟨?_,?_⟩,fun o ho e w' hP hd => ⟨?_,?_⟩,trivial⟩
  ·obtain rfl:=VF.inj ho; trivial
  ·obtain rfl:=VF.inj ho
   obtain ⟨g1,g2,g3,g4,g⟩:=hP
   refine Lo.val 24 (ZDG (y:=.tmp 23) rfl rfl (hd 8 rfl rfl) (ee:=3) (t:=.int .i64) (zs:=[.int .i64 0]) (by kernel_rfl) (by kernel_rfl) rfl (by decide) (Jt (by kernel_rfl)) (by omega)) ?_
   refine ⟨(Zx _ _ (by decide)).trans g1,(Zx _ _ (by decide)).trans g2,(Zx _ _ (by decide)).trans g3,(Zx _ _ (by decide)).trans g4,w'.heap.size,?_,Wz ..⟩
   rw [ZzF]
   exact H.alloc g zr
  ·obtain rfl:=VF.inj ho; trivial
  ·obtain rfl:=VF.inj ho
   obtain ⟨g1,g2,g3,g4,q,g,k⟩:=hP
   have hkeep:=g.keep
   refine Lo.val 30 (ZsA (x:=.tmp 24) (y:=.tmp 29) rfl (ee:=3) (t:=.int .i64) (eU:=3) (by kernel_rfl) (by kernel_rfl) k (g.at' _ (Jm ..)) (hd 14 rfl rfl) hcss ?_ (by omega) (by simp only [List.size_toArray,List.length_replicate]; show 0 + (c.length + 2) * 1 ≤ _; omega)) ?_
   ·rcases hrow5 with h | ⟨b,off,hA,h⟩
    ·exact .inl h
    ·exact .inr ⟨b,off,hA,fun j u hj => QT hkeep (h j u hj)⟩
   ·refine ⟨(Zx _ _ (by decide)).trans g1,(Zx _ _ (by decide)).trans g2,(Zx _ _ (by decide)).trans g3,(Zx _ _ (by decide)).trans g4,q,?_,by rw [Wz,Nat.zero_add]; rfl⟩
    have e3:(UN (0 + 0 * (Ty.int .i64).size) (Jd (c.length + 2) (Jv .i64 0)).toArray.toList ++ css.flatten ++ UO (0 + 0 * (Ty.int .i64).size + css.flatten.length) (Jd (c.length + 2) (Jv .i64 0)).toArray.toList).toArray = (Zd6 c).toArray:=by
     rw [hfl]
     refine congrArg List.toArray ?_
     have e4:c.length + 2 - (0 + 0 * (Ty.int .i64).size + (c.map (Jv .i64)).length) = 2:=by simp
     show UN (0 + 0 * (Ty.int .i64).size) _ ++ _ ++ UO (0 + 0 * (Ty.int .i64).size + (c.map (Jv .i64)).length) (Jd (c.length + 2) (Jv .i64 0)) = Zd6 c
     rw [List.drop_replicate,e4,Nat.zero_mul,Nat.add_zero,List.take_zero]
     rfl
    rw [e3]
    exact g.row
  ·obtain rfl:=VF.inj ho; trivial
  ·obtain rfl:=VF.inj ho
   obtain ⟨g1,g2,g3,g4,q,g,k⟩:=hP
   refine Lo.val 31 (Zqc (len:=1) (ee:=51) (t:=.sl (.int .i64)) (zs:=[.slice none 0 0]) (cs:=[Kj q c]) rfl (by kernel_rfl) (by kernel_rfl) (by decide) (by decide) (by
    intro zz hz
    match zz,hz with
    | [z],_ =>
     show Instr.fill _ _ [(0,e 30)] = _
     rw [k]; rfl)) ?_
   exact ⟨(Zx _ _ (by decide)).trans g1,(Zx _ _ (by decide)).trans g2,(Zx _ _ (by decide)).trans g3,(Zx _ _ (by decide)).trans g4,q,w'.heap.size,H.alloc g _,Wz ..⟩
  ·obtain rfl:=VF.inj ho; trivial
  ·have ho':=VF.inj ho
   have hop:o.op = .call { callee:=.builtin .append,args := #[.tmp 16,.tmp 31],argTypes := #[24,24] }:=by rw [← ho']
   have hdst:o.dst = some 32:=by rw [← ho']
   have hdq:e 16 = .slice A i cap:=hd 1 (by rw [← ho']; rfl) rfl
   clear ho ho' hd
   obtain ⟨g1,g2,g3,g4,q,p,g,k⟩:=hP
   have h16:=hdq
   have hp:w'.cell? ⟨p,0,none⟩ = some (Kj q c):=by rw [QQ (g.at' _ (Jm ..))]; rfl
   obtain ⟨i51,j1,j2,j3,j4,j5⟩:∃ i51,Tryz.prog.info? 51 = some i51 ∧ i51.zero = some (.slice none 0 0) ∧ i51.size = 1 ∧ (V5 none 0 0).cells.size = 1 ∧ Nat.ble i51.bytes 65536 = true:=⟨(Tryz.prog.info? 51).getD default,by kernel_rfl,by kernel_rfl,by kernel_rfl,by kernel_rfl,by kernel_rfl⟩
   have hA:(A = none ∧ i = 0 ∧ cap = 0) ∨ ∃ b,A = some ⟨b,0,none⟩ ∧ w'.heap[b]? = some (.cells vs 51 (0,0)) ∧ i ≤ cap ∧ cap ≤ vs.size:=by
    rcases hO.2 with h | ⟨b,rfl,hb2,hb3,_⟩
    ·exact .inl h
    ·exact .inr ⟨b,rfl,g.at' (b,.cells vs 51) (by simp [Zca]),hb2,hb3⟩
   have hone:(Kj q c).oneCell' = true:=rfl
   rcases ZsB (P:=Tryz.prog) (e:=e) (w:=w') (x:=.tmp 16) (y:=.tmp 31) (o:=o) hop (ee:=51) (t:=.sl (.int .i64)) (by kernel_rfl) j1 j2 j3 j4 (Jt j5) h16 hA k hp hone (by omega) with ⟨b,rfl,hroom,hrun⟩ | ⟨cap2,zs,hc1,hc2,hrun⟩
   ·refine Lo.val 32 hrun ?_ hdst
    refine ⟨(Zx _ _ (by decide)).trans g1,(Zx _ _ (by decide)).trans g2,(Zx _ _ (by decide)).trans g3,(Zx _ _ (by decide)).trans g4,q,some ⟨b,0,none⟩,cap,(UN i vs.toList ++ [Kj q c] ++ UO (i + 1) vs.toList).toArray,?_,?_,Wz ..⟩
    ·have g':H w0 w' ((b,.cells vs 51 (0,0)) :: (q,rr) :: tail):=by
      refine (H.drop g).perm ?_
      exact US.swap ..
     exact g'.row
    ·rcases hO.2 with ⟨h,_⟩ | ⟨b',hb',hb2,hb3,hb4⟩
     ·cases h
     ·refine ⟨by simp [hO.1],.inr ⟨b,rfl,hroom,by simp; omega,?_⟩⟩
      show UN (i + 1) (vs.toList.take i ++ [Kj q c] ++ vs.toList.drop (i + 1)) = _
      rw [hb4]
      exact U1 (by simp [hO.1])
   ·refine Lo.val 32 hrun ?_ hdst
    refine ⟨(Zx _ _ (by decide)).trans g1,(Zx _ _ (by decide)).trans g2,(Zx _ _ (by decide)).trans g3,(Zx _ _ (by decide)).trans g4,q,some ⟨w'.heap.size,0,none⟩,cap2,(Zc6 A vs i ++ [Kj q c] ++ zs).toArray,?_,?_,Wz ..⟩
    ·have g':=(g.next (Keep.drew w')).alloc (.cells (Zc6 A vs i ++ [Kj q c] ++ zs).toArray 51)
     have g2:H w0 (w'.drew.alloc (.cells (Zc6 A vs i ++ [Kj q c] ++ zs).toArray 51)) ((w'.heap.size,.cells (Zc6 A vs i ++ [Kj q c] ++ zs).toArray 51) :: (q,rr) :: tail):=H.sub' g' (UW.cons_cons _ (UW.cons _ (UW.cons_cons _ (List.sublist_append_right _ _))))
     exact g2
    ·have hol:Zc6 A vs i = l:=by
      rcases hO.2 with ⟨rfl,rfl,rfl⟩ | ⟨b',rfl,hb2,hb3,hb4⟩
      ·exact (List.eq_nil_of_length_eq_zero hO.1).symm
      ·exact hb4
     refine ⟨by simp [hO.1],.inr ⟨_,rfl,hc1,by simp [hol,hO.1]; omega,?_⟩⟩
     rw [hol]
     show UN (i + 1) (l ++ [Kj q c] ++ zs) = _
     exact U1 (by simp [hO.1])
  ·obtain rfl:=VF.inj ho; trivial
  ·obtain rfl:=VF.inj ho
   obtain ⟨g1,g2,g3,g4,q,A2,cap2,vs2,g,g',k⟩:=hP
   have h33:e 33 = .pointer (some ⟨b3,1,none⟩):=hd 18 rfl rfl
   have g5:H w0 w' ((b3,c3) :: (Zca 51 A2 vs2 ++ ((q,rr) :: (b1,c1) :: B))):=by
    refine g.perm ?_
    exact ZGI _ _ _ _
   refine Lo.unit (ZwW (x:=.tmp 33) (y:=.tmp 32) (b:=b3) (off:=1) (vs:=[.slice A2 (i + 1) cap2]) rfl h33 (by show (e 32).cells = _; rw [k]; rfl) (g5.at' _ (Jm ..)) Zzf (dd:=.slice 51) (by kernel_rfl) (by kernel_rfl) (by intro v hv; simp at hv; subst hv; rfl) (by show 1 + 1 ≤ 2; decide)) ?_
   refine ⟨g1,g2,g3,g4,q,A2,cap2,vs2,?_,g'⟩
   have g6:=g5.row (cs' := #[.int .i64 n,.slice A2 (i + 1) cap2])
   exact g6.perm (ZJB _ _ _ _)
 ·rintro e w' ⟨g1,g2,g3,g4,q,A2,cap2,vs2,g,g'⟩ _
  refine hQ e w' q A2 cap2 vs2 g1 g2 g3 g4 g' (g.perm (ZJC _ _ _ _ _))
end Go.Sh
namespace Go.Sh
open Go Go.Proofs
structure OfOk (w0 w:World) (ch:List (List Int)) (A:Option Addr) (cap:Nat) (rs:List Nat) (vs:Array Value):Prop where
 len:rs.length = ch.length
 out:ZmI A ch.length cap vs (Ziy rs ch)
 blk:∀ a,A = some a → w.heap[a.block]? = some (.cells vs 51 (0,0)) ∧ w0.heap.size ≤ a.block
 row:∀ (j m:Nat) (c:List Int),rs[j]? = some m → ch[j]? = some c → w.heap[m]? = some (.cells (Zd6 c).toArray 3 (0,0)) ∧ w0.heap.size ≤ m
def z35:List Value:=[.int .i64 0,.slice none 0 0]
set_option maxRecDepth 20000 in
set_option maxHeartbeats 1000000 in
theorem ZDv {w0:World} {lim:Nat → Nat} {n:Int} {sl:Value} {ch:List (List Int)} (hsl:Rt w0 lim (.sl (.sl (.int .i64))) ch [sl]) (hN:ch.length < 1073741824) (hc:∀ c ∈ ch,c.length < 1073741824) :
  Calls Tryz.prog 15 [Value.agg #[.int .i64 n,sl]].toArray w0 fun en w' => ∃ v,en = .returned v ∧ ∃ A cap rs vs,v = .agg #[.int .i64 n,.slice A ch.length cap] ∧ Keep w0 w' ∧ OfOk w0 w' ch A cap rs vs:=by
 obtain ⟨As,Ns,cap0,esl,hNs,hcs,hsrc⟩:=hsl
 cases esl
 subst hNs
 let c1:Obj:=.cells #[.int .i64 n,.slice As ch.length cap0] 26
 refine Ztz (fn:=Tryz.f15) (code:=o15) (t:=2) (T:=35) (vs:=[.agg #[.int .i64 n,.slice As ch.length cap0]]) (R:=fun v w' => ∃ A cap rs vs,v = .agg #[.int .i64 n,.slice A ch.length cap] ∧ Keep w0 w' ∧ OfOk w0 w' ch A cap rs vs) (by kernel_rfl) (by kernel_rfl) (by kernel_rfl) (by show 1 ≤ 35; decide) (dd:=Tryz.prog.underlying 35 |>.getD default) (by kernel_rfl) (by kernel_rfl) ?_
 show T Tryz.prog 35 _ _ _ _
 refine T.seq (T.region (L.val 1 (ZDF rfl (vs:=[.int .i64 n,.slice As ch.length cap0]) rfl) (L.val 2 (Zga rfl (zs:=z35) (by kernel_rfl)) (L.nil ?_))))
 have H1:=((H.nil w0).alloc c1).alloc (.cells z35.toArray 35)
 generalize (w0.alloc c1).alloc (.cells z35.toArray 35) = w1 at H1 ⊢
 generalize (w0.alloc c1).heap.size = b2 at H1 ⊢
 obtain ⟨b1,hb1⟩:∃ b1,b1 = w0.heap.size:=⟨_,rfl⟩
 rw [← hb1] at H1 ⊢
 refine T.seq (T.region (L.val 5 (Qx (x:=.tmp 1) (f:=0) (b:=b1) (off:=0) (off':=0) rfl rfl ZFh ZJv ZJx ZJw) (L.val 6 (Xh (x:=.tmp 5) (v:=.int .i64 n) rfl rfl (H1.at' (b1,c1) (by simp)) (dd:=.int .i64) (by kernel_rfl) rfl rfl)
  (L.val 7 (ZFB (zs:=z35) (us:=[.int .i64 n,.slice none 0 0]) (fs:=ZFe) rfl (by kernel_rfl) (by kernel_rfl) (by kernel_rfl) (by kernel_rfl)) (L.val 3 (Zga rfl (zs:=z35) (by kernel_rfl)) ?_)))))
 have H2:=H1.alloc (.cells z35.toArray 35)
 generalize w1.alloc (.cells z35.toArray 35) = w2 at H2 ⊢
 generalize w1.heap.size = b3 at H2 ⊢
 refine L.unit (KI (x:=.tmp 3) (y:=.tmp 7) (vs:=[.int .i64 n,.slice none 0 0]) rfl rfl rfl (H2.at' _ (Jm ..)) Zzf (dd:=Tryz.prog.underlying 35 |>.getD default) (by kernel_rfl) (by kernel_rfl) (by intro v hv; simp at hv; rcases hv with rfl | rfl <;> rfl) rfl) (L.nil ?_)
 have H3:H w0 (w2.setRow b3 [Jv .i64 n,.slice none 0 0].toArray) ((b3,.cells #[.int .i64 n,.slice none 0 0] 35) :: (b1,c1) :: (b2,.cells z35.toArray 35) :: []):=(H2.row (cs' := #[.int .i64 n,.slice none 0 0])).perm ((US.swap ..).cons _)
 generalize w2.setRow b3 [Jv .i64 n,.slice none 0 0].toArray = w3 at H3 ⊢
 clear H1 H2
 refine T.seq (T.seq (T.region (L.val 4 (ZE (x:=.const (.int .i64 0)) (.inr rfl) rfl) (L.nil ?_))))
 let z2:Obj:=.cells z35.toArray 35
 refine T.block (T.loop (fun e w => ∃ (i:Nat) (rs:List Nat) (A:Option Addr) (cap:Nat) (vs:Array Value) (B:List (Nat × Obj)),e 1 = .pointer (some ⟨b1,0,none⟩) ∧ e 2 = .pointer (some ⟨b2,0,none⟩) ∧ e 3 = .pointer (some ⟨b3,0,none⟩) ∧ e 4 = .int .i64 (i:Int) ∧ i ≤ ch.length ∧ rs.length = i ∧
   ZmI A i cap vs (Ziy rs (ch.take i)) ∧ H w0 w (Zca 51 A vs ++ ((b3,.cells #[.int .i64 n,.slice A i cap] 35) :: (b1,c1) :: (b2,z2) :: B)) ∧ ∀ (j m:Nat) (c:List Int),rs[j]? = some m → (ch.take i)[j]? = some c → (m,Obj.cells (Zd6 c).toArray 3) ∈ B)
  (fun e _ => ch.length - iv (e 4)) ⟨0,[],none,0,#[],[],rfl,rfl,rfl,rfl,UU _,rfl,⟨rfl,.inl ⟨rfl,rfl,rfl⟩⟩,H3,fun j m c h => by simp at h⟩ ?_)
 rintro e w ⟨i,rs,A,cap,vs,B,g1,g2,g3,g4,hi,hrs,hO,hH,hB⟩
 have mem1:(b1,c1) ∈ Zca 51 A vs ++ ((b3,.cells #[.int .i64 n,.slice A i cap] 35) :: (b1,c1) :: (b2,z2) :: B):=by simp
 refine T.seq (T.seq (T.region (L.val 8 (ZE (x:=.tmp 4) (.inl rfl) g4) (L.val 9 (Qx (x:=.tmp 1) (f:=1) (b:=b1) (off:=0) (off':=1) rfl (by exact g1) ZFh ZDh ZDk ZDj)
  (L.val 10 (Xh (x:=.tmp 9) (v:=.slice As ch.length cap0) rfl rfl (hH.at' _ mem1) (dd:=.slice 51) (by kernel_rfl) rfl rfl) (L.val 11 (Zix (x:=.tmp 10) (A:=As) (len:=ch.length) (cap:=cap0) rfl rfl (el:=51) (by kernel_rfl))
  (L.val 12 (YW (x:=.tmp 8) (y:=.tmp 11) rfl rfl rfl rfl (v:=.bool (decide ((i:Int) < (ch.length:Int)))) rfl) (L.nil ?_))))))))
 by_cases hk:i < ch.length
 ·refine T.condT (by show Value.bool _ = _; simp; exact hk) (T.skip ?_)
  rcases hsrc with hnil | ⟨bo,oo,rfl,hsrc⟩
  ·rw [hnil] at hk; simp at hk
  obtain ⟨cc,hr,hcell⟩:=hsrc i hk
  obtain ⟨A',n',cap',rfl,hr2⟩:=hr
  obtain ⟨hx1,hx2⟩:=hcell 0 _ rfl
  have e1:oo + i * (Ty.sl (.int .i64)).size + 0 = oo + i:=by simp [Ty.size]
  rw [e1] at hx1
  obtain ⟨hn',hr3⟩:=hr2
  subst hn'
  refine T.seq (ZDw (i:=i) (c:=ch[i]) (l:=Ziy rs (ch.take i)) (b1:=b1) (b2:=b2) (b3:=b3) (n:=n) (N:=ch.length) (cap0:=cap0) (B:=(b2,z2) :: B) (vs:=vs) (A:=A) (cap:=cap) (z2:=z2) rfl hk hx1 (lim:=lim) ⟨A',_,cap',rfl,rfl,hr3⟩ (hc _ (List.getElem_mem hk)) hN hO hH (by exact g1) (by exact g2) (by exact g3) (by exact g4) ?_)
  intro e' w' q A2 cap2 vs2 p1 p2 p3 p4 hO2 hH2
  refine T.region (L.val 13 (ZE (x:=.tmp 4) (.inl rfl) p4) (L.val 14 (YW (x:=.tmp 13) rfl rfl rfl rfl (v:=.int .i64 (Jx.wrap ((i:Int) + 1))) rfl) (L.val 4 (ZE (x:=.tmp 14) (.inr rfl) rfl) (L.nil ?_))))
  have hw:=Zbw (k:=i) (by omega)
  have hrl:rs.length = (ch.take i).length:=by rw [hrs,List.length_take]; omega
  have htk:ch.take (i + 1) = ch.take i ++ [ch[i]]:=List.take_succ_eq_append_getElem hk
  refine ⟨⟨i + 1,rs ++ [q],A2,cap2,vs2,(q,.cells (Zd6 ch[i]).toArray 3) :: B,p1,p2,p3,by rw [hw]; rfl,by omega,by simp [hrs],?_,?_,?_⟩,?_⟩
  ·rw [htk,(ZDO hrl q ch[i]).2]; exact hO2
  ·exact hH2.perm (US.append_left _ (((US.swap ..).cons _).cons _))
  ·intro j m c hj hcj
   rw [htk] at hcj
   rcases Nat.lt_or_ge j i with h | h
   ·rw [UZ (by omega)] at hj
    rw [UZ (by omega)] at hcj
    exact List.mem_cons_of_mem _ (hB j m c hj hcj)
   ·rw [Vs (by omega),hrs] at hj
    rw [Vs (by omega),← hrl,hrs] at hcj
    cases hji:j - i with
    | zero => rw [hji] at hj hcj; simp at hj hcj; subst hj; subst hcj; exact Jm ..
    | succ d => rw [hji] at hj; simp at hj
  ·rw [g4]
   show ch.length - (Jx.wrap ((i:Int) + 1)).toNat < ch.length - ((i:Int)).toNat
   rw [hw]; simp; omega
 ·refine T.condF (by show Value.bool _ = _; simp; omega) (T.exit ?_)
  simp only [nx,bk,if_true]
  have hin:i = ch.length:=by omega
  subst hin
  rw [List.take_length] at hO hB
  have mem3:(b3,Obj.cells #[.int .i64 n,.slice A ch.length cap] 35) ∈ Zca 51 A vs ++ ((b3,.cells #[.int .i64 n,.slice A ch.length cap] 35) :: (b1,c1) :: (b2,z2) :: B):=by simp
  refine T.seq (T.region (L.val 34 (Zas (x:=.tmp 3) (cs:=[.int .i64 n,.slice A ch.length cap]) rfl (by exact g3) (hH.at' _ mem3) (dd:=Tryz.prog.underlying 35 |>.getD default) (by kernel_rfl) (by kernel_rfl) (by kernel_rfl) rfl) ?_))
  have H4:H w0 w ((b2,z2) :: (Zca 51 A vs ++ ((b3,.cells #[.int .i64 n,.slice A ch.length cap] 35) :: (b1,c1) :: B))):=by
   refine hH.perm ?_
   have:Zca 51 A vs ++ ((b3,Obj.cells #[.int .i64 n,.slice A ch.length cap] 35) :: (b1,c1) :: (b2,z2) :: B) = (Zca 51 A vs ++ [(b3,Obj.cells #[.int .i64 n,.slice A ch.length cap] 35),(b1,c1)]) ++ (b2,z2) :: B:=by simp
   rw [this]
   refine U0.trans (US.cons _ ?_)
   simp
  refine L.unit (KI (x:=.tmp 2) (y:=.tmp 34) (vs:=[.int .i64 n,.slice A ch.length cap]) rfl (by exact g2) rfl (H4.at' _ (Jm ..)) Zzf (dd:=Tryz.prog.underlying 35 |>.getD default) (by kernel_rfl) (by kernel_rfl) (by intro v hv; simp at hv; rcases hv with rfl | rfl <;> rfl) rfl) (L.nil (T.ret ?_))
  have H5:=H4.row (cs' := #[.int .i64 n,.slice A ch.length cap])
  refine ⟨.inr rfl,b2,_,_,_,g2,H5.at' _ (Jm ..),by kernel_rfl,A,cap,rs,vs,rfl,H5.keep,hrs,hO,fun a ha => ?_,fun j m c hj hcj => ?_⟩
  ·subst ha
   exact ⟨H5.at' (a.block,.cells vs 51) (by simp [Zca]),H5.new (a.block,.cells vs 51) (by simp [Zca])⟩
  ·have:=hB j m c hj hcj
   exact ⟨H5.at' (m,.cells (Zd6 c).toArray 3) (by simp [this]),H5.new (m,.cells (Zd6 c).toArray 3) (by simp [this])⟩
end Go.Sh
namespace Go.Sh
open Go Go.Proofs
noncomputable def b8:Code:=Tryz.f8.body.getD .skip
noncomputable def b8P (n:Nat):Code:=match n with
 | 0 => cr (cr (cr (cr (cr b8))))
 | 1 => cr (cr (cr (cr (cr (cr (cr (cr (cr b8))))))))
 | _ => cr (cr (cr (cr (cr (cr (cr (cr (cr (cr (cr b8))))))))))
noncomputable def ZIT:Code:=cr (cl (b8P 0))
noncomputable def ZJS:Code:=cl (cr (cb (cb ZIT)))
noncomputable def ZJT:Code:=cr (cr (cb ZJS))
structure Rooms (w:World) (b5:Nat) (n:Int) (A:Option Addr) (N cap:Nat):Prop where
 box:w.heap[b5]? = some (.cells #[.int .i64 n,.slice A N cap] 35 (0,0))
 lt:N < 1073741824
 row:∀ i,i < N → ∃ bo m c,A = some ⟨bo,0,none⟩ ∧ w.cell? ⟨bo,i,none⟩ = some (Kj m c) ∧ w.heap[m]? = some (.cells (Zd6 c).toArray 3 (0,0)) ∧ c.length < 1073741824
theorem Rooms.next {w w':World} {b5:Nat} {n:Int} {A:Option Addr} {N cap:Nat} (h:Rooms w b5 n A N cap) (k:Keep w w'):Rooms w' b5 n A N cap where
 box:=(k.old _ (QD h.box)).trans h.box
 lt:=h.lt
 row i hi:=by
  obtain ⟨bo,m,c,h1,h2,h3,h4⟩:=h.row i hi
  exact ⟨bo,m,c,h1,QT k h2,(k.old _ (QD h3)).trans h3,h4⟩
theorem Zzt {c:List Int} {k:Nat} (h1:c.length ≤ k) (h2:k < c.length + 2):(Zd6 c)[k]? = some (.int .i64 0):=by
 unfold Zd6
 rw [Vs (by simpa using h1),List.length_map]
 rcases Nat.lt_or_ge c.length k with h | h
 ·have:k - c.length = 1:=by omega
  rw [this]; rfl
 ·have:k - c.length = 0:=by omega
  rw [this]; rfl
theorem ZuL {Q:Exit → En → World → Prop} {Fe:List (Nat × Value)} (hFe:∀ p ∈ Fe,p.1 < 8) {i m:Nat} {c:List Int} (hc:c.length < 1073741824) {w0:World} (hm:w0.heap[m]? = some (.cells (Zd6 c).toArray 3 (0,0))) {e:En} {w:World} (hat:At Fe e) (h8:e 8 = .int .i64 (i:Int)) (h9:e 9 = .slice (some ⟨m,0,none⟩) (c.length + 2) (c.length + 2)) (h10:e 10 = .int .i64 (c.length:Int)) (hk:Keep w0 w)
  (hQ:∀ e' w',At Fe e' → e' 8 = .int .i64 (i:Int) → Keep w0 w' → Q .normal e' w'):T Tryz.prog 136 ZJT Q e w:=by
 refine T.block (T.loop (fun e w => ∃ k:Nat,At Fe e ∧ e 8 = .int .i64 (i:Int) ∧ e 9 = .slice (some ⟨m,0,none⟩) (c.length + 2) (c.length + 2) ∧ e 10 = .int .i64 (k:Int) ∧ c.length ≤ k ∧ k ≤ c.length + 2 ∧ Keep w0 w) (fun e _ => c.length + 2 - iv (e 10)) ⟨c.length,hat,h8,h9,h10,Nat.le_refl _,by omega,hk⟩ ?_)
 rintro e w ⟨k,g1,g2,g3,g4,g5,g5',g6⟩
 refine T.seq (T.seq (T.region (L.val 60 (ZE (x:=.tmp 10) (.inl rfl) g4) (L.val 61 (ZE (x:=.tmp 9) (.inl rfl) (v:=.slice (some ⟨m,0,none⟩) (c.length + 2) (c.length + 2)) (by exact g3)) (L.val 62 (Zix (x:=.tmp 61) rfl rfl (el:=3) (by kernel_rfl))
  (L.val 63 (YW (x:=.tmp 60) (y:=.tmp 62) rfl rfl rfl rfl (v:=.bool (decide ((k:Int) < ((c.length + 2:Nat):Int)))) rfl) (L.nil ?_)))))))
 by_cases hlt:k < c.length + 2
 ·refine T.condT (by show Value.bool _ = _; simp; omega) (T.skip ?_)
  refine T.seq (T.block (T.seq (T.region (L.val 66 (ZE (x:=.tmp 9) (.inl rfl) (v:=.slice (some ⟨m,0,none⟩) (c.length + 2) (c.length + 2)) (by exact g3)) (L.val 67 (ZE (x:=.tmp 10) (.inl rfl) (v:=.int .i64 (k:Int)) (by exact g4))
   (L.val 68 (Wg (x:=.tmp 66) (y:=.tmp 67) (e':=3) (t:=.int .i64) (b:=m) (off:=0) (len:=c.length + 2) (cap:=c.length + 2) (i:=(k:Int)) rfl (by kernel_rfl) rfl rfl (by omega) (by omega) (off':=k) (by simp [Ty.size]))
   (L.val 69 (Xh (x:=.tmp 68) (v:=.int .i64 0) rfl rfl ((g6.old m (QD hm)).trans hm) (dd:=.int .i64) (by kernel_rfl) rfl (Zzt g5 hlt))
   (L.val 70 (YW (x:=.tmp 69) (y:=.const (.int .i64 0)) rfl rfl rfl rfl (v:=.bool false) rfl) (L.nil ?_)))))))))
  refine T.condF rfl (T.skip ?_)
  refine T.region (L.val 64 (ZE (x:=.tmp 10) (.inl rfl) (v:=.int .i64 (k:Int)) (by exact g4)) (L.val 65 (YW (x:=.tmp 64) rfl rfl rfl rfl (v:=.int .i64 (Jx.wrap ((k:Int) + 1))) rfl) (L.val 10 (ZE (x:=.tmp 65) (.inr rfl) rfl) (L.nil ?_))))
  have hw:=Zbw (k:=k) (by omega)
  refine ⟨⟨k + 1,?_,g2,g3,by rw [hw]; rfl,by omega,by omega,g6⟩,?_⟩
  ·exact g1.same hFe (fun s hs => by
    simp only [upd]
    rw [Zp (show s ≠ 10 by omega),Zp (show s ≠ 65 by omega),Zp (show s ≠ 64 by omega),Zp (show s ≠ 70 by omega),Zp (show s ≠ 69 by omega),Zp (show s ≠ 68 by omega),Zp (show s ≠ 67 by omega),Zp (show s ≠ 66 by omega),Zp (show s ≠ 63 by omega),Zp (show s ≠ 62 by omega),Zp (show s ≠ 61 by omega),Zp (show s ≠ 60 by omega)]
    rfl)
  ·rw [g4]
   show c.length + 2 - (Jx.wrap ((k:Int) + 1)).toNat < c.length + 2 - ((k:Int)).toNat
   rw [hw]; simp; omega
 ·refine T.condF (by show Value.bool _ = _; simp; omega) (T.exit ?_)
  simp only [nx,bk,if_true]
  exact hQ _ _ (g1.same hFe (fun s hs => by
    simp only [upd]
    rw [Zp (show s ≠ 63 by omega),Zp (show s ≠ 62 by omega),Zp (show s ≠ 61 by omega),Zp (show s ≠ 60 by omega)]
    rfl)) g2 g6
set_option maxRecDepth 20000 in
theorem ZuM {Q:Exit → En → World → Prop} {Fe:List (Nat × Value)} (hFe:∀ p ∈ Fe,p.1 < 8) {b5:Nat} {n:Int} {A:Option Addr} {N cap:Nat} {w0:World} (hR:Rooms w0 b5 n A N cap) (h5:(5,UX (some ⟨b5,0,none⟩)) ∈ Fe) {e:En} {w:World} (hat:At Fe e) (h8:e 8 = .int .i64 0) (hk:Keep w0 w)
  (hQ:∀ e' w',At Fe e' → Keep w0 w' → Q .normal e' w'):T Tryz.prog 136 ZIT Q e w:=by
 refine T.block (T.loop (fun e w => ∃ i:Nat,At Fe e ∧ e 8 = .int .i64 (i:Int) ∧ i ≤ N ∧ Keep w0 w) (fun e _ => N - iv (e 8)) ⟨0,hat,h8,UU _,hk⟩ ?_)
 rintro e w ⟨i,g1,g2,g3,g4⟩
 have R:=hR.next g4
 have hlt:=hR.lt
 refine T.seq (T.seq (T.region (L.val 35 (ZE (x:=.tmp 8) (.inl rfl) g2) (L.val 36 (Qx (x:=.tmp 5) (f:=1) (b:=b5) (off:=0) (off':=1) rfl (by exact g1 _ h5) ZpX ZfV ZfX ZfW)
  (L.val 37 (Xh (x:=.tmp 36) (v:=.slice A N cap) rfl rfl R.box (dd:=.slice 51) (by kernel_rfl) rfl rfl) (L.val 38 (Zix (x:=.tmp 37) (A:=A) (len:=N) (cap:=cap) rfl rfl (el:=51) (by kernel_rfl))
  (L.val 39 (YW (x:=.tmp 35) (y:=.tmp 38) rfl rfl rfl rfl (v:=.bool (decide ((i:Int) < (N:Int)))) rfl) (L.nil ?_))))))))
 have hup:∀ s,s < 9 → upd (upd (upd (upd (upd e 35 (.int .i64 (i:Int))) 36 (.pointer (some ⟨b5,1,none⟩))) 37 (.slice A N cap)) 38 (.int .i64 (N:Int))) 39 (.bool (decide ((i:Int) < (N:Int)))) s = e s:=fun s hs => by
  simp only [upd]; rw [Zp (show s ≠ 39 by omega),Zp (show s ≠ 38 by omega),Zp (show s ≠ 37 by omega),Zp (show s ≠ 36 by omega),Zp (show s ≠ 35 by omega)]; rfl
 by_cases hi:i < N
 ·refine T.condT (by show Value.bool _ = _; simp; exact hi) (T.skip ?_)
  obtain ⟨bo,m,c,rfl,hcell,hm,hc⟩:=R.row i hi
  let sA:Value:=.slice (some ⟨bo,0,none⟩) N cap
  let qv:Nat → Value:=fun j => match j with
   | 0 => .pointer (some ⟨b5,1,none⟩) | 1 => sA | 2 => .int .i64 (i:Int) | 3 => .pointer (some ⟨bo,i,none⟩) | 4 => Kj m c | 5 => .pointer (some ⟨b5,1,none⟩) | 6 => sA | 7 => .int .i64 (i:Int) | 8 => .pointer (some ⟨bo,i,none⟩) | 9 => Kj m c
   | 10 => .int .i64 ((c.length + 2:Nat):Int) | 11 => .slice (some ⟨m,0,none⟩) (c.length + 2) (c.length + 2) | 12 => .slice (some ⟨m,0,none⟩) (c.length + 2) (c.length + 2) | _ => undef
  let Ph:Nat → En → World → Prop:=fun _ e w' => At Fe e ∧ e 8 = .int .i64 (i:Int) ∧ Keep w w'
  refine T.seq (T.block (T.seq (T.mixed [] (fun j => if j = 12 then 9 else 42 + j) qv Ph XP (by kernel_rfl) ?_ ?_ ?_ trivial ?_)))
  ·exact ⟨g1.same hFe (fun s hs => hup s (by omega)),(hup 8 (by decide)).trans g2,Keep.drw w⟩
  ·rintro m' e' w' j v hj - ⟨q1,q2,q3⟩
   have hj':j < 13:=hj
   have hD:8 < (if j = 12 then 9 else 42 + j):=by split <;> omega
   exact ⟨q1.same hFe (fun s hs => Zx _ _ (by omega)),(Zx _ _ (by omega)).trans q2,q3⟩
  ·refine ⟨fun _ m e w' hP hd hp _ => ⟨trivial,?_⟩,fun _ m e w' hP hd hp _ => ⟨trivial,?_⟩,fun _ m e w' hP hd hp _ => ⟨trivial,?_⟩,fun _ m e w' hP hd hp _ => ⟨trivial,?_⟩,fun _ m e w' hP hd hp _ => ⟨trivial,?_⟩,fun _ m e w' hP hd hp _ => ⟨trivial,?_⟩,fun _ m e w' hP hd hp _ => ⟨trivial,?_⟩,fun _ m e w' hP hd hp _ => ⟨trivial,?_⟩,
    fun _ m e w' hP hd hp _ => ⟨trivial,?_⟩,fun _ m e w' hP hd hp _ => ⟨trivial,?_⟩,fun _ m e w' hP hd hp _ => ⟨trivial,?_⟩,fun _ m e w' hP hd hp _ => ⟨trivial,?_⟩,fun _ m e w' hP hd hp _ => ⟨trivial,?_⟩,trivial⟩
   ·exact Qx (x:=.tmp 5) (f:=1) (b:=b5) (off:=0) (off':=1) rfl (hP.1 _ h5) ZpX ZfV ZfX ZfW
   ·exact Xh (x:=.tmp 42) rfl (hd 0 rfl rfl) (R.next hP.2.2).box (dd:=.slice 51) (by kernel_rfl) rfl rfl
   ·exact ZE (x:=.tmp 8) (.inl rfl) hP.2.1
   ·exact Wg (x:=.tmp 43) (y:=.tmp 44) (e':=51) (t:=.sl (.int .i64)) rfl (by kernel_rfl) (hd 1 rfl rfl) (hd 2 rfl rfl) (by omega) (by omega) (by simp [Ty.size])
   ·exact ZbO (x:=.tmp 45) rfl (hd 3 rfl rfl) (QT hP.2.2 hcell) (dd:=.slice 3) (by kernel_rfl) rfl
   ·exact Qx (x:=.tmp 5) (f:=1) (b:=b5) (off:=0) (off':=1) rfl (hP.1 _ h5) ZpX ZfV ZfX ZfW
   ·exact Xh (x:=.tmp 47) rfl (hd 5 rfl rfl) (R.next hP.2.2).box (dd:=.slice 51) (by kernel_rfl) rfl rfl
   ·exact ZE (x:=.tmp 8) (.inl rfl) hP.2.1
   ·exact Wg (x:=.tmp 48) (y:=.tmp 49) (e':=51) (t:=.sl (.int .i64)) rfl (by kernel_rfl) (hd 6 rfl rfl) (hd 7 rfl rfl) (by omega) (by omega) (by simp [Ty.size])
   ·exact ZbO (x:=.tmp 50) rfl (hd 8 rfl rfl) (QT hP.2.2 hcell) (dd:=.slice 3) (by kernel_rfl) rfl
   ·exact ZJD (x:=.tmp 51) rfl (hd 9 rfl rfl) (el:=3) (by kernel_rfl)
   ·exact Zzo (x:=.tmp 46) (y:=.tmp 52) rfl (hd 4 rfl rfl) (hd 10 rfl rfl) (Nat.le_refl _) (el:=3) (dd:=.int .i64) (by kernel_rfl) (by kernel_rfl)
   ·exact ZE (x:=.tmp 53) (.inr rfl) (hd 11 rfl rfl)
  ·rintro e w' ⟨q1,q2,q3⟩ hv
   have h9:e 9 = .slice (some ⟨m,0,none⟩) (c.length + 2) (c.length + 2):=hv 12 (by decide) rfl
   have R':=R.next q3
   refine T.seq (T.region (L.val 54 (Qx (x:=.tmp 5) (f:=1) (b:=b5) (off:=0) (off':=1) rfl (by exact q1 _ h5) ZpX ZfV ZfX ZfW) (L.val 55 (Xh (x:=.tmp 54) (v:=sA) rfl rfl R'.box (dd:=.slice 51) (by kernel_rfl) rfl rfl)
    (L.val 56 (ZE (x:=.tmp 8) (.inl rfl) (v:=.int .i64 (i:Int)) (by exact q2)) (L.val 57 (Wg (x:=.tmp 55) (y:=.tmp 56) (e':=51) (t:=.sl (.int .i64)) (b:=bo) (off:=0) (len:=N) (cap:=cap) (i:=(i:Int)) rfl (by kernel_rfl) rfl rfl (by omega) (by omega) (off':=i) (by simp [Ty.size]))
    (L.val 58 (ZbO (x:=.tmp 57) (v:=Kj m c) rfl rfl (QT q3 hcell) (dd:=.slice 3) (by kernel_rfl) rfl) (L.val 59 (Zix (x:=.tmp 58) (A:=some ⟨m,0,none⟩) (len:=c.length) (cap:=c.length + 2) rfl rfl (el:=3) (by kernel_rfl))
    (L.val 10 (ZE (x:=.tmp 59) (.inr rfl) rfl) (L.nil ?_)))))))))
   refine ZuL hFe (i:=i) (m:=m) (c:=c) hc hm (q1.same hFe (fun s hs => by
    simp only [upd]
    rw [Zp (show s ≠ 10 by omega),Zp (show s ≠ 59 by omega),Zp (show s ≠ 58 by omega),Zp (show s ≠ 57 by omega),Zp (show s ≠ 56 by omega),Zp (show s ≠ 55 by omega),Zp (show s ≠ 54 by omega)]
    rfl)) (by exact q2) (by exact h9) rfl q3 ?_
   intro e' w'' p1 p2 p3
   refine T.region (L.val 40 (ZE (x:=.tmp 8) (.inl rfl) p2) (L.val 41 (YW (x:=.tmp 40) rfl rfl rfl rfl (v:=.int .i64 (Jx.wrap ((i:Int) + 1))) rfl) (L.val 8 (ZE (x:=.tmp 41) (.inr rfl) rfl) (L.nil ?_))))
   have hw:=Zbw (k:=i) (by omega)
   refine ⟨⟨i + 1,?_,by rw [hw]; rfl,by omega,g4.trans p3⟩,?_⟩
   ·exact p1.same hFe (fun s hs => by simp only [upd]; rw [Zp (show s ≠ 8 by omega),Zp (show s ≠ 41 by omega),Zp (show s ≠ 40 by omega)]; rfl)
   ·rw [g2]
    show N - (Jx.wrap ((i:Int) + 1)).toNat < N - ((i:Int)).toNat
    rw [hw]; simp; omega
 ·refine T.condF (by show Value.bool _ = _; simp; omega) (T.exit ?_)
  simp only [nx,bk,if_true]
  exact hQ _ _ (g1.same hFe (fun s hs => hup s (by omega))) g4
end Go.Sh
namespace Go.Sh
open Go Go.Proofs
noncomputable def ZIU:Code:=cr (cl (b8P 1))
noncomputable def ZJU:Code:=cr (cb (cl (cr (cb (cb ZIU)))))
def ZGN (w1 w2:World) (A:Option Addr) (len:Nat):Prop:=len < 4294967296 ∧ ∀ k,k < len → ∃ b o m,A = some ⟨b,o,none⟩ ∧ w2.cell? ⟨b,o + k,none⟩ = some (.int .i64 m) ∧ w1.heap.size ≤ b ∧ b < w2.heap.size ∧ w2.frozen? ⟨b,o + k,none⟩ = false
def ZzJ (w1 w2:World) (A:Option Addr) (n:Nat):Prop:=n < 4294967296 ∧ ∀ i,i < n → ∃ bo oo A' len cap,A = some ⟨bo,oo,none⟩ ∧ w2.cell? ⟨bo,oo + i,none⟩ = some (.slice A' len cap) ∧ ZGN w1 w2 A' len
structure LW (w1 w2 w:World) (b7:Nat) (cs7:Array Value) (T:TypeId):Prop where
 lo:Loose w1 w2 w
 box:w.heap[b7]? = some (.cells cs7 T (0,0))
 new:w2.heap.size ≤ b7
theorem LW.next {w1 w2 w w':World} {b7:Nat} {cs7:Array Value} {T:TypeId} (h:LW w1 w2 w b7 cs7 T) (k:Keep w w'):LW w1 w2 w' b7 cs7 T :=
 ⟨h.lo.next k,(k.old b7 (QD h.box)).trans h.box,h.new⟩
theorem LW.set {w1 w2 w:World} {b7:Nat} {cs7:Array Value} {T:TypeId} (h:LW w1 w2 w b7 cs7 T) {b off:Nat} {cur:Array Value} {U:TypeId} {fz:Nat × Nat} (hb:w.heap[b]? = some (.cells cur U fz)) (hb1:w1.heap.size ≤ b) (hb2:b < w2.heap.size) {x:Value}
  (hx:(∃ k m m',cur[off]? = some (.int k m) ∧ x = .int k m') ∨ (∃ s s',cur[off]? = some (.string s) ∧ x = .string s')):LW w1 w2 (w.setRow b (cur.setIfInBounds off x)) b7 cs7 T :=
 ⟨h.lo.set hb hb1 hx,by rw [setRow_other w b b7 _ (by have:=h.new; omega)]; exact h.box,h.new⟩
theorem ZIi {w1 w2:World} {Q:Exit → En → World → Prop} {Fe:List (Nat × Value)} (hFe:∀ p ∈ Fe,p.1 < 15) {b7:Nat} {cs7:Array Value} (h7:(12,UX (some ⟨b7,0,none⟩)) ∈ Fe) {bo oo n cap:Nat} (hc7:cs7.toList[1]? = some (.slice (some ⟨bo,oo,none⟩) n cap))
  {i:Nat} (hi:i < n) {A':Option Addr} {len cap':Nat} (hO:w2.cell? ⟨bo,oo + i,none⟩ = some (.slice A' len cap')) (hR:ZGN w1 w2 A' len) {e:En} {w:World} (hat:At Fe e) (h9:e 15 = .int .i64 (i:Int)) (h10:e 16 = .int .i64 0) (hW:LW w1 w2 w b7 cs7 35)
  (hQ:∀ e' w',At Fe e' → e' 15 = .int .i64 (i:Int) → LW w1 w2 w' b7 cs7 35 → Q .normal e' w'):T Tryz.prog 136 ZJU Q e w:=by
 refine T.block (T.loop (fun e w => ∃ k:Nat,At Fe e ∧ e 15 = .int .i64 (i:Int) ∧ e 16 = .int .i64 (k:Int) ∧ k ≤ len ∧ LW w1 w2 w b7 cs7 35) (fun e _ => len - iv (e 16)) ⟨0,hat,h9,h10,UU _,hW⟩ ?_)
 rintro e w ⟨k,g1,g2,g3,g4,g5⟩
 refine T.seq (T.seq (T.region (L.val 93 (ZE (x:=.tmp 16) (.inl rfl) g3) (L.val 94 (Qx (x:=.tmp 12) (f:=1) (b:=b7) (off:=0) (off':=1) rfl (by exact g1 _ h7) ZpX ZfV ZfX ZfW)
  (L.val 95 (Xh (x:=.tmp 94) (v:=.slice (some ⟨bo,oo,none⟩) n cap) rfl rfl g5.box (dd:=.slice 51) (by kernel_rfl) rfl hc7) (L.val 96 (ZE (x:=.tmp 15) (.inl rfl) g2)
  (L.val 97 (Wg (x:=.tmp 95) (y:=.tmp 96) (e':=51) (t:=.sl (.int .i64)) (b:=bo) (off:=oo) (len:=n) (cap:=cap) (i:=(i:Int)) rfl (by kernel_rfl) rfl rfl (by omega) (by omega) (off':=oo + i) (by simp [Ty.size]))
  (L.val 98 (ZbO (x:=.tmp 97) (v:=.slice A' len cap') rfl rfl (g5.lo.sl _ _ _ _ _ hO) (dd:=.slice 3) (by kernel_rfl) rfl)
  (L.val 99 (Zix (x:=.tmp 98) (A:=A') (len:=len) (cap:=cap') rfl rfl (el:=3) (by kernel_rfl))
  (L.val 100 (YW (x:=.tmp 93) (y:=.tmp 99) rfl rfl rfl rfl (v:=.bool (decide ((k:Int) < (len:Int)))) rfl) (L.nil ?_)))))))))))
 by_cases hk:k < len
 ·refine T.condT (by show Value.bool _ = _; simp; exact hk) (T.skip ?_)
  obtain ⟨b,o,m,rfl,hc,hb1,hb2,hf⟩:=hR.2 k hk
  obtain ⟨m',hc'⟩:=g5.lo.int _ _ _ _ hc
  obtain ⟨cur,U,fz,hcur,hat'⟩:=Zgy hc'
  have hlt:=hR.1
  refine T.seq (T.block (T.region (L.val 103 (Qx (x:=.tmp 12) (f:=1) (b:=b7) (off:=0) (off':=1) rfl (by exact g1 _ h7) ZpX ZfV ZfX ZfW)
   (L.val 104 (Xh (x:=.tmp 103) (v:=.slice (some ⟨bo,oo,none⟩) n cap) rfl rfl g5.box (dd:=.slice 51) (by kernel_rfl) rfl hc7) (L.val 105 (ZE (x:=.tmp 15) (.inl rfl) g2)
   (L.val 106 (Wg (x:=.tmp 104) (y:=.tmp 105) (e':=51) (t:=.sl (.int .i64)) (b:=bo) (off:=oo) (len:=n) (cap:=cap) (i:=(i:Int)) rfl (by kernel_rfl) rfl rfl (by omega) (by omega) (off':=oo + i) (by simp [Ty.size]))
   (L.val 107 (ZbO (x:=.tmp 106) (v:=.slice (some ⟨b,o,none⟩) len cap') rfl rfl (g5.lo.sl _ _ _ _ _ hO) (dd:=.slice 3) (by kernel_rfl) rfl)
   (L.val 108 (ZE (x:=.tmp 16) (.inl rfl) g3)
   (L.val 109 (Wg (x:=.tmp 107) (y:=.tmp 108) (e':=3) (t:=.int .i64) (b:=b) (off:=o) (len:=len) (cap:=cap') (i:=(k:Int)) rfl (by kernel_rfl) rfl rfl (by omega) (by omega) (off':=o + k) (by simp [Ty.size]))
   (L.unit (ZDH (x:=.tmp 109) (y:=.const (.int .i64 77)) (b:=b) (off:=o + k) rfl rfl rfl rfl hcur (Array.getElem?_eq_some_iff.1 hat').1 ((g5.lo.frz _ _ hb2).trans hf) (dd:=.int .i64) (by kernel_rfl) (by kernel_rfl)) (L.nil ?_)))))))))))
  have W2:=g5.set (x:=.int .i64 77) hcur hb1 hb2 (.inl ⟨_,_,_,hat',rfl⟩)
  refine T.region (L.val 101 (ZE (x:=.tmp 16) (.inl rfl) g3) (L.val 102 (YW (x:=.tmp 101) rfl rfl rfl rfl (v:=.int .i64 (Jx.wrap ((k:Int) + 1))) rfl) (L.val 16 (ZE (x:=.tmp 102) (.inr rfl) rfl) (L.nil ?_))))
  have hw:=Zbw (k:=k) (by omega)
  refine ⟨⟨k + 1,?_,g2,by rw [hw]; rfl,by omega,W2⟩,?_⟩
  ·exact g1.same hFe (fun s hs => by
    simp only [upd]
    rw [Zp (show s ≠ 16 by omega),Zp (show s ≠ 102 by omega),Zp (show s ≠ 101 by omega),Zp (show s ≠ 109 by omega),Zp (show s ≠ 108 by omega),Zp (show s ≠ 107 by omega),Zp (show s ≠ 106 by omega),Zp (show s ≠ 105 by omega),Zp (show s ≠ 104 by omega),Zp (show s ≠ 103 by omega),Zp (show s ≠ 100 by omega),Zp (show s ≠ 99 by omega),
     Zp (show s ≠ 98 by omega),Zp (show s ≠ 97 by omega),Zp (show s ≠ 96 by omega),Zp (show s ≠ 95 by omega),Zp (show s ≠ 94 by omega),Zp (show s ≠ 93 by omega)]
    rfl)
  ·rw [g3]
   show len - (Jx.wrap ((k:Int) + 1)).toNat < len - ((k:Int)).toNat
   rw [hw]; simp; omega
 ·refine T.condF (by show Value.bool _ = _; simp; omega) (T.exit ?_)
  simp only [nx,bk,if_true]
  exact hQ _ _ (g1.same hFe (fun s hs => by
    simp only [upd]
    rw [Zp (show s ≠ 100 by omega),Zp (show s ≠ 99 by omega),Zp (show s ≠ 98 by omega),Zp (show s ≠ 97 by omega),Zp (show s ≠ 96 by omega),Zp (show s ≠ 95 by omega),Zp (show s ≠ 94 by omega),Zp (show s ≠ 93 by omega)]
    rfl)) g2 g5
theorem ZIj {w1 w2:World} {Q:Exit → En → World → Prop} {Fe:List (Nat × Value)} (hFe:∀ p ∈ Fe,p.1 < 15) {b7:Nat} {cs7:Array Value} (h7:(12,UX (some ⟨b7,0,none⟩)) ∈ Fe) {A:Option Addr} {n cap:Nat} (hc7:cs7.toList[1]? = some (.slice A n cap)) (hR:ZzJ w1 w2 A n)
  {e:En} {w:World} (hat:At Fe e) (h9:e 15 = .int .i64 0) (hW:LW w1 w2 w b7 cs7 35) (hQ:∀ e' w',At Fe e' → LW w1 w2 w' b7 cs7 35 → Q .normal e' w'):T Tryz.prog 136 ZIU Q e w:=by
 refine T.block (T.loop (fun e w => ∃ i:Nat,At Fe e ∧ e 15 = .int .i64 (i:Int) ∧ i ≤ n ∧ LW w1 w2 w b7 cs7 35) (fun e _ => n - iv (e 15)) ⟨0,hat,h9,UU _,hW⟩ ?_)
 rintro e w ⟨i,g1,g2,g3,g5⟩
 refine T.seq (T.seq (T.region (L.val 86 (ZE (x:=.tmp 15) (.inl rfl) g2) (L.val 87 (Qx (x:=.tmp 12) (f:=1) (b:=b7) (off:=0) (off':=1) rfl (by exact g1 _ h7) ZpX ZfV ZfX ZfW)
  (L.val 88 (Xh (x:=.tmp 87) (v:=.slice A n cap) rfl rfl g5.box (dd:=.slice 51) (by kernel_rfl) rfl hc7) (L.val 89 (Zix (x:=.tmp 88) (A:=A) (len:=n) (cap:=cap) rfl rfl (el:=51) (by kernel_rfl))
  (L.val 90 (YW (x:=.tmp 86) (y:=.tmp 89) rfl rfl rfl rfl (v:=.bool (decide ((i:Int) < (n:Int)))) rfl) (L.nil ?_))))))))
 have hlt:=hR.1
 by_cases hk:i < n
 ·refine T.condT (by show Value.bool _ = _; simp; exact hk) (T.skip ?_)
  obtain ⟨bo,oo,A',len,cap',rfl,hc,hRi⟩:=hR.2 i hk
  refine T.seq (T.block (T.seq (T.region (L.val 16 (ZE (x:=.const (.int .i64 0)) (.inr rfl) rfl) (L.nil ?_)))))
  refine ZIi hFe h7 hc7 hk hc hRi (g1.same hFe (fun s hs => by
    simp only [upd]
    rw [Zp (show s ≠ 16 by omega),Zp (show s ≠ 90 by omega),Zp (show s ≠ 89 by omega),Zp (show s ≠ 88 by omega),Zp (show s ≠ 87 by omega),Zp (show s ≠ 86 by omega)]
    rfl)) g2 rfl g5 ?_
  intro e' w' p1 p2 p3
  refine T.region (L.val 91 (ZE (x:=.tmp 15) (.inl rfl) p2) (L.val 92 (YW (x:=.tmp 91) rfl rfl rfl rfl (v:=.int .i64 (Jx.wrap ((i:Int) + 1))) rfl) (L.val 15 (ZE (x:=.tmp 92) (.inr rfl) rfl) (L.nil ?_))))
  have hw:=Zbw (k:=i) (by omega)
  refine ⟨⟨i + 1,?_,by rw [hw]; rfl,by omega,p3⟩,?_⟩
  ·exact p1.same hFe (fun s hs => by simp only [upd]; rw [Zp (show s ≠ 15 by omega),Zp (show s ≠ 92 by omega),Zp (show s ≠ 91 by omega)]; rfl)
  ·rw [g2]
   show n - (Jx.wrap ((i:Int) + 1)).toNat < n - ((i:Int)).toNat
   rw [hw]; simp; omega
 ·refine T.condF (by show Value.bool _ = _; simp; omega) (T.exit ?_)
  simp only [nx,bk,if_true]
  exact hQ _ _ (g1.same hFe (fun s hs => by
    simp only [upd]
    rw [Zp (show s ≠ 90 by omega),Zp (show s ≠ 89 by omega),Zp (show s ≠ 88 by omega),Zp (show s ≠ 87 by omega),Zp (show s ≠ 86 by omega)]
    rfl)) g5
end Go.Sh
