/-
  What the row needs, part 8.
-/
import Derived.Test.YtlbgcegonmbddaaDoorXWavKeeps7
import Derived.Test.YtlbgcegonmbddaaDoorProg
set_option linter.unusedSimpArgs false
set_option linter.unusedVariables false
set_option linter.unusedSectionVars false
open Array renaming getElem?_eq_some_iff→UG
open Bool renaming and_eq_true_iff→UX
open ByteArray renaming mk→UK,toList→US,size→UW
open Int renaming ofNat→UJ,fdiv→UT,tmod→UU
open Go.IntKind renaming i64→Jy,u8→UM
open List renaming length→UL,map→UN,replicate→Jd,drop→UP,take→UQ
open Nat renaming beq→Ja,blt→UR,zero_le→UV,ble_eq_true_of_le→UY,le_of_ble_eq_true→Ju
open UInt8 renaming ofNat→UO
open Go.Value renaming slice→V6,int→Jw
namespace Go.Sh
open Go Go.Proofs
instance wavGl:Gl:=⟨fun _ => (.u8,[])⟩
abbrev Zf8:Ty:=.pair (.int .i64) (.pair (.int .i64) (.pair (.int .i64) .unit))
abbrev trackT:Ty:=.pair Zf8 (.pair (.sl .str) (.pair (.sl (.sl (.int .i64))) .unit))
abbrev ZfN:Ty:=.pair (.int .i64) (.pair (.sl (.sl (.int .i64))) .unit)
abbrev ZmK:Ty:=.pair Zf8 (.pair (.sl .str) (.pair (.sl (.int .u8)) .unit))
theorem YP:Tryd.prog.follows .mixedOrders = true:=by kernel_rfl
abbrev Qk (v:Int):AV:=AV.val (PV.v (Jw Jy v))
abbrev avL (v:List Int):AV:=AV.val (PV.sl (Ty.int Jy) v)
abbrev avB (v:Bool):AV:=AV.val (PV.v (Value.bool v))
noncomputable abbrev cdX (f:Func):Code:=f.body.getD .skip
noncomputable def cxX (k:Nat) (l:List (Nat × Callee)) (live:Nat → List Nat:=fun _ => []):Ctx:={ P:=Tryd.prog,Φ:=phi l,k:=k,live:=live }
def nA:Nat → Ann:=fun _ => ⟨[],[]⟩
noncomputable abbrev ZnD (C:Ctx) (A:Nat → Ann) (fn:Func) (pk:List Kd) (rk:Kd) (x:Kd.dens pk):=Zic C A fn.ntmps (cdX fn) fn.results.toList pk rk (QD pk x) (ZkO pk rk)
noncomputable abbrev lvX (C:Ctx) (fn:Func) (pk:List Kd) (rk:Kd) (a:List AV) (b:List (List Nat)):=Zdu C fn.results.toList pk a b rk (ZkO pk rk)
noncomputable def Zok (fn:Func):Bool:=fn.body.isSome && (!(fn.name == "runtime.NumGoroutine") && WZ Tryd.prog fn.ntmps (cdX fn))
abbrev rsB (l:List AV):RS:=RS.live (Res.box l)
abbrev rsA (v:List Int) (b:Bool):RS:=RS.live (Res.arr (Ty.int Jy) v b)
abbrev WG (k:Nat):={ p:Nat × Callee // Ctr Tryd.prog k p.1 p.2 }
noncomputable def cxP (k:Nat) (l:List (WG k)) (live:Nat → List Nat):Ctx:={ P:=Tryd.prog,Φ:=phi (l.map Subtype.val),k:=k,live:=live }
def nL:Nat → List Nat:=fun _ => []
theorem ZpT (k:Nat) {l:List (WG k)} {live:Nat → List Nat} {A:Nat → Ann} {f:Nat} {fn:Func} {pk:List Kd} {rk:Kd} {F:Nat → Kd.dens pk → Option (Ans pk rk)}
  (h:∀ x,ZnD (cxP k l live) A fn pk rk x = F k x) (hf:Tryd.prog.funcs[f]? = some fn) (hq:Zok fn = true):Ctr Tryd.prog k f (mk pk rk F) :=
 have hq1:(fn.body.isSome && (!(fn.name == "runtime.NumGoroutine") && WZ Tryd.prog fn.ntmps (cdX fn))) = true:=hq
 have hq2:=UX.1 hq1
 have hq3:=UX.1 hq2.2
 have hb:fn.body = some (cdX fn):=by
  cases e:fn.body with
  | none => rw [e] at hq2; exact absurd hq2.1 (by simp)
  | some c => show some c = some (fn.body.getD .skip); rw [e]; rfl
 Znm (C:=cxP k l live) (Zmx (fun p hp => by obtain ⟨q,_,rfl⟩:=List.mem_map.1 hp; exact q.2)) YP hf hb (by simpa using hq3.1) hq3.2 (fun x y e => (h x).trans e)
noncomputable def QS (f:Nat) (fn:Func) {k:Nat} (l:List (WG k)) (pk:List Kd) (rk:Kd) (F:Nat → Kd.dens pk → Option (Ans pk rk)) (A:Nat → Ann:=nA) (live:Nat → List Nat:=nL)
  (h:∀ x,ZnD (cxP k l live) A fn pk rk x = F k x:=by intro x; kernel_rfl) (hf:Tryd.prog.funcs[f]? = some fn:=by kernel_rfl) (hq:Zok fn = true:=by kernel_rfl):WG k:=⟨(f,mk pk rk F),ZpT k h hf hq⟩
def Zoa {α:Type} (k:Nat) (g:Nat → α):α:=match k with | 0 => g 0 | n + 1 => g (n + 1)
theorem Zms {α:Type} (k:Nat) (g:Nat → α):Zoa k g = g k:=by cases k <;> rfl
noncomputable def Zqw (f:Nat) (fn:Func) {k:Nat} (l:(k:Nat) → List (WG k)) (pk:List Kd) (rk:Kd) (A:Nat → Ann:=nA) (live:Nat → List Nat:=nL)
  (hf:Tryd.prog.funcs[f]? = some fn:=by kernel_rfl) (hq:Zok fn = true:=by kernel_rfl):WG k:=⟨(f,mk pk rk fun k => Zoa k fun k => ZnD (cxP k (l k) live) A fn pk rk),ZpT k (fun x => (congrFun (Zms k fun k => ZnD (cxP k (l k) live) A fn pk rk) x).symm) hf hq⟩
noncomputable abbrev atX {k:Nat} {V:Type} (l:List (WG k)) (fn:Func) (pk:List Kd) (rk:Kd) (p ns:List Nat) (n:Nat) (S:V → St) (A:Nat → Ann:=nA) (live:Nat → List Nat:=nL) (a:List AV:=[]) (b:List (List Nat):=[]) (q:List Nat:=[]) (v:V):Option (Ans pk rk) :=
 ZoT (cxP k l live) A q p ns (cdX fn) (lvX (cxP k l live) fn pk rk a b) n (S v)
theorem Ky {V R:Type} {L:Nat → V → Option R} {step:(V → Option R) → V → Option R} (h:∀ n v,L (n + 1) v = step (L n) v:=by intro n v; kernel_rfl) (h0:∀ v,L 0 v = none:=by intro v; kernel_rfl):∀ n,L n = ZZ step n:=ZgV h0 h
abbrev ZhP:List Kd:=[.view Zf8]
abbrev QY:Kd:=.view (.int .i64)
def Zdd (k:Nat):(Int × Int × Int × Unit) × Unit → Option (Int × Unit)
 | ((a0,a1,a2,()),()) => bif decide (a0 < 1) then some (2,()) else bif decide ((2:Int) < a0) then some (2,()) else bif decide (a1 < 4) then some (2,()) else bif decide ((24:Int) < a1) then some (2,()) else bif decide (a2 < 1) then some (2,()) else bif decide ((655350:Int) < a2) then some (2,()) else some (0,())
def ZiT (k:Nat):=Zdd k
noncomputable def Zn3 (k:Nat):WG k:=QS 48 Tryd.f48 [] ZhP QY ZiT
abbrev WN:List Kd:=[.view trackT]
def Zdg (k:Nat):((Int × Int × Int × Unit) × List ByteArray × List (List Int) × Unit) × Unit → Option (Int × Unit)
 | (((a0,a1,a2,()),a3,a4,()),()) => bif UJ a4.length == (0:Int) then some (0,()) else bif decide ((0:Int) ≤ 0 ∧ (0:Int) < UJ a4.length) then some (UJ (UL (a4.getD 0 [])),()) else none
def ZlS (k:Nat):=Zdg k
noncomputable def ZpB (k:Nat):WG k:=QS 52 Tryd.f52 [] WN QY ZlS
def Zc4 (k:Nat):(Int × Int × Int × Unit) × Unit → Option (Int × Unit)
 | ((a0,a1,a2,()),()) => some (Jy.wrap ((Jy.wrap (a1 + 7)).tdiv (8:Int)),())
def ZgA (k:Nat):=Zc4 k
noncomputable def Zlo (k:Nat):WG k:=QS 30 Tryd.f30 [] ZhP QY ZgA
abbrev Zls:List Kd:=[.own (.int .u8) false,.view (.int .i64),.view (.int .i64)]
abbrev X7:Kd:=.own (.int .u8) false
noncomputable def ZnU (k:Nat):List (WG k):=[]
def ZnT:Nat → Ann:=fun id => bif Ja id 2 then ⟨[8,9,0,1],[]⟩ else ⟨[],[]⟩
abbrev Zlp:=Int × Int × Int × List Int
abbrev Zfv:=Zlp → Option (List Int × Unit)
def Zox:Zlp → St
 | (v0,v1,v2,v3) => St.mk (Ql [(8,Qk v0),(9,Qk v1),(0,AV.own 8192),(1,Qk v2)]) (Z1 [(8192,RS.live (Res.arr (Ty.int UM) v3 false))])
def Yi (k:Nat) (L1:Zfv):Zfv
 | (v0,v1,v2,v3) => bif decide (v1 < v0) then bif decide (0 ≤ Jy.wrap ((8:Int) * v1)) then bif decide (v3.length + [UM.wrap (v2.fdiv ((2:Int) ^ min (Jy.wrap ((8:Int) * v1)).toNat 64))].length < 2147483648) then L1 (v0,Jy.wrap (v1 + 1),v2,v3 ++ [UM.wrap (v2.fdiv ((2:Int) ^ min (Jy.wrap ((8:Int) * v1)).toNat 64))]) else none else none else some (v3,())
def ZhM (k:Nat):Zfv:=ZZ (fun L1 => Yi k L1) k
noncomputable def ZiN (k:Nat) (n:Nat):=atX (ZnU k) Tryd.f31 Zls X7 [1,0,1,0] [] n Zox (A:=ZnT)
def ZgB (k:Nat) (L1:Zfv):List Int × Int × Int × Unit → Option (List Int × Unit)
 | (a0,a1,a2,()) => L1 (a2,(0:Int),a1,a0)
def XT (k:Nat):=ZgB k (ZhM k)
theorem Zlr (k:Nat):∀ n,ZiN k n = ZZ (fun L1 => Yi k L1) n:=Ky
noncomputable def Zlq (k:Nat):WG k:=QS 31 Tryd.f31 (ZnU k) Zls X7 XT (A:=ZnT) (h:=fun x => by show _ = ZgB k (ZhM k) x; rw [show ZhM k = ZiN k k from (Zlr k k).symm]; kernel_rfl)
def Zdb (k:Nat):(Int × Int × Int × Unit) × Unit → Option (Int × Unit)
 | ((a0,a1,a2,()),()) => (ZgA k ((a0,a1,a2,()),())).bind fun y => some (Jy.wrap (a0 * y.1),())
def Y1 (k:Nat):=Zdb k
noncomputable def ZgD (k:Nat):WG k:=QS 37 Tryd.f37 [Zlo k] ZhP QY Y1
abbrev ZoE:List Kd:=[.own (.int .u8) false,.view .str,.view (.sl (.int .u8))]
def Zdh (k:Nat):List Int × ByteArray × List Int × Unit → Option (List Int × Unit)
 | (a0,a1,a2,()) => bif decide (a0.length + (UN (fun b => UJ b.toNat) a1.data.toList).length < 2147483648) then (XT k (a0 ++ UN (fun b => UJ b.toNat) a1.data.toList,UJ a2.length,4,())).bind fun y => bif decide (UL y.1 + a2.length < 2147483648) then bif Zb9 ((UJ a2.length).tmod (2:Int)) then bif decide ((y.1 ++ a2).length + (Jd ((UJ a2.length).tmod (2:Int)).toNat (0:Int)).length < 2147483648) then some (y.1 ++ a2 ++ Jd ((UJ a2.length).tmod (2:Int)).toNat (0:Int),()) else none else none else none else none
def ZeE (k:Nat):=Zdh k
set_option maxHeartbeats 1000000 in
noncomputable def ZpC (k:Nat):WG k:=QS 53 Tryd.f53 [Zlq k] ZoE X7 ZeE
abbrev ZhN:List Kd:=[.view ZmK]
noncomputable def ZnW (k:Nat):List (WG k):=[Zlq k,ZgD k,ZpC k]
def ZnV:Nat → Ann:=fun id => bif Ja id 8 then ⟨[45,46,44,5,4,1],[.slot 5 ((Ty.int UM))]⟩ else ⟨[],[]⟩
abbrev Zlt:=Int × Int × List ByteArray × List Int × List Int × Int × Int × Int × List ByteArray × List Int
abbrev Zfw:=Zlt → Option (List Int × Unit)
def Zoy:Zlt → St
 | (v0,v1,v2,v3,v4,v5,v6,v7,v8,v9) => St.mk (Ql [(45,Qk v0),(46,Qk v1),(44,AV.val (PV.sl Ty.str v2)),(5,AV.own 8192),(4,AV.own 8193),(1,AV.bx 8194 0)]) (Z1 [(8192,RS.live (Res.arr (Ty.int UM) v3 false)),(8193,RS.live (Res.arr (Ty.int UM) v4 false)),(8194,rsB [Qk v5,Qk v6,Qk v7,AV.val (PV.sl Ty.str v8),AV.val (PV.sl (Ty.int UM) v9)])])
def Km (k:Nat) (L1:Zfw):Zfw
 | (v0,v1,v2,v3,v4,v5,v6,v7,v8,v9) => bif decide (v1 < v0) then bif decide (0 ≤ v1 ∧ v1 < UJ v2.length) then bif decide (v3.length + [UM.wrap (UJ (UW (v2.getD v1.toNat (UK #[]))))].length < 2147483648) then bif decide ((v3 ++ [UM.wrap (UJ (UW (v2.getD v1.toNat (UK #[]))))]).length + (UN (fun b => UJ b.toNat) (v2.getD v1.toNat (UK #[])).data.toList).length < 2147483648) then L1 (v0,Jy.wrap (v1 + 1),v2,v3 ++ [UM.wrap (UJ (UW (v2.getD v1.toNat (UK #[]))))] ++ UN (fun b => UJ b.toNat) (v2.getD v1.toNat (UK #[])).data.toList,v4,v5,v6,v7,v8,v9) else none else none else none else (ZeE k (v4,UK #[116,97,103,115],v3,())).bind fun y => (ZeE k (y.1,UK #[100,97,116,97],v9,())).bind fun y => (XT k ([(82:Int),(73:Int),(70:Int),(70:Int)],UJ (UL y.1),4,())).bind fun y_1 => bif decide (UL y_1.1 + UL y.1 < 2147483648) then some (y_1.1 ++ y.1,()) else none
def Zc6 (k:Nat):Zfw:=ZZ (fun L1 => Km k L1) k
noncomputable def ZiO (k:Nat) (n:Nat):=atX (ZnW k) Tryd.f32 ZhN X7 [1,1,1,1,1,0,1,0,1,0,1,0] [] n Zoy (A:=ZnV)
def ZaU (k:Nat) (L1:Zfw):((Int × Int × Int × Unit) × List ByteArray × List Int × Unit) × Unit → Option (List Int × Unit)
 | (((a0,a1,a2,()),a3,a4,()),()) => (XT k ([],1,2,())).bind fun y => (XT k (y.1,a0,2,())).bind fun y => (XT k (y.1,a2,4,())).bind fun y => (Y1 k ((a0,a1,a2,()),())).bind fun y_1 => (XT k (y.1,Jy.wrap (a2 * y_1.1),4,())).bind fun y => (Y1 k ((a0,a1,a2,()),())).bind fun y_2 => (XT k (y.1,y_2.1,2,())).bind fun y => (XT k (y.1,a1,2,())).bind fun y => (ZeE k ([(87:Int),(65:Int),(86:Int),(69:Int)],UK #[102,109,116,32],y.1,())).bind fun y => bif decide ((0:Int) < UJ a3.length) then L1 (UJ a3.length,(0:Int),a3,[],y.1,a0,a1,a2,a3,a4) else (ZeE k (y.1,UK #[100,97,116,97],a4,())).bind fun y => (XT k ([(82:Int),(73:Int),(70:Int),(70:Int)],UJ (UL y.1),4,())).bind fun y_3 => bif decide (UL y_3.1 + UL y.1 < 2147483648) then some (y_3.1 ++ y.1,()) else none
def ZgC (k:Nat):=ZaU k (Zc6 k)
theorem Zlv (k:Nat):∀ n,ZiO k n = ZZ (fun L1 => Km k L1) n:=Ky
set_option maxHeartbeats 1000000 in
noncomputable def Zlu (k:Nat):WG k:=QS 32 Tryd.f32 (ZnW k) ZhN X7 ZgC (A:=ZnV) (h:=fun x => by show _ = ZaU k (Zc6 k) x; rw [show Zc6 k = ZiO k k from (Zlv k k).symm]; kernel_rfl)
def Zda (k:Nat):((Int × Int × Int × Unit) × List ByteArray × List Int × Unit) × Unit → Option (Int × Unit)
 | (((a0,a1,a2,()),a3,a4,()),()) => (Y1 k ((a0,a1,a2,()),())).bind fun y => bif decide ¬y.1 = (0:Int) then some (Jy.wrap ((UJ a4.length).tdiv y.1),()) else none
def Zc9 (k:Nat):=Zda k
noncomputable def Zly (k:Nat):WG k:=QS 34 Tryd.f34 [ZgD k] ZhN QY Zc9
abbrev ZhR:List Kd:=[.box [.view (.sl (.int .u8)),.view .bool],.view (.int .i64)]
abbrev ZoL:Kd:=.view (.sl (.int .u8))
def Kp (k:Nat):(List Int × Bool × Unit) × Int × Unit → Option (List Int × (List Int × Bool × Unit) × Unit)
 | ((a0,a1,()),a2,()) => bif decide (a2 < 0) then bif decide (((0:Int) ≤ if (0:Int) < if (64:Int) < a2 then (64:Int) else a2 then if (64:Int) < a2 then (64:Int) else a2 else (0:Int)) ∧ ((if (0:Int) < if (64:Int) < a2 then (64:Int) else a2 then if (64:Int) < a2 then (64:Int) else a2 else (0:Int)) ≤ if (0:Int) < if (64:Int) < a2 then (64:Int) else a2 then if (64:Int) < a2 then (64:Int) else a2 else (0:Int)) ∧ (if (0:Int) < if (64:Int) < a2 then (64:Int) else a2 then if (64:Int) < a2 then (64:Int) else a2 else (0:Int)) < (4294967296:Int)) then some (Jd (if (0:Int) < if (64:Int) < a2 then (64:Int) else a2 then if (64:Int) < a2 then (64:Int) else a2 else (0:Int)).toNat (0:Int),(a0,true,()),()) else none else bif decide (UJ a0.length < a2) then bif decide (((0:Int) ≤ if (0:Int) < if (64:Int) < a2 then (64:Int) else a2 then if (64:Int) < a2 then (64:Int) else a2 else (0:Int)) ∧ ((if (0:Int) < if (64:Int) < a2 then (64:Int) else a2 then if (64:Int) < a2 then (64:Int) else a2 else (0:Int)) ≤ if (0:Int) < if (64:Int) < a2 then (64:Int) else a2 then if (64:Int) < a2 then (64:Int) else a2 else (0:Int)) ∧ (if (0:Int) < if (64:Int) < a2 then (64:Int) else a2 then if (64:Int) < a2 then (64:Int) else a2 else (0:Int)) < (4294967296:Int)) then some (Jd (if (0:Int) < if (64:Int) < a2 then (64:Int) else a2 then if (64:Int) < a2 then (64:Int) else a2 else (0:Int)).toNat (0:Int),(a0,true,()),()) else none else bif decide ((0:Int) ≤ 0 ∧ (0:Int) ≤ a2 ∧ a2 ≤ UJ a0.length) then bif decide (0 ≤ a2 ∧ a2 ≤ UJ a0.length ∧ UJ a0.length ≤ UJ a0.length) then some (UP 0 (UQ a2.toNat a0),(UP a2.toNat (UQ (UJ a0.length).toNat a0),a1,()),()) else none else none
def Ym (k:Nat):=Kp k
set_option maxHeartbeats 1000000 in
noncomputable def ZiZ (k:Nat):WG k:=QS 58 Tryd.f58 [] ZhR ZoL Ym
noncomputable def ZnZ (k:Nat):List (WG k):=[ZiZ k]
def ZnY:Nat → Ann:=fun id => bif Ja id 3 then ⟨[11,12,10,5],[]⟩ else ⟨[],[]⟩
abbrev Zlz:=Int × Int × List Int × Int × List Int × Bool
abbrev Zfy:=Zlz → Option (Int × (List Int × Bool × Unit) × Unit)
def ZoA:Zlz → St
 | (v0,v1,v2,v3,v4,v5) => St.mk (Ql [(11,Qk v0),(12,Qk v1),(10,AV.val (PV.sl (Ty.int UM) v2)),(5,Qk v3)]) (Z1 [(0,rsB [AV.val (PV.sl (Ty.int UM) v4),avB v5])])
def Ko (k:Nat) (L1:Zfy):Zfy
 | (v0,v1,v2,v3,v4,v5) => bif decide (v1 < v0) then bif decide (0 ≤ v1 ∧ v1 < UJ v2.length) then bif decide (0 ≤ Jy.wrap ((8:Int) * v1)) then L1 (v0,Jy.wrap (v1 + 1),v2,Jy.wrap (UJ (BitVec.ofInt 64 v3 ||| BitVec.ofInt 64 (Jy.wrap (Jy.wrap (v2.getD v1.toNat 0) * (2:Int) ^ min (Jy.wrap ((8:Int) * v1)).toNat 64))).toNat),v4,v5) else none else none else some (v3,(v4,v5,()),())
def ZbA (k:Nat):Zfy:=ZZ (fun L1 => Ko k L1) k
noncomputable def ZiP (k:Nat) (n:Nat):=atX (ZnZ k) Tryd.f38 ZhR QY [1,1,0,1,0] [] n ZoA (A:=ZnY) (a:=[AV.bx (nat_lit 0) (nat_lit 0)]) (b:=[[]]) (q:=[0])
def Yj (k:Nat) (L1:Zfy):(List Int × Bool × Unit) × Int × Unit → Option (Int × (List Int × Bool × Unit) × Unit)
 | ((a0,a1,()),a2,()) => (Ym k ((a0,a1,()),a2,())).bind fun y => L1 (UJ (UL y.1),(0:Int),y.1,(0:Int),y.2.1.1,y.2.1.2.1)
def Xh (k:Nat):=Yj k (ZbA k)
theorem ZlA (k:Nat):∀ n,ZiP k n = ZZ (fun L1 => Ko k L1) n:=Ky
noncomputable def ZgE (k:Nat):WG k:=QS 38 Tryd.f38 (ZnZ k) ZhR QY Xh (A:=ZnY) (h:=fun x => by show _ = Yj k (ZbA k) x; rw [show ZbA k = ZiP k k from (ZlA k k).symm]; kernel_rfl)
abbrev ZoG:List Kd:=[.box [.view (.sl (.int .u8)),.view .bool],.view .str]
abbrev ZlV:Kd:=.tup []
def Zdi (k:Nat):(List Int × Bool × Unit) × ByteArray × Unit → Option (Unit × (List Int × Bool × Unit) × Unit)
 | ((a0,a1,()),a2,()) => bif a1 then some ((),(a0,true,()),()) else (Ym k ((a0,a1,()),UJ a2.size,())).bind fun y => some ((),(y.2.1.1,!(UK (UN (fun n => UO n.toNat) y.1).toArray).toList == a2.toList,()),())
def Y2 (k:Nat):=Zdi k
noncomputable def ZlU (k:Nat):WG k:=QS 54 Tryd.f54 [ZiZ k] ZoG ZlV Y2
abbrev ZoI:List Kd:=[.box [.view (.sl (.int .u8)),.view .bool],.view (.int .i64),.view (.int .i64)]
def ZlX (k:Nat):(List Int × Bool × Unit) × Int × Int × Unit → Option (Unit × (List Int × Bool × Unit) × Unit)
 | ((a0,a1,()),a2,a3,()) => bif a1 then some ((),(a0,true,()),()) else (Xh k ((a0,a1,()),a3,())).bind fun y => some ((),(y.2.1.1,y.1 != a2,()),())
def Yl (k:Nat):=ZlX k
noncomputable def ZlW (k:Nat):WG k:=QS 55 Tryd.f55 [ZgE k] ZoI ZlV Yl
abbrev ZfB:List Kd:=[.view (.sl (.int .u8)),.view (.sl (.int .u8))]
abbrev QX:Kd:=.view .bool
def ZlB (k:Nat):List Int × List Int × Unit → Option (Bool × Unit)
 | (a0,a1,()) => some ((UK (UN (fun n => UO n.toNat) a0).toArray).toList == (UK (UN (fun n => UO n.toNat) a1).toArray).toList,())
def ZgF (k:Nat):=ZlB k
noncomputable def Zn0 (k:Nat):WG k:=QS 39 Tryd.f39 [] ZfB QX ZgF
def Zdk (k:Nat):List Int × List Int × Unit → Option (Bool × Unit)
 | (a0,a1,()) => bif decide (UJ a1.length ≤ UJ a0.length) then bif decide ((0:Int) ≤ 0 ∧ (0:Int) ≤ UJ a1.length ∧ UJ a1.length ≤ UJ a0.length) then (ZgF k (UP 0 (UQ (UJ a1.length).toNat a0),a1,())).bind fun y => some (y.1,()) else none else some (false,())
def Zi3 (k:Nat):=Zdk k
noncomputable def ZpO (k:Nat):WG k:=QS 65 Tryd.f65 [Zn0 k] ZfB QX Zi3
abbrev ZhQ:List Kd:=[.box [.view (.sl (.int .u8)),.view .bool]]
abbrev ZoJ:Kd:=.view Zf8
def Zdj (k:Nat):(List Int × Bool × Unit) × Unit → Option ((Int × Int × Int × Unit) × (List Int × Bool × Unit) × Unit)
 | ((a0,a1,()),()) => (Y2 k ((a0,a1,()),UK #[102,109,116,32],())).bind fun y => (Yl k ((y.2.1.1,y.2.1.2.1,()),16,4,())).bind fun y => (Yl k ((y.2.1.1,y.2.1.2.1,()),1,2,())).bind fun y => (Xh k ((y.2.1.1,y.2.1.2.1,()),2,())).bind fun y => (Xh k ((y.2.1.1,y.2.1.2.1,()),4,())).bind fun y_1 => (Xh k ((y_1.2.1.1,y_1.2.1.2.1,()),4,())).bind fun y_2 => (Xh k ((y_2.2.1.1,y_2.2.1.2.1,()),2,())).bind fun y_3 => (Xh k ((y_3.2.1.1,y_3.2.1.2.1,()),2,())).bind fun y_4 => bif y_4.2.1.2.1 then some ((y.1,y_4.1,y_1.1,()),(y_4.2.1.1,true,()),()) else (ZiT k ((y.1,y_4.1,y_1.1,()),())).bind fun y_5 => bif y_5.1 != 0 then some ((y.1,y_4.1,y_1.1,()),(y_4.2.1.1,true,()),()) else (Y1 k ((y.1,y_4.1,y_1.1,()),())).bind fun y_6 => bif y_2.1 != Jy.wrap (y_1.1 * y_6.1) then some ((y.1,y_4.1,y_1.1,()),(y_4.2.1.1,true,()),()) else (Y1 k ((y.1,y_4.1,y_1.1,()),())).bind fun y_7 => some ((y.1,y_4.1,y_1.1,()),(y_4.2.1.1,y_3.1 != y_7.1,()),())
def ZiW (k:Nat):=Zdj k
set_option maxHeartbeats 1000000 in
noncomputable def ZpE (k:Nat):WG k:=QS 56 Tryd.f56 [ZlU k,ZlW k,ZgE k,Zn3 k,ZgD k] ZhQ ZoJ ZiW
def Zgh:Go.Shelf.Ren:=⟨fun n => match n with | 4 => 59 | 15 => 64 | 20 => 74 | 119 => 90 | 120 => 86 | 137 => 89 | 151 => 78 | 152 => 85 | 160 => 63 | 197 => 77 | 217 => 80 | 219 => 75 | 224 => 82 | 225 => 81 | 227 => 69 | 228 => 76 | 231 => 67 | 232 => 68 | 233 => 70 | 234 => 71 | 235 => 72 | 236 => 73 | 260 => 84 | 266 => 87 | 267 => 83 | 271 => 79 | 314 => 88 | 315 => 74 | _ => 0,fun n => match n with | 0 => 0 | 3 => 3 | 4 => 4 | 5 => 5 | 9 => 9 | 20 => 20 | 21 => 21 | 22 => 32 | 23 => 105 | 25 => 5 | 40 => 105 | 46 => 99 | 51 => 123 | 105 => 118 | 116 => 110 | 117 => 111 | 119 => 126 | 124 => 114 | 138 => 128 | 139 => 129 | 146 => 124 | _ => 0,fun n => match n with | 1 => 0 | 3 => 1 | 4 => 2 | _ => 0⟩
abbrev ZbB:List Kd:=[.view .str,.view .str]
def Zi5 (k:Nat):ByteArray × ByteArray × Unit → Option (Int × Unit):=fun x => ZhY x
theorem ZmY:Go.Proofs.Lays.n219 Tryd.prog Zgh:=by
 constructor <;> first | kernel_rfl | (intro w; kernel_rfl)
theorem Znk (k:Nat):Ctr Tryd.prog k 75 (mk ZbB QY Zi5):=Zj0 ZmY rfl (fn:=Tryd.f75) (by kernel_rfl) (by kernel_rfl) (by kernel_rfl)
noncomputable def ZpQ (k:Nat):WG k:=⟨(75,mk ZbB QY Zi5),Znk k⟩
abbrev Zmg:Kd:=.tup [.view .str,.view .str,.view .bool]
def Zdl (k:Nat):ByteArray × ByteArray × Unit → Option ((ByteArray × ByteArray × Bool × Unit) × Unit)
 | (a0,a1,()) => (Zi5 k (a0,a1,())).bind fun y => bif decide ((0:Int) ≤ y.1) then bif decide ((0:Int) ≤ 0 ∧ (0:Int) ≤ y.1 ∧ y.1 ≤ UJ a0.size) then bif decide (0 ≤ Jy.wrap (y.1 + UJ a1.size) ∧ Jy.wrap (y.1 + UJ a1.size) ≤ UJ a0.size ∧ UJ a0.size ≤ UJ a0.size) then some ((a0.extract (0:Nat) (Int.toNat y.1),a0.extract (Jy.wrap (y.1 + UJ a1.size)).toNat (UJ a0.size).toNat,true,()),()) else none else none else some ((a0,UK #[],false,()),())
def Zi4 (k:Nat):=Zdl k
set_option maxHeartbeats 1000000 in
noncomputable def ZpP (k:Nat):WG k:=QS 66 Tryd.f66 [ZpQ k] ZbB Zmg Zi4
def Zl8 (k:Nat):ByteArray × ByteArray × Unit → Option ((ByteArray × ByteArray × Bool × Unit) × Unit)
 | (a0,a1,()) => (Zi4 k (a0,a1,())).bind fun y => some ((y.1.1,y.1.2.1,y.1.2.2.1,()),())
def Zl7 (k:Nat):=Zl8 k
noncomputable def ZpK (k:Nat):WG k:=QS 61 Tryd.f61 [ZpP k] ZbB Zmg Zl7
abbrev Zma:List Kd:=[.view (.int .i32)]
def Zmb (k:Nat):Int × Unit → Option (Bool × Unit)
 | (a0,()) => bif decide (a0 < 33) then some (true,()) else some (decide ((126:Int) < a0),())
def Zl9 (k:Nat):=Zmb k
noncomputable def ZpL (k:Nat):WG k:=QS 62 Tryd.f62 [] Zma QX Zl9
theorem Znf (k:Nat):Ctr Tryd.prog k 62 (mk Zma QX Zl9):=(ZpL k).2
abbrev Zmc:Kd:=.view .str
def Zi2 (k:Nat):ByteArray × ByteArray × Unit → Option (ByteArray × Unit):=fun x => Zhh x
theorem ZmZ:Go.Proofs.Lays.n160 Tryd.prog Zgh:=by
 constructor <;> first | kernel_rfl | (intro w; kernel_rfl)
theorem Zng (k:Nat):Ctr Tryd.prog k 63 (mk ZbB Zmc Zi2):=ZmS ZmZ (by kernel_rfl) rfl (fn:=Tryd.f63) (by kernel_rfl) (by kernel_rfl) (by kernel_rfl)
noncomputable def ZpM (k:Nat):WG k:=⟨(63,mk ZbB Zmc Zi2),Zng k⟩
abbrev Zme:List Kd:=[.view .str,.fn 62]
def K7 (n:Nat):Bool:=UR n 33 || UR 126 n
def Zmd (k:Nat):ByteArray × Unit × Unit → Option (Int × Unit):=fun x => Zno K7 x
theorem ZmW:Go.Proofs.LaysGw.n15 Tryd.prog Zgh:=by
 constructor <;> first | kernel_rfl | (intro w; kernel_rfl)
theorem Zni (k n:Nat):Zl9 k ((n:Int),()) = some (K7 n,()):=by
 show (bif decide ((n:Int) < 33) then some (true,()) else some (decide ((126:Int) < (n:Int)),())) = some (K7 n,())
 unfold K7
 cases h:UR n 33 with
 | true =>
  have:n < 33:=Ju h
  rw [decide_eq_true (by omega)]; rfl
 | false =>
  have:¬ n < 33:=fun h' => by rw [UY (show n + 1 ≤ 33 from h') |> (fun e => (show UR n 33 = true from e))] at h; cases h
  rw [decide_eq_false (by omega)]
  cases h2:UR 126 n with
  | true =>
   have:126 < n:=Ju h2
   rw [decide_eq_true (by omega)]; rfl
  | false =>
   have:¬ 126 < n:=fun h' => by rw [show UR 126 n = true from UY h'] at h2; cases h2
   rw [decide_eq_false (by omega)]; rfl
theorem Znh (k:Nat):Ctr Tryd.prog k 64 (mk Zme QY Zmd):=Znp ZmW (Znf k) (Zni k) rfl (fn:=Tryd.f64) (by kernel_rfl) (by kernel_rfl) (by kernel_rfl)
noncomputable def ZpN (k:Nat):WG k:=⟨(64,mk Zme QY Zmd),Znh k⟩
abbrev ZlR:List Kd:=[.view .str]
def Zdf (k:Nat):ByteArray × Unit → Option (Bool × Unit)
 | (a0,()) => (Zl7 k (a0,UK #[61],())).bind fun y => bif y.1.2.2.1 then bif !US y.1.1 == (UK #[]).toList then bif !US y.1.2.1 == (UK #[]).toList then bif decide (UJ a0.size ≤ (12:Int)) then (Zi2 k (y.1.1,UK #[97,98,99,100,101,102,103,104,105,106,107,108,109,110,111,112,113,114,115,116,117,118,119,120,121,122],())).bind fun y_1 => bif US y_1.1 == (UK #[]).toList then (Zmd k (y.1.2.1,(),())).bind fun y => some (decide (y.1 < 0),()) else some (false,()) else some (false,()) else some (false,()) else some (false,()) else some (false,())
def ZgI (k:Nat):=Zdf k
set_option maxHeartbeats 1000000 in
noncomputable def Zn4 (k:Nat):WG k:=QS 51 Tryd.f51 [ZpK k,ZpM k,ZpN k] ZlR QX ZgI
def ZlQ (k:Nat):ByteArray × Unit → Option (Bool × Unit)
 | (a0,()) => (ZgI k (a0,())).bind fun y => some (!y.1,())
def ZlP (k:Nat):=ZlQ k
noncomputable def ZpA (k:Nat):WG k:=QS 50 Tryd.f50 [Zn4 k] ZlR QX ZlP
abbrev ZhS:List Kd:=[.view (.sl .str),.fn 50]
noncomputable def Zn9 (k:Nat):List (WG k):=[ZpA k]
def Zn8:Nat → Ann:=fun id => bif Ja id 2 then ⟨[7,8,1,0],[]⟩ else ⟨[],[]⟩
abbrev Zl4:=Int × Int × List ByteArray
abbrev ZfL:=Zl4 → Option (Int × Unit)
def ZoM:Zl4 → St
 | (v0,v1,v2) => St.mk (Ql [(7,Qk v0),(8,Qk v1),(1,AV.fn 50),(0,AV.val (PV.sl Ty.str v2))]) (Z1 [])
def Kq (k:Nat) (L1:ZfL):ZfL
 | (v0,v1,v2) => bif decide (v1 < v0) then bif decide (0 ≤ v1 ∧ v1 < UJ v2.length) then (ZlP k (v2.getD v1.toNat (UK #[]),())).bind fun y => bif y.1 then some (v1,()) else L1 (v0,Jy.wrap (v1 + 1),v2) else none else some ((-1:Int),())
def ZfM (k:Nat):ZfL:=ZZ (fun L1 => Kq k L1) k
noncomputable def Zi1 (k:Nat) (n:Nat):=atX (Zn9 k) Tryd.f60 ZhS QY [1,0,1,0] [] n ZoM (A:=Zn8)
def Za3 (k:Nat) (L1:ZfL):List ByteArray × Unit × Unit → Option (Int × Unit)
 | (a0,(),()) => L1 (UJ a0.length,(0:Int),a0)
def Zl3 (k:Nat):=Za3 k (ZfM k)
theorem Zl5 (k:Nat):∀ n,Zi1 k n = ZZ (fun L1 => Kq k L1) n:=Ky
noncomputable def ZpJ (k:Nat):WG k:=QS 60 Tryd.f60 (Zn9 k) ZhS QY Zl3 (A:=Zn8) (h:=fun x => by show _ = Za3 k (ZfM k) x; rw [show ZfM k = Zi1 k k from (Zl5 k k).symm]; kernel_rfl)
def Zde (k:Nat):List ByteArray × Unit × Unit → Option (Bool × Unit)
 | (a0,(),()) => (Zl3 k (a0,(),())).bind fun y => some (decide ((0:Int) ≤ y.1),())
def ZlO (k:Nat):=Zde k
noncomputable def Zpz (k:Nat):WG k:=QS 49 Tryd.f49 [ZpJ k] ZhS QX ZlO
noncomputable def ZiM (k:Nat):List (WG k):=[Zn3 k,ZpB k,Zpz k]
def ZiJ:Nat → Ann:=fun id => bif Ja id 16 then ⟨[61,62,60,1,56,55,54],[]⟩ else bif Ja id 13 then ⟨[55,56,54,1],[]⟩ else bif Ja id 7 then ⟨[37,38,36,1],[]⟩ else ⟨[],[]⟩
abbrev Zlj:=Int × Int × List Int × Int × Int × List (List Int) × Int × Int × Int × List ByteArray × List (List Int)
abbrev Zft:=Zlj → Option (Int × Unit)
abbrev ZhL:=Int × Int × List (List Int) × Int × Int × Int × List ByteArray × List (List Int)
abbrev X6:=ZhL → Option (Int × Unit)
def Zow:Zlj → St
 | (v0,v1,v2,v3,v4,v5,v6,v7,v8,v9,v10) => St.mk (Ql [(61,Qk v0),(62,Qk v1),(60,avL v2),(1,AV.bx 8192 0),(56,Qk v3),(55,Qk v4),(54,AV.val (PV.sl (Ty.int Jy).sl v5))]) (Z1 [(8192,rsB [Qk v6,Qk v7,Qk v8,AV.val (PV.sl Ty.str v9),AV.val (PV.sl (Ty.int Jy).sl v10)])])
def ZaT (k:Nat) (L2:X6) (L3:Zft):Zft
 | (v0,v1,v2,v3,v4,v5,v6,v7,v8,v9,v10) => bif decide (v1 < v0) then bif decide (0 ≤ v1 ∧ v1 < UJ v2.length) then bif decide (0 ≤ Jy.wrap (v7 - 1)) then bif UT (v2.getD v1.toNat 0) ((2:Int) ^ min (Jy.wrap (v7 - 1)).toNat 64) != (0:Int) then bif UT (v2.getD v1.toNat 0) ((2:Int) ^ min (Jy.wrap (v7 - 1)).toNat 64) != (-1:Int) then some (12,()) else L3 (v0,Jy.wrap (v1 + 1),v2,v3,v4,v5,v6,v7,v8,v9,v10) else L3 (v0,Jy.wrap (v1 + 1),v2,v3,v4,v5,v6,v7,v8,v9,v10) else none else none else L2 (v4,Jy.wrap (v3 + 1),v5,v6,v7,v8,v9,v10)
def Zfu (k:Nat) (L2:X6):Zft:=ZZ (fun L3 => ZaT k L2 L3) k
noncomputable def ZiL (k:Nat) (n2:Nat) (n:Nat):=atX (ZiM k) Tryd.f29 WN QY [1,1,1,1,0,1,0,0,1,1,0,0,1,1,0] [n2] n Zow (A:=ZiJ)
def Zov:ZhL → St
 | (v0,v1,v2,v3,v4,v5,v6,v7) => St.mk (Ql [(55,Qk v0),(56,Qk v1),(54,AV.val (PV.sl (Ty.int Jy).sl v2)),(1,AV.bx 8192 0)]) (Z1 [(8192,rsB [Qk v3,Qk v4,Qk v5,AV.val (PV.sl Ty.str v6),AV.val (PV.sl (Ty.int Jy).sl v7)])])
def ZaS (k:Nat) (L3:Zft) (L2:X6):X6
 | (v0,v1,v2,v3,v4,v5,v6,v7) => bif decide (v1 < v0) then bif decide (0 ≤ v1 ∧ v1 < UJ v2.length) then L3 (UJ (UL (v2.getD v1.toNat [])),(0:Int),v2.getD v1.toNat [],v1,v0,v2,v3,v4,v5,v6,v7) else none else some (0,())
def Zc3 (k:Nat):X6:=ZZ (fun L2 => ZaS k (Zfu k L2) L2) k
noncomputable def Zcs (k:Nat) (n:Nat):=atX (ZiM k) Tryd.f29 WN QY [1,1,1,1,0,1,0] [] n Zov (A:=ZiJ)
def Zou:ZhL → St
 | (v0,v1,v2,v3,v4,v5,v6,v7) => St.mk (Ql [(37,Qk v0),(38,Qk v1),(36,AV.val (PV.sl (Ty.int Jy).sl v2)),(1,AV.bx 8192 0)]) (Z1 [(8192,rsB [Qk v3,Qk v4,Qk v5,AV.val (PV.sl Ty.str v6),AV.val (PV.sl (Ty.int Jy).sl v7)])])
def ZaR (k:Nat) (L2:X6) (L1:X6):X6
 | (v0,v1,v2,v3,v4,v5,v6,v7) => bif decide (v1 < v0) then bif decide (0 ≤ v1 ∧ v1 < UJ v2.length) then bif decide ((4096:Int) < UJ (UL (v2.getD v1.toNat []))) then some (1,()) else (ZlS k (((v3,v4,v5,()),v6,v7,()),())).bind fun y => bif UJ (UL (v2.getD v1.toNat [])) != y.1 then some (1,()) else L1 (v0,Jy.wrap (v1 + 1),v2,v3,v4,v5,v6,v7) else none else L2 (UJ v7.length,(0:Int),v7,v3,v4,v5,v6,v7)
def Zc2 (k:Nat):X6:=ZZ (fun L1 => ZaR k (Zc3 k) L1) k
noncomputable def ZiK (k:Nat) (n:Nat):=atX (ZiM k) Tryd.f29 WN QY [1,1,1,0,1,0] [] n Zou (A:=ZiJ)
def ZaQ (k:Nat) (L1:X6):((Int × Int × Int × Unit) × List ByteArray × List (List Int) × Unit) × Unit → Option (Int × Unit)
 | (((a0,a1,a2,()),a3,a4,()),()) => (ZiT k ((a0,a1,a2,()),())).bind fun y => bif y.1 != 0 then some (y.1,()) else bif decide ((8:Int) < UJ a3.length) then some (1,()) else bif UJ a4.length != a0 then some (1,()) else (ZlO k (a3,(),())).bind fun y => bif y.1 then some (1,()) else L1 (UJ a4.length,(0:Int),a4,a0,a1,a2,a3,a4)
def Zli (k:Nat):=ZaQ k (Zc2 k)
theorem Zlm (k:Nat) (n2:Nat):∀ n,ZiL k n2 n = ZZ (fun L3 => ZaT k (Zcs k n2) L3) n:=Ky
theorem Zll (k:Nat):∀ n,Zcs k n = ZZ (fun L2 => ZaS k (Zfu k L2) L2) n:=Ky (fun n v => by rw [show (Zfu k (Zcs k n)) = ZiL k n k from (Zlm k n k).symm]; kernel_rfl)
theorem Zlk (k:Nat):∀ n,ZiK k n = ZZ (fun L1 => ZaR k (Zc3 k) L1) n:=Ky (fun n v => by rw [show (Zc3 k) = Zcs k k from (Zll k k).symm]; kernel_rfl)
set_option maxHeartbeats 1000000 in
noncomputable def Zpv (k:Nat):WG k:=QS 29 Tryd.f29 (ZiM k) WN QY Zli (A:=ZiJ) (h:=fun x => by show _ = ZaQ k (Zc2 k) x; rw [show Zc2 k = ZiK k k from (Zlk k k).symm]; kernel_rfl)
abbrev Zl0:Kd:=.view (.sl .str)
noncomputable def Zn7 (k:Nat):List (WG k):=[ZpO k,ZlU k,ZgE k,ZiZ k,ZlW k,Zn4 k]
def Zn6:Nat → Ann:=fun id => bif Ja id 8 then ⟨[0,4,5],[.slot 5 (Ty.str)]⟩ else ⟨[],[]⟩
abbrev ZlY:=List Int × Bool × List Int × Bool × List ByteArray
abbrev ZfJ:=ZlY → Option (List ByteArray × (List Int × Bool × Unit) × Unit)
def ZoK:ZlY → St
 | (v0,v1,v2,v3,v4) => St.mk (Ql [(0,AV.bx 0 0),(4,AV.bx 8192 0),(5,AV.own 8193)]) (Z1 [(0,rsB [AV.val (PV.sl (Ty.int UM) v0),avB v1]),(8192,rsB [AV.val (PV.sl (Ty.int UM) v2),avB v3]),(8193,RS.live (Res.arr Ty.str v4 false))])
def WO (k:Nat) (L1:ZfJ):ZfJ
 | (v0,v1,v2,v3,v4) => bif !v1 then bif decide ((0:Int) < UJ v2.length) then (Xh k ((v2,v3,()),1,())).bind fun y => (Ym k ((y.2.1.1,y.2.1.2.1,()),y.1,())).bind fun y => bif y.2.1.2.1 then bif decide (v4.length + [UK (UN (fun n => UO n.toNat) y.1).toArray].length < 2147483648) then L1 (v0,true,y.2.1.1,y.2.1.2.1,v4 ++ [UK (UN (fun n => UO n.toNat) y.1).toArray]) else none else (ZgI k (UK (UN (fun n => UO n.toNat) y.1).toArray,())).bind fun y_1 => bif decide (v4.length + [UK (UN (fun n => UO n.toNat) y.1).toArray].length < 2147483648) then L1 (v0,!y_1.1,y.2.1.1,y.2.1.2.1,v4 ++ [UK (UN (fun n => UO n.toNat) y.1).toArray]) else none else bif v1 then some (v4,(v0,true,()),()) else bif UJ v4.length == (0:Int) then some (v4,(v0,true,()),()) else some (v4,(v0,decide ((8:Int) < UJ v4.length),()),()) else bif v1 then some (v4,(v0,true,()),()) else bif UJ v4.length == (0:Int) then some (v4,(v0,true,()),()) else some (v4,(v0,decide ((8:Int) < UJ v4.length),()),())
def Zan (k:Nat):ZfJ:=ZZ (fun L1 => WO k L1) k
noncomputable def ZiY (k:Nat) (n:Nat):=atX (Zn7 k) Tryd.f57 ZhQ Zl0 [1,1,1,1,1,1,1,0,0] [] n ZoK (A:=Zn6) (a:=[AV.bx (nat_lit 0) (nat_lit 0)]) (b:=[[]]) (q:=[0])
def Za2 (k:Nat) (L1:ZfJ):(List Int × Bool × Unit) × Unit → Option (List ByteArray × (List Int × Bool × Unit) × Unit)
 | ((a0,a1,()),()) => (Zi3 k (a0,[(116:Int),(97:Int),(103:Int),(115:Int)],())).bind fun y => bif !y.1 then some ([],(a0,a1,()),()) else (Y2 k ((a0,a1,()),UK #[116,97,103,115],())).bind fun y => (Xh k ((y.2.1.1,y.2.1.2.1,()),4,())).bind fun y => (Ym k ((y.2.1.1,y.2.1.2.1,()),y.1,())).bind fun y_1 => (Yl k ((y_1.2.1.1,y_1.2.1.2.1,()),0,UU y.1 (2:Int),())).bind fun y => L1 (y.2.1.1,y.2.1.2.1,y_1.1,false,[])
def ZiX (k:Nat):=Za2 k (Zan k)
theorem ZlZ (k:Nat):∀ n,ZiY k n = ZZ (fun L1 => WO k L1) n:=Ky
set_option maxHeartbeats 1000000 in
noncomputable def ZpG (k:Nat):WG k:=QS 57 Tryd.f57 (Zn7 k) ZhQ Zl0 ZiX (A:=Zn6) (h:=fun x => by show _ = Za2 k (Zan k) x; rw [show Zan k = ZiY k k from (ZlZ k k).symm]; kernel_rfl)
abbrev Zfx:List Kd:=[.view (.sl (.int .u8))]
abbrev Zoz:Kd:=.tup [.view ZmK,.view (.int .i64)]
def Zc8 (k:Nat):List Int × Unit → Option ((((Int × Int × Int × Unit) × List ByteArray × List Int × Unit) × Int × Unit) × Unit)
 | (a0,()) => (Y2 k ((a0,false,()),UK #[82,73,70,70],())).bind fun y => (Yl k ((y.2.1.1,y.2.1.2.1,()),Jy.wrap (UJ a0.length - (8:Int)),4,())).bind fun y => (Y2 k ((y.2.1.1,y.2.1.2.1,()),UK #[87,65,86,69],())).bind fun y => (ZiW k ((y.2.1.1,y.2.1.2.1,()),())).bind fun y => bif !y.2.1.2.1 then (ZiX k ((y.2.1.1,y.2.1.2.1,()),())).bind fun y_1 => (Y2 k ((y_1.2.1.1,y_1.2.1.2.1,()),UK #[100,97,116,97],())).bind fun y_2 => (Xh k ((y_2.2.1.1,y_2.2.1.2.1,()),4,())).bind fun y_3 => bif y_3.2.1.2.1 then some (((((0:Int),(0:Int),(0:Int),()),[],[],()),2,()),()) else (Y1 k ((y.1.1,y.1.2.1,y.1.2.2.1,()),())).bind fun y_4 => bif decide ¬y_4.1 = (0:Int) then bif UU y_3.1 y_4.1 != 0 then some (((((0:Int),(0:Int),(0:Int),()),[],[],()),2,()),()) else (Y1 k ((y.1.1,y.1.2.1,y.1.2.2.1,()),())).bind fun y_5 => bif decide ¬y_5.1 = (0:Int) then bif decide ((4096:Int) < Jy.wrap (Int.tdiv y_3.1 y_5.1)) then some (((((0:Int),(0:Int),(0:Int),()),[],[],()),2,()),()) else (Ym k ((y_3.2.1.1,y_3.2.1.2.1,()),y_3.1,())).bind fun y_6 => (Ym k ((y_6.2.1.1,y_6.2.1.2.1,()),UU y_3.1 (2:Int),())).bind fun y_7 => bif y_7.2.1.2.1 then some (((((0:Int),(0:Int),(0:Int),()),[],[],()),2,()),()) else bif decide ((0:Int) < UJ (UL y_7.2.1.1)) then some (((((0:Int),(0:Int),(0:Int),()),[],[],()),2,()),()) else some ((((y.1.1,y.1.2.1,y.1.2.2.1,()),y_1.1,y_6.1,()),0,()),()) else none else none else (Y2 k ((y.2.1.1,y.2.1.2.1,()),UK #[100,97,116,97],())).bind fun y_1 => (Xh k ((y_1.2.1.1,y_1.2.1.2.1,()),4,())).bind fun y_2 => bif y_2.2.1.2.1 then some (((((0:Int),(0:Int),(0:Int),()),[],[],()),2,()),()) else (Y1 k ((y.1.1,y.1.2.1,y.1.2.2.1,()),())).bind fun y_3 => bif decide ¬y_3.1 = (0:Int) then bif UU y_2.1 y_3.1 != 0 then some (((((0:Int),(0:Int),(0:Int),()),[],[],()),2,()),()) else (Y1 k ((y.1.1,y.1.2.1,y.1.2.2.1,()),())).bind fun y_4 => bif decide ¬y_4.1 = (0:Int) then bif decide ((4096:Int) < Jy.wrap (Int.tdiv y_2.1 y_4.1)) then some (((((0:Int),(0:Int),(0:Int),()),[],[],()),2,()),()) else (Ym k ((y_2.2.1.1,y_2.2.1.2.1,()),y_2.1,())).bind fun y_5 => (Ym k ((y_5.2.1.1,y_5.2.1.2.1,()),UU y_2.1 (2:Int),())).bind fun y_6 => bif y_6.2.1.2.1 then some (((((0:Int),(0:Int),(0:Int),()),[],[],()),2,()),()) else bif decide ((0:Int) < UJ (UL y_6.2.1.1)) then some (((((0:Int),(0:Int),(0:Int),()),[],[],()),2,()),()) else some ((((y.1.1,y.1.2.1,y.1.2.2.1,()),[],y_5.1,()),0,()),()) else none else none
def ZaV (k:Nat):=Zc8 k
set_option maxHeartbeats 1000000 in
noncomputable def Zlw (k:Nat):WG k:=QS 33 Tryd.f33 [ZlU k,ZlW k,ZpE k,ZpG k,ZgE k,ZgD k,ZiZ k] Zfx Zoz ZaV
abbrev Zfj:Kd:=.tup [.view (.sl (.int .u8)),.view (.int .i64)]
noncomputable def Zk0 (k:Nat):List (WG k):=[Zpv k,Zlo k,Zlq k,Zlu k]
def ZkW:Nat → Ann:=fun id => bif Ja id 10 then ⟨[34,35,33,7,6,1,5,29,28],[.cell 5 4 ((Ty.int UM))]⟩ else bif Ja id 7 then ⟨[28,29,1,6,5],[.cell 5 4 ((Ty.int UM))]⟩ else ⟨[],[]⟩
abbrev ZkY:=Int × Int × List (List Int) × Int × Int × Int × Int × Int × Int × Int × List ByteArray × List (List Int) × Int × Int × Int × List ByteArray × List Int
abbrev Zfh:=ZkY → Option ((List Int × Int × Unit) × Unit)
abbrev ZkX:=Int × Int × Int × Int × Int × Int × List ByteArray × List (List Int) × Int × Int × Int × List ByteArray × List Int
abbrev Zbz:=ZkX → Option ((List Int × Int × Unit) × Unit)
def Zop:ZkY → St
 | (v0,v1,v2,v3,v4,v5,v6,v7,v8,v9,v10,v11,v12,v13,v14,v15,v16) => St.mk (Ql [(34,Qk v0),(35,Qk v1),(33,AV.val (PV.sl (Ty.int Jy).sl v2)),(7,Qk v3),(6,Qk v4),(1,AV.bx 8192 0),(5,AV.bx 8193 0),(29,Qk v5),(28,Qk v6)]) (Z1 [(8192,rsB [Qk v7,Qk v8,Qk v9,AV.val (PV.sl Ty.str v10),AV.val (PV.sl (Ty.int Jy).sl v11)]),(8193,rsB [Qk v12,Qk v13,Qk v14,AV.val (PV.sl Ty.str v15),AV.own 8194]),(8194,RS.live (Res.arr (Ty.int UM) v16 false))])
def Kk (k:Nat) (L1:Zbz) (L2:Zfh):Zfh
 | (v0,v1,v2,v3,v4,v5,v6,v7,v8,v9,v10,v11,v12,v13,v14,v15,v16) => bif decide (v1 < v0) then bif decide (0 ≤ v1 ∧ v1 < UJ v2.length) then bif decide (0 ≤ v3 ∧ v3 < UJ (UL (v2.getD v1.toNat []))) then bif decide (0 ≤ Jy.wrap (Jy.wrap ((8:Int) * v4) - v8)) then bif v4 == 1 then (XT k (v16,Jy.wrap (Jy.wrap (List.getD (v2.getD v1.toNat []) v3.toNat 0 * (2:Int) ^ min (Jy.wrap (Jy.wrap ((8:Int) * v4) - v8)).toNat 64) + (128:Int)),v4,())).bind fun y => L2 (v0,Jy.wrap (v1 + 1),v2,v3,v4,v5,v6,v7,v8,v9,v10,v11,v12,v13,v14,v15,y.1) else (XT k (v16,Jy.wrap (List.getD (v2.getD v1.toNat []) v3.toNat 0 * (2:Int) ^ min (Jy.wrap (Jy.wrap ((8:Int) * v4) - v8)).toNat 64),v4,())).bind fun y => L2 (v0,Jy.wrap (v1 + 1),v2,v3,v4,v5,v6,v7,v8,v9,v10,v11,v12,v13,v14,v15,y.1) else none else none else none else L1 (v6,Jy.wrap (v5 + 1),v4,v7,v8,v9,v10,v11,v12,v13,v14,v15,v16)
def ZcX (k:Nat) (L1:Zbz):Zfh:=ZZ (fun L2 => Kk k L1 L2) k
noncomputable def Ziv (k:Nat) (n1:Nat) (n:Nat):=atX (Zk0 k) Tryd.f12 WN Zfj [1,1,1,1,0,1,0,0,1,1,0,0,1,1,0] [n1] n Zop (A:=ZkW)
def Zoo:ZkX → St
 | (v0,v1,v2,v3,v4,v5,v6,v7,v8,v9,v10,v11,v12) => St.mk (Ql [(28,Qk v0),(29,Qk v1),(1,AV.bx 8192 0),(6,Qk v2),(5,AV.bx 8193 0)]) (Z1 [(8192,rsB [Qk v3,Qk v4,Qk v5,AV.val (PV.sl Ty.str v6),AV.val (PV.sl (Ty.int Jy).sl v7)]),(8193,rsB [Qk v8,Qk v9,Qk v10,AV.val (PV.sl Ty.str v11),AV.own 8194]),(8194,RS.live (Res.arr (Ty.int UM) v12 false))])
def Kj (k:Nat) (L2:Zfh) (L1:Zbz):Zbz
 | (v0,v1,v2,v3,v4,v5,v6,v7,v8,v9,v10,v11,v12) => bif decide (v1 < v0) then L2 (UJ v7.length,(0:Int),v7,v1,v2,v1,v0,v3,v4,v5,v6,v7,v8,v9,v10,v11,v12) else (ZgC k (((v8,v9,v10,()),v11,v12,()),())).bind fun y => some ((y.1,0,()),())
def Zfi (k:Nat):Zbz:=ZZ (fun L1 => Kj k (ZcX k L1) L1) k
noncomputable def Zco (k:Nat) (n:Nat):=atX (Zk0 k) Tryd.f12 WN Zfj [1,1,1,1,0,1,0] [] n Zoo (A:=ZkW)
def ZaL (k:Nat) (L1:Zbz):((Int × Int × Int × Unit) × List ByteArray × List (List Int) × Unit) × Unit → Option ((List Int × Int × Unit) × Unit)
 | (((a0,a1,a2,()),a3,a4,()),()) => (Zli k (((a0,a1,a2,()),a3,a4,()),())).bind fun y => bif y.1 != 0 then some (([],y.1,()),()) else (ZgA k ((a0,a1,a2,()),())).bind fun y => bif decide ((0:Int) ≤ 0 ∧ (0:Int) < UJ a4.length) then L1 (UJ (UL (a4.getD 0 [])),(0:Int),y.1,a0,a1,a2,a3,a4,a0,a1,a2,a3,[]) else none
def ZeA (k:Nat):=ZaL k (Zfi k)
theorem Zk2 (k:Nat) (n1:Nat):∀ n,Ziv k n1 n = ZZ (fun L2 => Kk k (Zco k n1) L2) n:=Ky
theorem Zk1 (k:Nat):∀ n,Zco k n = ZZ (fun L1 => Kj k (ZcX k L1) L1) n:=Ky (fun n v => by rw [show (ZcX k (Zco k n)) = Ziv k n k from (Zk2 k n k).symm]; kernel_rfl)
set_option maxHeartbeats 1000000 in
noncomputable def ZkZ (k:Nat):WG k:=QS 12 Tryd.f12 (Zk0 k) WN Zfj ZeA (A:=ZkW) (h:=fun x => by show _ = ZaL k (Zfi k) x; rw [show Zfi k = Zco k k from (Zk1 k k).symm]; kernel_rfl)
theorem Ziw (k:Nat):Ctr Tryd.prog k 12 (mk WN Zfj ZeA):=(ZkZ k).2
abbrev Zk7:List Kd:=[.view (.sl (.int .u8)),.view (.int .i64),.view (.int .i64)]
abbrev Zfm:Kd:=.tup [.own (.int .u8) false,.view (.int .i64)]
def Zc0 (k:Nat):List Int × Int × Int × Unit → Option ((List Int × Int × Unit) × Unit)
 | (a0,a1,a2,()) => (ZaV k (a0,())).bind fun y => bif y.1.2.1 != 0 then some (([],y.1.2.1,()),()) else bif decide (a1 < 0) then some (([],9,()),()) else bif decide (a2 < 0) then some (([],9,()),()) else (Zc9 k (((y.1.1.1.1,y.1.1.1.2.1,y.1.1.1.2.2.1,()),y.1.1.2.1,y.1.1.2.2.1,()),())).bind fun y_1 => bif decide (y_1.1 < a1) then some (([],9,()),()) else (Zc9 k (((y.1.1.1.1,y.1.1.1.2.1,y.1.1.1.2.2.1,()),y.1.1.2.1,y.1.1.2.2.1,()),())).bind fun y_2 => bif decide (Jy.wrap (y_2.1 - a1) < a2) then some (([],9,()),()) else (Y1 k ((y.1.1.1.1,y.1.1.1.2.1,y.1.1.1.2.2.1,()),())).bind fun y_3 => bif decide (0 ≤ Jy.wrap (a1 * y_3.1) ∧ Jy.wrap (a1 * y_3.1) ≤ Jy.wrap (Jy.wrap (a1 + a2) * y_3.1) ∧ Jy.wrap (Jy.wrap (a1 + a2) * y_3.1) ≤ UJ (UL y.1.1.2.2.1)) then (ZgC k (((y.1.1.1.1,y.1.1.1.2.1,y.1.1.1.2.2.1,()),y.1.1.2.1,UP (Jy.wrap (a1 * y_3.1)).toNat (UQ (Jy.wrap (Jy.wrap (a1 + a2) * y_3.1)).toNat y.1.1.2.2.1),()),())).bind fun y => some ((y.1,0,()),()) else none
def ZeB (k:Nat):=Zc0 k
set_option maxHeartbeats 1000000 in
noncomputable def Zpn (k:Nat):WG k:=QS 16 Tryd.f16 [Zlw k,Zly k,ZgD k,Zlu k] Zk7 Zfm ZeB
theorem ZiA (k:Nat):Ctr Tryd.prog k 16 (mk Zk7 Zfm ZeB):=(Zpn k).2
abbrev Zl2:List Kd:=[.view .raw,.view (.int .i64)]
def Zi0 (k:Nat):Value × Int × Unit → Option (List Int × Unit):=fun x => ZgQ x
theorem ZmX:Go.Proofs.Lays8.n4 Tryd.prog Zgh:=by
 constructor <;> first | kernel_rfl | (intro w; kernel_rfl) | exact ⟨"slices.Grow[[]byte,byte]",by kernel_rfl,by kernel_rfl⟩
theorem Zne (k:Nat):Ctr Tryd.prog k 59 (mk Zl2 X7 Zi0):=Zmr ZmX Tryd.t5 (by kernel_rfl) (by kernel_rfl) (by kernel_rfl) (by kernel_rfl) rfl rfl (fn:=Tryd.f59) (by kernel_rfl) (by kernel_rfl) (by kernel_rfl)
noncomputable def ZpI (k:Nat):WG k:=⟨(59,mk Zl2 X7 Zi0),Zne k⟩
abbrev ZhO:List Kd:=[.view (.sl (.sl (.int .u8)))]
noncomputable def ZlF (k:Nat):List (WG k):=[ZpI k]
def ZlC:Nat → Ann:=fun id => bif Ja id 11 then ⟨[26,27,25,6],[]⟩ else bif Ja id 3 then ⟨[10,11,9,3,0],[]⟩ else ⟨[],[]⟩
abbrev ZlE:=Int × Int × List (List Int) × List Int
abbrev ZfD:=ZlE → Option (List Int × Unit)
abbrev ZfF:=Int × Int × List (List Int) × Int × List (List Int)
abbrev ZfC:=ZfF → Option (List Int × Unit)
def ZoC:ZlE → St
 | (v0,v1,v2,v3) => St.mk (Ql [(26,Qk v0),(27,Qk v1),(25,AV.val (PV.sl (Ty.int UM).sl v2)),(6,AV.own 8192)]) (Z1 [(8192,RS.live (Res.arr (Ty.int UM) v3 false))])
def ZaZ (k:Nat) (L2:ZfD):ZfD
 | (v0,v1,v2,v3) => bif decide (v1 < v0) then bif decide (0 ≤ v1 ∧ v1 < UJ v2.length) then bif decide (v3.length + UL (v2.getD v1.toNat []) < 2147483648) then L2 (v0,Jy.wrap (v1 + 1),v2,v3 ++ v2.getD v1.toNat []) else none else none else some (v3,())
def Zdc (k:Nat):ZfD:=ZZ (fun L2 => ZaZ k L2) k
noncomputable def ZiR (k:Nat) (n:Nat):=atX (ZlF k) Tryd.f41 ZhO X7 [1,1,1,1,0,1,0] [] n ZoC (A:=ZlC)
def ZoB:ZfF → St
 | (v0,v1,v2,v3,v4) => St.mk (Ql [(10,Qk v0),(11,Qk v1),(9,AV.val (PV.sl (Ty.int UM).sl v2)),(3,Qk v3),(0,AV.val (PV.sl (Ty.int UM).sl v4))]) (Z1 [])
def ZaY (k:Nat) (L2:ZfD) (L1:ZfC):ZfC
 | (v0,v1,v2,v3,v4) => bif decide (v1 < v0) then bif decide (0 ≤ v1 ∧ v1 < UJ v2.length) then bif decide (Jy.wrap (v3 + UJ (UL (v2.getD v1.toNat []))) < (0:Int)) then none else L1 (v0,Jy.wrap (v1 + 1),v2,Jy.wrap (v3 + UJ (UL (v2.getD v1.toNat []))),v4) else none else (Zi0 k (V6 none (0:Nat) (0:Nat),v3,())).bind fun y => L2 (UJ v4.length,(0:Int),v4,y.1)
def ZfE (k:Nat):ZfC:=ZZ (fun L1 => ZaY k (Zdc k) L1) k
noncomputable def ZiQ (k:Nat) (n:Nat):=atX (ZlF k) Tryd.f41 ZhO X7 [1,1,0,1,0] [] n ZoB (A:=ZlC)
def ZgG (k:Nat) (L1:ZfC):List (List Int) × Unit → Option (List Int × Unit)
 | (a0,()) => L1 (UJ a0.length,(0:Int),a0,(0:Int),a0)
def ZlD (k:Nat):=ZgG k (ZfE k)
theorem ZlH (k:Nat):∀ n,ZiR k n = ZZ (fun L2 => ZaZ k L2) n:=Ky
theorem ZlG (k:Nat):∀ n,ZiQ k n = ZZ (fun L1 => ZaY k (Zdc k) L1) n:=Ky (fun n v => by rw [show (Zdc k) = ZiR k k from (ZlH k k).symm]; kernel_rfl)
noncomputable def Zpx (k:Nat):WG k:=QS 41 Tryd.f41 (ZlF k) ZhO X7 ZlD (A:=ZlC) (h:=fun x => by show _ = ZgG k (ZfE k) x; rw [show ZfE k = ZiQ k k from (ZlG k k).symm]; kernel_rfl)
def Zc1 (k:Nat):List Int × List Int × Unit → Option ((List Int × Int × Unit) × Unit)
 | (a0,a1,()) => (ZaV k (a0,())).bind fun y => bif y.1.2.1 != 0 then some (([],y.1.2.1,()),()) else (ZaV k (a1,())).bind fun y_1 => bif y_1.1.2.1 != 0 then some (([],y_1.1.2.1,()),()) else bif !(decide (y.1.1.1.1 = y_1.1.1.1.1) && (decide (y.1.1.1.2.1 = y_1.1.1.1.2.1) && (decide (y.1.1.1.2.2.1 = y_1.1.1.1.2.2.1) && true))) then some (([],1,()),()) else (Zc9 k (((y.1.1.1.1,y.1.1.1.2.1,y.1.1.1.2.2.1,()),y.1.1.2.1,y.1.1.2.2.1,()),())).bind fun y_2 => (Zc9 k (((y_1.1.1.1.1,y_1.1.1.1.2.1,y_1.1.1.1.2.2.1,()),y_1.1.1.2.1,y_1.1.1.2.2.1,()),())).bind fun y_3 => bif decide ((4096:Int) < Jy.wrap (y_2.1 + y_3.1)) then some (([],14,()),()) else (ZlD k ([y.1.1.2.2.1,y_1.1.1.2.2.1],())).bind fun y_4 => (ZgC k (((y.1.1.1.1,y.1.1.1.2.1,y.1.1.1.2.2.1,()),y.1.1.2.1,y_4.1,()),())).bind fun y => some ((y.1,0,()),())
def ZeD (k:Nat):=Zc1 k
set_option maxHeartbeats 1000000 in
noncomputable def Zpr (k:Nat):WG k:=QS 23 Tryd.f23 [Zlw k,Zly k,Zpx k,Zlu k] ZfB Zfm ZeD
theorem ZiE (k:Nat):Ctr Tryd.prog k 23 (mk ZfB Zfm ZeD):=(Zpr k).2
abbrev ZkU:List Kd:=[]
def ZcW (k:Nat):Unit → Option (Bool × Unit)
 | () => (ZeA k ((((1:Int),(8:Int),(8000:Int),()),[],[[(0:Int),(-128:Int),(127:Int)]],()),())).bind fun y => bif y.1.2.1 == 0 then bif UJ (UL y.1.1) == 48 then bif decide ((0:Int) ≤ 0 ∧ (0:Int) ≤ 4 ∧ (4:Int) ≤ UJ (UL y.1.1)) then bif (UK (UN (fun n => UO n.toNat) (UP 0 (UQ 4 y.1.1))).toArray).toList == (UK #[82,73,70,70]).toList then bif decide ((0:Int) ≤ 36 ∧ (36:Int) ≤ 40 ∧ (40:Int) ≤ UJ (UL y.1.1)) then bif (UK (UN (fun n => UO n.toNat) (UP 36 (UQ 40 y.1.1))).toArray).toList == (UK #[100,97,116,97]).toList then bif decide ((0:Int) ≤ 44 ∧ (44:Int) ≤ UJ (UL y.1.1) ∧ UJ (UL y.1.1) ≤ UJ (UL y.1.1)) then some ((UK (UN (fun n => UO n.toNat) (UP 44 (UQ (UJ (UL y.1.1)).toNat y.1.1))).toArray).toList == (UK #[128,0,255,0]).toList,()) else none else some (false,()) else none else some (false,()) else none else some (false,()) else some (false,())
def Zit (k:Nat):=ZcW k
set_option maxHeartbeats 1000000 in
noncomputable def Zpk (k:Nat):WG k:=QS 10 Tryd.f10 [ZkZ k] ZkU QX Zit
theorem Ziu (k:Nat):Ctr Tryd.prog k 10 (mk ZkU QX Zit):=(Zpk k).2
abbrev ZcZ:Kd:=.view trackT
noncomputable def ZnM (k:Nat):List (WG k):=[]
def ZnL:Nat → Ann:=fun id => bif Ja id 3 then ⟨[4,1,3,2],[.cell 3 4 ((Ty.int Jy).sl)]⟩ else ⟨[],[]⟩
abbrev Zk3:=Int × Int × Int × Int × List ByteArray × List (List Int) × Int × Int × Int × List ByteArray × List (List Int) × Int × Int × Int
abbrev Zfk:=Zk3 → Option (((Int × Int × Int × Unit) × List ByteArray × List (List Int) × Unit) × Unit)
def Zoq:Zk3 → St
 | (v0,v1,v2,v3,v4,v5,v6,v7,v8,v9,v10,v11,v12,v13) => St.mk (Ql [(4,Qk v0),(1,AV.bx 8192 0),(3,AV.bx 8193 0),(2,AV.bx 8196 0)]) (Z1 [(8192,rsB [Qk v1,Qk v2,Qk v3,AV.val (PV.sl Ty.str v4),AV.val (PV.sl (Ty.int Jy).sl v5)]),(8193,rsB [Qk v6,Qk v7,Qk v8,AV.own 8194,AV.own 8195]),(8194,RS.live (Res.arr Ty.str v9 false)),(8195,RS.live (Res.arr (Ty.int Jy).sl v10 false)),(8196,rsB [Qk v11,Qk v12,Qk v13,AV.val (PV.v (V6 none (0:Nat) (0:Nat))),AV.val (PV.v (V6 none (0:Nat) (0:Nat)))])])
def Kl (k:Nat) (L1:Zfk):Zfk
 | (v0,v1,v2,v3,v4,v5,v6,v7,v8,v9,v10,v11,v12,v13) => bif decide (v0 < UJ v5.length) then bif decide (0 ≤ v0 ∧ v0 < UJ v5.length) then bif decide ((0:Int) ≤ 0 ∧ (0:Int) ≤ Jy.wrap (UJ (UL (v5.getD v0.toNat [])) + (1:Int)) ∧ Jy.wrap (UJ (UL (v5.getD v0.toNat [])) + (1:Int)) < (4294967296:Int)) then bif decide (0 ≤ v0 ∧ v0 < UJ v5.length) then bif decide ((0:Nat) + UL (v5.getD v0.toNat []) < 2147483648) then bif decide (v10.length + [Jd (0:Nat) (0:Int) ++ v5.getD v0.toNat []].length < 2147483648) then L1 (Jy.wrap (v0 + 1),v1,v2,v3,v4,v5,v6,v7,v8,v9,v10 ++ [Jd (0:Nat) (0:Int) ++ v5.getD v0.toNat []],v11,v12,v13) else none else none else none else none else none else some (((v6,v7,v8,()),v9,v10,()),())
def Zfl (k:Nat):Zfk:=ZZ (fun L1 => Kl k L1) k
noncomputable def Ziy (k:Nat) (n:Nat):=atX (ZnM k) Tryd.f13 WN ZcZ [1,1,0,1,0] [] n Zoq (A:=ZnL)
def ZaM (k:Nat) (L1:Zfk):((Int × Int × Int × Unit) × List ByteArray × List (List Int) × Unit) × Unit → Option (((Int × Int × Int × Unit) × List ByteArray × List (List Int) × Unit) × Unit)
 | (((a0,a1,a2,()),a3,a4,()),()) => bif decide ((0:Nat) + a3.length < 2147483648) then L1 (0,a0,a1,a2,a3,a4,a0,a1,a2,[] ++ a3,[],(0:Int),(0:Int),(0:Int)) else none
def Zix (k:Nat):=ZaM k (Zfl k)
theorem Zk4 (k:Nat):∀ n,Ziy k n = ZZ (fun L1 => Kl k L1) n:=Ky
set_option maxHeartbeats 1000000 in
noncomputable def Zpm (k:Nat):WG k:=QS 13 Tryd.f13 (ZnM k) WN ZcZ Zix (A:=ZnL) (h:=fun x => by show _ = ZaM k (Zfl k) x; rw [show Zfl k = Ziy k k from (Zk4 k k).symm]; kernel_rfl)
theorem Ziz (k:Nat):Ctr Tryd.prog k 13 (mk WN ZcZ Zix):=(Zpm k).2
def Zlf (k:Nat):((Int × Int × Int × Unit) × List ByteArray × List (List Int) × Unit) × Unit → Option (((Int × Int × Int × Unit) × List ByteArray × List (List Int) × Unit) × Unit)
 | (((a0,a1,a2,()),a3,a4,()),()) => some (((a0,a1,a2,()),a3,a4,()),())
def Zle (k:Nat):=Zlf k
noncomputable def Zpq (k:Nat):WG k:=QS 20 Tryd.f20 [] WN ZcZ Zle
theorem Zcr (k:Nat):Ctr Tryd.prog k 20 (mk WN ZcZ Zle):=(Zpq k).2
abbrev ZlM:List Kd:=[.view (.sl (.int .i64)),.view (.sl (.int .i64))]
noncomputable def Zn2 (k:Nat):List (WG k):=[]
def Zn1:Nat → Ann:=fun id => bif Ja id 4 then ⟨[5,0,1],[]⟩ else ⟨[],[]⟩
abbrev ZlK:=Int × List Int × List Int
abbrev ZfG:=ZlK → Option (Bool × Unit)
def ZoD:ZlK → St
 | (v0,v1,v2) => St.mk (Ql [(5,Qk v0),(0,avL v1),(1,avL v2)]) (Z1 [])
def Yk (k:Nat) (L1:ZfG):ZfG
 | (v0,v1,v2) => bif decide (v0 < UJ v1.length) then bif decide (0 ≤ v0 ∧ v0 < UJ v1.length) then bif decide (0 ≤ v0 ∧ v0 < UJ v2.length) then bif v1.getD v0.toNat 0 != v2.getD v0.toNat 0 then some (false,()) else L1 (Jy.wrap (v0 + 1),v1,v2) else none else none else some (true,())
def ZfH (k:Nat):ZfG:=ZZ (fun L1 => Yk k L1) k
noncomputable def ZiS (k:Nat) (n:Nat):=atX (Zn2 k) Tryd.f42 ZlM QX [1,1,0,1,0] [] n ZoD (A:=Zn1)
def Za0 (k:Nat) (L1:ZfG):List Int × List Int × Unit → Option (Bool × Unit)
 | (a0,a1,()) => bif UJ a0.length != UJ a1.length then some (false,()) else L1 (0,a0,a1)
def ZlJ (k:Nat):=Za0 k (ZfH k)
theorem ZlL (k:Nat):∀ n,ZiS k n = ZZ (fun L1 => Yk k L1) n:=Ky
noncomputable def Zpy (k:Nat):WG k:=QS 42 Tryd.f42 (Zn2 k) ZlM QX ZlJ (A:=Zn1) (h:=fun x => by show _ = Za0 k (ZfH k) x; rw [show ZfH k = ZiS k k from (ZlL k k).symm]; kernel_rfl)
abbrev ZhK:List Kd:=[.view ZfN,.view ZfN]
noncomputable def ZnS (k:Nat):List (WG k):=[Zpy k]
def ZiF:Nat → Ann:=fun id => bif Ja id 4 then ⟨[5,2,3],[]⟩ else ⟨[],[]⟩
abbrev Zfr:=ZfF → Option (Bool × Unit)
def Zot:ZfF → St
 | (v0,v1,v2,v3,v4) => St.mk (Ql [(5,Qk v0),(2,AV.bx 8192 0),(3,AV.bx 8193 0)]) (Z1 [(8192,rsB [Qk v1,AV.val (PV.sl (Ty.int Jy).sl v2)]),(8193,rsB [Qk v3,AV.val (PV.sl (Ty.int Jy).sl v4)])])
def Yh (k:Nat) (L1:Zfr):Zfr
 | (v0,v1,v2,v3,v4) => bif decide (v0 < UJ v2.length) then bif decide (0 ≤ v0 ∧ v0 < UJ v2.length) then bif decide (0 ≤ v0 ∧ v0 < UJ v4.length) then (ZlJ k (v2.getD v0.toNat [],v4.getD v0.toNat [],())).bind fun y => bif !y.1 then some (false,()) else L1 (Jy.wrap (v0 + 1),v1,v2,v3,v4) else none else none else some (true,())
def Zfs (k:Nat):Zfr:=ZZ (fun L1 => Yh k L1) k
noncomputable def ZiH (k:Nat) (n:Nat):=atX (ZnS k) Tryd.f25 ZhK QX [1,1,0,1,0] [] n Zot (A:=ZiF)
def ZaP (k:Nat) (L1:Zfr):(Int × List (List Int) × Unit) × (Int × List (List Int) × Unit) × Unit → Option (Bool × Unit)
 | ((a0,a1,()),(a2,a3,()),()) => bif a0 != a2 then some (false,()) else bif UJ a1.length != UJ a3.length then some (false,()) else L1 (0,a0,a1,a2,a3)
def ZiG (k:Nat):=ZaP k (Zfs k)
theorem Zlh (k:Nat):∀ n,ZiH k n = ZZ (fun L1 => Yh k L1) n:=Ky
noncomputable def ZnR (k:Nat):WG k:=QS 25 Tryd.f25 (ZnS k) ZhK QX ZiG (A:=ZiF) (h:=fun x => by show _ = ZaP k (Zfs k) x; rw [show Zfs k = ZiH k k from (Zlh k k).symm]; kernel_rfl)
theorem ZiI (k:Nat):Ctr Tryd.prog k 25 (mk ZhK QX ZiG):=(ZnR k).2
abbrev ZhJ:List Kd:=[.view trackT,.view trackT]
noncomputable def ZnQ (k:Nat):List (WG k):=[ZnR k]
abbrev Zlb:=Int × Int × Int × Int × List ByteArray × List (List Int) × Int × Int × Int × List ByteArray × List (List Int)
abbrev Zfp:=Zlb → Option (Bool × Unit)
def Zos:Zlb → St
 | (v0,v1,v2,v3,v4,v5,v6,v7,v8,v9,v10) => St.mk (Ql [(5,Qk v0),(2,AV.bx 8192 0),(3,AV.bx 8193 0)]) (Z1 [(8192,rsB [Qk v1,Qk v2,Qk v3,AV.val (PV.sl Ty.str v4),AV.val (PV.sl (Ty.int Jy).sl v5)]),(8193,rsB [Qk v6,Qk v7,Qk v8,AV.val (PV.sl Ty.str v9),AV.val (PV.sl (Ty.int Jy).sl v10)])])
def Yg (k:Nat) (L1:Zfp):Zfp
 | (v0,v1,v2,v3,v4,v5,v6,v7,v8,v9,v10) => bif decide (v0 < UJ v4.length) then bif decide (0 ≤ v0 ∧ v0 < UJ v4.length) then bif decide (0 ≤ v0 ∧ v0 < UJ v9.length) then bif !US (v4.getD v0.toNat (UK #[])) == US (v9.getD v0.toNat (UK #[])) then some (false,()) else L1 (Jy.wrap (v0 + 1),v1,v2,v3,v4,v5,v6,v7,v8,v9,v10) else none else none else some (true,())
def Zfq (k:Nat):Zfp:=ZZ (fun L1 => Yg k L1) k
noncomputable def ZiD (k:Nat) (n:Nat):=atX (ZnQ k) Tryd.f19 ZhJ QX [1,1,0,1,0] [] n Zos (A:=ZiF)
def ZaO (k:Nat) (L1:Zfp):((Int × Int × Int × Unit) × List ByteArray × List (List Int) × Unit) × ((Int × Int × Int × Unit) × List ByteArray × List (List Int) × Unit) × Unit → Option (Bool × Unit)
 | (((a0,a1,a2,()),a3,a4,()),((a5,a6,a7,()),a8,a9,()),()) => bif !(decide (a0 = a5) && (decide (a1 = a6) && (decide (a2 = a7) && true))) then some (false,()) else bif UJ a3.length != UJ a8.length then some (false,()) else (ZiG k (((0:Int),a4,()),((0:Int),a9,()),())).bind fun y => bif !y.1 then some (false,()) else L1 (0,a0,a1,a2,a3,a4,a5,a6,a7,a8,a9)
def ZiC (k:Nat):=ZaO k (Zfq k)
theorem Zlc (k:Nat):∀ n,ZiD k n = ZZ (fun L1 => Yg k L1) n:=Ky
set_option maxHeartbeats 1000000 in
noncomputable def Zpp (k:Nat):WG k:=QS 19 Tryd.f19 (ZnQ k) ZhJ QX ZiC (A:=ZiF) (h:=fun x => by show _ = ZaO k (Zfq k) x; rw [show Zfq k = ZiD k k from (Zlc k k).symm]; kernel_rfl)
theorem Zcq (k:Nat):Ctr Tryd.prog k 19 (mk ZhJ QX ZiC):=(Zpp k).2
abbrev ZhI:Kd:=.tup [.view trackT,.view (.int .i64)]
noncomputable def ZnO (k:Nat):List (WG k):=[Zlw k,Zlo k,Zly k,ZgE k,ZkZ k,Zn0 k]
def ZnP:Nat → List Nat:=fun n => bif Ja n 1 then [25] else bif Ja n 20 then [6,4] else []
def ZnN:Nat → Ann:=fun id => bif Ja id 8 then ⟨[44,45,8,7,4,6,0,2],[]⟩ else ⟨[],[]⟩
abbrev Zk8:=Int × Int × Int × List Int × List Int × Bool × Int × Int × Int × List ByteArray × List Int × Int × Int × Int × List ByteArray × List (List Int) × Int × Int × Int
abbrev Zfn:=Zk8 → Option ((((Int × Int × Int × Unit) × List ByteArray × List (List Int) × Unit) × Int × Unit) × Unit)
def Zor:Zk8 → St
 | (v0,v1,v2,v3,v4,v5,v6,v7,v8,v9,v10,v11,v12,v13,v14,v15,v16,v17,v18) => St.mk (Ql [(44,Qk v0),(45,Qk v1),(8,AV.bx 8192 0),(7,Qk v2),(4,AV.bx 8193 0),(6,AV.bx 8194 0),(0,AV.val (PV.sl (Ty.int UM) v3)),(2,AV.bx 8196 0)]) (Z1 [(8192,rsB [AV.val (PV.sl (Ty.int UM) v4),avB v5]),(8193,rsB [Qk v6,Qk v7,Qk v8,AV.val (PV.sl Ty.str v9),AV.val (PV.sl (Ty.int UM) v10)]),(8194,rsB [Qk v11,Qk v12,Qk v13,AV.val (PV.sl Ty.str v14),AV.own 8195]),(8195,RS.live (Res.nest (Ty.int Jy) v15 none)),(8196,rsB [Qk v16,Qk v17,Qk v18,AV.val (PV.v (V6 none (0:Nat) (0:Nat))),AV.val (PV.v (V6 none (0:Nat) (0:Nat)))])])
def Yf (k:Nat) (L1:Zfn):Zfn
 | (v0,v1,v2,v3,v4,v5,v6,v7,v8,v9,v10,v11,v12,v13,v14,v15,v16,v17,v18) => bif decide (v1 < v0) then (Xh k ((v4,v5,()),v2,())).bind fun y => bif v2 == 1 then bif decide ¬v6 = (0:Int) then bif decide (0 ≤ v1.tmod v6 ∧ v1.tmod v6 < UJ v15.length) then bif decide ((v1.tmod v6).toNat < v15.length) then bif decide (0 ≤ Jy.wrap (Jy.wrap ((8:Int) * v2) - v7)) then bif decide ((v15.getD (v1.tmod v6).toNat []).length + [(Jy.wrap (y.1 - 128)).fdiv ((2:Int) ^ min (Jy.wrap (Jy.wrap ((8:Int) * v2) - v7)).toNat 64)].length < 2147483648) then bif decide (0 ≤ v1.tmod v6 ∧ v1.tmod v6 < UJ v15.length) then bif decide ((v1.tmod v6).toNat = (v1.tmod v6).toNat) then bif decide ((v1.tmod v6).toNat < v15.length) then L1 (v0,Jy.wrap (v1 + 1),v2,v3,y.2.1.1,y.2.1.2.1,v6,v7,v8,v9,v10,v11,v12,v13,v14,v15.set (v1.tmod v6).toNat (v15.getD (v1.tmod v6).toNat [] ++ [(Jy.wrap (y.1 - 128)).fdiv ((2:Int) ^ min (Jy.wrap (Jy.wrap ((8:Int) * v2) - v7)).toNat 64)]),v16,v17,v18) else none else none else none else none else none else none else none else none else bif decide (0 ≤ Jy.wrap (Jy.wrap ((8:Int) * v2) - 1)) then bif UT y.1 ((2:Int) ^ min (Jy.wrap (Jy.wrap ((8:Int) * v2) - 1)).toNat 64) == (1:Int) then bif decide (0 ≤ Jy.wrap ((8:Int) * v2)) then bif decide ¬v6 = (0:Int) then bif decide (0 ≤ v1.tmod v6 ∧ v1.tmod v6 < UJ v15.length) then bif decide ((v1.tmod v6).toNat < v15.length) then bif decide (0 ≤ Jy.wrap (Jy.wrap ((8:Int) * v2) - v7)) then bif decide ((v15.getD (v1.tmod v6).toNat []).length + [(Jy.wrap (y.1 - Jy.wrap ((1:Int) * (2:Int) ^ min (Jy.wrap ((8:Int) * v2)).toNat 64))).fdiv ((2:Int) ^ min (Jy.wrap (Jy.wrap ((8:Int) * v2) - v7)).toNat 64)].length < 2147483648) then bif decide (0 ≤ v1.tmod v6 ∧ v1.tmod v6 < UJ v15.length) then bif decide ((v1.tmod v6).toNat = (v1.tmod v6).toNat) then bif decide ((v1.tmod v6).toNat < v15.length) then L1 (v0,Jy.wrap (v1 + 1),v2,v3,y.2.1.1,y.2.1.2.1,v6,v7,v8,v9,v10,v11,v12,v13,v14,v15.set (v1.tmod v6).toNat (v15.getD (v1.tmod v6).toNat [] ++ [(Jy.wrap (y.1 - Jy.wrap ((1:Int) * (2:Int) ^ min (Jy.wrap ((8:Int) * v2)).toNat 64))).fdiv ((2:Int) ^ min (Jy.wrap (Jy.wrap ((8:Int) * v2) - v7)).toNat 64)]),v16,v17,v18) else none else none else none else none else none else none else none else none else none else bif decide ¬v6 = (0:Int) then bif decide (0 ≤ v1.tmod v6 ∧ v1.tmod v6 < UJ v15.length) then bif decide ((v1.tmod v6).toNat < v15.length) then bif decide (0 ≤ Jy.wrap (Jy.wrap ((8:Int) * v2) - v7)) then bif decide ((v15.getD (v1.tmod v6).toNat []).length + [UT y.1 ((2:Int) ^ min (Jy.wrap (Jy.wrap ((8:Int) * v2) - v7)).toNat 64)].length < 2147483648) then bif decide (0 ≤ v1.tmod v6 ∧ v1.tmod v6 < UJ v15.length) then bif decide ((v1.tmod v6).toNat = (v1.tmod v6).toNat) then bif decide ((v1.tmod v6).toNat < v15.length) then L1 (v0,Jy.wrap (v1 + 1),v2,v3,y.2.1.1,y.2.1.2.1,v6,v7,v8,v9,v10,v11,v12,v13,v14,v15.set (v1.tmod v6).toNat (v15.getD (v1.tmod v6).toNat [] ++ [UT y.1 ((2:Int) ^ min (Jy.wrap (Jy.wrap ((8:Int) * v2) - v7)).toNat 64)]),v16,v17,v18) else none else none else none else none else none else none else none else none else none else (ZeA k (((v11,v12,v13,()),v14,v15,()),())).bind fun y => bif y.1.2.1 != 0 then some (((((0:Int),(0:Int),(0:Int),()),[],[],()),2,()),()) else (ZgF k (v3,y.1.1,())).bind fun y => bif !y.1 then some (((((0:Int),(0:Int),(0:Int),()),[],[],()),2,()),()) else some ((((v11,v12,v13,()),v14,v15,()),0,()),())
def Zfo (k:Nat):Zfn:=ZZ (fun L1 => Yf k L1) k
noncomputable def ZiB (k:Nat) (n:Nat):=atX (ZnO k) Tryd.f18 Zfx ZhI [1,1,1,1,1,1,0,1,0] [] n Zor (A:=ZnN) (live:=ZnP)
def ZaN (k:Nat) (L1:Zfn):List Int × Unit → Option ((((Int × Int × Int × Unit) × List ByteArray × List (List Int) × Unit) × Int × Unit) × Unit)
 | (a0,()) => (ZaV k (a0,())).bind fun y => bif y.1.2.1 != 0 then some (((((0:Int),(0:Int),(0:Int),()),[],[],()),y.1.2.1,()),()) else bif decide ((0:Int) ≤ y.1.1.1.1 ∧ y.1.1.1.1 ≤ y.1.1.1.1 ∧ y.1.1.1.1 < 4294967296) then (ZgA k ((y.1.1.1.1,y.1.1.1.2.1,y.1.1.1.2.2.1,()),())).bind fun y_1 => (Zc9 k (((y.1.1.1.1,y.1.1.1.2.1,y.1.1.1.2.2.1,()),y.1.1.2.1,y.1.1.2.2.1,()),())).bind fun y_2 => L1 (Jy.wrap (y_2.1 * y.1.1.1.1),(0:Int),y_1.1,a0,y.1.1.2.2.1,false,y.1.1.1.1,y.1.1.1.2.1,y.1.1.1.2.2.1,y.1.1.2.1,y.1.1.2.2.1,y.1.1.1.1,y.1.1.1.2.1,y.1.1.1.2.2.1,y.1.1.2.1,Jd (Int.toNat y.1.1.1.1) [],(0:Int),(0:Int),(0:Int)) else none
def ZeC (k:Nat):=ZaN k (Zfo k)
theorem Zla (k:Nat):∀ n,ZiB k n = ZZ (fun L1 => Yf k L1) n:=Ky
set_option maxHeartbeats 1000000 in
noncomputable def Zpo (k:Nat):WG k:=QS 18 Tryd.f18 (ZnO k) Zfx ZhI ZeC (A:=ZnN) (live:=ZnP) (h:=fun x => by show _ = ZaN k (Zfo k) x; rw [show Zfo k = ZiB k k from (Zla k k).symm]; kernel_rfl)
theorem Zcp (k:Nat):Ctr Tryd.prog k 18 (mk Zfx ZhI ZeC):=(Zpo k).2
end Go.Sh
namespace Go.Sh
open Go Go.Proofs
noncomputable def v9:Code:=Tryd.f9.body.getD .skip
noncomputable def v9P (n:Nat):Code:=match n with
 | 0 => cr (cr (cr (cr (cr (cr (cr (cr (cr v9))))))))
 | 1 => cr (cr (cr (cr (cr (cr (cr (cr (cr (cr v9)))))))))
 | 2 => cr (cr (cr (cr (cr (cr (cr (cr (cr (cr (cr v9))))))))))
 | 3 => cr (cr (cr (cr (cr (cr (cr (cr (cr (cr (cr (cr (cr v9))))))))))))
 | _ => cr (cr (cr (cr (cr (cr (cr (cr (cr (cr (cr (cr (cr (cr (cr v9))))))))))))))
noncomputable def Zp5:Code:=cr (cl (v9P 0))
noncomputable def Zqm:Code:=cr (cb (cl (cr (cb (cb Zp5)))))
noncomputable def Zqn:Code:=cr (cl (v9P 1))
noncomputable def Zqo:Code:=cr (cl (v9P 2))
noncomputable def Zqp:Code:=cr (cl (v9P 3))
noncomputable def ZoR:Array Field:=(match Tryd.prog.underlying 35 with | some (.struct fs) => fs | _ => #[])
theorem Znn:Tryd.prog.underlying 35 = some (.struct ZoR):=by kernel_rfl
noncomputable def ZoO (n:Nat):Field:=(ZoR[n]?).getD default
theorem hwf:ZoR[2]? = some (ZoO 2):=by kernel_rfl
theorem hwo:4 = 0 + (ZoO 2).offset:=by kernel_rfl
theorem hwz:Ja (Tryd.prog.cellsOf (ZoO 2).type) 0 = false:=by kernel_rfl
def Zjz (w1 w2:World) (bx:Nat) (A:Option Addr) (len:Nat):Prop:=len < 4294967296 ∧ ∀ k,k < len → ∃ b o m,A = some ⟨b,o,none⟩ ∧ w2.cell? ⟨b,o + k,none⟩ = some (.int .i64 m) ∧ w1.heap.size ≤ b ∧ b < w2.heap.size ∧ w2.frozen? ⟨b,o + k,none⟩ = false ∧ b ≠ bx
def Zeq (w1 w2:World) (bx:Nat) (A:Option Addr) (n:Nat):Prop:=n < 4294967296 ∧ ∀ i,i < n → ∃ bo oo A' len cap,A = some ⟨bo,oo,none⟩ ∧ w2.cell? ⟨bo,oo + i,none⟩ = some (.slice A' len cap) ∧ Zjz w1 w2 bx A' len
def Zgj (w1 w2:World) (bx:Nat) (A:Option Addr) (len:Nat):Prop:=len ≤ 9223372036854775807 ∧ ∀ k,k < len → ∃ b o m,A = some ⟨b,o,none⟩ ∧ w2.cell? ⟨b,o + k,none⟩ = some (.int .u8 m) ∧ w1.heap.size ≤ b ∧ b < w2.heap.size ∧ w2.frozen? ⟨b,o + k,none⟩ = false ∧ b ≠ bx
structure LW (w1 w2 w:World) (b7:Nat) (cs7:Array Value) (T:TypeId):Prop where
 lo:Loose w1 w2 w
 box:w.heap[b7]? = some (.cells cs7 T (0,0))
theorem LW.next {w1 w2 w w':World} {b7:Nat} {cs7:Array Value} {T:TypeId} (h:LW w1 w2 w b7 cs7 T) (k:Keep w w'):LW w1 w2 w' b7 cs7 T :=
 ⟨h.lo.next k,(k.old b7 (ZJ h.box)).trans h.box⟩
theorem LW.set {w1 w2 w:World} {b7:Nat} {cs7:Array Value} {T:TypeId} (h:LW w1 w2 w b7 cs7 T) {b off:Nat} {cur:Array Value} {U:TypeId} {fz:Nat × Nat} (hb:w.heap[b]? = some (.cells cur U fz)) (hb1:w1.heap.size ≤ b) (hb2:b ≠ b7) {x:Value}
  (hx:(∃ k m m',cur[off]? = some (.int k m) ∧ x = .int k m') ∨ (∃ s s',cur[off]? = some (.string s) ∧ x = .string s')):LW w1 w2 (w.setRow b (cur.setIfInBounds off x)) b7 cs7 T :=
 ⟨h.lo.set hb hb1 hx,by rw [setRow_other w b b7 _ (fun e => hb2 e.symm)]; exact h.box⟩
theorem Zo6 {w1 w2:World} {Q:Exit → En → World → Prop} {Fe:List (Nat × Value)} (hFe:∀ p ∈ Fe,p.1 < 12) {b7:Nat} {cs7:Array Value} (h7:(7,Value.pointer (some ⟨b7,0,none⟩)) ∈ Fe) {bo oo n cap:Nat} (hc7:cs7.toList[4]? = some (.slice (some ⟨bo,oo,none⟩) n cap))
  {i:Nat} (hi:i < n) {A':Option Addr} {len cap':Nat} (hO:w2.cell? ⟨bo,oo + i,none⟩ = some (.slice A' len cap')) (hR:Zjz w1 w2 b7 A' len) {e:En} {w:World} (hat:At Fe e) (h9:e 12 = .int .i64 (i:Int)) (h10:e 13 = .int .i64 0) (hW:LW w1 w2 w b7 cs7 35)
  (hQ:∀ e' w',At Fe e' → e' 12 = .int .i64 (i:Int) → LW w1 w2 w' b7 cs7 35 → Q .normal e' w'):T Tryd.prog 173 Zqm Q e w:=by
 refine T.block (T.loop (fun e w => ∃ k:Nat,At Fe e ∧ e 12 = .int .i64 (i:Int) ∧ e 13 = .int .i64 (k:Int) ∧ k ≤ len ∧ LW w1 w2 w b7 cs7 35) (fun e _ => len - iv (e 13)) ⟨0,hat,h9,h10,UV _,hW⟩ ?_)
 rintro e w ⟨k,g1,g2,g3,g4,g5⟩
 refine T.seq (T.seq (T.region (L.val 76 (Zi (x:=.tmp 13) (.inl rfl) g3) (L.val 77 (Xk (x:=.tmp 7) (f:=2) (b:=b7) (off:=0) (off':=4) rfl (by exact g1 _ h7) Znn hwf hwz hwo)
  (L.val 78 (KU (x:=.tmp 77) (v:=.slice (some ⟨bo,oo,none⟩) n cap) rfl rfl g5.box (dd:=.slice 39) (by kernel_rfl) rfl hc7) (L.val 79 (Zi (x:=.tmp 12) (.inl rfl) g2)
  (L.val 80 (WE (x:=.tmp 78) (y:=.tmp 79) (e':=39) (t:=.sl (.int .i64)) (b:=bo) (off:=oo) (len:=n) (cap:=cap) (i:=(i:Int)) rfl (by kernel_rfl) rfl rfl (by omega) (by omega) (off':=oo + i) (by simp [Ty.size]))
  (L.val 81 (Zjj (x:=.tmp 80) (v:=.slice A' len cap') rfl rfl (g5.lo.sl _ _ _ _ _ hO) (dd:=.slice 3) (by kernel_rfl) rfl)
  (L.val 82 (Zbe (x:=.tmp 81) (A:=A') (len:=len) (cap:=cap') rfl rfl (el:=3) (by kernel_rfl))
  (L.val 83 (WV (x:=.tmp 76) (y:=.tmp 82) rfl rfl rfl rfl (v:=.bool (decide ((k:Int) < (len:Int)))) rfl) (L.nil ?_)))))))))))
 by_cases hk:k < len
 ·refine T.condT (by show Value.bool _ = _; simp; exact hk) (T.skip ?_)
  obtain ⟨b,o,m,rfl,hc,hb1,hb2,hf,hne⟩:=hR.2 k hk
  obtain ⟨m',hc'⟩:=g5.lo.int _ _ _ _ hc
  obtain ⟨cur,U,fz,hcur,hat'⟩:=Yc hc'
  have hlt:=hR.1
  refine T.seq (T.block (T.region (L.val 86 (Xk (x:=.tmp 7) (f:=2) (b:=b7) (off:=0) (off':=4) rfl (by exact g1 _ h7) Znn hwf hwz hwo)
   (L.val 87 (KU (x:=.tmp 86) (v:=.slice (some ⟨bo,oo,none⟩) n cap) rfl rfl g5.box (dd:=.slice 39) (by kernel_rfl) rfl hc7) (L.val 88 (Zi (x:=.tmp 12) (.inl rfl) g2)
   (L.val 89 (WE (x:=.tmp 87) (y:=.tmp 88) (e':=39) (t:=.sl (.int .i64)) (b:=bo) (off:=oo) (len:=n) (cap:=cap) (i:=(i:Int)) rfl (by kernel_rfl) rfl rfl (by omega) (by omega) (off':=oo + i) (by simp [Ty.size]))
   (L.val 90 (Zjj (x:=.tmp 89) (v:=.slice (some ⟨b,o,none⟩) len cap') rfl rfl (g5.lo.sl _ _ _ _ _ hO) (dd:=.slice 3) (by kernel_rfl) rfl)
   (L.val 91 (Zi (x:=.tmp 13) (.inl rfl) g3)
   (L.val 92 (WE (x:=.tmp 90) (y:=.tmp 91) (e':=3) (t:=.int .i64) (b:=b) (off:=o) (len:=len) (cap:=cap') (i:=(k:Int)) rfl (by kernel_rfl) rfl rfl (by omega) (by omega) (off':=o + k) (by simp [Ty.size]))
   (L.unit (ZdP (x:=.tmp 92) (y:=.const (.int .i64 1)) (b:=b) (off:=o + k) rfl rfl rfl rfl hcur (UG.1 hat').1 ((g5.lo.frz _ _ hb2).trans hf) (dd:=.int .i64) (by kernel_rfl) (by kernel_rfl)) (L.nil ?_)))))))))))
  have W2:=g5.set (x:=.int .i64 1) hcur hb1 hne (.inl ⟨_,_,_,hat',rfl⟩)
  refine T.region (L.val 84 (Zi (x:=.tmp 13) (.inl rfl) g3) (L.val 85 (WV (x:=.tmp 84) rfl rfl rfl rfl (v:=.int .i64 (Jy.wrap ((k:Int) + 1))) rfl) (L.val 13 (Zi (x:=.tmp 85) (.inr rfl) rfl) (L.nil ?_))))
  have hw:=YD (k:=k) (by omega)
  refine ⟨⟨k + 1,?_,g2,by rw [hw]; rfl,by omega,W2⟩,?_⟩
  ·exact g1.same hFe (fun s hs => by
    simp only [upd]
    rw [Zc (show s ≠ 13 by omega),Zc (show s ≠ 85 by omega),Zc (show s ≠ 84 by omega),Zc (show s ≠ 92 by omega),Zc (show s ≠ 91 by omega),Zc (show s ≠ 90 by omega),Zc (show s ≠ 89 by omega),Zc (show s ≠ 88 by omega),Zc (show s ≠ 87 by omega),Zc (show s ≠ 86 by omega),Zc (show s ≠ 83 by omega),Zc (show s ≠ 82 by omega),
     Zc (show s ≠ 81 by omega),Zc (show s ≠ 80 by omega),Zc (show s ≠ 79 by omega),Zc (show s ≠ 78 by omega),Zc (show s ≠ 77 by omega),Zc (show s ≠ 76 by omega)]
    rfl)
  ·rw [g3]
   show len - (Jy.wrap ((k:Int) + 1)).toNat < len - ((k:Int)).toNat
   rw [hw]; simp; omega
 ·refine T.condF (by show Value.bool _ = _; simp; omega) (T.exit ?_)
  simp only [nx,bk,if_true]
  exact hQ _ _ (g1.same hFe (fun s hs => by
    simp only [upd]
    rw [Zc (show s ≠ 83 by omega),Zc (show s ≠ 82 by omega),Zc (show s ≠ 81 by omega),Zc (show s ≠ 80 by omega),Zc (show s ≠ 79 by omega),Zc (show s ≠ 78 by omega),Zc (show s ≠ 77 by omega),Zc (show s ≠ 76 by omega)]
    rfl)) g2 g5
theorem Zo7 {w1 w2:World} {Q:Exit → En → World → Prop} {Fe:List (Nat × Value)} (hFe:∀ p ∈ Fe,p.1 < 12) {b7:Nat} {cs7:Array Value} (h7:(7,Value.pointer (some ⟨b7,0,none⟩)) ∈ Fe) {A:Option Addr} {n cap:Nat} (hc7:cs7.toList[4]? = some (.slice A n cap)) (hR:Zeq w1 w2 b7 A n)
  {e:En} {w:World} (hat:At Fe e) (h9:e 12 = .int .i64 0) (hW:LW w1 w2 w b7 cs7 35) (hQ:∀ e' w',At Fe e' → LW w1 w2 w' b7 cs7 35 → Q .normal e' w'):T Tryd.prog 173 Zp5 Q e w:=by
 refine T.block (T.loop (fun e w => ∃ i:Nat,At Fe e ∧ e 12 = .int .i64 (i:Int) ∧ i ≤ n ∧ LW w1 w2 w b7 cs7 35) (fun e _ => n - iv (e 12)) ⟨0,hat,h9,UV _,hW⟩ ?_)
 rintro e w ⟨i,g1,g2,g3,g5⟩
 refine T.seq (T.seq (T.region (L.val 69 (Zi (x:=.tmp 12) (.inl rfl) g2) (L.val 70 (Xk (x:=.tmp 7) (f:=2) (b:=b7) (off:=0) (off':=4) rfl (by exact g1 _ h7) Znn hwf hwz hwo)
  (L.val 71 (KU (x:=.tmp 70) (v:=.slice A n cap) rfl rfl g5.box (dd:=.slice 39) (by kernel_rfl) rfl hc7) (L.val 72 (Zbe (x:=.tmp 71) (A:=A) (len:=n) (cap:=cap) rfl rfl (el:=39) (by kernel_rfl))
  (L.val 73 (WV (x:=.tmp 69) (y:=.tmp 72) rfl rfl rfl rfl (v:=.bool (decide ((i:Int) < (n:Int)))) rfl) (L.nil ?_))))))))
 have hlt:=hR.1
 by_cases hk:i < n
 ·refine T.condT (by show Value.bool _ = _; simp; exact hk) (T.skip ?_)
  obtain ⟨bo,oo,A',len,cap',rfl,hc,hRi⟩:=hR.2 i hk
  refine T.seq (T.block (T.seq (T.region (L.val 13 (Zi (x:=.const (.int .i64 0)) (.inr rfl) rfl) (L.nil ?_)))))
  refine Zo6 hFe h7 hc7 hk hc hRi (g1.same hFe (fun s hs => by
    simp only [upd]
    rw [Zc (show s ≠ 13 by omega),Zc (show s ≠ 73 by omega),Zc (show s ≠ 72 by omega),Zc (show s ≠ 71 by omega),Zc (show s ≠ 70 by omega),Zc (show s ≠ 69 by omega)]
    rfl)) g2 rfl g5 ?_
  intro e' w' p1 p2 p3
  refine T.region (L.val 74 (Zi (x:=.tmp 12) (.inl rfl) p2) (L.val 75 (WV (x:=.tmp 74) rfl rfl rfl rfl (v:=.int .i64 (Jy.wrap ((i:Int) + 1))) rfl) (L.val 12 (Zi (x:=.tmp 75) (.inr rfl) rfl) (L.nil ?_))))
  have hw:=YD (k:=i) (by omega)
  refine ⟨⟨i + 1,?_,by rw [hw]; rfl,by omega,p3⟩,?_⟩
  ·exact p1.same hFe (fun s hs => by simp only [upd]; rw [Zc (show s ≠ 12 by omega),Zc (show s ≠ 75 by omega),Zc (show s ≠ 74 by omega)]; rfl)
  ·rw [g2]
   show n - (Jy.wrap ((i:Int) + 1)).toNat < n - ((i:Int)).toNat
   rw [hw]; simp; omega
 ·refine T.condF (by show Value.bool _ = _; simp; omega) (T.exit ?_)
  simp only [nx,bk,if_true]
  exact hQ _ _ (g1.same hFe (fun s hs => by
    simp only [upd]
    rw [Zc (show s ≠ 73 by omega),Zc (show s ≠ 72 by omega),Zc (show s ≠ 71 by omega),Zc (show s ≠ 70 by omega),Zc (show s ≠ 69 by omega)]
    rfl)) g5
theorem ZnI {w1 w2:World} {Q:Exit → En → World → Prop} {Fe:List (Nat × Value)} (hFe:∀ p ∈ Fe,p.1 < 14) {A:Option Addr} {len cap:Nat} (h8:(8,V6 A len cap) ∈ Fe) {b7:Nat} {cs7:Array Value} (hR:Zgj w1 w2 b7 A len)
  {e:En} {w:World} (hat:At Fe e) (h14:e 14 = .int .i64 0) (hW:LW w1 w2 w b7 cs7 35) (hQ:∀ e' w',At Fe e' → LW w1 w2 w' b7 cs7 35 → Q .normal e' w'):T Tryd.prog 173 Zqn Q e w:=by
 refine T.block (T.loop (fun e w => ∃ i:Nat,At Fe e ∧ e 14 = .int .i64 (i:Int) ∧ i ≤ len ∧ LW w1 w2 w b7 cs7 35) (fun e _ => len - iv (e 14)) ⟨0,hat,h14,UV _,hW⟩ ?_)
 rintro e w ⟨i,g1,g2,g3,g5⟩
 refine T.seq (T.seq (T.region (L.val 93 (Zi (x:=.tmp 14) (.inl rfl) g2) (L.val 94 (Zi (x:=.tmp 8) (.inl rfl) (v:=.slice A len cap) (by exact g1 _ h8))
  (L.val 95 (Zbe (x:=.tmp 94) (A:=A) (len:=len) (cap:=cap) rfl rfl (el:=5) (by kernel_rfl))
  (L.val 96 (WV (x:=.tmp 93) (y:=.tmp 95) rfl rfl rfl rfl (v:=.bool (decide ((i:Int) < (len:Int)))) rfl) (L.nil ?_)))))))
 have hlt:=hR.1
 by_cases hk:i < len
 ·refine T.condT (by show Value.bool _ = _; simp; exact hk) (T.skip ?_)
  obtain ⟨b,o,m,rfl,hc,hb1,hb2,hf,hne⟩:=hR.2 i hk
  obtain ⟨m',hc'⟩:=g5.lo.int _ _ _ _ hc
  obtain ⟨cur,U,fz,hcur,hat'⟩:=Yc hc'
  refine T.seq (T.block (T.region (L.val 99 (Zi (x:=.tmp 8) (.inl rfl) (v:=.slice (some ⟨b,o,none⟩) len cap) (by exact g1 _ h8)) (L.val 100 (Zi (x:=.tmp 14) (.inl rfl) (v:=.int .i64 (i:Int)) (by exact g2))
   (L.val 101 (WE (x:=.tmp 99) (y:=.tmp 100) (e':=5) (t:=.int .u8) (b:=b) (off:=o) (len:=len) (cap:=cap) (i:=(i:Int)) rfl (by kernel_rfl) rfl rfl (by omega) (by omega) (off':=o + i) (by simp [Ty.size]))
   (L.unit (ZdP (x:=.tmp 101) (y:=.const (.int .u8 2)) (b:=b) (off:=o + i) rfl rfl rfl rfl hcur (UG.1 hat').1 ((g5.lo.frz _ _ hb2).trans hf) (dd:=.int .u8) (by kernel_rfl) (by kernel_rfl)) (L.nil ?_)))))))
  have W2:=g5.set (x:=.int .u8 2) hcur hb1 hne (.inl ⟨_,_,_,hat',rfl⟩)
  refine T.region (L.val 97 (Zi (x:=.tmp 14) (.inl rfl) (v:=.int .i64 (i:Int)) (by exact g2)) (L.val 98 (WV (x:=.tmp 97) rfl rfl rfl rfl (v:=.int .i64 (Jy.wrap ((i:Int) + 1))) rfl) (L.val 14 (Zi (x:=.tmp 98) (.inr rfl) rfl) (L.nil ?_))))
  have hw:=YD (k:=i) (by omega)
  refine ⟨⟨i + 1,?_,by rw [hw]; rfl,by omega,W2⟩,?_⟩
  ·exact g1.same hFe (fun s hs => by
    simp only [upd]
    rw [Zc (show s ≠ 14 by omega),Zc (show s ≠ 98 by omega),Zc (show s ≠ 97 by omega),Zc (show s ≠ 101 by omega),Zc (show s ≠ 100 by omega),Zc (show s ≠ 99 by omega),Zc (show s ≠ 96 by omega),Zc (show s ≠ 95 by omega),Zc (show s ≠ 94 by omega),Zc (show s ≠ 93 by omega)]
    rfl)
  ·rw [g2]
   show len - (Jy.wrap ((i:Int) + 1)).toNat < len - ((i:Int)).toNat
   rw [hw]; simp; omega
 ·refine T.condF (by show Value.bool _ = _; simp; omega) (T.exit ?_)
  simp only [nx,bk,if_true]
  exact hQ _ _ (g1.same hFe (fun s hs => by
    simp only [upd]
    rw [Zc (show s ≠ 96 by omega),Zc (show s ≠ 95 by omega),Zc (show s ≠ 94 by omega),Zc (show s ≠ 93 by omega)]
    rfl)) g5
theorem ZnJ {w1 w2:World} {Q:Exit → En → World → Prop} {Fe:List (Nat × Value)} (hFe:∀ p ∈ Fe,p.1 < 15) {A:Option Addr} {len cap:Nat} (h8:(10,V6 A len cap) ∈ Fe) {b7:Nat} {cs7:Array Value} (hR:Zgj w1 w2 b7 A len)
  {e:En} {w:World} (hat:At Fe e) (h14:e 15 = .int .i64 0) (hW:LW w1 w2 w b7 cs7 35) (hQ:∀ e' w',At Fe e' → LW w1 w2 w' b7 cs7 35 → Q .normal e' w'):T Tryd.prog 173 Zqo Q e w:=by
 refine T.block (T.loop (fun e w => ∃ i:Nat,At Fe e ∧ e 15 = .int .i64 (i:Int) ∧ i ≤ len ∧ LW w1 w2 w b7 cs7 35) (fun e _ => len - iv (e 15)) ⟨0,hat,h14,UV _,hW⟩ ?_)
 rintro e w ⟨i,g1,g2,g3,g5⟩
 refine T.seq (T.seq (T.region (L.val 102 (Zi (x:=.tmp 15) (.inl rfl) g2) (L.val 103 (Zi (x:=.tmp 10) (.inl rfl) (v:=.slice A len cap) (by exact g1 _ h8))
  (L.val 104 (Zbe (x:=.tmp 103) (A:=A) (len:=len) (cap:=cap) rfl rfl (el:=5) (by kernel_rfl))
  (L.val 105 (WV (x:=.tmp 102) (y:=.tmp 104) rfl rfl rfl rfl (v:=.bool (decide ((i:Int) < (len:Int)))) rfl) (L.nil ?_)))))))
 have hlt:=hR.1
 by_cases hk:i < len
 ·refine T.condT (by show Value.bool _ = _; simp; exact hk) (T.skip ?_)
  obtain ⟨b,o,m,rfl,hc,hb1,hb2,hf,hne⟩:=hR.2 i hk
  obtain ⟨m',hc'⟩:=g5.lo.int _ _ _ _ hc
  obtain ⟨cur,U,fz,hcur,hat'⟩:=Yc hc'
  refine T.seq (T.block (T.region (L.val 108 (Zi (x:=.tmp 10) (.inl rfl) (v:=.slice (some ⟨b,o,none⟩) len cap) (by exact g1 _ h8)) (L.val 109 (Zi (x:=.tmp 15) (.inl rfl) (v:=.int .i64 (i:Int)) (by exact g2))
   (L.val 110 (WE (x:=.tmp 108) (y:=.tmp 109) (e':=5) (t:=.int .u8) (b:=b) (off:=o) (len:=len) (cap:=cap) (i:=(i:Int)) rfl (by kernel_rfl) rfl rfl (by omega) (by omega) (off':=o + i) (by simp [Ty.size]))
   (L.unit (ZdP (x:=.tmp 110) (y:=.const (.int .u8 3)) (b:=b) (off:=o + i) rfl rfl rfl rfl hcur (UG.1 hat').1 ((g5.lo.frz _ _ hb2).trans hf) (dd:=.int .u8) (by kernel_rfl) (by kernel_rfl)) (L.nil ?_)))))))
  have W2:=g5.set (x:=.int .u8 3) hcur hb1 hne (.inl ⟨_,_,_,hat',rfl⟩)
  refine T.region (L.val 106 (Zi (x:=.tmp 15) (.inl rfl) (v:=.int .i64 (i:Int)) (by exact g2)) (L.val 107 (WV (x:=.tmp 106) rfl rfl rfl rfl (v:=.int .i64 (Jy.wrap ((i:Int) + 1))) rfl) (L.val 15 (Zi (x:=.tmp 107) (.inr rfl) rfl) (L.nil ?_))))
  have hw:=YD (k:=i) (by omega)
  refine ⟨⟨i + 1,?_,by rw [hw]; rfl,by omega,W2⟩,?_⟩
  ·exact g1.same hFe (fun s hs => by
    simp only [upd]
    rw [Zc (show s ≠ 15 by omega),Zc (show s ≠ 107 by omega),Zc (show s ≠ 106 by omega),Zc (show s ≠ 110 by omega),Zc (show s ≠ 109 by omega),Zc (show s ≠ 108 by omega),Zc (show s ≠ 105 by omega),Zc (show s ≠ 104 by omega),Zc (show s ≠ 103 by omega),Zc (show s ≠ 102 by omega)]
    rfl)
  ·rw [g2]
   show len - (Jy.wrap ((i:Int) + 1)).toNat < len - ((i:Int)).toNat
   rw [hw]; simp; omega
 ·refine T.condF (by show Value.bool _ = _; simp; omega) (T.exit ?_)
  simp only [nx,bk,if_true]
  exact hQ _ _ (g1.same hFe (fun s hs => by
    simp only [upd]
    rw [Zc (show s ≠ 105 by omega),Zc (show s ≠ 104 by omega),Zc (show s ≠ 103 by omega),Zc (show s ≠ 102 by omega)]
    rfl)) g5
theorem Zp7 {Q:Exit → En → World → Prop} {Fe:List (Nat × Value)} (hFe:∀ p ∈ Fe,p.1 < 16) {cc n:Nat} {E:List Int} (hn:E.length = n) (hc:n < 1073741824) {w0:World} (hm:w0.heap[cc]? = some (.cells (E.map (Jw .u8) ++ Jd 4 (Jw .u8 0)).toArray 5 (0,0))) {e:En} {w:World} (hat:At Fe e) (h16:e 16 = .slice (some ⟨cc,0,none⟩) (n + 4) (n + 4)) (h17:e 17 = .int .i64 (n:Int)) (hk:Keep w0 w)
  (hQ:∀ e' w',At Fe e' → Keep w0 w' → Q .normal e' w'):T Tryd.prog 173 Zqp Q e w:=by
 have hz:∀ k,n ≤ k → k < n + 4 → (E.map (Jw .u8) ++ Jd 4 (Jw .u8 0))[k]? = some (.int .u8 0):=fun k h1 h2 => by
  rw [List.getElem?_append_right (by simp; omega),List.getElem?_replicate,if_pos (by simp; omega)]
 refine T.block (T.loop (fun e w => ∃ k:Nat,At Fe e ∧ e 16 = .slice (some ⟨cc,0,none⟩) (n + 4) (n + 4) ∧ e 17 = .int .i64 (k:Int) ∧ n ≤ k ∧ k ≤ n + 4 ∧ Keep w0 w) (fun e _ => n + 4 - iv (e 17)) ⟨n,hat,h16,h17,Nat.le_refl _,by omega,hk⟩ ?_)
 rintro e w ⟨k,g1,g3,g4,g5,g5',g6⟩
 refine T.seq (T.seq (T.region (L.val 117 (Zi (x:=.tmp 17) (.inl rfl) g4) (L.val 118 (Zi (x:=.tmp 16) (.inl rfl) (v:=.slice (some ⟨cc,0,none⟩) (n + 4) (n + 4)) (by exact g3)) (L.val 119 (Zbe (x:=.tmp 118) rfl rfl (el:=5) (by kernel_rfl))
  (L.val 120 (WV (x:=.tmp 117) (y:=.tmp 119) rfl rfl rfl rfl (v:=.bool (decide ((k:Int) < ((n + 4:Nat):Int)))) rfl) (L.nil ?_)))))))
 by_cases hlt:k < n + 4
 ·refine T.condT (by show Value.bool _ = _; simp; omega) (T.skip ?_)
  refine T.seq (T.block (T.seq (T.region (L.val 123 (Zi (x:=.tmp 16) (.inl rfl) (v:=.slice (some ⟨cc,0,none⟩) (n + 4) (n + 4)) (by exact g3)) (L.val 124 (Zi (x:=.tmp 17) (.inl rfl) (v:=.int .i64 (k:Int)) (by exact g4))
   (L.val 125 (WE (x:=.tmp 123) (y:=.tmp 124) (e':=5) (t:=.int .u8) (b:=cc) (off:=0) (len:=n + 4) (cap:=n + 4) (i:=(k:Int)) rfl (by kernel_rfl) rfl rfl (by omega) (by omega) (off':=k) (by simp [Ty.size]))
   (L.val 126 (KU (x:=.tmp 125) (v:=.int .u8 0) rfl rfl ((g6.old cc (ZJ hm)).trans hm) (dd:=.int .u8) (by kernel_rfl) rfl (hz k g5 hlt))
   (L.val 127 (WV (x:=.tmp 126) (y:=.const (.int .u8 0)) rfl rfl rfl rfl (v:=.bool false) rfl) (L.nil ?_)))))))))
  refine T.condF rfl (T.skip ?_)
  refine T.region (L.val 121 (Zi (x:=.tmp 17) (.inl rfl) (v:=.int .i64 (k:Int)) (by exact g4)) (L.val 122 (WV (x:=.tmp 121) rfl rfl rfl rfl (v:=.int .i64 (Jy.wrap ((k:Int) + 1))) rfl) (L.val 17 (Zi (x:=.tmp 122) (.inr rfl) rfl) (L.nil ?_))))
  have hw:=YD (k:=k) (by omega)
  refine ⟨⟨k + 1,?_,by exact g3,by rw [hw]; rfl,by omega,by omega,g6⟩,?_⟩
  ·exact g1.same hFe (fun s hs => by
    simp only [upd]
    rw [Zc (show s ≠ 17 by omega),Zc (show s ≠ 122 by omega),Zc (show s ≠ 121 by omega),Zc (show s ≠ 127 by omega),Zc (show s ≠ 126 by omega),Zc (show s ≠ 125 by omega),Zc (show s ≠ 124 by omega),Zc (show s ≠ 123 by omega),Zc (show s ≠ 120 by omega),Zc (show s ≠ 119 by omega),Zc (show s ≠ 118 by omega),Zc (show s ≠ 117 by omega)]
    rfl)
  ·rw [g4]
   show n + 4 - (Jy.wrap ((k:Int) + 1)).toNat < n + 4 - ((k:Int)).toNat
   rw [hw]; simp; omega
 ·refine T.condF (by show Value.bool _ = _; simp; omega) (T.exit ?_)
  simp only [nx,bk,if_true]
  exact hQ _ _ (g1.same hFe (fun s hs => by
    simp only [upd]
    rw [Zc (show s ≠ 120 by omega),Zc (show s ≠ 119 by omega),Zc (show s ≠ 118 by omega),Zc (show s ≠ 117 by omega)]
    rfl)) g6
end Go.Sh
