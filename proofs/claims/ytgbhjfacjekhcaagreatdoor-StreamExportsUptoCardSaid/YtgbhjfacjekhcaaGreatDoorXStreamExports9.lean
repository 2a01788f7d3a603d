/-
  What the row needs, part 9.
-/
import Derived.Test.YtgbhjfacjekhcaaGreatDoorXStreamExports8
import Derived.Test.YtgbhjfacjekhcaaGreatDoorProg
set_option linter.unusedSimpArgs false
set_option linter.unusedVariables false
set_option linter.unusedSectionVars false
open BitVec renaming ofInt→UH
open Bool renaming and_eq_true_iff→UV
open ByteArray renaming mk→UJ,size→UM,extract→UW
open Go.FloatKind renaming f64→Je
open Int renaming ofNat→UD,fdiv→UP,tdiv→UQ
open Go.IntKind renaming i64→Jx,u64→UI,u8→UL
open List renaming length→UK,drop→UN,take→UO,getD→US,replicate→Jd,map→UT
open Nat renaming beq→Ja
open UInt8 renaming ofNat→UU
open Go.Value renaming slice→V4,string→UR,int→Jv
namespace Go.Sh
open Go Go.Proofs
def deBruijnT:List Int:=[0,1,56,2,57,49,28,3,61,58,42,50,38,29,17,4,62,47,59,36,45,43,51,22,53,39,33,30,24,18,12,5,63,55,48,27,60,41,37,16,46,35,44,21,52,32,23,11,54,26,40,15,34,20,31,10,25,14,19,9,13,8,7,6]
instance frameGl:Gl:=⟨fun g => bif Ja g 4 then (.u8,deBruijnT) else (.u8,[])⟩
abbrev ZmA:Ty:=.pair (.int .i64) (.pair (.int .i64) (.pair (.int .i64) .unit))
abbrev Zmb:Ty:=.pair (.int .i64) (.pair (.sl (.sl (.int .i64))) .unit)
abbrev ZUW:Ty:=.pair (.sl (.int .i64)) (.pair (.sl (.int .i64)) .unit)
abbrev Zd7:Ty:=.pair (.sl (.int .i64)) (.pair (.int .i64) .unit)
abbrev ZxQ:Ty:=.pair (.int .i64) (.pair (.int .i64) (.pair (.int .i64) (.pair (.sl (.int .i64)) (.pair Zd7 (.pair (.sl (.int .i64)) (.pair (.int .i64) .unit))))))
abbrev ZT5:Ty:=.pair (.int .i64) (.pair .str (.pair (.int .i64) .unit))
abbrev ZQD:Ty:=.pair (.int .i64) (.pair (.int .i64) (.pair (.int .i64) .unit))
abbrev ZXu:Ty:=.pair (.int .i64) (.pair (.int .i64) (.pair (.sl ZQD) (.pair (.int .i64) .unit)))
theorem Zic:Tryz.prog.follows .mixedOrders = true:=by kernel_rfl
abbrev Zg (v:Int):AV:=AV.val (PV.v (Jv Jx v))
abbrev We (v:List Int):AV:=AV.val (PV.sl (Ty.int Jx) v)
abbrev avB (v:Bool):AV:=AV.val (PV.v (Value.bool v))
noncomputable abbrev cdX (f:Func):Code:=f.body.getD .skip
noncomputable def cxX (k:Nat) (l:List (Nat × Callee)) (live:Nat → List Nat:=fun _ => []):Ctx:={ P:=Tryz.prog,Φ:=phi l,k:=k,live:=live }
def nA:Nat → Ann:=fun _ => ⟨[],[]⟩
noncomputable abbrev ZJ0 (C:Ctx) (A:Nat → Ann) (fn:Func) (pk:List Kd) (rk:Kd) (x:Kd.dens pk):=ZDV C A fn.ntmps (cdX fn) fn.results.toList pk rk (Wn pk x) (ZKN pk rk)
noncomputable abbrev lvX (C:Ctx) (fn:Func) (pk:List Kd) (rk:Kd) (a:List AV) (b:List (List Nat)):=Y2 C fn.results.toList pk a b rk (ZKN pk rk)
noncomputable def ZU9 (fn:Func):Bool:=fn.body.isSome && (!(fn.name == "runtime.NumGoroutine") && XR Tryz.prog fn.ntmps (cdX fn))
abbrev QG (l:List AV):RS:=RS.live (Res.box l)
abbrev rsA (v:List Int) (b:Bool):RS:=RS.live (Res.arr (Ty.int Jx) v b)
abbrev ZA (k:Nat):={ p:Nat × Callee // Ctr Tryz.prog k p.1 p.2 }
noncomputable def cxP (k:Nat) (l:List (ZA k)) (live:Nat → List Nat):Ctx:={ P:=Tryz.prog,Φ:=phi (l.map Subtype.val),k:=k,live:=live }
def nL:Nat → List Nat:=fun _ => []
theorem ZYO (k:Nat) {l:List (ZA k)} {live:Nat → List Nat} {A:Nat → Ann} {f:Nat} {fn:Func} {pk:List Kd} {rk:Kd} {F:Nat → Kd.dens pk → Option (Ans pk rk)}
  (h:∀ x,ZJ0 (cxP k l live) A fn pk rk x = F k x) (hf:Tryz.prog.funcs[f]? = some fn) (hq:ZU9 fn = true):Ctr Tryz.prog k f (mk pk rk F) :=
 have hq1:(fn.body.isSome && (!(fn.name == "runtime.NumGoroutine") && XR Tryz.prog fn.ntmps (cdX fn))) = true:=hq
 have hq2:=UV.1 hq1
 have hq3:=UV.1 hq2.2
 have hb:fn.body = some (cdX fn):=by
  cases e:fn.body with
  | none => rw [e] at hq2; exact absurd hq2.1 (by simp)
  | some c => show some c = some (fn.body.getD .skip); rw [e]; rfl
 ZTz (C:=cxP k l live) (ZxE (fun p hp => by obtain ⟨q,_,rfl⟩:=List.mem_map.1 hp; exact q.2)) Zic hf hb (by simpa using hq3.1) hq3.2 (fun x y e => (h x).trans e)
noncomputable def Zx (f:Nat) (fn:Func) {k:Nat} (l:List (ZA k)) (pk:List Kd) (rk:Kd) (F:Nat → Kd.dens pk → Option (Ans pk rk)) (A:Nat → Ann:=nA) (live:Nat → List Nat:=nL)
  (h:∀ x,ZJ0 (cxP k l live) A fn pk rk x = F k x:=by intro x; kernel_rfl) (hf:Tryz.prog.funcs[f]? = some fn:=by kernel_rfl) (hq:ZU9 fn = true:=by kernel_rfl):ZA k:=⟨(f,mk pk rk F),ZYO k h hf hq⟩
noncomputable def XZ (f:Nat) (fn:Func) {k:Nat} (l:(k:Nat) → List (ZA k)) (pk:List Kd) (rk:Kd) (A:Nat → Ann:=nA) (live:Nat → List Nat:=nL)
  (hf:Tryz.prog.funcs[f]? = some fn:=by kernel_rfl) (hq:ZU9 fn = true:=by kernel_rfl):ZA k:=⟨(f,mk pk rk fun k => ZJ0 (cxP k (l k) live) A fn pk rk),ZYO k (fun _ => rfl) hf hq⟩
noncomputable abbrev Qj {k:Nat} {V:Type} (l:List (ZA k)) (fn:Func) (pk:List Kd) (rk:Kd) (p ns:List Nat) (n:Nat) (S:V → St) (A:Nat → Ann:=nA) (live:Nat → List Nat:=nL) (a:List AV:=[]) (b:List (List Nat):=[]) (q:List Nat:=[]) (v:V):Option (Ans pk rk) :=
 ZXh (cxP k l live) A q p ns (cdX fn) (lvX (cxP k l live) fn pk rk a b) n (S v)
theorem ZG {V R:Type} {L:Nat → V → Option R} {step:(V → Option R) → V → Option R} (h:∀ n v,L (n + 1) v = step (L n) v:=by intro n v; kernel_rfl) (h0:∀ v,L 0 v = none:=by intro v; kernel_rfl):∀ n,L n = Ze step n:=ZAz h0 h
abbrev ZLb:List Kd:=[.view ZmA]
abbrev Zv:Kd:=.view (.int .i64)
def ZeS (k:Nat):(Int × Int × Int × Unit) × Unit → Option (Int × Unit)
 | ((a0,a1,a2,()),()) => bif decide (a0 < 1) then some (2,()) else bif decide ((2:Int) < a0) then some (2,()) else bif decide (a1 < 4) then some (2,()) else bif decide ((24:Int) < a1) then some (2,()) else bif decide (a2 < 1) then some (2,()) else bif decide ((655350:Int) < a2) then some (2,()) else some (0,())
def ZyD (k:Nat):=ZeS k
noncomputable def ZEA (k:Nat):ZA k:=Zx 36 Tryz.f36 [] ZLb Zv ZyD
abbrev ZaM:List Kd:=[.view ZmA,.view Zmb]
noncomputable def ZFR (k:Nat):List (ZA k):=[ZEA k]
def ZFO:Nat → Ann:=fun id => bif Ja id 17 then ⟨[68,69,67,2,63,62,61],[]⟩ else bif Ja id 14 then ⟨[62,63,61,2],[]⟩ else bif Ja id 8 then ⟨[42,43,41,6,3,2],[]⟩ else ⟨[],[]⟩
abbrev ZNB:=Int × Int × List Int × Int × Int × List (List Int) × Int × Int × Int
abbrev Zwn:=ZNB → Option (Int × Unit)
abbrev ZNA:=Int × Int × List (List Int) × Int × Int × Int
abbrev ZlV:=ZNA → Option (Int × Unit)
abbrev ZNz:=Int × Int × List (List Int) × Int × Int × List (List Int) × Int × Int × Int
abbrev Zwm:=ZNz → Option (Int × Unit)
def ZWp:ZNB → St
 | (v0,v1,v2,v3,v4,v5,v6,v7,v8) => St.mk (Zk [(68,Zg v0),(69,Zg v1),(67,We v2),(2,AV.bx 8192 0),(63,Zg v3),(62,Zg v4),(61,AV.val (PV.sl (Ty.int Jx).sl v5))]) (Zj [(8192,QG [Zg v6,Zg v7,Zg v8])])
def Zfe (k:Nat) (L2:ZlV) (L3:Zwn):Zwn
 | (v0,v1,v2,v3,v4,v5,v6,v7,v8) => bif decide (v1 < v0) then bif decide (0 ≤ v1 ∧ v1 < UD v2.length) then bif decide (0 ≤ Jx.wrap (v7 - 1)) then bif UP (v2.getD v1.toNat 0) ((2:Int) ^ min (Jx.wrap (v7 - 1)).toNat 64) != (0:Int) then bif UP (v2.getD v1.toNat 0) ((2:Int) ^ min (Jx.wrap (v7 - 1)).toNat 64) != (-1:Int) then some (12,()) else L3 (v0,Jx.wrap (v1 + 1),v2,v3,v4,v5,v6,v7,v8) else L3 (v0,Jx.wrap (v1 + 1),v2,v3,v4,v5,v6,v7,v8) else none else none else L2 (v4,Jx.wrap (v3 + 1),v5,v6,v7,v8)
def ZqC (k:Nat) (L2:ZlV):Zwn:=Ze (fun L3 => Zfe k L2 L3) k
noncomputable def ZFQ (k:Nat) (n2:Nat) (n:Nat):=Qj (ZFR k) Tryz.f64 ZaM Zv [1,1,1,1,1,0,1,0,0,1,1,0,0,1,1,0] [n2] n ZWp (A:=ZFO)
def ZWo:ZNA → St
 | (v0,v1,v2,v3,v4,v5) => St.mk (Zk [(62,Zg v0),(63,Zg v1),(61,AV.val (PV.sl (Ty.int Jx).sl v2)),(2,AV.bx 8192 0)]) (Zj [(8192,QG [Zg v3,Zg v4,Zg v5])])
def ZcJ (k:Nat) (L3:Zwn) (L2:ZlV):ZlV
 | (v0,v1,v2,v3,v4,v5) => bif decide (v1 < v0) then bif decide (0 ≤ v1 ∧ v1 < UD v2.length) then L3 (UD (UK (v2.getD v1.toNat [])),(0:Int),v2.getD v1.toNat [],v1,v0,v2,v3,v4,v5) else none else some (0,())
def Zfd (k:Nat):ZlV:=Ze (fun L2 => ZcJ k (ZqC k L2) L2) k
noncomputable def ZoM (k:Nat) (n:Nat):=Qj (ZFR k) Tryz.f64 ZaM Zv [1,1,1,1,1,0,1,0] [] n ZWo (A:=ZFO)
def ZWn:ZNz → St
 | (v0,v1,v2,v3,v4,v5,v6,v7,v8) => St.mk (Zk [(42,Zg v0),(43,Zg v1),(41,AV.val (PV.sl (Ty.int Jx).sl v2)),(6,Zg v3),(3,AV.bx 8192 0),(2,AV.bx 8193 0)]) (Zj [(8192,QG [Zg v4,AV.val (PV.sl (Ty.int Jx).sl v5)]),(8193,QG [Zg v6,Zg v7,Zg v8])])
def ZcI (k:Nat) (L2:ZlV) (L1:Zwm):Zwm
 | (v0,v1,v2,v3,v4,v5,v6,v7,v8) => bif decide (v1 < v0) then bif decide (0 ≤ v1 ∧ v1 < UD v2.length) then bif UD (UK (v2.getD v1.toNat [])) != v3 then some (1,()) else bif decide (v3 < 1) then some (1,()) else bif decide ((512:Int) < v3) then some (1,()) else L1 (v0,Jx.wrap (v1 + 1),v2,v3,v4,v5,v6,v7,v8) else none else L2 (UD v5.length,(0:Int),v5,v6,v7,v8)
def ZqB (k:Nat):Zwm:=Ze (fun L1 => ZcI k (Zfd k) L1) k
noncomputable def ZFP (k:Nat) (n:Nat):=Qj (ZFR k) Tryz.f64 ZaM Zv [1,1,1,1,0,1,0] [] n ZWn (A:=ZFO)
def ZjX (k:Nat) (L1:Zwm):(Int × Int × Int × Unit) × (Int × List (List Int) × Unit) × Unit → Option (Int × Unit)
 | ((a0,a1,a2,()),(a3,a4,()),()) => (ZyD k ((a0,a1,a2,()),())).bind fun y => bif y.1 != 0 then some (y.1,()) else bif decide (a3 < 0) then some (1,()) else bif decide ((2147483647:Int) < a3) then some (1,()) else bif UD a4.length != a0 then some (1,()) else bif decide ((0:Int) ≤ 0 ∧ (0:Int) < UD a4.length) then L1 (UD a4.length,(0:Int),a4,UD (UK (a4.getD 0 [])),a3,a4,a0,a1,a2) else none
def ZNy (k:Nat):=ZjX k (ZqB k)
theorem ZNE (k:Nat) (n2:Nat):∀ n,ZFQ k n2 n = Ze (fun L3 => Zfe k (ZoM k n2) L3) n:=ZG
theorem ZND (k:Nat):∀ n,ZoM k n = Ze (fun L2 => ZcJ k (ZqC k L2) L2) n:=ZG (fun n v => by rw [show (ZqC k (ZoM k n)) = ZFQ k n k from (ZNE k n k).symm]; kernel_rfl)
theorem ZNC (k:Nat):∀ n,ZFP k n = Ze (fun L1 => ZcI k (Zfd k) L1) n:=ZG (fun n v => by rw [show (Zfd k) = ZoM k k from (ZND k k).symm]; kernel_rfl)
set_option maxHeartbeats 1000000 in
noncomputable def ZT7 (k:Nat):ZA k:=Zx 64 Tryz.f64 (ZFR k) ZaM Zv ZNy (A:=ZFO) (h:=fun x => by show _ = ZjX k (ZqB k) x; rw [show ZqB k = ZFP k k from (ZNC k k).symm]; kernel_rfl)
abbrev ZDr:List Kd:=[.view (.sl (.int .i64)),.view (.sl (.int .i64))]
abbrev ZDs:Kd:=.tup [.view (.sl (.cx .f64)),.view (.int .i64)]
noncomputable def ZUp (k:Nat):List (ZA k):=[]
def ZUn:Nat → Ann:=fun id => bif Ja id 7 then ⟨[21,22,20,1,6],[.slot 6 ((Ty.cx Je))]⟩ else ⟨[],[]⟩
abbrev ZOJ:=Int × Int × List Int × List Int × List (Nat × Nat)
abbrev ZwN:=ZOJ → Option ((List (Nat × Nat) × Int × Unit) × Unit)
def ZWL:ZOJ → St
 | (v0,v1,v2,v3,v4) => St.mk (Zk [(21,Zg v0),(22,Zg v1),(20,We v2),(1,We v3),(6,AV.own 8192)]) (Zj [(8192,RS.live (Res.arr (Ty.cx Je) v4 false))])
def Zfn (k:Nat) (L1:ZwN):ZwN
 | (v0,v1,v2,v3,v4) => bif decide (v1 < v0) then bif decide (0 ≤ v1 ∧ v1 < UD v2.length) then bif decide (0 ≤ v1 ∧ v1 < UD v3.length) then bif decide (v2.getD v1.toNat 0 < (-16777216:Int)) then some (([],12,()),()) else bif decide ((16777216:Int) < v2.getD v1.toNat 0) then some (([],12,()),()) else bif decide (v3.getD v1.toNat 0 < (-16777216:Int)) then some (([],12,()),()) else bif decide ((16777216:Int) < v3.getD v1.toNat 0) then some (([],12,()),()) else bif decide (v4.length + [(Je.nearest (v2.getD v1.toNat 0),Je.nearest (v3.getD v1.toNat 0))].length < 2147483648) then L1 (v0,Jx.wrap (v1 + 1),v2,v3,v4 ++ [(Je.nearest (v2.getD v1.toNat 0),Je.nearest (v3.getD v1.toNat 0))]) else none else none else none else some ((v4,0,()),())
def ZwO (k:Nat):ZwN:=Ze (fun L1 => Zfn k L1) k
noncomputable def ZGb (k:Nat) (n:Nat):=Qj (ZUp k) Tryz.f129 ZDr ZDs [1,1,1,0,1,0] [] n ZWL (A:=ZUn)
def Zj9 (k:Nat) (L1:ZwN):List Int × List Int × Unit → Option ((List (Nat × Nat) × Int × Unit) × Unit)
 | (a0,a1,()) => bif UD a0.length != UD a1.length then some (([],1,()),()) else bif decide ((8192:Int) < UD a0.length) then some (([],14,()),()) else L1 (UD a0.length,(0:Int),a0,a1,[])
def ZOI (k:Nat):=Zj9 k (ZwO k)
theorem ZOK (k:Nat):∀ n,ZGb k n = Ze (fun L1 => Zfn k L1) n:=ZG
noncomputable def ZUo (k:Nat):ZA k:=Zx 129 Tryz.f129 (ZUp k) ZDr ZDs ZOI (A:=ZUn) (h:=fun x => by show _ = Zj9 k (ZwO k) x; rw [show ZwO k = ZGb k k from (ZOK k k).symm]; kernel_rfl)
abbrev ZY:List Kd:=[.view (.int .i64)]
abbrev Qp:Kd:=.view .bool
def ZP2 (k:Nat):Int × Unit → Option (Bool × Unit)
 | (a0,()) => bif a0 == 0 then some (true,()) else bif decide (8 ≤ a0) then some (decide (a0 ≤ 10),()) else some (false,())
def ZP1 (k:Nat):=ZP2 k
noncomputable def ZUN (k:Nat):ZA k:=Zx 128 Tryz.f128 [] ZY Qp ZP1
abbrev Zdt:List Kd:=[.view (.fl .f64)]
abbrev Zdu:Kd:=.view (.fl .f64)
def Zlv (k:Nat):Nat × Unit → Option (Nat × Unit)
 | (a0,()) => some ((UI.wrap (UD (UH 64 (UD a0) &&& ~~~UH 64 (9223372036854775808:Int)).toNat)).toNat,())
def Zlu (k:Nat):=Zlv k
noncomputable def ZBG (k:Nat):ZA k:=Zx 225 Tryz.f225 [] Zdt Zdu Zlu
abbrev ZSj:List Kd:=[.view (.fl .f64),.view (.fl .f64)]
def ZJh (k:Nat):Nat × Nat × Unit → Option (Nat × Unit)
 | (a0,a1,()) => some ((UI.wrap (UD (UH 64 (UI.wrap (UD (UH 64 (UD a0) &&& ~~~UH 64 (9223372036854775808:Int)).toNat)) ||| UH 64 (UI.wrap (UD (UH 64 (UD a1) &&& UH 64 (9223372036854775808:Int)).toNat))).toNat)).toNat,())
def ZB8 (k:Nat):=ZJh k
noncomputable def ZMw (k:Nat):ZA k:=Zx 269 Tryz.f269 [] ZSj Zdu ZB8
def ZI2 (k:Nat):Nat × Unit → Option (Nat × Unit)
 | (a0,()) => (Zlu k (a0,())).bind fun y => bif Je.format.order y.1 (4607182418800017408:Nat) == some Ordering.lt then (ZB8 k (0,a0,())).bind fun y => some (y.1,()) else bif decide (UI.wrap (UI.wrap (UD (UH 64 ((UD a0).fdiv (4503599627370496:Int)) &&& UH 64 (2047:Int)).toNat) - 1023) < (52:Int)) then bif decide (0 ≤ UI.wrap ((52:Int) - UI.wrap (UI.wrap (UD (UH 64 ((UD a0).fdiv (4503599627370496:Int)) &&& UH 64 (2047:Int)).toNat) - 1023))) then some ((UI.wrap (UD (UH 64 (UD a0) &&& ~~~UH 64 (UI.wrap (UI.wrap ((1:Int) * (2:Int) ^ min (UI.wrap ((52:Int) - UI.wrap (UI.wrap (UD (UH 64 ((UD a0).fdiv (4503599627370496:Int)) &&& UH 64 (2047:Int)).toNat) - 1023))).toNat 64) - (1:Int)))).toNat)).toNat,()) else none else some ((UD a0).toNat,())
def ZV2 (k:Nat):=ZI2 k
set_option maxHeartbeats 1000000 in
noncomputable def ZV3 (k:Nat):ZA k:=Zx 259 Tryz.f259 [ZBG k,ZMw k] Zdt Zdu ZV2
def Zls (k:Nat):Nat × Unit → Option (Nat × Unit)
 | (a0,()) => (Wy Ieee.Toward.zero a0).bind fun y => some (y,())
def Zlr (k:Nat):=Zls k
noncomputable def ZLD (k:Nat):ZA k:=Zx 223 Tryz.f223 [ZV3 k] Zdt Zdu Zlr
abbrev ZRV:List Kd:=[.view (.fl .f64),.view (.int .i64)]
def Zlt (k:Nat):Nat × Int × Unit → Option (Bool × Unit)
 | (a0,a1,()) => bif a1 == 0 then (Zlu k (a0,())).bind fun y => some (Je.format.order y.1 (9218868437227405311:Nat) == some Ordering.gt,()) else bif decide (a1 < 0) then some (Je.format.order (a0 ^^^ (9223372036854775808:Nat)) (9218868437227405311:Nat) == some Ordering.gt,()) else some (Je.format.order a0 (9218868437227405311:Nat) == some Ordering.gt,())
def Zvx (k:Nat):=Zlt k
noncomputable def ZLE (k:Nat):ZA k:=Zx 224 Tryz.f224 [ZBG k] ZRV Qp Zvx
abbrev Zdp:List Kd:=[.view (.sl (.cx .f64))]
noncomputable def Zu5 (k:Nat):List (ZA k):=[ZLD k,ZLE k,ZBG k]
def Zu4:Nat → Ann:=fun id => bif Ja id 14 then ⟨[37,38,36],[]⟩ else bif Ja id 7 then ⟨[23,22,14,13,12,0],[]⟩ else bif Ja id 4 then ⟨[13,14,12,0],[]⟩ else ⟨[],[]⟩
abbrev ZEo:=Int × Nat × Nat × Int × Int × List (Nat × Nat) × List (Nat × Nat)
abbrev Znq:=ZEo → Option (Int × Unit)
abbrev ZEp:=Int × Int × List (Nat × Nat)
abbrev Znr:=ZEp → Option (Int × Unit)
abbrev ZEn:=Int × Int × List (Nat × Nat) × List (Nat × Nat)
abbrev Zgl:=ZEn → Option (Int × Unit)
def ZRp:ZEo → St
 | (v0,v1,v2,v3,v4,v5,v6) => St.mk (Zk [(23,Zg v0),(22,AV.agg [AV.val (PV.v (Value.float Je v1)),AV.val (PV.v (Value.float Je v2))]),(14,Zg v3),(13,Zg v4),(12,AV.val (PV.sl (Ty.cx Je) v5)),(0,AV.val (PV.sl (Ty.cx Je) v6))]) (Zj [])
def Zb6 (k:Nat) (L1:Zgl) (L2:Znq):Znq
 | (v0,v1,v2,v3,v4,v5,v6) => bif decide (v0 < 2) then bif decide (0 ≤ v0 ∧ v0 < 2) then (Zlr k ([v1,v2].getD v0.toNat 0,())).bind fun y => bif Je.format.order y.1 ([v1,v2].getD v0.toNat 0) != some Ordering.eq then some (2,()) else (Zvx k ([v1,v2].getD v0.toNat 0,0,())).bind fun y => bif y.1 then some (2,()) else L2 (Jx.wrap (v0 + 1),v1,v2,v3,v4,v5,v6) else none else L1 (v4,Jx.wrap (v3 + 1),v5,v6)
def ZiD (k:Nat) (L1:Zgl):Znq:=Ze (fun L2 => Zb6 k L1 L2) k
noncomputable def Zyq (k:Nat) (n1:Nat) (n:Nat):=Qj (Zu5 k) Tryz.f174 Zdp Zv [1,1,0,1,0,0,1,1,0,0,1,1,0] [n1] n ZRp (A:=Zu4)
def ZRq:ZEp → St
 | (v0,v1,v2) => St.mk (Zk [(37,Zg v0),(38,Zg v1),(36,AV.val (PV.sl (Ty.cx Je) v2))]) (Zj [])
def Zb7 (k:Nat) (L3:Znr):Znr
 | (v0,v1,v2) => bif decide (v1 < v0) then bif decide (0 ≤ v1 ∧ v1 < UD v2.length) then (Zlu k ((v2.getD v1.toNat ((0:Nat),(0:Nat))).1,())).bind fun y => (Zlu k ((v2.getD v1.toNat ((0:Nat),(0:Nat))).2,())).bind fun y_1 => (ZAC Je y.1 y_1.1).bind fun y => bif Je.format.order y (4715268809856909312:Nat) == some Ordering.gt then some (12,()) else L3 (v0,Jx.wrap (v1 + 1),v2) else none else some (0,())
def ZiE (k:Nat):Znr:=Ze (fun L3 => Zb7 k L3) k
noncomputable def Zyr (k:Nat) (n:Nat):=Qj (Zu5 k) Tryz.f174 Zdp Zv [1,1,1,0,1,0] [] n ZRq (A:=Zu4)
def ZRo:ZEn → St
 | (v0,v1,v2,v3) => St.mk (Zk [(13,Zg v0),(14,Zg v1),(12,AV.val (PV.sl (Ty.cx Je) v2)),(0,AV.val (PV.sl (Ty.cx Je) v3))]) (Zj [])
def Zb5 (k:Nat) (L2:Znq) (L3:Znr) (L1:Zgl):Zgl
 | (v0,v1,v2,v3) => bif decide (v1 < v0) then bif decide (0 ≤ v1 ∧ v1 < UD v2.length) then L2 (0,(v2.getD v1.toNat ((0:Nat),(0:Nat))).1,(v2.getD v1.toNat ((0:Nat),(0:Nat))).2,v1,v0,v2,v3) else none else L3 (UD v3.length,(0:Int),v3)
def Zns (k:Nat):Zgl:=Ze (fun L1 => Zb5 k (ZiD k L1) (ZiE k) L1) k
noncomputable def ZiF (k:Nat) (n:Nat):=Qj (Zu5 k) Tryz.f174 Zdp Zv [1,1,0,1,0] [] n ZRo (A:=Zu4)
def Zgm (k:Nat) (L1:Zgl):List (Nat × Nat) × Unit → Option (Int × Unit)
 | (a0,()) => bif decide ((8192:Int) < UD a0.length) then some (14,()) else L1 (UD a0.length,(0:Int),a0,a0)
def ZBs (k:Nat):=Zgm k (Zns k)
theorem ZHE (k:Nat) (n1:Nat):∀ n,Zyq k n1 n = Ze (fun L2 => Zb6 k (ZiF k n1) L2) n:=ZG
theorem ZHF (k:Nat):∀ n,Zyr k n = Ze (fun L3 => Zb7 k L3) n:=ZG
theorem ZHD (k:Nat):∀ n,ZiF k n = Ze (fun L1 => Zb5 k (ZiD k L1) (ZiE k) L1) n:=ZG (fun n v => by rw [show (ZiD k (ZiF k n)) = Zyq k n k from (ZHE k n k).symm,show (ZiE k) = Zyr k k from (ZHF k k).symm]; kernel_rfl)
noncomputable def ZVd (k:Nat):ZA k:=Zx 174 Tryz.f174 (Zu5 k) Zdp Zv ZBs (A:=Zu4) (h:=fun x => by show _ = Zgm k (Zns k) x; rw [show Zns k = ZiF k k from (ZHD k k).symm]; kernel_rfl)
abbrev ZRr:List Kd:=[.view (.cx .f64)]
def Zlb (k:Nat):(Nat × Nat) × Unit → Option (Nat × Unit)
 | (a0,()) => (cMulBits a0.1 a0.2 (4607182418800017408:Nat) (4607182418800017408:Nat)).bind fun y => some (y.1,())
def Zpz (k:Nat):=Zlb k
noncomputable def ZVe (k:Nat):ZA k:=Zx 175 Tryz.f175 [] ZRr Zdu Zpz
def ZI4 (k:Nat):Nat × Unit → Option (Bool × Unit)
 | (a0,()) => some (Je.format.order a0 a0 != some Ordering.eq,())
def ZMs (k:Nat):=ZI4 k
noncomputable def ZV4 (k:Nat):ZA k:=Zx 262 Tryz.f262 [] Zdt Qp ZMs
abbrev ZSd:Kd:=.tup [.view (.fl .f64),.view (.fl .f64)]
def ZI5 (k:Nat):Nat × Unit → Option ((Nat × Nat × Unit) × Unit)
 | (a0,()) => (Zlr k (a0,())).bind fun y => (floatBits BinOp.sub Je a0 y.1).bind fun y_1 => (ZB8 k (y_1,a0,())).bind fun y_2 => some ((y.1,y_2.1,()),())
def ZB0 (k:Nat):=ZI5 k
noncomputable def ZV5 (k:Nat):ZA k:=Zx 263 Tryz.f263 [ZLD k,ZMw k] Zdt ZSd ZB0
def ZIl (k:Nat):Nat × Unit → Option (Nat × Unit)
 | (a0,()) => bif Je.format.order a0 (0:Nat) == some Ordering.eq then some (a0,()) else (ZMs k (a0,())).bind fun y => bif y.1 then some (a0,()) else (Zvx k (a0,0,())).bind fun y => bif y.1 then some (a0,()) else bif Je.format.order a0 (0:Nat) == some Ordering.lt then (ZB0 k (a0 ^^^ (9223372036854775808:Nat),())).bind fun y => bif Je.format.order y.1.2.1 (0:Nat) != some Ordering.eq then (floatBits BinOp.add Je y.1.1 (4607182418800017408:Nat)).bind fun y => some (y ^^^ (9223372036854775808:Nat),()) else some (y.1.1 ^^^ (9223372036854775808:Nat),()) else (ZB0 k (a0,())).bind fun y => some (y.1.1,())
def ZVF (k:Nat):=ZIl k
set_option maxHeartbeats 1000000 in
noncomputable def ZVG (k:Nat):ZA k:=Zx 227 Tryz.f227 [ZLE k,ZV4 k,ZV5 k] Zdt Zdu ZVF
def Zlc (k:Nat):Nat × Unit → Option (Nat × Unit)
 | (a0,()) => (Wy Ieee.Toward.down a0).bind fun y => some (y,())
def ZBu (k:Nat):=Zlc k
noncomputable def ZVf (k:Nat):ZA k:=Zx 176 Tryz.f176 [ZVG k] Zdt Zdu ZBu
abbrev ZOT:List Kd:=[.view (.sl (.cx .f64)),.view (.int .i64)]
abbrev ZDu:Kd:=.tup [.view (.sl (.int .i64)),.view (.sl (.int .i64)),.view (.int .i64)]
noncomputable def ZUt (k:Nat):List (ZA k):=[ZUN k,ZVd k,ZVe k,ZVf k]
def ZUs:Nat → Ann:=fun id => bif Ja id 8 then ⟨[23,24,22,1,8,9],[.slot 8 ((Ty.int Jx)),.slot 9 ((Ty.int Jx))]⟩ else ⟨[],[]⟩
abbrev ZOQ:=Int × Int × List (Nat × Nat) × Int × List Int × List Int
abbrev ZwQ:=ZOQ → Option ((List Int × List Int × Int × Unit) × Unit)
def ZWN:ZOQ → St
 | (v0,v1,v2,v3,v4,v5) => St.mk (Zk [(23,Zg v0),(24,Zg v1),(22,AV.val (PV.sl (Ty.cx Je) v2)),(1,Zg v3),(8,AV.own 8192),(9,AV.own 8193)]) (Zj [(8192,rsA v4 false),(8193,rsA v5 false)])
def Zfp (k:Nat) (L1:ZwQ):ZwQ
 | (v0,v1,v2,v3,v4,v5) => bif decide (v1 < v0) then bif decide (0 ≤ v1 ∧ v1 < UD v2.length) then bif v3 == 8 then (Zpz k (((v2.getD v1.toNat ((0:Nat),(0:Nat))).1,(v2.getD v1.toNat ((0:Nat),(0:Nat))).2),())).bind fun y => (floatToIntVal Je (v2.getD v1.toNat ((0:Nat),(0:Nat))).1 Jx).bind fun y_1 => bif decide (v4.length + [y_1].length < 2147483648) then (floatToIntVal Je y.1 Jx).bind fun y => bif decide (v5.length + [y].length < 2147483648) then L1 (v0,Jx.wrap (v1 + 1),v2,v3,v4 ++ [y_1],v5 ++ [y]) else none else none else bif v3 == 9 then (Zpz k (((v2.getD v1.toNat ((0:Nat),(0:Nat))).1,(v2.getD v1.toNat ((0:Nat),(0:Nat))).2),())).bind fun y => (floatToIntVal Je y.1 Jx).bind fun y => bif decide (v4.length + [y].length < 2147483648) then (floatToIntVal Je (v2.getD v1.toNat ((0:Nat),(0:Nat))).2 Jx).bind fun y_1 => bif decide (v5.length + [y_1].length < 2147483648) then L1 (v0,Jx.wrap (v1 + 1),v2,v3,v4 ++ [y],v5 ++ [y_1]) else none else none else bif v3 == 10 then (floatBits BinOp.add Je (v2.getD v1.toNat ((0:Nat),(0:Nat))).1 (v2.getD v1.toNat ((0:Nat),(0:Nat))).2).bind fun y => (floatBits BinOp.quo Je y (4611686018427387904:Nat)).bind fun y => (ZBu k (y,())).bind fun y => (Zpz k (((v2.getD v1.toNat ((0:Nat),(0:Nat))).1,(v2.getD v1.toNat ((0:Nat),(0:Nat))).2),())).bind fun y_1 => (floatToIntVal Je y.1 Jx).bind fun y => bif decide (v4.length + [y].length < 2147483648) then (floatToIntVal Je y_1.1 Jx).bind fun y_2 => bif decide (v5.length + [y_2].length < 2147483648) then L1 (v0,Jx.wrap (v1 + 1),v2,v3,v4 ++ [y],v5 ++ [y_2]) else none else none else (floatToIntVal Je (v2.getD v1.toNat ((0:Nat),(0:Nat))).1 Jx).bind fun y => bif decide (v4.length + [y].length < 2147483648) then (floatToIntVal Je (v2.getD v1.toNat ((0:Nat),(0:Nat))).2 Jx).bind fun y_1 => bif decide (v5.length + [y_1].length < 2147483648) then L1 (v0,Jx.wrap (v1 + 1),v2,v3,v4 ++ [y],v5 ++ [y_1]) else none else none else none else some ((v4,v5,0,()),())
def ZwR (k:Nat):ZwQ:=Ze (fun L1 => Zfp k L1) k
noncomputable def ZGe (k:Nat) (n:Nat):=Qj (ZUt k) Tryz.f130 ZOT ZDu [1,1,1,1,0,1,0] [] n ZWN (A:=ZUs)
def Zkb (k:Nat) (L1:ZwQ):List (Nat × Nat) × Int × Unit → Option ((List Int × List Int × Int × Unit) × Unit)
 | (a0,a1,()) => (ZP1 k (a1,())).bind fun y => bif !y.1 then some (([],[],1,()),()) else (ZBs k (a0,())).bind fun y => bif y.1 != 0 then some (([],[],y.1,()),()) else L1 (UD a0.length,(0:Int),a0,a1,[],[])
def ZGd (k:Nat):=Zkb k (ZwR k)
theorem ZOS (k:Nat):∀ n,ZGe k n = Ze (fun L1 => Zfp k L1) n:=ZG
noncomputable def ZOR (k:Nat):ZA k:=Zx 130 Tryz.f130 (ZUt k) ZOT ZDu ZGd (A:=ZUs) (h:=fun x => by show _ = Zkb k (ZwR k) x; rw [show ZwR k = ZGe k k from (ZOS k k).symm]; kernel_rfl)
abbrev XH:List Kd:=[.view (.sl (.int .i64))]
noncomputable def ZUP (k:Nat):List (ZA k):=[]
def ZUO:Nat → Ann:=fun id => bif Ja id 3 then ⟨[8,9,7,3,4],[]⟩ else ⟨[],[]⟩
abbrev Zl9:=Int × Int × List Int × Int × Int
abbrev Zxh:=Zl9 → Option (Int × Unit)
def ZXe:Zl9 → St
 | (v0,v1,v2,v3,v4) => St.mk (Zk [(8,Zg v0),(9,Zg v1),(7,We v2),(3,Zg v3),(4,Zg v4)]) (Zj [])
def ZfI (k:Nat) (L1:Zxh):Zxh
 | (v0,v1,v2,v3,v4) => bif decide (v1 < v0) then bif decide (0 ≤ v1 ∧ v1 < UD v2.length) then L1 (v0,Jx.wrap (v1 + 1),v2,Jx.wrap (v3 + if Jx.wrap (v2.getD v1.toNat 0 - v4) < Jx.wrap (v4 - v2.getD v1.toNat 0) then Jx.wrap (v4 - v2.getD v1.toNat 0) else Jx.wrap (v2.getD v1.toNat 0 - v4)),v2.getD v1.toNat 0) else none else some (v3,())
def Zxi (k:Nat):Zxh:=Ze (fun L1 => ZfI k L1) k
noncomputable def ZGH (k:Nat) (n:Nat):=Qj (ZUP k) Tryz.f191 XH Zv [1,1,0,1,0] [] n ZXe (A:=ZUO)
def Zko (k:Nat) (L1:Zxh):List Int × Unit → Option (Int × Unit)
 | (a0,()) => L1 (UD a0.length,(0:Int),a0,(0:Int),(0:Int))
def ZGG (k:Nat):=Zko k (Zxi k)
theorem ZP4 (k:Nat):∀ n,ZGH k n = Ze (fun L1 => ZfI k L1) n:=ZG
noncomputable def ZYH (k:Nat):ZA k:=Zx 191 Tryz.f191 (ZUP k) XH Zv ZGG (A:=ZUO) (h:=fun x => by show _ = Zko k (Zxi k) x; rw [show Zxi k = ZGH k k from (ZP4 k k).symm]; kernel_rfl)
abbrev Wg:Kd:=.tup [.view (.int .i64),.view (.int .i64)]
noncomputable def ZUr (k:Nat):List (ZA k):=[ZOR k,ZYH k]
def ZUq:Nat → Ann:=fun id => bif Ja id 3 then ⟨[13,12,0,5,4],[]⟩ else ⟨[],[]⟩
abbrev ZON:=Int × Int × Int × Int × Int × List (Nat × Nat) × Int × Int
abbrev ZwP:=ZON → Option ((Int × Int × Unit) × Unit)
def ZWM:ZON → St
 | (v0,v1,v2,v3,v4,v5,v6,v7) => St.mk (Zk [(13,Zg v0),(12,AV.agg [Zg v1,Zg v2,Zg v3,Zg v4]),(0,AV.val (PV.sl (Ty.cx Je) v5)),(5,Zg v6),(4,Zg v7)]) (Zj [])
def Zfo (k:Nat) (L1:ZwP):ZwP
 | (v0,v1,v2,v3,v4,v5,v6,v7) => bif decide (v0 < 4) then bif decide (0 ≤ v0 ∧ v0 < 4) then (ZGd k (v5,[v1,v2,v3,v4].getD v0.toNat (0:Int),())).bind fun y => bif y.1.2.2.1 != 0 then some ((0,y.1.2.2.1,()),()) else (ZGG k (y.1.1,())).bind fun y_1 => (ZGG k (y.1.2.1,())).bind fun y => bif decide (v6 < 0) then L1 (Jx.wrap (v0 + 1),v1,v2,v3,v4,v5,Jx.wrap (y_1.1 + y.1),[v1,v2,v3,v4].getD v0.toNat (0:Int)) else bif decide (Jx.wrap (y_1.1 + y.1) < v6) then L1 (Jx.wrap (v0 + 1),v1,v2,v3,v4,v5,Jx.wrap (y_1.1 + y.1),[v1,v2,v3,v4].getD v0.toNat (0:Int)) else L1 (Jx.wrap (v0 + 1),v1,v2,v3,v4,v5,v6,v7) else none else some ((v7,0,()),())
def ZDt (k:Nat):ZwP:=Ze (fun L1 => Zfo k L1) k
noncomputable def ZGc (k:Nat) (n:Nat):=Qj (ZUr k) Tryz.f147 Zdp Wg [1,1,0,1,0] [] n ZWM (A:=ZUq)
def Zz8 (k:Nat) (L1:ZwP):List (Nat × Nat) × Unit → Option ((Int × Int × Unit) × Unit)
 | (a0,()) => L1 (0,(0:Int),(8:Int),(9:Int),(10:Int),a0,(-1:Int),(0:Int))
def ZOM (k:Nat):=Zz8 k (ZDt k)
theorem ZOO (k:Nat):∀ n,ZGc k n = Ze (fun L1 => Zfo k L1) n:=ZG
noncomputable def ZYq (k:Nat):ZA k:=Zx 147 Tryz.f147 (ZUr k) Zdp Wg ZOM (A:=ZUq) (h:=fun x => by show _ = Zz8 k (ZDt k) x; rw [show ZDt k = ZGc k k from (ZOO k k).symm]; kernel_rfl)
abbrev ZWq:List Kd:=[.view Zmb]
abbrev ZWr:Kd:=.tup [.view (.sl (.sl (.int .i64))),.view (.int .i64),.view (.int .i64)]
def ZqD (k:Nat):(Int × List (List Int) × Unit) × Unit → Option ((List (List Int) × Int × Int × Unit) × Unit)
 | ((a0,a1,()),()) => bif UD a1.length == (1:Int) then some ((a1,0,0,()),()) else bif decide ((0:Int) ≤ 0 ∧ (0:Int) < UD a1.length) then bif decide ((0:Int) ≤ 1 ∧ (1:Int) < UD a1.length) then (ZOI k (a1.getD 0 [],a1.getD 1 [],())).bind fun y => bif y.1.2.1 != 0 then some (([],0,y.1.2.1,()),()) else (ZOM k (y.1.1,())).bind fun y_1 => bif y_1.1.2.1 != 0 then some (([],0,y_1.1.2.1,()),()) else (ZGd k (y.1.1,y_1.1.1,())).bind fun y => bif y_1.1.1 == 0 then some (([y.1.1,y.1.2.1],1,y.1.2.2.1,()),()) else some (([y.1.1,y.1.2.1],y_1.1.1,y.1.2.2.1,()),()) else none else none
def ZNG (k:Nat):=ZqD k
set_option maxHeartbeats 1000000 in
noncomputable def ZX3 (k:Nat):ZA k:=Zx 92 Tryz.f92 [ZUo k,ZYq k,ZOR k] ZWq ZWr ZNG
abbrev ZWs:List Kd:=[]
abbrev ZWt:Kd:=.box [.own (.int .u8) false,.view (.int .i64)]
def ZNI (k:Nat):Unit → Option ((List Int × Int × Unit) × Unit)
 | () => some (([],0,()),())
def Zt1 (k:Nat):=ZNI k
noncomputable def ZT8 (k:Nat):ZA k:=Zx 93 Tryz.f93 [] ZWs ZWt Zt1
def ZqS (k:Nat):Int × Unit → Option (Bool × Unit)
 | (a0,()) => bif decide (a0 < 0) then some (true,()) else some (decide ((32:Int) < a0),())
def ZAa (k:Nat):=ZqS k
noncomputable def ZOU (k:Nat):ZA k:=Zx 148 Tryz.f148 [] ZY Qp ZAa
abbrev Zu6:List Kd:=[.box [.own (.int .u8) false,.view (.int .i64)],.view (.int .i64)]
abbrev Yq:Kd:=.tup []
def Zld (k:Nat):(List Int × Int × Unit) × Int × Unit → Option (Unit × (List Int × Int × Unit) × Unit)
 | ((a0,a1,()),a2,()) => bif a1.tmod (8:Int) == 0 then bif decide (a0.length + (1:Nat) < (2147483648:Nat)) then bif decide (0 ≤ Jx.wrap (a1.tdiv (8:Int)) ∧ Jx.wrap (a1.tdiv (8:Int)) < UD (a0 ++ [(0:Int)]).length) then bif decide ((Jx.wrap (a1.tdiv (8:Int))).toNat < (a0 ++ [(0:Int)]).length) then bif decide (0 ≤ Jx.wrap ((7:Int) - a1.tmod (8:Int))) then bif decide (0 ≤ Jx.wrap (a1.tdiv (8:Int)) ∧ Jx.wrap (a1.tdiv (8:Int)) < UD (a0 ++ [(0:Int)]).length) then bif decide ((Jx.wrap (a1.tdiv (8:Int))).toNat < (a0 ++ [(0:Int)]).length) then some ((),((a0 ++ [(0:Int)]).set (Jx.wrap (a1.tdiv (8:Int))).toNat (UL.wrap (UD (UH 8 ((a0 ++ [(0:Int)]).getD (Jx.wrap (a1.tdiv (8:Int))).toNat 0) ||| UH 8 (UL.wrap (Jx.wrap (a2 * (2:Int) ^ min (Jx.wrap ((7:Int) - a1.tmod (8:Int))).toNat 64)))).toNat)),Jx.wrap (a1 + 1),()),()) else none else none else none else none else none else none else bif decide (0 ≤ Jx.wrap (a1.tdiv (8:Int)) ∧ Jx.wrap (a1.tdiv (8:Int)) < UD a0.length) then bif decide ((Jx.wrap (a1.tdiv (8:Int))).toNat < a0.length) then bif decide (0 ≤ Jx.wrap ((7:Int) - a1.tmod (8:Int))) then bif decide (0 ≤ Jx.wrap (a1.tdiv (8:Int)) ∧ Jx.wrap (a1.tdiv (8:Int)) < UD a0.length) then bif decide ((Jx.wrap (a1.tdiv (8:Int))).toNat < a0.length) then some ((),(a0.set (Jx.wrap (a1.tdiv (8:Int))).toNat (UL.wrap (UD (UH 8 (a0.getD (Jx.wrap (a1.tdiv (8:Int))).toNat 0) ||| UH 8 (UL.wrap (Jx.wrap (a2 * (2:Int) ^ min (Jx.wrap ((7:Int) - a1.tmod (8:Int))).toNat 64)))).toNat)),Jx.wrap (a1 + 1),()),()) else none else none else none else none else none
def ZpB (k:Nat):=Zld k
set_option maxHeartbeats 1000000 in
noncomputable def ZKU (k:Nat):ZA k:=Zx 192 Tryz.f192 [] Zu6 Yq ZpB
abbrev ZOW:List Kd:=[.box [.own (.int .u8) false,.view (.int .i64)],.view (.int .u64),.view (.int .i64)]
noncomputable def ZUw (k:Nat):List (ZA k):=[ZKU k]
def ZUu:Nat → Ann:=fun id => bif Ja id 1 then ⟨[6,0,1],[]⟩ else ⟨[],[]⟩
abbrev Zl0:=Int × Int × Int × List Int
abbrev ZwS:=Zl0 → Option (Unit × (List Int × Int × Unit) × Unit)
def ZWO:Zl0 → St
 | (v0,v1,v2,v3) => St.mk (Zk [(6,Zg v0),(0,AV.bx 0 0),(1,AV.val (PV.v (Jv UI v1)))]) (Zj [(0,QG [AV.own 8192,Zg v2]),(8192,RS.live (Res.arr (Ty.int UL) v3 false))])
def Zfq (k:Nat) (L1:ZwS):ZwS
 | (v0,v1,v2,v3) => bif decide (0 ≤ v0) then bif decide (0 ≤ v0) then (ZpB k ((v3,v2,()),Jx.wrap (UI.wrap (UD (UH 64 (v1.fdiv ((2:Int) ^ min v0.toNat 64)) &&& UH 64 (1:Int)).toNat)),())).bind fun y => L1 (Jx.wrap (v0 - 1),v1,y.2.1.2.1,y.2.1.1) else none else some ((),(v3,v2,()),())
def ZwT (k:Nat):ZwS:=Ze (fun L1 => Zfq k L1) k
noncomputable def ZGf (k:Nat) (n:Nat):=Qj (ZUw k) Tryz.f149 ZOW Yq [1,0] [] n ZWO (A:=ZUu) (a:=[AV.bx (nat_lit 0) (nat_lit 0)]) (b:=[[]]) (q:=[0])
def Zkc (k:Nat) (L1:ZwS):(List Int × Int × Unit) × Int × Int × Unit → Option (Unit × (List Int × Int × Unit) × Unit)
 | ((a0,a1,()),a2,a3,()) => L1 (Jx.wrap (a3 - 1),a2,a1,a0)
def Zhf (k:Nat):=Zkc k (ZwT k)
theorem ZOV (k:Nat):∀ n,ZGf k n = Ze (fun L1 => Zfq k L1) n:=ZG
noncomputable def ZUv (k:Nat):ZA k:=Zx 149 Tryz.f149 (ZUw k) ZOW Yq Zhf (A:=ZUu) (h:=fun x => by show _ = Zkc k (ZwT k) x; rw [show ZwT k = ZGf k k from (ZOV k k).symm]; kernel_rfl)
abbrev ZNJ:List Kd:=[.box [.own (.int .u8) false,.view (.int .i64)],.view (.int .i64),.view (.int .i64)]
def ZqF (k:Nat):(List Int × Int × Unit) × Int × Int × Unit → Option (Int × (List Int × Int × Unit) × Unit)
 | ((a0,a1,()),a2,a3,()) => (ZAa k (a3,())).bind fun y => bif y.1 then some (1,(a0,a1,()),()) else bif decide (a2 < 0) then some (12,(a0,a1,()),()) else bif decide (0 ≤ a3) then bif a2.fdiv ((2:Int) ^ min a3.toNat 64) != (0:Int) then some (12,(a0,a1,()),()) else (Zhf k ((a0,a1,()),UI.wrap a2,a3,())).bind fun y => some (0,(y.2.1.1,y.2.1.2.1,()),()) else none
def ZP (k:Nat):=ZqF k
noncomputable def ZqE (k:Nat):ZA k:=Zx 94 Tryz.f94 [ZOU k,ZUv k] ZNJ Zv ZP
def ZqT (k:Nat):Int × Unit → Option (Int × Unit)
 | (a0,()) => bif a0 == 1 then some (7,()) else some (Jx.wrap (Jx.wrap ((5:Int) * a0) + 1),())
def ZOX (k:Nat):=ZqT k
noncomputable def ZUx (k:Nat):ZA k:=Zx 150 Tryz.f150 [] ZY Zv ZOX
abbrev ZDq:Kd:=.tup [.view (.sl (.int .u8)),.view (.int .i64)]
noncomputable def ZNL (k:Nat):List (ZA k):=[ZUx k]
def ZNK:Nat → Ann:=fun id => bif Ja id 10 then ⟨[6,5,0,4],[]⟩ else bif Ja id 6 then ⟨[0,4],[]⟩ else ⟨[],[]⟩
abbrev Zwp:=Zl0 → Option ((List Int × Int × Unit) × Unit)
abbrev ZlW:=Int × Int
abbrev Zwo:=ZlW → Option ((List Int × Int × Unit) × Unit)
def ZWv:Zl0 → St
 | (v0,v1,v2,v3) => St.mk (Zk [(6,Zg v0),(5,AV.own 8192),(0,Zg v1),(4,Zg v2)]) (Zj [(8192,RS.live (Res.arr (Ty.int UL) v3 false))])
def Zfg (k:Nat) (L2:Zwp):Zwp
 | (v0,v1,v2,v3) => bif decide ((0:Int) < v0) then bif decide (0 ≤ v0 ∧ v0 < UD v3.length) then bif decide (v0.toNat < v3.length) then L2 (Jx.wrap (v0 - 1),v1.fdiv (64:Int),v2,v3.set v0.toNat (UL.wrap (UD (UH 8 (128:Int) ||| UH 8 (UL.wrap (Jx.wrap (UD (UH 64 v1 &&& UH 64 (63:Int)).toNat)))).toNat))) else none else none else bif decide (0 ≤ v2) then bif decide ((0:Int) ≤ 0 ∧ (0:Int) < UD v3.length) then bif decide ((0:Nat) < v3.length) then some ((v3.set (0:Nat) (UL.wrap (UD (UH 8 (UL.wrap (UP (65280:Int) ((2:Int) ^ min v2.toNat 64))) ||| UH 8 (UL.wrap v1)).toNat)),0,()),()) else none else none else none
def ZqG (k:Nat):Zwp:=Ze (fun L2 => Zfg k L2) k
noncomputable def ZFT (k:Nat) (n:Nat):=Qj (ZNL k) Tryz.f95 ZY ZDq [1,1,1,1,1,1,0,1,0] [] n ZWv (A:=ZNK)
def ZWu:ZlW → St
 | (v0,v1) => St.mk (Zk [(0,Zg v0),(4,Zg v1)]) (Zj [])
def Zff (k:Nat) (L2:Zwp) (L1:Zwo):Zwo
 | (v0,v1) => (ZOX k (v1,())).bind fun y => bif decide ((0:Int) ≤ y.1) then bif decide ((0:Int) < v0.fdiv ((2:Int) ^ min (Int.toNat y.1) (64:Nat))) then L1 (v0,Jx.wrap (v1 + 1)) else bif decide (0 ≤ v1 ∧ v1 ≤ v1 ∧ v1 < 4294967296) then L2 (Jx.wrap (v1 - 1),v0,v1,Jd v1.toNat (0:Int)) else none else none
def Zwq (k:Nat):Zwo:=Ze (fun L1 => Zff k (ZqG k) L1) k
noncomputable def ZFS (k:Nat) (n:Nat):=Qj (ZNL k) Tryz.f95 ZY ZDq [1,1,1,1,0,0] [] n ZWu (A:=ZNK)
def ZjY (k:Nat) (L1:Zwo):Int × Unit → Option ((List Int × Int × Unit) × Unit)
 | (a0,()) => bif decide (a0 < 0) then some (([],12,()),()) else bif decide ((68719476735:Int) < a0) then some (([],12,()),()) else bif decide (a0 < 128) then some (([UL.wrap a0],0,()),()) else L1 (a0,(2:Int))
def Zz4 (k:Nat):=ZjY k (Zwq k)
theorem ZNN (k:Nat):∀ n,ZFT k n = Ze (fun L2 => Zfg k L2) n:=ZG
theorem ZNM (k:Nat):∀ n,ZFS k n = Ze (fun L1 => Zff k (ZqG k) L1) n:=ZG (fun n v => by rw [show (ZqG k) = ZFT k k from (ZNN k k).symm]; kernel_rfl)
noncomputable def ZX4 (k:Nat):ZA k:=Zx 95 Tryz.f95 (ZNL k) ZY ZDq Zz4 (A:=ZNK) (h:=fun x => by show _ = ZjY k (Zwq k) x; rw [show Zwq k = ZFS k k from (ZNM k k).symm]; kernel_rfl)
abbrev ZDv:List Kd:=[.view (.sl (.int .u8)),.view (.int .i64),.view (.int .u64)]
noncomputable def ZO1 (k:Nat):List (ZA k):=[]
def ZOY:Nat → Ann:=fun id => bif Ja id 7 then ⟨[24,7,1,2,13,12,11],[]⟩ else bif Ja id 3 then ⟨[12,13,11,7,1,2],[]⟩ else ⟨[],[]⟩
abbrev ZO0:=Int × Int × Int × Int × Int × Int × List Int
abbrev ZwU:=ZO0 → Option (Int × Unit)
abbrev ZOZ:=Int × Int × List Int × Int × Int × Int
abbrev Zl1:=ZOZ → Option (Int × Unit)
def ZWQ:ZO0 → St
 | (v0,v1,v2,v3,v4,v5,v6) => St.mk (Zk [(24,Zg v0),(7,AV.val (PV.v (Jv UI v1))),(1,Zg v2),(2,AV.val (PV.v (Jv UI v3))),(13,Zg v4),(12,Zg v5),(11,AV.val (PV.sl (Ty.int UL) v6))]) (Zj [])
def Zfs (k:Nat) (L1:Zl1) (L2:ZwU):ZwU
 | (v0,v1,v2,v3,v4,v5,v6) => bif decide (v0 < 8) then bif decide (0 ≤ Jx.wrap (v2 - 1)) then bif decide (0 ≤ v2) then L2 (Jx.wrap (v0 + 1),UI.wrap (UD (UH 64 (UI.wrap (UD (UH 64 (UI.wrap (v1 * (2:Int))) &&& UH 64 (UI.wrap (UI.wrap ((1:Int) * (2:Int) ^ min v2.toNat 64) - (1:Int)))).toNat)) ^^^ UH 64 (UI.wrap (UI.wrap (UD (UH 64 (v1.fdiv ((2:Int) ^ min (Jx.wrap (v2 - 1)).toNat 64)) &&& UH 64 (1:Int)).toNat) * v3))).toNat),v2,v3,v4,v5,v6) else none else none else L1 (v5,Jx.wrap (v4 + 1),v6,v1,v2,v3)
def ZwW (k:Nat) (L1:Zl1):ZwU:=Ze (fun L2 => Zfs k L1 L2) k
noncomputable def ZGg (k:Nat) (n1:Nat) (n:Nat):=Qj (ZO1 k) Tryz.f127 ZDv Zv [1,1,0,1,0,0,1,1,0,0,1,1,1,0] [n1] n ZWQ (A:=ZOY)
def ZWP:ZOZ → St
 | (v0,v1,v2,v3,v4,v5) => St.mk (Zk [(12,Zg v0),(13,Zg v1),(11,AV.val (PV.sl (Ty.int UL) v2)),(7,AV.val (PV.v (Jv UI v3))),(1,Zg v4),(2,AV.val (PV.v (Jv UI v5)))]) (Zj [])
def Zfr (k:Nat) (L2:ZwU) (L1:Zl1):Zl1
 | (v0,v1,v2,v3,v4,v5) => bif decide (v1 < v0) then bif decide (0 ≤ v1 ∧ v1 < UD v2.length) then bif decide (0 ≤ Jx.wrap (v4 - 8)) then L2 (0,UI.wrap (UD (UH 64 v3 ^^^ UH 64 (UI.wrap (UI.wrap (v2.getD v1.toNat 0) * (2:Int) ^ min (Jx.wrap (v4 - 8)).toNat 64))).toNat),v4,v5,v1,v0,v2) else none else none else some (Jx.wrap v3,())
def ZwV (k:Nat):Zl1:=Ze (fun L1 => Zfr k (ZwW k L1) L1) k
noncomputable def ZoO (k:Nat) (n:Nat):=Qj (ZO1 k) Tryz.f127 ZDv Zv [1,1,0,1,0] [] n ZWP (A:=ZOY)
def Zkd (k:Nat) (L1:Zl1):List Int × Int × Int × Unit → Option (Int × Unit)
 | (a0,a1,a2,()) => L1 (UD a0.length,(0:Int),a0,(0:Int),a1,a2)
def ZmV (k:Nat):=Zkd k (ZwV k)
theorem ZO3 (k:Nat) (n1:Nat):∀ n,ZGg k n1 n = Ze (fun L2 => Zfs k (ZoO k n1) L2) n:=ZG
theorem ZO2 (k:Nat):∀ n,ZoO k n = Ze (fun L1 => Zfr k (ZwW k L1) L1) n:=ZG (fun n v => by rw [show (ZwW k (ZoO k n)) = ZGg k n k from (ZO3 k n k).symm]; kernel_rfl)
noncomputable def ZUy (k:Nat):ZA k:=Zx 127 Tryz.f127 (ZO1 k) ZDv Zv ZmV (A:=ZOY) (h:=fun x => by show _ = Zkd k (ZwV k) x; rw [show ZwV k = ZoO k k from (ZO2 k k).symm]; kernel_rfl)
abbrev Zfh:List Kd:=[.view (.sl (.int .u8))]
def ZqH (k:Nat):List Int × Unit → Option (Int × Unit)
 | (a0,()) => (ZmV k (a0,8,7,())).bind fun y => some (y.1,())
def ZFU (k:Nat):=ZqH k
noncomputable def ZT9 (k:Nat):ZA k:=Zx 96 Tryz.f96 [ZUy k] Zfh Zv ZFU
abbrev ZDw:Kd:=.own (.int .u8) false
def Zt4 (k:Nat):List Int × Unit → Option (List Int × Unit):=fun x => ZbR x
noncomputable def ZUz (k:Nat):Ctx:={ P:=Tryz.prog,Φ:=phi [],k:=k,live:=fun _ => [] }
noncomputable def ZAf:Code:=ZKD Tryz.f74
theorem ZTt (k:Nat):Ctr Tryz.prog k 74 (mk Zfh ZDw Zt4) :=
 ZsF (C:=ZUz k) (A:=fun _ => ⟨[],[]⟩) (ZxE ZEi) Zic (f:=74) (fn:=Tryz.f74) (o0:=Zmm (ZbA [0] ZAf) 0) (o1:=Zmm (ZbA [1,0,0] ZAf) 0) (o2:=Zmm (ZbA [1,0,0] ZAf) 1)
  (r0:=0) (r1:=1) (X:=ZbA [1,0,1,0] ZAf) (Y:=ZbA [1,1] ZAf) (T:=46) (E:=5) (U:=46) (t:=(.int .u8))
  (by kernel_rfl) (by kernel_rfl) (by kernel_rfl) (by kernel_rfl) (by kernel_rfl) (of_decide_eq_true (by kernel_rfl)) (by kernel_rfl) ⟨by kernel_rfl,by kernel_rfl,by kernel_rfl⟩ ⟨by kernel_rfl,by kernel_rfl,by kernel_rfl⟩ ⟨by kernel_rfl,by kernel_rfl,by kernel_rfl⟩ (fun xs => by kernel_rfl) (by kernel_rfl)
noncomputable def ZO4 (k:Nat):ZA k:=⟨(74,mk Zfh ZDw Zt4),ZTt k⟩
abbrev ZNQ:List Kd:=[.box [.own (.int .u8) false,.view (.int .i64)]]
def ZqI (k:Nat):(List Int × Int × Unit) × Unit → Option (List Int × (List Int × Int × Unit) × Unit)
 | ((a0,a1,()),()) => (Zt4 k (a0,())).bind fun y => some (y.1,(a0,a1,()),())
def Zt2 (k:Nat):=ZqI k
noncomputable def ZUa (k:Nat):ZA k:=Zx 97 Tryz.f97 [ZO4 k] ZNQ ZDw Zt2 (live:=fun r => bif Ja r 999998 then [74] else [])
abbrev ZNS:List Kd:=[.view ZmA,.view (.int .i64)]
abbrev Zwr:Kd:=.view (.sl (.int .i64))
def ZqJ (k:Nat):(Int × Int × Int × Unit) × Int × Unit → Option (List Int × Unit)
 | ((a0,a1,a2,()),a3,()) => bif decide ((0:Int) ≤ 0 ∧ (0:Int) ≤ a0 ∧ a0 ≤ UD [a1,a1].length) then bif a3 == 8 then bif decide ((0:Nat) ≤ a0.toNat ∧ a0.toNat ≤ [a1,a1].length ∧ (0:Int) ≤ 1 ∧ (1:Nat) < a0.toNat - (0:Nat)) then bif decide ((0:Nat) ≤ a0.toNat ∧ a0.toNat ≤ [a1,a1].length ∧ (0:Int) ≤ 1 ∧ (1:Nat) < a0.toNat - (0:Nat)) then bif decide ((0:Nat) ≤ a0.toNat ∧ a0.toNat ≤ ([a1,a1].set (1:Nat) (Jx.wrap ([a1,a1].getD 1 0 + (1:Int)))).length) then some (UN 0 (UO a0.toNat ([a1,a1].set (1:Nat) (Jx.wrap ([a1,a1].getD 1 0 + (1:Int))))),()) else none else none else none else bif a3 == 10 then bif decide ((0:Nat) ≤ a0.toNat ∧ a0.toNat ≤ [a1,a1].length ∧ (0:Int) ≤ 1 ∧ (1:Nat) < a0.toNat - (0:Nat)) then bif decide ((0:Nat) ≤ a0.toNat ∧ a0.toNat ≤ [a1,a1].length ∧ (0:Int) ≤ 1 ∧ (1:Nat) < a0.toNat - (0:Nat)) then bif decide ((0:Nat) ≤ a0.toNat ∧ a0.toNat ≤ ([a1,a1].set (1:Nat) (Jx.wrap ([a1,a1].getD 1 0 + (1:Int)))).length) then some (UN 0 (UO a0.toNat ([a1,a1].set (1:Nat) (Jx.wrap ([a1,a1].getD 1 0 + (1:Int))))),()) else none else none else none else bif a3 == 9 then bif decide ((0:Nat) ≤ a0.toNat ∧ a0.toNat ≤ [a1,a1].length ∧ (0:Int) ≤ 0 ∧ (0:Nat) < a0.toNat - (0:Nat)) then bif decide ((0:Nat) ≤ a0.toNat ∧ a0.toNat ≤ [a1,a1].length ∧ (0:Int) ≤ 0 ∧ (0:Nat) < a0.toNat - (0:Nat)) then bif decide ((0:Nat) ≤ a0.toNat ∧ a0.toNat ≤ ([a1,a1].set (0:Nat) (Jx.wrap ([a1,a1].getD 0 0 + (1:Int)))).length) then some (UN 0 (UO a0.toNat ([a1,a1].set (0:Nat) (Jx.wrap ([a1,a1].getD 0 0 + (1:Int))))),()) else none else none else none else bif decide ((0:Nat) ≤ a0.toNat ∧ a0.toNat ≤ [a1,a1].length) then some (UN 0 (UO a0.toNat [a1,a1]),()) else none else none
def ZNR (k:Nat):=ZqJ k
set_option maxHeartbeats 1000000 in
noncomputable def ZUb (k:Nat):ZA k:=Zx 57 Tryz.f57 [] ZNS Zwr ZNR (live:=fun r => bif Ja r 999999 then [1] else [])
abbrev ZaO:List Kd:=[.view (.int .i64),.view (.int .i64)]
def Zq4 (k:Nat):Int × Int × Unit → Option (Bool × Unit)
 | (a0,a1,()) => bif decide (1 ≤ a0) then bif decide (a0 ≤ 512) then bif decide (4 ≤ a1) then some (decide (a1 ≤ 25),()) else some (false,()) else some (false,()) else some (false,())
def ZPU (k:Nat):=Zq4 k
noncomputable def ZUL (k:Nat):ZA k:=Zx 122 Tryz.f122 [] ZaO Qp ZPU
def Zq5 (k:Nat):Int × Int × Unit → Option (Bool × Unit)
 | (a0,a1,()) => bif decide (0 ≤ Jx.wrap (a1 - 1)) then bif a0.fdiv ((2:Int) ^ min (Jx.wrap (a1 - 1)).toNat 64) == (0:Int) then some (true,()) else bif decide (0 ≤ Jx.wrap (a1 - 1)) then some (a0.fdiv ((2:Int) ^ min (Jx.wrap (a1 - 1)).toNat 64) == (-1:Int),()) else none else none
def ZPW (k:Nat):=Zq5 k
noncomputable def ZUM (k:Nat):ZA k:=Zx 125 Tryz.f125 [] ZaO Qp ZPW
abbrev ZRu:List Kd:=[.view (.int .i64),.box [.view (.int .i64)]]
def Zlf (k:Nat):Int × (Int × Unit) × Unit → Option (Bool × (Int × Unit) × Unit)
 | (a0,(a1,()),()) => (ZPW k (a0,a1,())).bind fun y => some (!y.1,(a1,()),())
def ZBw (k:Nat):=Zlf k
noncomputable def ZVg (k:Nat):ZA k:=Zx 194 Tryz.f194 [ZUM k] ZRu Qp ZBw
abbrev Zlx:List Kd:=[.view (.sl (.int .i64)),.clo 194 [.box [.view (.int .i64)]]]
noncomputable def ZyO (k:Nat):List (ZA k):=[ZVg k]
def XO:Nat → Ann:=fun id => bif Ja id 2 then ⟨[7,8,1,0],[]⟩ else ⟨[],[]⟩
abbrev K4:=Int × Int × List Int × Int
abbrev ZgB:=K4 → Option (Int × (Int × Unit) × Unit)
def ZIm:K4 → St
 | (v0,v1,v2,v3) => St.mk (Zk [(7,Zg v0),(8,Zg v1),(1,AV.clo 194 [AV.bx 0 0]),(0,We v2)]) (Zj [(0,QG [Zg v3])])
def Kp (k:Nat) (L1:ZgB):ZgB
 | (v0,v1,v2,v3) => bif decide (v1 < v0) then bif decide (0 ≤ v1 ∧ v1 < UD v2.length) then (ZBw k (v2.getD v1.toNat 0,(v3,()),())).bind fun y => bif y.1 then some (v1,(y.2.1.1,()),()) else L1 (v0,Jx.wrap (v1 + 1),v2,y.2.1.1) else none else some ((-1:Int),(v3,()),())
def Zlw (k:Nat):ZgB:=Ze (fun L1 => Kp k L1) k
noncomputable def ZpN (k:Nat) (n:Nat):=Qj (ZyO k) Tryz.f241 Zlx Zv [1,0,1,0] [] n ZIm (A:=XO) (a:=[AV.bx (nat_lit 0) (nat_lit 0)]) (b:=[[]]) (q:=[0])
def ZmO (k:Nat) (L1:ZgB):List Int × ((Int × Unit) × Unit) × Unit → Option (Int × (Int × Unit) × Unit)
 | (a0,((a1,()),()),()) => L1 (UD a0.length,(0:Int),a0,a1)
def ZpM (k:Nat):=ZmO k (Zlw k)
theorem ZyP (k:Nat):∀ n,ZpN k n = Ze (fun L1 => Kp k L1) n:=ZG
noncomputable def ZLF (k:Nat):ZA k:=Zx 241 Tryz.f241 (ZyO k) Zlx Zv ZpM (A:=XO) (h:=fun x => by show _ = ZmO k (Zlw k) x; rw [show Zlw k = ZpN k k from (ZyP k k).symm]; kernel_rfl)
def ZeJ (k:Nat):List Int × ((Int × Unit) × Unit) × Unit → Option (Bool × (Int × Unit) × Unit)
 | (a0,((a1,()),()),()) => (ZpM k (a0,((a1,()),()),())).bind fun y => some (decide ((0:Int) ≤ y.1),(y.2.1.1,()),())
def ZpC (k:Nat):=ZeJ k
noncomputable def ZKV (k:Nat):ZA k:=Zx 193 Tryz.f193 [ZLF k] Zlx Qp ZpC
abbrev ZX:List Kd:=[.view (.sl (.int .i64)),.view (.int .i64)]
def ZqU (k:Nat):List Int × Int × Unit → Option (Int × Unit)
 | (a0,a1,()) => (ZPU k (UD a0.length,a1,())).bind fun y => bif !y.1 then some (1,()) else (ZpC k (a0,((a1,()),()),())).bind fun y => bif y.1 then some (12,()) else some (0,())
def ZGh (k:Nat):=ZqU k
noncomputable def ZYr (k:Nat):ZA k:=Zx 151 Tryz.f151 [ZUL k,ZKV k] ZX Zv ZGh
abbrev ZRx:List Kd:=[.view (.int .i64),.box [.view (.int .i64),.view (.int .i64),.view (.int .i64),.view (.sl (.int .i64)),.view (.sl (.int .i64)),.view (.int .i64),.view (.sl (.int .i64)),.view (.int .i64)]]
def Zlg (k:Nat):Int × (Int × Int × Int × List Int × List Int × Int × List Int × Int × Unit) × Unit → Option (Bool × (Int × Int × Int × List Int × List Int × Int × List Int × Int × Unit) × Unit)
 | (a0,(a1,a2,a3,a4,a5,a6,a7,a8,()),()) => bif decide ((0:Int) ≤ 0 ∧ (0:Int) < UD a4.length) then some (a0 != a4.getD 0 0,(a1,a2,a3,a4,a5,a6,a7,a8,()),()) else none
def ZBy (k:Nat):=Zlg k
noncomputable def ZVj (k:Nat):ZA k:=Zx 197 Tryz.f197 [] ZRx Qp ZBy
abbrev Zlz:List Kd:=[.view (.sl (.int .i64)),.clo 197 [.box [.view (.int .i64),.view (.int .i64),.view (.int .i64),.view (.sl (.int .i64)),.view (.sl (.int .i64)),.view (.int .i64),.view (.sl (.int .i64)),.view (.int .i64)]]]
noncomputable def ZyQ (k:Nat):List (ZA k):=[ZVj k]
abbrev Ztb:=Int × Int × List Int × Int × Int × Int × List Int × List Int × Int × List Int × Int
abbrev ZgC:=Ztb → Option (Int × (Int × Int × Int × List Int × List Int × Int × List Int × Int × Unit) × Unit)
def ZIn:Ztb → St
 | (v0,v1,v2,v3,v4,v5,v6,v7,v8,v9,v10) => St.mk (Zk [(7,Zg v0),(8,Zg v1),(1,AV.clo 197 [AV.bx 0 0]),(0,We v2)]) (Zj [(0,QG [Zg v3,Zg v4,Zg v5,We v6,We v7,Zg v8,We v9,Zg v10])])
def Kq (k:Nat) (L1:ZgC):ZgC
 | (v0,v1,v2,v3,v4,v5,v6,v7,v8,v9,v10) => bif decide (v1 < v0) then bif decide (0 ≤ v1 ∧ v1 < UD v2.length) then (ZBy k (v2.getD v1.toNat 0,(v3,v4,v5,v6,v7,v8,v9,v10,()),())).bind fun y => bif y.1 then some (v1,(y.2.1.1,y.2.1.2.1,y.2.1.2.2.1,y.2.1.2.2.2.1,y.2.1.2.2.2.2.1,y.2.1.2.2.2.2.2.1,y.2.1.2.2.2.2.2.2.1,y.2.1.2.2.2.2.2.2.2.1,()),()) else L1 (v0,Jx.wrap (v1 + 1),v2,y.2.1.1,y.2.1.2.1,y.2.1.2.2.1,y.2.1.2.2.2.1,y.2.1.2.2.2.2.1,y.2.1.2.2.2.2.2.1,y.2.1.2.2.2.2.2.2.1,y.2.1.2.2.2.2.2.2.2.1) else none else some ((-1:Int),(v3,v4,v5,v6,v7,v8,v9,v10,()),())
def Zly (k:Nat):ZgC:=Ze (fun L1 => Kq k L1) k
noncomputable def ZpP (k:Nat) (n:Nat):=Qj (ZyQ k) Tryz.f241 Zlz Zv [1,0,1,0] [] n ZIn (A:=XO) (a:=[AV.bx (nat_lit 0) (nat_lit 0)]) (b:=[[]]) (q:=[0])
def ZmP (k:Nat) (L1:ZgC):List Int × ((Int × Int × Int × List Int × List Int × Int × List Int × Int × Unit) × Unit) × Unit → Option (Int × (Int × Int × Int × List Int × List Int × Int × List Int × Int × Unit) × Unit)
 | (a0,((a1,a2,a3,a4,a5,a6,a7,a8,()),()),()) => L1 (UD a0.length,(0:Int),a0,a1,a2,a3,a4,a5,a6,a7,a8)
def ZpO (k:Nat):=ZmP k (Zly k)
theorem ZyR (k:Nat):∀ n,ZpP k n = Ze (fun L1 => Kq k L1) n:=ZG
noncomputable def ZLG (k:Nat):ZA k:=Zx 241 Tryz.f241 (ZyQ k) Zlz Zv ZpO (A:=XO) (h:=fun x => by show _ = ZmP k (Zly k) x; rw [show Zly k = ZpP k k from (ZyR k k).symm]; kernel_rfl)
def ZeK (k:Nat):List Int × ((Int × Int × Int × List Int × List Int × Int × List Int × Int × Unit) × Unit) × Unit → Option (Bool × (Int × Int × Int × List Int × List Int × Int × List Int × Int × Unit) × Unit)
 | (a0,((a1,a2,a3,a4,a5,a6,a7,a8,()),()),()) => (ZpO k (a0,((a1,a2,a3,a4,a5,a6,a7,a8,()),()),())).bind fun y => some (decide ((0:Int) ≤ y.1),(y.2.1.1,y.2.1.2.1,y.2.1.2.2.1,y.2.1.2.2.2.1,y.2.1.2.2.2.2.1,y.2.1.2.2.2.2.2.1,y.2.1.2.2.2.2.2.2.1,y.2.1.2.2.2.2.2.2.2.1,()),())
def ZpD (k:Nat):=ZeK k
noncomputable def ZKW (k:Nat):ZA k:=Zx 193 Tryz.f193 [ZLG k] Zlz Qp ZpD
abbrev ZnS:List Kd:=[.view (.int .u64)]
def ZBH (k:Nat):Int × Unit → Option (Int × Unit):=fun x => tzF x
def ZYX:Go.Shelf.Ren:=⟨fun n => match n with | 29 => 242 | _ => 0,fun n => match n with | 0 => 0 | 3 => 3 | 4 => 4 | 5 => 5 | 22 => 124 | 25 => 62 | 54 => 301 | _ => 0,fun n => match n with | 1 => 4 | _ => 0⟩
set_option maxRecDepth 100000 in
theorem ZXz:Go.Proofs.Lays7.n29 Tryz.prog ZYX:=by
 constructor <;> first | kernel_rfl | (intro w; rfl)
set_option maxRecDepth 100000 in
theorem ZLK (k:Nat):Ctr Tryz.prog k 242 (mk ZnS Zv ZBH):=ZXA ZXz (fn:=Tryz.f242) (by kernel_rfl) rfl (by kernel_rfl) (by kernel_rfl) (by kernel_rfl)
noncomputable def ZVH (k:Nat):ZA k:=⟨(242,mk ZnS Zv ZBH),ZLK k⟩
noncomputable def ZK1 (k:Nat):List (ZA k):=[ZVH k]
def ZK0:Nat → Ann:=fun id => bif Ja id 3 then ⟨[7,8,6,3],[]⟩ else ⟨[],[]⟩
abbrev Znt:=K4 → Option (Int × Unit)
def ZRv:K4 → St
 | (v0,v1,v2,v3) => St.mk (Zk [(7,Zg v0),(8,Zg v1),(6,We v2),(3,Zg v3)]) (Zj [])
def Zb8 (k:Nat) (L1:Znt):Znt
 | (v0,v1,v2,v3) => bif decide (v1 < v0) then bif decide (0 ≤ v1 ∧ v1 < UD v2.length) then L1 (v0,Jx.wrap (v1 + 1),v2,Jx.wrap (UD (UH 64 v3 ||| UH 64 (v2.getD v1.toNat 0)).toNat)) else none else bif v3 == 0 then some (0,()) else (ZBH k (UI.wrap v3,())).bind fun y => some (y.1,())
def Znu (k:Nat):Znt:=Ze (fun L1 => Zb8 k L1) k
noncomputable def Zyw (k:Nat) (n:Nat):=Qj (ZK1 k) Tryz.f195 XH Zv [1,1,0,1,0] [] n ZRv (A:=ZK0)
def Zgn (k:Nat) (L1:Znt):List Int × Unit → Option (Int × Unit)
 | (a0,()) => L1 (UD a0.length,(0:Int),a0,(0:Int))
def ZBx (k:Nat):=Zgn k (Znu k)
theorem ZHI (k:Nat):∀ n,Zyw k n = Ze (fun L1 => Zb8 k L1) n:=ZG
noncomputable def ZVh (k:Nat):ZA k:=Zx 195 Tryz.f195 (ZK1 k) XH Zv ZBx (A:=ZK0) (h:=fun x => by show _ = Zgn k (Znu k) x; rw [show Znu k = Zyw k k from (ZHI k k).symm]; kernel_rfl)
abbrev XC:Kd:=.tup [.view Zd7,.view (.int .i64)]
noncomputable def Zvc (k:Nat):List (ZA k):=[]
def Zu7:Nat → Ann:=fun id => bif Ja id 17 then ⟨[48,49,47,8,2],[.cell 8 0 ((Ty.int Jx))]⟩ else bif Ja id 9 then ⟨[29,30,28,5,20,19,2],[]⟩ else bif Ja id 5 then ⟨[19,20,4,2],[]⟩ else ⟨[],[]⟩
abbrev ZEq:=Int × Int × Int × Int × List Int × List Int × Int
abbrev Znv:=ZEq → Option (((List Int × Int × Unit) × Int × Unit) × Unit)
abbrev Zgp:=Int × Int × List Int × Int × List Int × Int
abbrev Znw:=Zgp → Option (((List Int × Int × Unit) × Int × Unit) × Unit)
abbrev Zgo:=K4 → Option (((List Int × Int × Unit) × Int × Unit) × Unit)
def ZRz:ZEq → St
 | (v0,v1,v2,v3,v4,v5,v6) => St.mk (Zk [(29,Zg v0),(30,Zg v1),(28,AV.own 8192),(5,AV.own 8193),(20,Zg v2),(19,Zg v3),(2,AV.bx 8194 0)]) (Zj [(8192,rsA v4 false),(8193,rsA v5 false),(8194,QG [AV.val (PV.v (V4 none (0:Nat) (0:Nat))),Zg v6])])
def ZsQ (k:Nat) (L1:Zgo) (L2:Znv):Znv
 | (v0,v1,v2,v3,v4,v5,v6) => bif decide (v1 < v0) then bif decide (0 ≤ v1 ∧ v1 < UD v4.length) then bif decide (v1.toNat < v4.length) then bif decide (0 ≤ Jx.wrap (v1 + 1) ∧ Jx.wrap (v1 + 1) < UD v5.length) then bif decide ((Jx.wrap (v1 + 1)).toNat < v5.length) then bif decide (0 ≤ Jx.wrap (v1 + 1) ∧ Jx.wrap (v1 + 1) < UD v5.length) then bif decide ((Jx.wrap (v1 + 1)).toNat < v5.length) then L2 (v0,Jx.wrap (v1 + 1),v2,v3,v4,v5.set (Jx.wrap (v1 + 1)).toNat (Jx.wrap (v5.getD (Jx.wrap (v1 + 1)).toNat 0 - v4.getD v1.toNat 0)),v6) else none else none else none else none else none else none else L1 (v3,Jx.wrap (v2 + 1),v5,v6)
def Zva (k:Nat) (L1:Zgo):Znv:=Ze (fun L2 => ZsQ k L1 L2) k
noncomputable def Zyy (k:Nat) (n1:Nat) (n:Nat):=Qj (Zvc k) Tryz.f171 ZY XC [1,1,1,0,1,0,0,1,1,0,0,1,1,0,1,0] [n1] n ZRz (A:=Zu7)
def ZRA:Zgp → St
 | (v0,v1,v2,v3,v4,v5) => St.mk (Zk [(48,Zg v0),(49,Zg v1),(47,We v2),(8,AV.bx 8192 0),(2,AV.bx 8194 0)]) (Zj [(8192,QG [AV.own 8193,Zg v3]),(8193,rsA v4 false),(8194,QG [AV.val (PV.v (V4 none (0:Nat) (0:Nat))),Zg v5])])
def ZsR (k:Nat) (L3:Znw):Znw
 | (v0,v1,v2,v3,v4,v5) => bif decide (v1 < v0) then bif decide (0 ≤ v1 ∧ v1 < UD v2.length) then bif decide (v4.length + [Jx.wrap ((0:Int) - v2.getD v1.toNat 0)].length < 2147483648) then L3 (v0,Jx.wrap (v1 + 1),v2,v3,v4 ++ [Jx.wrap ((0:Int) - v2.getD v1.toNat 0)],v5) else none else none else some (((v4,v3,()),0,()),())
def Zvb (k:Nat):Znw:=Ze (fun L3 => ZsR k L3) k
noncomputable def Zyz (k:Nat) (n:Nat):=Qj (Zvc k) Tryz.f171 ZY XC [1,1,1,1,1,0,1,0] [] n ZRA (A:=Zu7)
def ZRy:K4 → St
 | (v0,v1,v2,v3) => St.mk (Zk [(19,Zg v0),(20,Zg v1),(4,AV.own 8192),(2,AV.bx 8193 0)]) (Zj [(8192,rsA v2 false),(8193,QG [AV.val (PV.v (V4 none (0:Nat) (0:Nat))),Zg v3])])
def ZsP (k:Nat) (L2:Znv) (L3:Znw) (L1:Zgo):Zgo
 | (v0,v1,v2,v3) => bif decide (v1 < v0) then bif decide ((0:Nat) + v2.length < 2147483648) then bif decide (([] ++ v2).length + (1:Nat) < (2147483648:Nat)) then L2 (UD v2.length,(0:Int),v1,v0,v2,[] ++ v2 ++ [(0:Int)],v3) else none else none else bif decide ((0:Int) ≤ 1 ∧ (1:Int) ≤ UD v2.length ∧ UD v2.length ≤ UD v2.length) then L3 (UD (UN 1 (UO (UD v2.length).toNat v2)).length,(0:Int),UN 1 (UO (UD v2.length).toNat v2),(0:Int),[],v3) else none
def Zu9 (k:Nat):Zgo:=Ze (fun L1 => ZsP k (Zva k L1) (Zvb k) L1) k
noncomputable def ZiH (k:Nat) (n:Nat):=Qj (Zvc k) Tryz.f171 ZY XC [1,1,1,0,1,0] [] n ZRy (A:=Zu7)
def ZsO (k:Nat) (L1:Zgo):Int × Unit → Option (((List Int × Int × Unit) × Int × Unit) × Unit)
 | (a0,()) => bif decide (a0 < 0) then some ((([],(0:Int),()),1,()),()) else bif decide ((4:Int) < a0) then some ((([],(0:Int),()),1,()),()) else L1 (a0,(0:Int),[(1:Int)],(0:Int))
def Zu8 (k:Nat):=ZsO k (Zu9 k)
theorem ZHM (k:Nat) (n1:Nat):∀ n,Zyy k n1 n = Ze (fun L2 => ZsQ k (ZiH k n1) L2) n:=ZG
theorem ZHN (k:Nat):∀ n,Zyz k n = Ze (fun L3 => ZsR k L3) n:=ZG
theorem ZHL (k:Nat):∀ n,ZiH k n = Ze (fun L1 => ZsP k (Zva k L1) (Zvb k) L1) n:=ZG (fun n v => by rw [show (Zva k (ZiH k n)) = Zyy k n k from (ZHM k n k).symm,show (Zvb k) = Zyz k k from (ZHN k k).symm]; kernel_rfl)
noncomputable def ZBz (k:Nat):ZA k:=Zx 171 Tryz.f171 (Zvc k) ZY XC Zu8 (A:=Zu7) (h:=fun x => by show _ = ZsO k (Zu9 k) x; rw [show Zu9 k = ZiH k k from (ZHL k k).symm]; kernel_rfl)
def ZlI (k:Nat):Int × Unit → Option (Bool × Unit)
 | (a0,()) => bif decide (a0 ≤ -2147483648) then some (true,()) else some (decide (2147483648 ≤ a0),())
def ZvB (k:Nat):=ZlI k
noncomputable def ZBK (k:Nat):ZA k:=Zx 220 Tryz.f220 [] ZY Qp ZvB
abbrev ZlB:List Kd:=[.view (.sl (.int .i64)),.fn 220]
noncomputable def ZyS (k:Nat):List (ZA k):=[ZBK k]
abbrev Ya:=Int × Int × List Int
abbrev Wj:=Ya → Option (Int × Unit)
def ZIo:Ya → St
 | (v0,v1,v2) => St.mk (Zk [(7,Zg v0),(8,Zg v1),(1,AV.fn 220),(0,We v2)]) (Zj [])
def Kr (k:Nat) (L1:Wj):Wj
 | (v0,v1,v2) => bif decide (v1 < v0) then bif decide (0 ≤ v1 ∧ v1 < UD v2.length) then (ZvB k (v2.getD v1.toNat 0,())).bind fun y => bif y.1 then some (v1,()) else L1 (v0,Jx.wrap (v1 + 1),v2) else none else some ((-1:Int),())
def ZlA (k:Nat):Wj:=Ze (fun L1 => Kr k L1) k
noncomputable def ZpR (k:Nat) (n:Nat):=Qj (ZyS k) Tryz.f241 ZlB Zv [1,0,1,0] [] n ZIo (A:=XO)
def ZmQ (k:Nat) (L1:Wj):List Int × Unit × Unit → Option (Int × Unit)
 | (a0,(),()) => L1 (UD a0.length,(0:Int),a0)
def ZpQ (k:Nat):=ZmQ k (ZlA k)
theorem ZyT (k:Nat):∀ n,ZpR k n = Ze (fun L1 => Kr k L1) n:=ZG
noncomputable def ZLH (k:Nat):ZA k:=Zx 241 Tryz.f241 (ZyS k) ZlB Zv ZpQ (A:=XO) (h:=fun x => by show _ = ZmQ k (ZlA k) x; rw [show ZlA k = ZpR k k from (ZyT k k).symm]; kernel_rfl)
def ZeL (k:Nat):List Int × Unit × Unit → Option (Bool × Unit)
 | (a0,(),()) => (ZpQ k (a0,(),())).bind fun y => some (decide ((0:Int) ≤ y.1),())
def ZiG (k:Nat):=ZeL k
noncomputable def ZpE (k:Nat):ZA k:=Zx 193 Tryz.f193 [ZLH k] ZlB Qp ZiG
def ZlS (k:Nat):Int × Unit → Option (Bool × Unit)
 | (a0,()) => bif decide (a0 < -2048) then some (true,()) else some (decide ((2047:Int) < a0),())
def ZB7 (k:Nat):=ZlS k
noncomputable def ZWj (k:Nat):ZA k:=Zx 257 Tryz.f257 [] ZY Qp ZB7
abbrev ZlF:List Kd:=[.view (.sl (.int .i64)),.fn 257]
noncomputable def ZyW (k:Nat):List (ZA k):=[ZWj k]
def ZIq:Ya → St
 | (v0,v1,v2) => St.mk (Zk [(7,Zg v0),(8,Zg v1),(1,AV.fn 257),(0,We v2)]) (Zj [])
def Kt (k:Nat) (L1:Wj):Wj
 | (v0,v1,v2) => bif decide (v1 < v0) then bif decide (0 ≤ v1 ∧ v1 < UD v2.length) then (ZB7 k (v2.getD v1.toNat 0,())).bind fun y => bif y.1 then some (v1,()) else L1 (v0,Jx.wrap (v1 + 1),v2) else none else some ((-1:Int),())
def ZlE (k:Nat):Wj:=Ze (fun L1 => Kt k L1) k
noncomputable def ZpV (k:Nat) (n:Nat):=Qj (ZyW k) Tryz.f241 ZlF Zv [1,0,1,0] [] n ZIq (A:=XO)
def ZmS (k:Nat) (L1:Wj):List Int × Unit × Unit → Option (Int × Unit)
 | (a0,(),()) => L1 (UD a0.length,(0:Int),a0)
def ZpU (k:Nat):=ZmS k (ZlE k)
theorem ZyX (k:Nat):∀ n,ZpV k n = Ze (fun L1 => Kt k L1) n:=ZG
noncomputable def ZLJ (k:Nat):ZA k:=Zx 241 Tryz.f241 (ZyW k) ZlF Zv ZpU (A:=XO) (h:=fun x => by show _ = ZmS k (ZlE k) x; rw [show ZlE k = ZpV k k from (ZyX k k).symm]; kernel_rfl)
def ZeN (k:Nat):List Int × Unit × Unit → Option (Bool × Unit)
 | (a0,(),()) => (ZpU k (a0,(),())).bind fun y => some (decide ((0:Int) ≤ y.1),())
def ZpG (k:Nat):=ZeN k
noncomputable def ZKY (k:Nat):ZA k:=Zx 193 Tryz.f193 [ZLJ k] ZlF Qp ZpG
abbrev ZvO:List Kd:=[.view Zd7]
def ZlO (k:Nat):(List Int × Int × Unit) × Unit → Option (Int × Unit)
 | ((a0,a1,()),()) => bif decide ((8:Int) < UD a0.length) then some (2,()) else bif decide (a1 < 0) then some (2,()) else bif decide ((15:Int) < a1) then some (2,()) else (ZpG k (a0,(),())).bind fun y => bif y.1 then some (2,()) else some (0,())
def ZBX (k:Nat):=ZlO k
noncomputable def ZMm (k:Nat):ZA k:=Zx 219 Tryz.f219 [ZKY k] ZvO Zv ZBX
abbrev Kh:List Kd:=[.view Zd7,.view (.sl (.int .i64))]
noncomputable def ZMp (k:Nat):List (ZA k):=[]
def ZMn:Nat → Ann:=fun id => bif Ja id 3 then ⟨[10,11,9,5,1,2],[]⟩ else ⟨[],[]⟩
abbrev ZEW:=Int × Int × List Int × Int × List Int × List Int × Int
abbrev Zoi:=ZEW → Option (Int × Unit)
def ZSc:ZEW → St
 | (v0,v1,v2,v3,v4,v5,v6) => St.mk (Zk [(10,Zg v0),(11,Zg v1),(9,We v2),(5,Zg v3),(1,We v4),(2,AV.bx 8192 0)]) (Zj [(8192,QG [We v5,Zg v6])])
def Zcv (k:Nat) (L1:Zoi):Zoi
 | (v0,v1,v2,v3,v4,v5,v6) => bif decide (v1 < v0) then bif decide (0 ≤ v1 ∧ v1 < UD v2.length) then bif decide (0 ≤ Jx.wrap (Jx.wrap (UD v4.length - (1:Int)) - v1) ∧ Jx.wrap (Jx.wrap (UD v4.length - (1:Int)) - v1) < UD v4.length) then L1 (v0,Jx.wrap (v1 + 1),v2,Jx.wrap (v3 + Jx.wrap (v2.getD v1.toNat 0 * v4.getD (Jx.wrap (Jx.wrap (UD v4.length - (1:Int)) - v1)).toNat 0)),v4,v5,v6) else none else none else bif decide (0 ≤ v6) then some (v3.fdiv ((2:Int) ^ min v6.toNat 64),()) else none
def Zoj (k:Nat):Zoi:=Ze (fun L1 => Zcv k L1) k
noncomputable def Zzc (k:Nat) (n:Nat):=Qj (ZMp k) Tryz.f222 Kh Zv [1,1,0,1,0] [] n ZSc (A:=ZMn)
def ZgP (k:Nat) (L1:Zoi):(List Int × Int × Unit) × List Int × Unit → Option (Int × Unit)
 | ((a0,a1,()),a2,()) => L1 (UD a0.length,(0:Int),a0,(0:Int),a2,a0,a1)
def ZBY (k:Nat):=ZgP k (Zoj k)
theorem ZIZ (k:Nat):∀ n,Zzc k n = Ze (fun L1 => Zcv k L1) n:=ZG
noncomputable def ZMo (k:Nat):ZA k:=Zx 222 Tryz.f222 (ZMp k) Kh Zv ZBY (A:=ZMn) (h:=fun x => by show _ = ZgP k (Zoj k) x; rw [show Zoj k = Zzc k k from (ZIZ k k).symm]; kernel_rfl)
abbrev Zbi:Kd:=.tup [.view (.sl (.int .i64)),.view (.int .i64)]
noncomputable def ZLN (k:Nat):List (ZA k):=[ZpE k,ZBK k,ZMm k,ZMo k]
def ZLL:Nat → Ann:=fun id => bif Ja id 9 then ⟨[7,1,2,6],[.slot 6 ((Ty.int Jx))]⟩ else ⟨[],[]⟩
abbrev ZEJ:=Int × List Int × List Int × Int × List Int
abbrev ZnT:=ZEJ → Option ((List Int × Int × Unit) × Unit)
def ZRW:ZEJ → St
 | (v0,v1,v2,v3,v4) => St.mk (Zk [(7,Zg v0),(1,We v1),(2,AV.bx 8192 0),(6,AV.own 8193)]) (Zj [(8192,QG [We v2,Zg v3]),(8193,rsA v4 false)])
def Zci (k:Nat) (L1:ZnT):ZnT
 | (v0,v1,v2,v3,v4) => bif decide (v0 < UD v1.length) then bif decide (0 ≤ v0 ∧ v0 < UD v1.length) then bif decide ((0:Int) ≤ 0 ∧ (0:Int) ≤ v0 ∧ v0 ≤ UD v1.length) then (ZBY k ((v2,v3,()),UN 0 (UO v0.toNat v1),())).bind fun y => (ZvB k (Jx.wrap (v1.getD v0.toNat 0 - y.1),())).bind fun y_1 => bif y_1.1 then some (([],12,()),()) else bif decide (v4.length + [Jx.wrap (v1.getD v0.toNat 0 - y.1)].length < 2147483648) then L1 (Jx.wrap (v0 + 1),v1,v2,v3,v4 ++ [Jx.wrap (v1.getD v0.toNat 0 - y.1)]) else none else none else none else some ((v4,0,()),())
def ZnU (k:Nat):ZnT:=Ze (fun L1 => Zci k L1) k
noncomputable def ZyY (k:Nat) (n:Nat):=Qj (ZLN k) Tryz.f243 Kh Zbi [1,1,1,0,1,0] [] n ZRW (A:=ZLL)
def ZgD (k:Nat) (L1:ZnT):(List Int × Int × Unit) × List Int × Unit → Option ((List Int × Int × Unit) × Unit)
 | ((a0,a1,()),a2,()) => (ZBX k ((a0,a1,()),())).bind fun y => bif y.1 != 0 then some (([],2,()),()) else bif decide (UD a2.length < UD a0.length) then some (([],1,()),()) else (ZiG k (a2,(),())).bind fun y => bif y.1 then some (([],12,()),()) else L1 (UD a0.length,a2,a0,a1,[])
def Zvy (k:Nat):=ZgD k (ZnU k)
theorem ZIr (k:Nat):∀ n,ZyY k n = Ze (fun L1 => Zci k L1) n:=ZG
noncomputable def ZLM (k:Nat):ZA k:=Zx 243 Tryz.f243 (ZLN k) Kh Zbi Zvy (A:=ZLL) (h:=fun x => by show _ = ZgD k (ZnU k) x; rw [show ZnU k = ZyY k k from (ZIr k k).symm]; kernel_rfl)
def ZlK (k:Nat):Int × Unit → Option (Bool × Unit)
 | (a0,()) => bif decide (a0 ≤ -2147483648) then some (true,()) else some (decide (2147483648 ≤ a0),())
def ZBN (k:Nat):=ZlK k
noncomputable def ZVN (k:Nat):ZA k:=Zx 247 Tryz.f247 [] ZY Qp ZBN
abbrev ZlD:List Kd:=[.view (.sl (.int .i64)),.fn 247]
noncomputable def ZyU (k:Nat):List (ZA k):=[ZVN k]
def ZIp:Ya → St
 | (v0,v1,v2) => St.mk (Zk [(7,Zg v0),(8,Zg v1),(1,AV.fn 247),(0,We v2)]) (Zj [])
def Ks (k:Nat) (L1:Wj):Wj
 | (v0,v1,v2) => bif decide (v1 < v0) then bif decide (0 ≤ v1 ∧ v1 < UD v2.length) then (ZBN k (v2.getD v1.toNat 0,())).bind fun y => bif y.1 then some (v1,()) else L1 (v0,Jx.wrap (v1 + 1),v2) else none else some ((-1:Int),())
def ZlC (k:Nat):Wj:=Ze (fun L1 => Ks k L1) k
noncomputable def ZpT (k:Nat) (n:Nat):=Qj (ZyU k) Tryz.f241 ZlD Zv [1,0,1,0] [] n ZIp (A:=XO)
def ZmR (k:Nat) (L1:Wj):List Int × Unit × Unit → Option (Int × Unit)
 | (a0,(),()) => L1 (UD a0.length,(0:Int),a0)
def ZpS (k:Nat):=ZmR k (ZlC k)
theorem ZyV (k:Nat):∀ n,ZpT k n = Ze (fun L1 => Ks k L1) n:=ZG
noncomputable def ZLI (k:Nat):ZA k:=Zx 241 Tryz.f241 (ZyU k) ZlD Zv ZpS (A:=XO) (h:=fun x => by show _ = ZmR k (ZlC k) x; rw [show ZlC k = ZpT k k from (ZyV k k).symm]; kernel_rfl)
def ZeM (k:Nat):List Int × Unit × Unit → Option (Bool × Unit)
 | (a0,(),()) => (ZpS k (a0,(),())).bind fun y => some (decide ((0:Int) ≤ y.1),())
def ZpF (k:Nat):=ZeM k
noncomputable def ZKX (k:Nat):ZA k:=Zx 193 Tryz.f193 [ZLI k] ZlD Qp ZpF
def ZlJ (k:Nat):Int × Int × Unit → Option (Bool × Unit)
 | (a0,a1,()) => bif decide (1 ≤ a0) then bif decide (a0 ≤ 512) then bif decide (0 ≤ a1) then some (decide (a1 ≤ if a0 < 8 then a0 else (8:Int)),()) else some (false,()) else some (false,()) else some (false,())
def ZBM (k:Nat):=ZlJ k
noncomputable def ZL2 (k:Nat):ZA k:=Zx 216 Tryz.f216 [] ZaO Qp ZBM
def Zlj (k:Nat):List Int × Int × Unit → Option (Int × Unit)
 | (a0,a1,()) => bif decide (a1 < 0) then some (1,()) else bif decide ((8:Int) < a1) then some (1,()) else (ZBM k (Jx.wrap (UD a0.length + a1),a1,())).bind fun y => bif !y.1 then some (1,()) else (ZpF k (a0,(),())).bind fun y => bif y.1 then some (12,()) else some (0,())
def Zvg (k:Nat):=Zlj k
noncomputable def ZK4 (k:Nat):ZA k:=Zx 201 Tryz.f201 [ZKX k,ZL2 k] ZX Zv Zvg
abbrev ZnE:List Kd:=[.view (.sl (.int .i64)),.view (.int .i64),.view (.int .i64)]
abbrev ZEy:Kd:=.view (.sl (.sl (.int .i64)))
noncomputable def ZK8 (k:Nat):List (ZA k):=[]
def ZK6:Nat → Ann:=fun id => bif Ja id 4 then ⟨[8,2,9,7],[]⟩ else ⟨[],[]⟩
abbrev ZEx:=Int × List Int × Int × List (List Int)
abbrev ZnC:=ZEx → Option (List (List Int) × Unit)
def ZRJ:ZEx → St
 | (v0,v1,v2,v3) => St.mk (Zk [(8,AV.own 8192),(2,Zg v0),(9,We v1),(7,Zg v2)]) (Zj [(8192,RS.live (Res.arr (Ty.int Jx).sl v3 false))])
def Zcd (k:Nat) (L1:ZnC):ZnC
 | (v0,v1,v2,v3) => bif decide (0 ≤ v0) then bif decide (UD v3.length < Jx.wrap ((1:Int) * (2:Int) ^ min v0.toNat 64)) then bif decide ((0:Int) ≤ 0 ∧ (0:Int) ≤ v2 ∧ v2 ≤ UD v1.length) then bif decide (v3.length + [UN 0 (UO v2.toNat v1)].length < 2147483648) then bif decide (0 ≤ v2 ∧ v2 ≤ UD v1.length ∧ UD v1.length ≤ UD v1.length) then L1 (v0,UN v2.toNat (UO (UD v1.length).toNat v1),v2,v3 ++ [UN 0 (UO v2.toNat v1)]) else none else none else none else some (v3,()) else none
def ZnD (k:Nat):ZnC:=Ze (fun L1 => Zcd k L1) k
noncomputable def ZyC (k:Nat) (n:Nat):=Qj (ZK8 k) Tryz.f203 ZnE ZEy [1,1,1,0,1,0] [] n ZRJ (A:=ZK6)
def Zgu (k:Nat) (L1:ZnC):List Int × Int × Int × Unit → Option (List (List Int) × Unit)
 | (a0,a1,a2,()) => bif decide (0 ≤ a2) then bif decide ((0:Int) ≤ 0 ∧ (0:Int) ≤ Jx.wrap ((Jx.wrap (UD a0.length + a1)).fdiv ((2:Int) ^ min a2.toNat 64) - a1) ∧ Jx.wrap ((Jx.wrap (UD a0.length + a1)).fdiv ((2:Int) ^ min a2.toNat 64) - a1) ≤ UD a0.length) then bif decide (0 ≤ Jx.wrap ((Jx.wrap (UD a0.length + a1)).fdiv ((2:Int) ^ min a2.toNat 64) - a1) ∧ Jx.wrap ((Jx.wrap (UD a0.length + a1)).fdiv ((2:Int) ^ min a2.toNat 64) - a1) ≤ UD a0.length ∧ UD a0.length ≤ UD a0.length) then L1 (a2,UN (Jx.wrap ((Jx.wrap (UD a0.length + a1)).fdiv ((2:Int) ^ min a2.toNat 64) - a1)).toNat (UO (UD a0.length).toNat a0),(Jx.wrap (UD a0.length + a1)).fdiv ((2:Int) ^ min a2.toNat 64),[UN 0 (UO (Jx.wrap ((Jx.wrap (UD a0.length + a1)).fdiv ((2:Int) ^ min a2.toNat 64) - a1)).toNat a0)]) else none else none else none
def Zvk (k:Nat):=Zgu k (ZnD k)
theorem ZHZ (k:Nat):∀ n,ZyC k n = Ze (fun L1 => Zcd k L1) n:=ZG
set_option maxHeartbeats 1000000 in
noncomputable def ZK7 (k:Nat):ZA k:=Zx 203 Tryz.f203 (ZK8 k) ZnE ZEy Zvk (A:=ZK6) (h:=fun x => by show _ = Zgu k (ZnD k) x; rw [show ZnD k = ZyC k k from (ZHZ k k).symm]; kernel_rfl)
def ZH2 (k:Nat):Int × Unit → Option (Int × Unit)
 | (a0,()) => some (Jx.wrap ((4:Int) + a0),())
def ZeP (k:Nat):=ZH2 k
noncomputable def ZBC (k:Nat):ZA k:=Zx 204 Tryz.f204 [] ZY Zv ZeP
theorem ZXS (k:Nat):Ctr Tryz.prog k 204 (mk ZY Zv ZeP):=(ZBC k).2
abbrev ZnZ:List Kd:=[.view (.int .i64),.view (.int .i64),.view (.int .i64)]
def ZlL (k:Nat):Int × Int × Int × Unit → Option (Bool × Unit)
 | (a0,a1,a2,()) => bif decide (0 ≤ a2) then bif Jx.wrap (UD (UH 64 a0 &&& UH 64 (Jx.wrap (Jx.wrap ((1:Int) * (2:Int) ^ min a2.toNat 64) - (1:Int)))).toNat) == 0 then bif decide (0 ≤ a2) then some (decide (a1 ≤ a0.fdiv ((2:Int) ^ min a2.toNat 64)),()) else none else some (false,()) else none
def ZhI (k:Nat):=ZlL k
noncomputable def ZBO (k:Nat):ZA k:=Zx 217 Tryz.f217 [] ZnZ Qp ZhI
theorem ZXX (k:Nat):Ctr Tryz.prog k 217 (mk ZnZ Qp ZhI):=(ZBO k).2
def ZH4 (k:Nat):Int × Unit → Option (Int × Unit)
 | (a0,()) => (ZeP k (a0,())).bind fun y => bif decide ((0:Int) ≤ y.1) then some (Jx.wrap (Jx.wrap ((1:Int) * (2:Int) ^ min (Int.toNat y.1) (64:Nat)) - (1:Int)),()) else none
def ZeQ (k:Nat):=ZH4 k
noncomputable def ZK9 (k:Nat):ZA k:=Zx 205 Tryz.f205 [ZBC k] ZY Zv ZeQ
theorem ZXT (k:Nat):Ctr Tryz.prog k 205 (mk ZY Zv ZeQ):=(ZK9 k).2
def Zlm (k:Nat):Int × Unit → Option ((Int × Int × Unit) × Unit)
 | (a0,()) => bif decide (a0 < -1099511627776) then some ((0,12,()),()) else bif decide ((1099511627776:Int) < a0) then some ((0,12,()),()) else some ((Jx.wrap (UD (UH 64 (Jx.wrap (a0 * (2:Int))) ^^^ UH 64 (a0.fdiv (9223372036854775808:Int))).toNat),0,()),())
def ZhF (k:Nat):=Zlm k
noncomputable def ZLa (k:Nat):ZA k:=Zx 206 Tryz.f206 [] ZY Wg ZhF
theorem ZXU (k:Nat):Ctr Tryz.prog k 206 (mk ZY Wg ZhF):=(ZLa k).2
def ZvP (k:Nat):Int × Unit → Option (Int × Unit):=fun x => ZQk x
def ZXg:Go.Shelf.Ren:=⟨fun n => match n with | 129 => 270 | _ => 0,fun n => match n with | 0 => 0 | 3 => 3 | 4 => 4 | 5 => 5 | 9 => 9 | 46 => 62 | 53 => 124 | _ => 0,fun n => n⟩
set_option maxRecDepth 100000 in
theorem ZTD:Go.Proofs.Lays.n129 Tryz.prog ZXg:=by
 constructor <;> first | kernel_rfl | (intro w; rfl)
set_option maxRecDepth 100000 in
theorem ZMx (k:Nat):Ctr Tryz.prog k 270 (mk ZnS Zv ZvP):=ZJJ ZTD (fn:=Tryz.f270) (by kernel_rfl) (by kernel_rfl) (by kernel_rfl) (by kernel_rfl)
noncomputable def ZWk (k:Nat):ZA k:=⟨(270,mk ZnS Zv ZvP),ZMx k⟩
def ZlQ (k:Nat):Int × Unit → Option (Int × Unit)
 | (a0,()) => (ZvP k (UI.wrap (Jx.wrap (UD (UH 64 a0 ^^^ UH 64 (a0.fdiv (9223372036854775808:Int))).toNat)),())).bind fun y => some (Jx.wrap (y.1 + 1),())
def ZB1 (k:Nat):=ZlQ k
noncomputable def ZV6 (k:Nat):ZA k:=Zx 267 Tryz.f267 [ZWk k] ZY Zv ZB1
def Zdr (k:Nat):Int × Unit → Option (Int × Unit):=match k with | 0 => ZeQ 0 | n + 1 => ZeQ (n + 1)
theorem ZsY:Zdr = ZeQ:=by funext k; cases k <;> rfl
theorem ZH3 (k:Nat):Ctr Tryz.prog k 205 (mk ZY Zv Zdr):=by rw [ZsY]; exact (ZK9 k).2
noncomputable def Zvm (k:Nat):ZA k:=⟨(205,mk ZY Zv Zdr),ZH3 k⟩
def Zll (k:Nat):Int × Unit → Option ((Int × Int × Unit) × Unit):=match k with | 0 => ZhF 0 | n + 1 => ZhF (n + 1)
theorem ZsZ:Zll = ZhF:=by funext k; cases k <;> rfl
theorem ZH6 (k:Nat):Ctr Tryz.prog k 206 (mk ZY Wg Zll):=by rw [ZsZ]; exact (ZLa k).2
noncomputable def ZEz (k:Nat):ZA k:=⟨(206,mk ZY Wg Zll),ZH6 k⟩
abbrev Zn3:Kd:=.tup [.view ZQD,.view .bool]
noncomputable def ZvG (k:Nat):List (ZA k):=[Zvm k,ZEz k,ZV6 k]
noncomputable def ZvF:Nat → Ann:=fun id => bif Ja id 16 then ⟨[55,56,54,13,12,14,7,6,46,45,0,8,9,1,4],[]⟩ else bif Ja id 12 then ⟨[45,46,0,8,7,6,9,1,4],[]⟩ else bif Ja id 5 then ⟨[23,24,22,8,9,1,0,7,6,4],[]⟩ else ⟨[],[]⟩
abbrev ZEP:=Int × Int × Int × Int × Bool × Bool × Int × Int × List Int × Int × Int × List Int × Int × Int × Int × Int × Int × Int
abbrev Zn1:=ZEP → Option (((Int × Int × Int × Unit) × Bool × Unit) × Unit)
abbrev ZEO:=Int × Int × List Int × Bool × Int × Int × List Int × Int × Int × Int × Int × Int × Int
abbrev ZgF:=ZEO → Option (((Int × Int × Int × Unit) × Bool × Unit) × Unit)
abbrev ZEN:=Int × Int × List Int × Int × Int × List Int × Bool × List Int × Int × Int × Int × Int × Int × Int
abbrev Zn0:=ZEN → Option (((Int × Int × Int × Unit) × Bool × Unit) × Unit)
noncomputable def ZR2:ZEP → St
 | (v0,v1,v2,v3,v4,v5,v6,v7,v8,v9,v10,v11,v12,v13,v14,v15,v16,v17) => St.mk (Zk [(55,Zg v0),(56,Zg v1),(54,AV.own 8192),(13,Zg v2),(12,Zg v3),(14,avB v4),(7,avB v5),(6,AV.bx 8193 0),(46,Zg v6),(45,Zg v7),(0,We v8),(8,AV.own 8192),(9,Zg v9),(1,Zg v10),(4,AV.bx 8194 0)]) (Zj [(8192,rsA v11 false),(8193,QG [Zg v12,Zg v13,Zg v14]),(8194,QG [Zg v15,Zg v16,Zg v17])])
noncomputable def Zcn (k:Nat) (L2:ZgF) (L3:Zn1):Zn1
 | (v0,v1,v2,v3,v4,v5,v6,v7,v8,v9,v10,v11,v12,v13,v14,v15,v16,v17) => bif decide (v1 < v0) then bif decide (0 ≤ v1 ∧ v1 < UD v11.length) then bif decide (v1.toNat < v11.length) then bif decide (0 ≤ v3) then bif v4 then L3 (v0,Jx.wrap (v1 + 1),Jx.wrap (v2 + UP (v11.getD v1.toNat 0) ((2:Int) ^ min v3.toNat 64)),v3,true,v5,v6,v7,v8,v9,v10,v11,v12,v13,v14,v15,v16,v17) else bif decide (0 ≤ v3) then L3 (v0,Jx.wrap (v1 + 1),Jx.wrap (v2 + UP (v11.getD v1.toNat 0) ((2:Int) ^ min v3.toNat 64)),v3,decide ((65536:Int) < UP (v11.getD v1.toNat 0) ((2:Int) ^ min v3.toNat 64)),v5,v6,v7,v8,v9,v10,v11,v12,v13,v14,v15,v16,v17) else none else none else none else none else bif !v4 then bif !v5 then L2 (v7,Jx.wrap (v6 + 1),v8,true,v9,v10,v11,v3,(0:Int),v2,v15,v16,v17) else bif decide (v2 < v14) then L2 (v7,Jx.wrap (v6 + 1),v8,true,v9,v10,v11,v3,(0:Int),v2,v15,v16,v17) else L2 (v7,Jx.wrap (v6 + 1),v8,v5,v9,v10,v11,v12,v13,v14,v15,v16,v17) else L2 (v7,Jx.wrap (v6 + 1),v8,v5,v9,v10,v11,v12,v13,v14,v15,v16,v17)
noncomputable def ZiR (k:Nat) (L2:ZgF):Zn1:=Ze (fun L3 => Zcn k L2 L3) k
noncomputable def Zy4 (k:Nat) (n2:Nat) (n:Nat):=Qj (ZvG k) Tryz.f248 ZX Zn3 [1,1,1,1,1,0,1,0,0,1,1,0,0,1,1,0,1,0] [n2] n ZR2 (A:=ZvF)
noncomputable def ZR1:ZEO → St
 | (v0,v1,v2,v3,v4,v5,v6,v7,v8,v9,v10,v11,v12) => St.mk (Zk [(45,Zg v0),(46,Zg v1),(0,We v2),(8,AV.own 8192),(7,avB v3),(6,AV.bx 8193 0),(9,Zg v4),(1,Zg v5),(4,AV.bx 8194 0)]) (Zj [(8192,rsA v6 false),(8193,QG [Zg v7,Zg v8,Zg v9]),(8194,QG [Zg v10,Zg v11,Zg v12])])
noncomputable def Zcm (k:Nat) (L3:Zn1) (L2:ZgF):ZgF
 | (v0,v1,v2,v3,v4,v5,v6,v7,v8,v9,v10,v11,v12) => bif decide (v1 < v0) then L3 (UD v6.length,(0:Int),Jx.wrap (Jx.wrap (v1 + 1) * UD v2.length),v1,false,v3,v1,v0,v2,v4,v5,v6,v7,v8,v9,v10,v11,v12) else bif decide (v4 ≤ 31) then bif !v3 then (Zdr k (v5,())).bind fun y => some (((y.1,v4,Jx.wrap ((5:Int) + Jx.wrap (v4 * UD v2.length)),()),true,()),()) else bif decide (Jx.wrap ((5:Int) + Jx.wrap (v4 * UD v2.length)) < v9) then (Zdr k (v5,())).bind fun y => some (((y.1,v4,Jx.wrap ((5:Int) + Jx.wrap (v4 * UD v2.length)),()),true,()),()) else some (((v7,v8,v9,()),v3,()),()) else some (((v7,v8,v9,()),v3,()),())
noncomputable def ZiQ (k:Nat):ZgF:=Ze (fun L2 => Zcm k (ZiR k L2) L2) k
noncomputable def ZiS (k:Nat) (n:Nat):=Qj (ZvG k) Tryz.f248 ZX Zn3 [1,1,1,1,1,0,1,0] [] n ZR1 (A:=ZvF)
noncomputable def ZR0:ZEN → St
 | (v0,v1,v2,v3,v4,v5,v6,v7,v8,v9,v10,v11,v12,v13) => St.mk (Zk [(23,Zg v0),(24,Zg v1),(22,We v2),(8,AV.own 8192),(9,Zg v3),(1,Zg v4),(0,We v5),(7,avB v6),(6,AV.bx 8193 0),(4,AV.bx 8194 0)]) (Zj [(8192,rsA v7 false),(8193,QG [Zg v8,Zg v9,Zg v10]),(8194,QG [Zg v11,Zg v12,Zg v13])])
noncomputable def Zcl (k:Nat) (L2:ZgF) (L1:Zn0):Zn0
 | (v0,v1,v2,v3,v4,v5,v6,v7,v8,v9,v10,v11,v12,v13) => bif decide (v1 < v0) then bif decide (0 ≤ v1 ∧ v1 < UD v2.length) then (Zll k (v2.getD v1.toNat 0,())).bind fun y => bif decide (0 ≤ v1 ∧ v1 < UD v7.length) then bif decide (v1.toNat < v7.length) then bif v2.getD v1.toNat 0 != (0:Int) then (ZB1 k (v2.getD v1.toNat 0,())).bind fun y_1 => L1 (v0,Jx.wrap (v1 + 1),v2,if v3 < y_1.1 then y_1.1 else v3,v4,v5,v6,v7.set v1.toNat y.1.1,v8,v9,v10,v11,v12,v13) else L1 (v0,Jx.wrap (v1 + 1),v2,v3,v4,v5,v6,v7.set v1.toNat y.1.1,v8,v9,v10,v11,v12,v13) else none else none else none else (Zdr k (v4,())).bind fun y => L2 (y.1,(0:Int),v5,v6,v3,v4,v7,v8,v9,v10,v11,v12,v13)
noncomputable def Zn2 (k:Nat):Zn0:=Ze (fun L1 => Zcl k (ZiQ k) L1) k
noncomputable def Zy3 (k:Nat) (n:Nat):=Qj (ZvG k) Tryz.f248 ZX Zn3 [1,1,1,1,0,1,0] [] n ZR0 (A:=ZvF)
noncomputable def ZgG (k:Nat) (L1:Zn0):List Int × Int × Unit → Option (((Int × Int × Int × Unit) × Bool × Unit) × Unit)
 | (a0,a1,()) => bif decide ((0:Int) ≤ UD a0.length ∧ UD a0.length ≤ UD a0.length ∧ UD a0.length < (4294967296:Int)) then L1 (UD a0.length,(0:Int),a0,(0:Int),a1,a0,false,Jd (UD a0.length).toNat (0:Int),(0:Int),(0:Int),(0:Int),(0:Int),(0:Int),(0:Int)) else none
noncomputable def ZBP (k:Nat):=ZgG k (Zn2 k)
theorem ZIC (k:Nat) (n2:Nat):∀ n,Zy4 k n2 n = Ze (fun L3 => Zcn k (ZiS k n2) L3) n:=ZG
theorem ZIB (k:Nat):∀ n,ZiS k n = Ze (fun L2 => Zcm k (ZiR k L2) L2) n:=ZG (fun n v => by rw [show (ZiR k (ZiS k n)) = Zy4 k n k from (ZIC k n k).symm]; kernel_rfl)
theorem ZIA (k:Nat):∀ n,Zy3 k n = Ze (fun L1 => Zcl k (ZiQ k) L1) n:=ZG (fun n v => by rw [show (ZiQ k) = ZiS k k from (ZIB k k).symm]; kernel_rfl)
set_option maxHeartbeats 1000000 in
noncomputable def ZVO (k:Nat):ZA k:=Zx 248 Tryz.f248 (ZvG k) ZX Zn3 ZBP (A:=ZvF) (h:=fun x => by show _ = ZgG k (Zn2 k) x; rw [show Zn2 k = Zy3 k k from (ZIA k k).symm]; kernel_rfl)
def Zlk (k:Nat):Int × Unit → Option (Int × Unit):=match k with | 0 => ZeP 0 | n + 1 => ZeP (n + 1)
theorem ZsW:Zlk = ZeP:=by funext k; cases k <;> rfl
theorem ZH1 (k:Nat):Ctr Tryz.prog k 204 (mk ZY Zv Zlk):=by rw [ZsW]; exact (ZBC k).2
noncomputable def Zvl (k:Nat):ZA k:=⟨(204,mk ZY Zv Zlk),ZH1 k⟩
def ZpX (k:Nat):Int × Int × Int × Unit → Option (Bool × Unit):=match k with | 0 => ZhI 0 | n + 1 => ZhI (n + 1)
theorem Zth:ZpX = ZhI:=by funext k; cases k <;> rfl
theorem ZIy (k:Nat):Ctr Tryz.prog k 217 (mk ZnZ Qp ZpX):=by rw [Zth]; exact (ZBO k).2
noncomputable def ZRZ (k:Nat):ZA k:=⟨(217,mk ZnZ Qp ZpX),ZIy k⟩
abbrev ZnB:Kd:=.view ZXu
noncomputable def Zvj (k:Nat):List (ZA k):=[ZK7 k,Zvl k,ZRZ k,ZVO k]
noncomputable def Zvh:Nat → Ann:=fun id => bif Ja id 11 then ⟨[37,38,36,7,5,8,6,0,1,4,9],[.cell 8 2 (((Ty.int Jx).pair ((Ty.int Jx).pair ((Ty.int Jx).pair Ty.unit))))]⟩ else bif Ja id 7 then ⟨[7,6,0,1,5,4],[.cell 5 2 (((Ty.int Jx).pair ((Ty.int Jx).pair ((Ty.int Jx).pair Ty.unit))))]⟩ else bif Ja id 3 then ⟨[6,0,1,5,4],[.cell 5 2 (((Ty.int Jx).pair ((Ty.int Jx).pair ((Ty.int Jx).pair Ty.unit))))]⟩ else ⟨[],[]⟩
abbrev ZEw:=Int × Int × List (List Int) × Int × Int × List Int × Int × Bool × Int × Int × Int × List (Int × Int × Int × Unit) × Int × Int × Int × List (Int × Int × Int × Unit) × Int × Int × Int
abbrev Znz:=ZEw → Option ((Int × Int × List (Int × Int × Int × Unit) × Int × Unit) × Unit)
abbrev ZEv:=Int × Int × List Int × Int × Int × Int × Int × List (Int × Int × Int × Unit) × Int × Int × Int
abbrev Zgs:=ZEv → Option ((Int × Int × List (Int × Int × Int × Unit) × Int × Unit) × Unit)
abbrev ZEu:=Int × List Int × Int × Int × Int × Int × List (Int × Int × Int × Unit) × Int × Int × Int
abbrev Zbg:=ZEu → Option ((Int × Int × List (Int × Int × Int × Unit) × Int × Unit) × Unit)
noncomputable def ZRI:ZEw → St
 | (v0,v1,v2,v3,v4,v5,v6,v7,v8,v9,v10,v11,v12,v13,v14,v15,v16,v17,v18) => St.mk (Zk [(37,Zg v0),(38,Zg v1),(36,AV.val (PV.sl (Ty.int Jx).sl v2)),(7,Zg v3),(5,AV.bx 8192 0),(8,AV.bx 8194 0),(6,Zg v4),(0,We v5),(1,Zg v6),(4,AV.bx 8196 0),(9,avB v7)]) (Zj [(8192,QG [Zg v8,Zg v9,AV.own 8193,Zg v10]),(8193,RS.live (Res.arr ((Ty.int Jx).pair ((Ty.int Jx).pair ((Ty.int Jx).pair Ty.unit))) v11 false)),(8194,QG [Zg v12,Zg v13,AV.own 8195,Zg v14]),(8195,RS.live (Res.arr ((Ty.int Jx).pair ((Ty.int Jx).pair ((Ty.int Jx).pair Ty.unit))) v15 false)),(8196,QG [Zg v16,Zg v17,AV.val (PV.v (V4 none (0:Nat) (0:Nat))),Zg v18])])
noncomputable def Zcc (k:Nat) (L1:Zbg) (L2:Zgs) (L3:Znz):Znz
 | (v0,v1,v2,v3,v4,v5,v6,v7,v8,v9,v10,v11,v12,v13,v14,v15,v16,v17,v18) => bif decide (v1 < v0) then bif decide (0 ≤ v1 ∧ v1 < UD v2.length) then (ZBP k (v2.getD v1.toNat [],v3,())).bind fun y => bif !y.1.2.1 then bif y.1.2.1 then bif decide (v10 < 0) then L2 (Jx.wrap (v3 + 1),v4,v5,v6,v12,v13,v14,v15,v16,v17,v18) else bif decide (v14 < v10) then L2 (Jx.wrap (v3 + 1),v4,v5,v6,v12,v13,v14,v15,v16,v17,v18) else L2 (Jx.wrap (v3 + 1),v4,v5,v6,v8,v9,v10,v11,v16,v17,v18) else L2 (Jx.wrap (v3 + 1),v4,v5,v6,v8,v9,v10,v11,v16,v17,v18) else bif decide (v15.length + [(y.1.1.1,y.1.1.2.1,y.1.1.2.2.1,())].length < 2147483648) then (Zlk k (v3,())).bind fun y_1 => L3 (v0,Jx.wrap (v1 + 1),v2,v3,v4,v5,v6,y.1.2.1,v8,v9,v10,v11,v12,v13,Jx.wrap (v14 + Jx.wrap (y_1.1 + y.1.1.2.2.1)),v15 ++ [(y.1.1.1,y.1.1.2.1,y.1.1.2.2.1,())],v16,v17,v18) else none else none else bif v7 then bif decide (v10 < 0) then L2 (Jx.wrap (v3 + 1),v4,v5,v6,v12,v13,v14,v15,v16,v17,v18) else bif decide (v14 < v10) then L2 (Jx.wrap (v3 + 1),v4,v5,v6,v12,v13,v14,v15,v16,v17,v18) else L2 (Jx.wrap (v3 + 1),v4,v5,v6,v8,v9,v10,v11,v16,v17,v18) else L2 (Jx.wrap (v3 + 1),v4,v5,v6,v8,v9,v10,v11,v16,v17,v18)
noncomputable def Zdq (k:Nat) (L1:Zbg) (L2:Zgs):Znz:=Ze (fun L3 => Zcc k L1 L2 L3) k
noncomputable def ZyB (k:Nat) (n1 n2:Nat) (n:Nat):=Qj (Zvj k) Tryz.f202 ZX ZnB [1,1,0,1,0,0,1,0,0,1,1,0,0,1,0,0,1,0,1,0] [n1,n2] n ZRI (A:=Zvh)
noncomputable def ZRH:ZEv → St
 | (v0,v1,v2,v3,v4,v5,v6,v7,v8,v9,v10) => St.mk (Zk [(7,Zg v0),(6,Zg v1),(0,We v2),(1,Zg v3),(5,AV.bx 8192 0),(4,AV.bx 8194 0)]) (Zj [(8192,QG [Zg v4,Zg v5,AV.own 8193,Zg v6]),(8193,RS.live (Res.arr ((Ty.int Jx).pair ((Ty.int Jx).pair ((Ty.int Jx).pair Ty.unit))) v7 false)),(8194,QG [Zg v8,Zg v9,AV.val (PV.v (V4 none (0:Nat) (0:Nat))),Zg v10])])
noncomputable def YL (k:Nat) (L3:Znz) (L1:Zbg) (L2:Zgs):Zgs
 | (v0,v1,v2,v3,v4,v5,v6,v7,v8,v9,v10) => bif decide (v0 < 2) then (Zvk k (v2,v3,v1,())).bind fun y => L3 (UD (UK y.1),(0:Int),y.1,v0,v1,v2,v3,true,v4,v5,v6,v7,v0,v1,(6:Int),[],v8,v9,v10) else L1 (Jx.wrap (v1 + 1),v2,v3,v4,v5,v6,v7,v8,v9,v10)
noncomputable def ZiL (k:Nat) (L1:Zbg):Zgs:=Ze (fun L2 => YL k (Zdq k L1 L2) L1 L2) k
noncomputable def ZiM (k:Nat) (n1:Nat) (n:Nat):=Qj (Zvj k) Tryz.f202 ZX ZnB [1,1,0,1,0,0,1,0,0,1,1,0] [n1] n ZRH (A:=Zvh)
noncomputable def ZRG:ZEu → St
 | (v0,v1,v2,v3,v4,v5,v6,v7,v8,v9) => St.mk (Zk [(6,Zg v0),(0,We v1),(1,Zg v2),(5,AV.bx 8192 0),(4,AV.bx 8194 0)]) (Zj [(8192,QG [Zg v3,Zg v4,AV.own 8193,Zg v5]),(8193,RS.live (Res.arr ((Ty.int Jx).pair ((Ty.int Jx).pair ((Ty.int Jx).pair Ty.unit))) v6 false)),(8194,QG [Zg v7,Zg v8,AV.val (PV.v (V4 none (0:Nat) (0:Nat))),Zg v9])])
noncomputable def Zcb (k:Nat) (L2:Zgs) (L1:Zbg):Zbg
 | (v0,v1,v2,v3,v4,v5,v6,v7,v8,v9) => bif decide (v0 ≤ 4) then (ZpX k (Jx.wrap (UD v1.length + v2),v2,v0,())).bind fun y => bif !y.1 then L1 (Jx.wrap (v0 + 1),v1,v2,v3,v4,v5,v6,v7,v8,v9) else L2 (0,v0,v1,v2,v3,v4,v5,v6,v7,v8,v9) else some ((v3,v4,v6,v5,()),())
noncomputable def ZnA (k:Nat):Zbg:=Ze (fun L1 => Zcb k (ZiL k L1) L1) k
noncomputable def Zae (k:Nat) (n:Nat):=Qj (Zvj k) Tryz.f202 ZX ZnB [1,1,0,1,0] [] n ZRG (A:=Zvh)
noncomputable def Zgt (k:Nat) (L1:Zbg):List Int × Int × Unit → Option ((Int × Int × List (Int × Int × Int × Unit) × Int × Unit) × Unit)
 | (a0,a1,()) => L1 (0,a0,a1,(0:Int),(0:Int),(-1:Int),[],(0:Int),(0:Int),(0:Int))
noncomputable def Zvi (k:Nat):=Zgt k (ZnA k)
theorem ZHY (k:Nat) (n1 n2:Nat):∀ n,ZyB k n1 n2 n = Ze (fun L3 => Zcc k (Zae k n1) (ZiM k n1 n2) L3) n:=ZG
theorem ZHX (k:Nat) (n1:Nat):∀ n,ZiM k n1 n = Ze (fun L2 => YL k (Zdq k (Zae k n1) L2) (Zae k n1) L2) n:=ZG (fun n v => by rw [show (Zdq k (Zae k n1) (ZiM k n1 n)) = ZyB k n1 n k from (ZHY k n1 n k).symm]; kernel_rfl)
theorem ZHW (k:Nat):∀ n,Zae k n = Ze (fun L1 => Zcb k (ZiL k L1) L1) n:=ZG (fun n v => by rw [show (ZiL k (Zae k n)) = ZiM k n k from (ZHX k n k).symm]; kernel_rfl)
noncomputable def ZK5 (k:Nat):ZA k:=Zx 202 Tryz.f202 (Zvj k) ZX ZnB Zvi (A:=Zvh) (h:=fun x => by show _ = Zgt k (ZnA k) x; rw [show ZnA k = Zae k k from (ZHW k k).symm]; kernel_rfl)
noncomputable def ZlG (k:Nat):List Int × Int × Unit → Option ((Int × Int × Unit) × Unit)
 | (a0,a1,()) => (Zvg k (a0,a1,())).bind fun y => bif y.1 != 0 then some ((0,y.1,()),()) else (Zvi k (a0,a1,())).bind fun y => some ((y.1.2.2.2.1,0,()),())
noncomputable def ZBI (k:Nat):=ZlG k
noncomputable def ZVI (k:Nat):ZA k:=Zx 244 Tryz.f244 [ZK4 k,ZK5 k] ZX Wg ZBI
abbrev ZRB:List Kd:=[.view ZxQ,.view (.int .i64),.view Zd7,.view (.int .i64)]
abbrev ZRC:Kd:=.tup [.view ZxQ,.view .bool]
noncomputable def Zlh (k:Nat):(Int × Int × Int × List Int × (List Int × Int × Unit) × List Int × Int × Unit) × Int × (List Int × Int × Unit) × Int × Unit → Option (((Int × Int × Int × List Int × (List Int × Int × Unit) × List Int × Int × Unit) × Bool × Unit) × Unit)
 | ((a0,a1,a2,a3,(a4,a5,()),a6,a7,()),a8,(a9,a10,()),a11,()) => (Zvy k ((a9,a10,()),a3,())).bind fun y => bif y.1.2.1 != 0 then some (((a0,a1,a2,a3,(a4,a5,()),a6,a7,()),false,()),()) else (ZBI k (y.1.1,UD a9.length,())).bind fun y_1 => bif y_1.1.2.1 != 0 then some (((a0,a1,a2,a3,(a4,a5,()),a6,a7,()),false,()),()) else some (((a8,a1,a2,a3,(a9,a10,()),y.1.1,Jx.wrap (Jx.wrap (a11 + Jx.wrap (UD a9.length * a2)) + y_1.1.1),()),true,()),())
noncomputable def ZpH (k:Nat):=Zlh k
set_option maxHeartbeats 1000000 in
noncomputable def ZVk (k:Nat):ZA k:=Zx 198 Tryz.f198 [ZLM k,ZVI k] ZRB ZRC ZpH
abbrev ZnW:Kd:=.view Zd7
noncomputable def ZLX (k:Nat):List (ZA k):=[ZBz k]
def ZLW:Nat → Ann:=fun id => bif Ja id 4 then ⟨[19,20,18,3,2],[]⟩ else ⟨[],[]⟩
abbrev ZnV:=Zgp → Option ((List Int × Int × Unit) × Unit)
def ZRX:Zgp → St
 | (v0,v1,v2,v3,v4,v5) => St.mk (Zk [(19,Zg v0),(20,Zg v1),(18,We v2),(3,AV.bx 8192 0),(2,AV.bx 8194 0)]) (Zj [(8192,QG [AV.own 8193,Zg v3]),(8193,rsA v4 false),(8194,QG [AV.val (PV.v (V4 none (0:Nat) (0:Nat))),Zg v5])])
def Ztf (k:Nat) (L1:ZnV):ZnV
 | (v0,v1,v2,v3,v4,v5) => bif decide (v1 < v0) then bif decide (0 ≤ v1 ∧ v1 < UD v2.length) then bif decide (0 ≤ v1 ∧ v1 < UD v4.length) then bif decide (v1.toNat < v4.length) then L1 (v0,Jx.wrap (v1 + 1),v2,v3,v4.set v1.toNat (Jx.wrap (v2.getD v1.toNat 0 * (16:Int))),v5) else none else none else none else some ((v4,v3,()),())
def ZvC (k:Nat):ZnV:=Ze (fun L1 => Ztf k L1) k
noncomputable def Zy1 (k:Nat) (n:Nat):=Qj (ZLX k) Tryz.f245 ZY ZnW [1,1,1,0,1,0] [] n ZRX (A:=ZLW)
def Zte (k:Nat) (L1:ZnV):Int × Unit → Option ((List Int × Int × Unit) × Unit)
 | (a0,()) => bif decide (0 ≤ a0 ∧ a0 ≤ a0 ∧ a0 < 4294967296) then (Zu8 k (if (4:Int) < a0 then (4:Int) else a0,())).bind fun y => L1 (UD (UK y.1.1.1),(0:Int),y.1.1.1,(4:Int),Jd a0.toNat (0:Int),(0:Int)) else none
def ZBL (k:Nat):=Zte k (ZvC k)
theorem ZIt (k:Nat):∀ n,Zy1 k n = Ze (fun L1 => Ztf k L1) n:=ZG
noncomputable def ZVL (k:Nat):ZA k:=Zx 245 Tryz.f245 (ZLX k) ZY ZnW ZBL (A:=ZLW) (h:=fun x => by show _ = Zte k (ZvC k) x; rw [show ZvC k = Zy1 k k from (ZIt k k).symm]; kernel_rfl)
noncomputable def ZLZ (k:Nat):List (ZA k):=[ZLM k]
def ZLY:Nat → Ann:=fun id => bif Ja id 4 then ⟨[18,19,17,8,7],[]⟩ else ⟨[],[]⟩
abbrev ZnX:=Zl9 → Option ((Int × Int × Unit) × Unit)
def ZRY:Zl9 → St
 | (v0,v1,v2,v3,v4) => St.mk (Zk [(18,Zg v0),(19,Zg v1),(17,We v2),(8,Zg v3),(7,Zg v4)]) (Zj [])
def Zck (k:Nat) (L1:ZnX):ZnX
 | (v0,v1,v2,v3,v4) => bif decide (v1 < v0) then bif decide (0 ≤ v1 ∧ v1 < UD v2.length) then L1 (v0,Jx.wrap (v1 + 1),v2,Jx.wrap (v3 + if v2.getD v1.toNat 0 < Jx.wrap ((0:Int) - v2.getD v1.toNat 0) then Jx.wrap ((0:Int) - v2.getD v1.toNat 0) else v2.getD v1.toNat 0),v4) else none else some ((v3,v4,()),())
def ZnY (k:Nat):ZnX:=Ze (fun L1 => Zck k L1) k
noncomputable def Zy2 (k:Nat) (n:Nat):=Qj (ZLZ k) Tryz.f246 Kh Wg [1,1,1,0,1,0] [] n ZRY (A:=ZLY)
def ZgE (k:Nat) (L1:ZnX):(List Int × Int × Unit) × List Int × Unit → Option ((Int × Int × Unit) × Unit)
 | ((a0,a1,()),a2,()) => (Zvy k ((a0,a1,()),a2,())).bind fun y => L1 (UD (UK y.1.1),(0:Int),y.1.1,(0:Int),y.1.2.1)
def ZvD (k:Nat):=ZgE k (ZnY k)
theorem ZIv (k:Nat):∀ n,Zy2 k n = Ze (fun L1 => Zck k L1) n:=ZG
noncomputable def ZVM (k:Nat):ZA k:=Zx 246 Tryz.f246 (ZLZ k) Kh Wg ZvD (A:=ZLY) (h:=fun x => by show _ = ZgE k (ZnY k) x; rw [show ZnY k = Zy2 k k from (ZIv k k).symm]; kernel_rfl)
abbrev ZEM:Kd:=.own (.int .i64) false
def ZvE (k:Nat):List Int × Unit → Option (List Int × Unit):=fun x => ZbR x
noncomputable def ZpW:Code:=ZKD Tryz.f221
theorem ZL1 (k:Nat):Ctr Tryz.prog k 221 (mk XH ZEM ZvE) :=
 ZsF (C:=ZUz k) (A:=fun _ => ⟨[],[]⟩) (ZxE ZEi) Zic (f:=221) (fn:=Tryz.f221) (o0:=Zmm (ZbA [0] ZpW) 0) (o1:=Zmm (ZbA [1,0,0] ZpW) 0) (o2:=Zmm (ZbA [1,0,0] ZpW) 1)
  (r0:=0) (r1:=1) (X:=ZbA [1,0,1,0] ZpW) (Y:=ZbA [1,1] ZpW) (T:=61) (E:=3) (U:=61) (t:=(.int .i64))
  (by kernel_rfl) (by kernel_rfl) (by kernel_rfl) (by kernel_rfl) (by kernel_rfl) (of_decide_eq_true (by kernel_rfl)) (by kernel_rfl) ⟨by kernel_rfl,by kernel_rfl,by kernel_rfl⟩ ⟨by kernel_rfl,by kernel_rfl,by kernel_rfl⟩ ⟨by kernel_rfl,by kernel_rfl,by kernel_rfl⟩ (fun xs => by kernel_rfl) (by kernel_rfl)
noncomputable def ZL0 (k:Nat):ZA k:=⟨(221,mk XH ZEM ZvE),ZL1 k⟩
noncomputable def Zve (k:Nat):List (ZA k):=[ZpE k,ZVL k,ZVM k,ZL0 k]
def Zvd:Nat → Ann:=fun id => bif Ja id 15 then ⟨[57,56,6,11,0,9,7,50,49,10,1,4],[.seen 6 0]⟩ else bif Ja id 12 then ⟨[49,50,10,6,0,9,7,1,4],[]⟩ else bif Ja id 9 then ⟨[10,1,6,0,9,7,4],[]⟩ else ⟨[],[]⟩
abbrev ZEt:=Int × Int × Int × Int × List Int × Bool × Int × Int × Int × Int × Int × List Int × Int × Int
abbrev Znx:=ZEt → Option (((List Int × Int × Unit) × Int × Unit) × Unit)
abbrev ZEs:=Int × Int × Int × List Int × Bool × Int × Int × List Int × Int × Int
abbrev Zgq:=ZEs → Option (((List Int × Int × Unit) × Int × Unit) × Unit)
abbrev ZEr:=Int × Int × List Int × Bool × Int × List Int × Int × Int
abbrev Zbf:=ZEr → Option (((List Int × Int × Unit) × Int × Unit) × Unit)
def ZRF:ZEt → St
 | (v0,v1,v2,v3,v4,v5,v6,v7,v8,v9,v10,v11,v12,v13) => St.mk (Zk [(57,Zg v0),(56,AV.agg [Zg v1,Zg v2]),(6,AV.bx 8192 0),(11,Zg v3),(0,We v4),(9,avB v5),(7,Zg v6),(50,Zg v7),(49,Zg v8),(10,Zg v9),(1,Zg v10),(4,AV.bx 8193 0)]) (Zj [(8192,QG [We v11,Zg v12]),(8193,QG [AV.val (PV.v (V4 none (0:Nat) (0:Nat))),Zg v13])])
def K3 (k:Nat) (L1:Zbf) (L2:Zgq) (L3:Znx):Znx
 | (v0,v1,v2,v3,v4,v5,v6,v7,v8,v9,v10,v11,v12,v13) => bif decide (v0 < 2) then bif decide (0 ≤ v0 ∧ v0 < 2) then (ZvE k (v11,())).bind fun y => bif decide (0 ≤ v3 ∧ v3 < UD (UK y.1)) then bif decide (v3.toNat < UK y.1) then bif decide (0 ≤ v3 ∧ v3 < UD (UK y.1)) then bif decide (v3.toNat < UK y.1) then (ZvD k ((List.set y.1 v3.toNat (Jx.wrap (US y.1 v3.toNat 0 + [v1,v2].getD v0.toNat (0:Int))),v12,()),v4,())).bind fun y_1 => bif y_1.1.2.1 == 0 then bif !v5 then L3 (Jx.wrap (v0 + 1),v1,v2,v3,v4,true,y_1.1.1,v7,v8,v9,v10,List.set y.1 v3.toNat (Jx.wrap (US y.1 v3.toNat 0 + [v1,v2].getD v0.toNat (0:Int))),v12,v13) else bif decide (y_1.1.1 < v6) then L3 (Jx.wrap (v0 + 1),v1,v2,v3,v4,true,y_1.1.1,v7,v8,v9,v10,List.set y.1 v3.toNat (Jx.wrap (US y.1 v3.toNat 0 + [v1,v2].getD v0.toNat (0:Int))),v12,v13) else L3 (Jx.wrap (v0 + 1),v1,v2,v3,v4,v5,v6,v7,v8,v9,v10,v11,v12,v13) else L3 (Jx.wrap (v0 + 1),v1,v2,v3,v4,v5,v6,v7,v8,v9,v10,v11,v12,v13) else none else none else none else none else none else L2 (v8,Jx.wrap (v7 + 1),v9,v4,v5,v6,v10,v11,v12,v13)
def ZiJ (k:Nat) (L1:Zbf) (L2:Zgq):Znx:=Ze (fun L3 => K3 k L1 L2 L3) k
noncomputable def ZyA (k:Nat) (n1 n2:Nat) (n:Nat):=Qj (Zve k) Tryz.f199 ZX XC [1,1,1,1,1,0,1,0,0,1,0,0,1,0,0,1,1,0,0,1,1,0] [n1,n2] n ZRF (A:=Zvd)
def ZRE:ZEs → St
 | (v0,v1,v2,v3,v4,v5,v6,v7,v8,v9) => St.mk (Zk [(49,Zg v0),(50,Zg v1),(10,Zg v2),(6,AV.bx 8192 0),(0,We v3),(9,avB v4),(7,Zg v5),(1,Zg v6),(4,AV.bx 8193 0)]) (Zj [(8192,QG [We v7,Zg v8]),(8193,QG [AV.val (PV.v (V4 none (0:Nat) (0:Nat))),Zg v9])])
def Zca (k:Nat) (L3:Znx) (L1:Zbf) (L2:Zgq):Zgq
 | (v0,v1,v2,v3,v4,v5,v6,v7,v8,v9) => bif decide (v1 < v0) then L3 (0,v2,Jx.wrap ((0:Int) - v2),v1,v3,v4,v5,v1,v0,v2,v6,v7,v8,v9) else L1 (Jx.wrap (v2.tdiv (2:Int)),v6,v3,v4,v5,v7,v8,v9)
def ZiI (k:Nat) (L1:Zbf):Zgq:=Ze (fun L2 => Zca k (ZiJ k L1 L2) L1 L2) k
noncomputable def ZiK (k:Nat) (n1:Nat) (n:Nat):=Qj (Zve k) Tryz.f199 ZX XC [1,1,1,1,1,0,1,0,0,1,0,0,1,0] [n1] n ZRE (A:=Zvd)
def ZRD:ZEr → St
 | (v0,v1,v2,v3,v4,v5,v6,v7) => St.mk (Zk [(10,Zg v0),(1,Zg v1),(6,AV.bx 8192 0),(0,We v2),(9,avB v3),(7,Zg v4),(4,AV.bx 8193 0)]) (Zj [(8192,QG [We v5,Zg v6]),(8193,QG [AV.val (PV.v (V4 none (0:Nat) (0:Nat))),Zg v7])])
def Zb9 (k:Nat) (L2:Zgq) (L1:Zbf):Zbf
 | (v0,v1,v2,v3,v4,v5,v6,v7) => bif decide ((0:Int) < v0) then L2 (v1,(0:Int),v0,v2,v3,v4,v1,v5,v6,v7) else some (((v5,v6,()),0,()),())
def Zny (k:Nat):Zbf:=Ze (fun L1 => Zb9 k (ZiI k L1) L1) k
noncomputable def Zad (k:Nat) (n:Nat):=Qj (Zve k) Tryz.f199 ZX XC [1,1,1,1,1,0,1,0] [] n ZRD (A:=Zvd)
def Zgr (k:Nat) (L1:Zbf):List Int × Int × Unit → Option (((List Int × Int × Unit) × Int × Unit) × Unit)
 | (a0,a1,()) => bif decide (a1 < 0) then some ((([],(0:Int),()),1,()),()) else bif decide ((8:Int) < a1) then some ((([],(0:Int),()),1,()),()) else bif decide (UD a0.length < a1) then some ((([],(0:Int),()),1,()),()) else (ZiG k (a0,(),())).bind fun y => bif y.1 then some ((([],(0:Int),()),12,()),()) else (ZBL k (a1,())).bind fun y => (ZvD k ((y.1.1,y.1.2.1,()),a0,())).bind fun y_1 => L1 (8,a1,a0,y_1.1.2.1 == 0,y_1.1.1,y.1.1,y.1.2.1,(0:Int))
def ZBA (k:Nat):=Zgr k (Zny k)
theorem ZHT (k:Nat) (n1 n2:Nat):∀ n,ZyA k n1 n2 n = Ze (fun L3 => K3 k (Zad k n1) (ZiK k n1 n2) L3) n:=ZG
theorem ZHS (k:Nat) (n1:Nat):∀ n,ZiK k n1 n = Ze (fun L2 => Zca k (ZiJ k (Zad k n1) L2) (Zad k n1) L2) n:=ZG (fun n v => by rw [show (ZiJ k (Zad k n1) (ZiK k n1 n)) = ZyA k n1 n k from (ZHT k n1 n k).symm]; kernel_rfl)
theorem ZHR (k:Nat):∀ n,Zad k n = Ze (fun L1 => Zb9 k (ZiI k L1) L1) n:=ZG (fun n v => by rw [show (ZiI k (Zad k n)) = ZiK k n k from (ZHS k n k).symm]; kernel_rfl)
set_option maxHeartbeats 1000000 in
noncomputable def ZVl (k:Nat):ZA k:=Zx 199 Tryz.f199 (Zve k) ZX XC ZBA (A:=Zvd) (h:=fun x => by show _ = Zgr k (Zny k) x; rw [show Zny k = Zad k k from (ZHR k k).symm]; kernel_rfl)
abbrev ZRw:List Kd:=[.view ZxQ,.view .bool,.box [.view (.int .i64),.view (.int .i64),.view (.int .i64),.view (.sl (.int .i64)),.view (.sl (.int .i64)),.view (.int .i64),.view (.sl (.int .i64)),.view (.int .i64)]]
def ZHK (k:Nat):(Int × Int × Int × List Int × (List Int × Int × Unit) × List Int × Int × Unit) × Bool × (Int × Int × Int × List Int × List Int × Int × List Int × Int × Unit) × Unit → Option (Unit × (Int × Int × Int × List Int × List Int × Int × List Int × Int × Unit) × Unit)
 | ((a0,a1,a2,a3,(a4,a5,()),a6,a7,()),a8,(a9,a10,a11,a12,a13,a14,a15,a16,()),()) => bif a8 then bif decide (a16 < 0) then some ((),(a0,a1,a2,a3,a4,a5,a6,a7,()),()) else bif decide (a7 < a16) then some ((),(a0,a1,a2,a3,a4,a5,a6,a7,()),()) else some ((),(a9,a10,a11,a12,a13,a14,a15,a16,()),()) else some ((),(a9,a10,a11,a12,a13,a14,a15,a16,()),())
def ZeO (k:Nat):=ZHK k
set_option maxHeartbeats 1000000 in
noncomputable def ZVi (k:Nat):ZA k:=Zx 196 Tryz.f196 [] ZRw Yq ZeO
abbrev Zw1:Kd:=.view ZxQ
noncomputable def ZGn (k:Nat):List (ZA k):=[ZKW k,ZVh k,ZBz k,ZVk k,ZVl k,ZVi k]
def ZGi:Nat → Ann:=fun id => bif Ja id 21 then ⟨[82,81,11,6,10,12,9,4],[]⟩ else bif Ja id 15 then ⟨[62,63,10,6,11,12,9,4],[]⟩ else bif Ja id 4 then ⟨[28,29,27,6,5,4],[.cell 6 3 ((Ty.int Jx))]⟩ else ⟨[],[]⟩
abbrev ZO8:=Int × Int × Int × Int × Int × Int × Int × Int × List Int × List Int × Int × List Int × Int × Int × Int × Int × List Int × List Int × Int × List Int × Int × Int × Int × Int × Int × Int × List Int × Int × Int × Int × Int × Int
abbrev ZwZ:=ZO8 → Option ((Int × Int × Int × List Int × (List Int × Int × Unit) × List Int × Int × Unit) × Unit)
abbrev ZO7:=Int × Int × Int × Int × Int × Int × List Int × List Int × Int × List Int × Int × Int × Int × Int × List Int × List Int × Int × List Int × Int × Int × Int × Int × Int × Int × List Int × Int × Int × Int × Int × Int
abbrev ZwY:=ZO7 → Option ((Int × Int × Int × List Int × (List Int × Int × Unit) × List Int × Int × Unit) × Unit)
abbrev ZO6:=Int × Int × List Int × Int × Int × Int × Int × Int × Int × List Int × Int × Int × Int × Int × Int
abbrev ZwX:=ZO6 → Option ((Int × Int × Int × List Int × (List Int × Int × Unit) × List Int × Int × Unit) × Unit)
def ZWT:ZO8 → St
 | (v0,v1,v2,v3,v4,v5,v6,v7,v8,v9,v10,v11,v12,v13,v14,v15,v16,v17,v18,v19,v20,v21,v22,v23,v24,v25,v26,v27,v28,v29,v30,v31) => St.mk (Zk [(82,Zg v0),(81,AV.agg [Zg v1,Zg v2,Zg v3]),(11,Zg v4),(6,AV.bx 8192 0),(10,AV.clo 196 [AV.bx 8193 0]),(12,AV.bx 8194 0),(9,AV.bx 8193 0),(4,AV.bx 8196 0)]) (Zj [(8192,QG [Zg v5,Zg v6,Zg v7,We v8,We v9,Zg v10,We v11,Zg v12]),(8193,QG [Zg v13,Zg v14,Zg v15,We v16,We v17,Zg v18,We v19,Zg v20]),(8194,QG [Zg v21,Zg v22,Zg v23,AV.own 8195,AV.val (PV.v (V4 none (0:Nat) (0:Nat))),Zg v24,AV.val (PV.v (V4 none (0:Nat) (0:Nat))),Zg v25]),(8195,rsA v26 true),(8196,QG [Zg v27,Zg v28,Zg v29,AV.val (PV.v (V4 none (0:Nat) (0:Nat))),AV.val (PV.v (V4 none (0:Nat) (0:Nat))),Zg v30,AV.val (PV.v (V4 none (0:Nat) (0:Nat))),Zg v31])])
noncomputable def ZcP (k:Nat) (L3:ZwZ):ZwZ
 | (v0,v1,v2,v3,v4,v5,v6,v7,v8,v9,v10,v11,v12,v13,v14,v15,v16,v17,v18,v19,v20,v21,v22,v23,v24,v25,v26,v27,v28,v29,v30,v31) => bif decide (v0 < 3) then bif decide (0 ≤ v0 ∧ v0 < 3) then bif decide ([v1,v2,v3].getD v0.toNat (0:Int) < v4) then (ZBA k (v8,[v1,v2,v3].getD v0.toNat (0:Int),())).bind fun y => (ZpH k ((v5,v6,v7,v8,(v9,v10,()),v11,v12,()),Jx.wrap ((31:Int) + [v1,v2,v3].getD v0.toNat (0:Int)),(y.1.1.1,y.1.1.2.1,()),Jx.wrap ((9:Int) + Jx.wrap ((12:Int) * [v1,v2,v3].getD v0.toNat (0:Int))),())).bind fun y => (ZeO k ((y.1.1.1,y.1.1.2.1,y.1.1.2.2.1,y.1.1.2.2.2.1,(y.1.1.2.2.2.2.1.1,y.1.1.2.2.2.2.1.2.1,()),y.1.1.2.2.2.2.2.1,y.1.1.2.2.2.2.2.2.1,()),y.1.2.1,(v13,v14,v15,v16,v17,v18,v19,v20,()),())).bind fun y => L3 (Jx.wrap (v0 + 1),v1,v2,v3,v4,v5,v6,v7,v8,v9,v10,v11,v12,y.2.1.1,y.2.1.2.1,y.2.1.2.2.1,y.2.1.2.2.2.1,y.2.1.2.2.2.2.1,y.2.1.2.2.2.2.2.1,y.2.1.2.2.2.2.2.2.1,y.2.1.2.2.2.2.2.2.2.1,v21,v22,v23,v24,v25,v26,v27,v28,v29,v30,v31) else L3 (Jx.wrap (v0 + 1),v1,v2,v3,v4,v5,v6,v7,v8,v9,v10,v11,v12,v13,v14,v15,v16,v17,v18,v19,v20,v21,v22,v23,v24,v25,v26,v27,v28,v29,v30,v31) else none else (ZeO k (((1:Int),v22,v23,v26,([],v24,()),[],Jx.wrap (v4 * v7),()),true,(v13,v14,v15,v16,v17,v18,v19,v20,()),())).bind fun y => some ((y.2.1.1,y.2.1.2.1,y.2.1.2.2.1,y.2.1.2.2.2.1,(y.2.1.2.2.2.2.1,y.2.1.2.2.2.2.2.1,()),y.2.1.2.2.2.2.2.2.1,y.2.1.2.2.2.2.2.2.2.1,()),())
noncomputable def Zl3 (k:Nat):ZwZ:=Ze (fun L3 => ZcP k L3) k
noncomputable def ZGm (k:Nat) (n:Nat):=Qj (ZGn k) Tryz.f152 ZX Zw1 [1,1,1,1,1,1,1,1,1,1,1,0,1,0] [] n ZWT (A:=ZGi)
def ZWS:ZO7 → St
 | (v0,v1,v2,v3,v4,v5,v6,v7,v8,v9,v10,v11,v12,v13,v14,v15,v16,v17,v18,v19,v20,v21,v22,v23,v24,v25,v26,v27,v28,v29) => St.mk (Zk [(62,Zg v0),(63,Zg v1),(10,AV.clo 196 [AV.bx 8192 0]),(6,AV.bx 8193 0),(11,Zg v2),(12,AV.bx 8194 0),(9,AV.bx 8192 0),(4,AV.bx 8196 0)]) (Zj [(8192,QG [Zg v3,Zg v4,Zg v5,We v6,We v7,Zg v8,We v9,Zg v10]),(8193,QG [Zg v11,Zg v12,Zg v13,We v14,We v15,Zg v16,We v17,Zg v18]),(8194,QG [Zg v19,Zg v20,Zg v21,AV.own 8195,AV.val (PV.v (V4 none (0:Nat) (0:Nat))),Zg v22,AV.val (PV.v (V4 none (0:Nat) (0:Nat))),Zg v23]),(8195,rsA v24 true),(8196,QG [Zg v25,Zg v26,Zg v27,AV.val (PV.v (V4 none (0:Nat) (0:Nat))),AV.val (PV.v (V4 none (0:Nat) (0:Nat))),Zg v28,AV.val (PV.v (V4 none (0:Nat) (0:Nat))),Zg v29])])
noncomputable def Zft (k:Nat) (L3:ZwZ) (L2:ZwY):ZwY
 | (v0,v1,v2,v3,v4,v5,v6,v7,v8,v9,v10,v11,v12,v13,v14,v15,v16,v17,v18,v19,v20,v21,v22,v23,v24,v25,v26,v27,v28,v29) => bif decide (v1 < v0) then (Zu8 k (v1,())).bind fun y => (ZpH k ((v11,v12,v13,v14,(v15,v16,()),v17,v18,()),Jx.wrap ((8:Int) + v1),(y.1.1.1,y.1.1.2.1,()),0,())).bind fun y => (ZeO k ((y.1.1.1,y.1.1.2.1,y.1.1.2.2.1,y.1.1.2.2.2.1,(y.1.1.2.2.2.2.1.1,y.1.1.2.2.2.2.1.2.1,()),y.1.1.2.2.2.2.2.1,y.1.1.2.2.2.2.2.2.1,()),y.1.2.1,(v3,v4,v5,v6,v7,v8,v9,v10,()),())).bind fun y => L2 (v0,Jx.wrap (v1 + 1),v2,y.2.1.1,y.2.1.2.1,y.2.1.2.2.1,y.2.1.2.2.2.1,y.2.1.2.2.2.2.1,y.2.1.2.2.2.2.2.1,y.2.1.2.2.2.2.2.2.1,y.2.1.2.2.2.2.2.2.2.1,v11,v12,v13,v14,v15,v16,v17,v18,v19,v20,v21,v22,v23,v24,v25,v26,v27,v28,v29) else L3 (0,(2:Int),(4:Int),(8:Int),v2,v11,v12,v13,v14,v15,v16,v17,v18,v3,v4,v5,v6,v7,v8,v9,v10,v19,v20,v21,v22,v23,v24,v25,v26,v27,v28,v29)
noncomputable def Zl2 (k:Nat):ZwY:=Ze (fun L2 => Zft k (Zl3 k) L2) k
noncomputable def ZGl (k:Nat) (n:Nat):=Qj (ZGn k) Tryz.f152 ZX Zw1 [1,1,1,1,1,1,1,1,1,1,0,1,0] [] n ZWS (A:=ZGi)
def ZWR:ZO6 → St
 | (v0,v1,v2,v3,v4,v5,v6,v7,v8,v9,v10,v11,v12,v13,v14) => St.mk (Zk [(28,Zg v0),(29,Zg v1),(27,We v2),(6,AV.bx 8192 0),(5,Zg v3),(4,AV.bx 8194 0)]) (Zj [(8192,QG [Zg v4,Zg v5,Zg v6,AV.own 8193,AV.val (PV.v (V4 none (0:Nat) (0:Nat))),Zg v7,AV.val (PV.v (V4 none (0:Nat) (0:Nat))),Zg v8]),(8193,rsA v9 false),(8194,QG [Zg v10,Zg v11,Zg v12,AV.val (PV.v (V4 none (0:Nat) (0:Nat))),AV.val (PV.v (V4 none (0:Nat) (0:Nat))),Zg v13,AV.val (PV.v (V4 none (0:Nat) (0:Nat))),Zg v14])])
def KE (k:Nat) (L2:ZwY) (L1:ZwX):ZwX
 | (v0,v1,v2,v3,v4,v5,v6,v7,v8,v9,v10,v11,v12,v13,v14) => bif decide (v1 < v0) then bif decide (0 ≤ v1 ∧ v1 < UD v2.length) then bif decide (0 ≤ v3) then bif decide (v9.length + [UP (v2.getD v1.toNat 0) ((2:Int) ^ min v3.toNat 64)].length < 2147483648) then L1 (v0,Jx.wrap (v1 + 1),v2,v3,v4,v5,v6,v7,v8,v9 ++ [UP (v2.getD v1.toNat 0) ((2:Int) ^ min v3.toNat 64)],v10,v11,v12,v13,v14) else none else none else none else (ZpD k (v9,((v4,v5,v6,v9,[],v7,[],v8,()),()),())).bind fun y => (ZeO k (((0:Int),v5,v6,v9,([],v7,()),[],v6,()),!y.1,(0,0,0,[],[],0,[],(-1:Int),()),())).bind fun y_1 => L2 (Jx.wrap ((if UD v9.length < (4:Int) then UD v9.length else (4:Int)) + (1:Int)),(0:Int),UD v9.length,y_1.2.1.1,y_1.2.1.2.1,y_1.2.1.2.2.1,y_1.2.1.2.2.2.1,y_1.2.1.2.2.2.2.1,y_1.2.1.2.2.2.2.2.1,y_1.2.1.2.2.2.2.2.2.1,y_1.2.1.2.2.2.2.2.2.2.1,y.2.1.1,y.2.1.2.1,y.2.1.2.2.1,y.2.1.2.2.2.1,y.2.1.2.2.2.2.1,y.2.1.2.2.2.2.2.1,y.2.1.2.2.2.2.2.2.1,y.2.1.2.2.2.2.2.2.2.1,(0:Int),v5,v6,v7,v6,v9,v10,v11,v12,v13,v14)
noncomputable def Zw0 (k:Nat):ZwX:=Ze (fun L1 => KE k (Zl2 k) L1) k
noncomputable def ZGk (k:Nat) (n:Nat):=Qj (ZGn k) Tryz.f152 ZX Zw1 [1,1,1,0,1,0] [] n ZWR (A:=ZGi)
def Zke (k:Nat) (L1:ZwX):List Int × Int × Unit → Option ((Int × Int × Int × List Int × (List Int × Int × Unit) × List Int × Int × Unit) × Unit)
 | (a0,a1,()) => (ZBx k (a0,())).bind fun y => L1 (UD a0.length,(0:Int),a0,y.1,(0:Int),y.1,Jx.wrap (a1 - y.1),(0:Int),(0:Int),[],(0:Int),(0:Int),(0:Int),(0:Int),(0:Int))
noncomputable def ZGj (k:Nat):=Zke k (Zw0 k)
theorem ZPb (k:Nat):∀ n,ZGm k n = Ze (fun L3 => ZcP k L3) n:=ZG
theorem ZPa (k:Nat):∀ n,ZGl k n = Ze (fun L2 => Zft k (Zl3 k) L2) n:=ZG (fun n v => by rw [show (Zl3 k) = ZGm k k from (ZPb k k).symm]; kernel_rfl)
theorem ZO9 (k:Nat):∀ n,ZGk k n = Ze (fun L1 => KE k (Zl2 k) L1) n:=ZG (fun n v => by rw [show (Zl2 k) = ZGl k k from (ZPa k k).symm]; kernel_rfl)
noncomputable def ZYs (k:Nat):ZA k:=Zx 152 Tryz.f152 (ZGn k) ZX Zw1 ZGj (A:=ZGi) (h:=fun x => by show _ = Zke k (Zw0 k) x; rw [show Zw0 k = ZGk k k from (ZO9 k k).symm]; kernel_rfl)
noncomputable def ZUC (k:Nat):List (ZA k):=[ZKU k]
def ZUA:Nat → Ann:=fun id => bif Ja id 4 then ⟨[15,16,0],[]⟩ else ⟨[],[]⟩
abbrev Zw2:=Zl0 → Option (Int × (List Int × Int × Unit) × Unit)
def ZWU:Zl0 → St
 | (v0,v1,v2,v3) => St.mk (Zk [(15,Zg v0),(16,Zg v1),(0,AV.bx 0 0)]) (Zj [(0,QG [AV.own 8192,Zg v2]),(8192,RS.live (Res.arr (Ty.int UL) v3 false))])
def Zfu (k:Nat) (L1:Zw2):Zw2
 | (v0,v1,v2,v3) => bif decide (v1 < v0) then (ZpB k ((v3,v2,()),0,())).bind fun y => L1 (v0,Jx.wrap (v1 + 1),y.2.1.2.1,y.2.1.1) else (ZpB k ((v3,v2,()),1,())).bind fun y => some (0,(y.2.1.1,y.2.1.2.1,()),())
def Zw3 (k:Nat):Zw2:=Ze (fun L1 => Zfu k L1) k
noncomputable def ZGo (k:Nat) (n:Nat):=Qj (ZUC k) Tryz.f153 Zu6 Zv [1,1,0,1,0] [] n ZWU (A:=ZUA) (a:=[AV.bx (nat_lit 0) (nat_lit 0)]) (b:=[[]]) (q:=[0])
def Zkf (k:Nat) (L1:Zw2):(List Int × Int × Unit) × Int × Unit → Option (Int × (List Int × Int × Unit) × Unit)
 | ((a0,a1,()),a2,()) => bif decide (a2 < 0) then some (1,(a0,a1,()),()) else bif decide ((65536:Int) < a2) then some (1,(a0,a1,()),()) else L1 (a2,(0:Int),a1,a0)
def Zt5 (k:Nat):=Zkf k (Zw3 k)
theorem ZPd (k:Nat):∀ n,ZGo k n = Ze (fun L1 => Zfu k L1) n:=ZG
noncomputable def ZUB (k:Nat):ZA k:=Zx 153 Tryz.f153 (ZUC k) Zu6 Zv Zt5 (A:=ZUA) (h:=fun x => by show _ = Zkf k (Zw3 k) x; rw [show Zw3 k = ZGo k k from (ZPd k k).symm]; kernel_rfl)
def Zli (k:Nat):(List Int × Int × Unit) × Int × Int × Unit → Option (Int × (List Int × Int × Unit) × Unit)
 | ((a0,a1,()),a2,a3,()) => (ZAa k (a3,())).bind fun y => bif y.1 then some (1,(a0,a1,()),()) else bif a3 == 0 then bif a2 != 0 then some (12,(a0,a1,()),()) else bif decide ((0:Int) < a3) then bif decide (0 ≤ Jx.wrap (a3 - 1)) then bif a2.fdiv ((2:Int) ^ min (Jx.wrap (a3 - 1)).toNat 64) != (0:Int) then bif decide (0 ≤ Jx.wrap (a3 - 1)) then bif a2.fdiv ((2:Int) ^ min (Jx.wrap (a3 - 1)).toNat 64) != (-1:Int) then some (12,(a0,a1,()),()) else (Zhf k ((a0,a1,()),UI.wrap a2,a3,())).bind fun y => some (0,(y.2.1.1,y.2.1.2.1,()),()) else none else (Zhf k ((a0,a1,()),UI.wrap a2,a3,())).bind fun y => some (0,(y.2.1.1,y.2.1.2.1,()),()) else none else (Zhf k ((a0,a1,()),UI.wrap a2,a3,())).bind fun y => some (0,(y.2.1.1,y.2.1.2.1,()),()) else bif decide ((0:Int) < a3) then bif decide (0 ≤ Jx.wrap (a3 - 1)) then bif a2.fdiv ((2:Int) ^ min (Jx.wrap (a3 - 1)).toNat 64) != (0:Int) then bif decide (0 ≤ Jx.wrap (a3 - 1)) then bif a2.fdiv ((2:Int) ^ min (Jx.wrap (a3 - 1)).toNat 64) != (-1:Int) then some (12,(a0,a1,()),()) else (Zhf k ((a0,a1,()),UI.wrap a2,a3,())).bind fun y => some (0,(y.2.1.1,y.2.1.2.1,()),()) else none else (Zhf k ((a0,a1,()),UI.wrap a2,a3,())).bind fun y => some (0,(y.2.1.1,y.2.1.2.1,()),()) else none else (Zhf k ((a0,a1,()),UI.wrap a2,a3,())).bind fun y => some (0,(y.2.1.1,y.2.1.2.1,()),())
def Zvf (k:Nat):=Zli k
set_option maxHeartbeats 1000000 in
noncomputable def ZK3 (k:Nat):ZA k:=Zx 200 Tryz.f200 [ZOU k,ZUv k] ZNJ Zv Zvf
abbrev Zl4:List Kd:=[.box [.own (.int .u8) false,.view (.int .i64)],.view (.sl (.int .i64)),.view (.int .i64)]
noncomputable def ZUE (k:Nat):List (ZA k):=[ZK3 k]
def ZUD:Nat → Ann:=fun id => bif Ja id 1 then ⟨[9,10,8,0,2],[]⟩ else ⟨[],[]⟩
abbrev ZPe:=Int × Int × List Int × Int × Int × List Int
abbrev Zw4:=ZPe → Option (Unit × (List Int × Int × Unit) × Unit)
def ZWV:ZPe → St
 | (v0,v1,v2,v3,v4,v5) => St.mk (Zk [(9,Zg v0),(10,Zg v1),(8,We v2),(0,AV.bx 0 0),(2,Zg v3)]) (Zj [(0,QG [AV.own 8192,Zg v4]),(8192,RS.live (Res.arr (Ty.int UL) v5 false))])
def Zfv (k:Nat) (L1:Zw4):Zw4
 | (v0,v1,v2,v3,v4,v5) => bif decide (v1 < v0) then bif decide (0 ≤ v1 ∧ v1 < UD v2.length) then (Zvf k ((v5,v4,()),v2.getD v1.toNat 0,v3,())).bind fun y => L1 (v0,Jx.wrap (v1 + 1),v2,v3,y.2.1.2.1,y.2.1.1) else none else some ((),(v5,v4,()),())
def Zw5 (k:Nat):Zw4:=Ze (fun L1 => Zfv k L1) k
noncomputable def ZGp (k:Nat) (n:Nat):=Qj (ZUE k) Tryz.f154 Zl4 Yq [1,0] [] n ZWV (A:=ZUD) (a:=[AV.bx (nat_lit 0) (nat_lit 0)]) (b:=[[]]) (q:=[0])
def Zkg (k:Nat) (L1:Zw4):(List Int × Int × Unit) × List Int × Int × Unit → Option (Unit × (List Int × Int × Unit) × Unit)
 | ((a0,a1,()),a2,a3,()) => L1 (UD a2.length,(0:Int),a2,a3,a1,a0)
def Zbq (k:Nat):=Zkg k (Zw5 k)
theorem ZPf (k:Nat):∀ n,ZGp k n = Ze (fun L1 => Zfv k L1) n:=ZG
noncomputable def ZYt (k:Nat):ZA k:=Zx 154 Tryz.f154 (ZUE k) Zl4 Yq Zbq (A:=ZUD) (h:=fun x => by show _ = Zkg k (Zw5 k) x; rw [show Zw5 k = ZGp k k from (ZPf k k).symm]; kernel_rfl)
noncomputable def ZPj (k:Nat):List (ZA k):=[ZqE k,ZUB k,ZK4 k,ZK5 k,ZK7 k,Zvl k,Zvm k,ZEz k,ZK3 k]
noncomputable def ZPg:Nat → Ann:=fun id => bif Ja id 17 then ⟨[69,70,68,11,8,0,41,40,39],[]⟩ else bif Ja id 10 then ⟨[40,41,39,8,0],[]⟩ else ⟨[],[]⟩
abbrev ZPi:=Int × Int × List Int × Int × Int × List (List Int) × Int × List Int × Int × Int × Int × Int × Int × List (Int × Int × Int × Unit) × Int
abbrev Zw6:=ZPi → Option (Int × (List Int × Int × Unit) × Unit)
abbrev ZPh:=Int × Int × List (List Int) × Int × List Int × Int × Int × List (Int × Int × Int × Unit) × Int
abbrev Zl5:=ZPh → Option (Int × (List Int × Int × Unit) × Unit)
noncomputable def ZWX:ZPi → St
 | (v0,v1,v2,v3,v4,v5,v6,v7,v8,v9,v10,v11,v12,v13,v14) => St.mk (Zk [(69,Zg v0),(70,Zg v1),(68,We v2),(11,AV.bx 8193 0),(8,AV.bx 8194 0),(0,AV.bx 0 0),(41,Zg v3),(40,Zg v4),(39,AV.val (PV.sl (Ty.int Jx).sl v5))]) (Zj [(0,QG [AV.own 8192,Zg v6]),(8192,RS.live (Res.arr (Ty.int UL) v7 false)),(8193,QG [Zg v8,Zg v9,Zg v10]),(8194,QG [Zg v11,Zg v12,AV.val (PV.sl ((Ty.int Jx).pair ((Ty.int Jx).pair ((Ty.int Jx).pair Ty.unit))) v13),Zg v14])])
noncomputable def ZaN (k:Nat) (L1:Zl5) (L2:Zw6):Zw6
 | (v0,v1,v2,v3,v4,v5,v6,v7,v8,v9,v10,v11,v12,v13,v14) => bif decide (v1 < v0) then bif decide (0 ≤ v1 ∧ v1 < UD v2.length) then (Zdr k (v11,())).bind fun y => bif v8 == y.1 then (Zvf k ((v7,v6,()),v2.getD v1.toNat 0,v9,())).bind fun y => L2 (v0,Jx.wrap (v1 + 1),v2,v3,v4,v5,y.2.1.2.1,y.2.1.1,v8,v9,v10,v11,v12,v13,v14) else (Zll k (v2.getD v1.toNat 0,())).bind fun y => bif decide (0 ≤ v8) then (Zt5 k ((v7,v6,()),UP y.1.1 ((2:Int) ^ min v8.toNat 64),())).bind fun y_1 => bif decide (0 ≤ v8) then (ZP k ((y_1.2.1.1,y_1.2.1.2.1,()),Jx.wrap (UD (UH 64 y.1.1 &&& UH 64 (Jx.wrap (Jx.wrap ((1:Int) * (2:Int) ^ min v8.toNat 64) - (1:Int)))).toNat),v8,())).bind fun y => L2 (v0,Jx.wrap (v1 + 1),v2,v3,v4,v5,y.2.1.2.1,y.2.1.1,v8,v9,v10,v11,v12,v13,v14) else none else none else none else L1 (v4,Jx.wrap (v3 + 1),v5,v6,v7,v11,v12,v13,v14)
noncomputable def Zl6 (k:Nat) (L1:Zl5):Zw6:=Ze (fun L2 => ZaN k L1 L2) k
noncomputable def ZGq (k:Nat) (n1:Nat) (n:Nat):=Qj (ZPj k) Tryz.f155 Zl4 Zv [1,1,1,1,1,1,0,1,0,0,1,1,0,0,1,1,1,1,1,0] [n1] n ZWX (A:=ZPg) (a:=[AV.bx (nat_lit 0) (nat_lit 0)]) (b:=[[]]) (q:=[0])
noncomputable def ZWW:ZPh → St
 | (v0,v1,v2,v3,v4,v5,v6,v7,v8) => St.mk (Zk [(40,Zg v0),(41,Zg v1),(39,AV.val (PV.sl (Ty.int Jx).sl v2)),(8,AV.bx 8193 0),(0,AV.bx 0 0)]) (Zj [(0,QG [AV.own 8192,Zg v3]),(8192,RS.live (Res.arr (Ty.int UL) v4 false)),(8193,QG [Zg v5,Zg v6,AV.val (PV.sl ((Ty.int Jx).pair ((Ty.int Jx).pair ((Ty.int Jx).pair Ty.unit))) v7),Zg v8])])
noncomputable def Zfx (k:Nat) (L2:Zw6) (L1:Zl5):Zl5
 | (v0,v1,v2,v3,v4,v5,v6,v7,v8) => bif decide (v1 < v0) then bif decide (0 ≤ v1 ∧ v1 < UD v2.length) then bif decide (0 ≤ v1 ∧ v1 < UD v7.length) then (Zlk k (v5,())).bind fun y => (ZP k ((v4,v3,()),(v7.getD v1.toNat (0,0,0,())).1,y.1,())).bind fun y => (Zdr k (v5,())).bind fun y_1 => bif (v7.getD v1.toNat (0,0,0,())).1 == y_1.1 then (ZP k ((y.2.1.1,y.2.1.2.1,()),(v7.getD v1.toNat (0,0,0,())).2.1,5,())).bind fun y => L2 (UD (UK (v2.getD v1.toNat [])),(0:Int),v2.getD v1.toNat [],v1,v0,v2,y.2.1.2.1,y.2.1.1,(v7.getD v1.toNat (0,0,0,())).1,(v7.getD v1.toNat (0,0,0,())).2.1,(v7.getD v1.toNat (0,0,0,())).2.2.1,v5,v6,v7,v8) else L2 (UD (UK (v2.getD v1.toNat [])),(0:Int),v2.getD v1.toNat [],v1,v0,v2,y.2.1.2.1,y.2.1.1,(v7.getD v1.toNat (0,0,0,())).1,(v7.getD v1.toNat (0,0,0,())).2.1,(v7.getD v1.toNat (0,0,0,())).2.2.1,v5,v6,v7,v8) else none else none else some (0,(v4,v3,()),())
noncomputable def Zw7 (k:Nat):Zl5:=Ze (fun L1 => Zfx k (Zl6 k L1) L1) k
noncomputable def ZoP (k:Nat) (n:Nat):=Qj (ZPj k) Tryz.f155 Zl4 Zv [1,1,1,1,1,1,0,1,0] [] n ZWW (A:=ZPg) (a:=[AV.bx (nat_lit 0) (nat_lit 0)]) (b:=[[]]) (q:=[0])
noncomputable def Zkh (k:Nat) (L1:Zl5):(List Int × Int × Unit) × List Int × Int × Unit → Option (Int × (List Int × Int × Unit) × Unit)
 | ((a0,a1,()),a2,a3,()) => (Zvg k (a2,a3,())).bind fun y => bif y.1 != 0 then some (y.1,(a0,a1,()),()) else (Zvi k (a2,a3,())).bind fun y => (ZP k ((a0,a1,()),y.1.1,2,())).bind fun y_1 => (ZP k ((y_1.2.1.1,y_1.2.1.2.1,()),y.1.2.1,4,())).bind fun y_2 => (Zvk k (a2,a3,y.1.2.1,())).bind fun y_3 => L1 (UD (UK y_3.1),(0:Int),y_3.1,y_2.2.1.2.1,y_2.2.1.1,y.1.1,y.1.2.1,y.1.2.2.1,y.1.2.2.2.1)
noncomputable def ZmW (k:Nat):=Zkh k (Zw7 k)
theorem ZPl (k:Nat) (n1:Nat):∀ n,ZGq k n1 n = Ze (fun L2 => ZaN k (ZoP k n1) L2) n:=ZG
theorem ZPk (k:Nat):∀ n,ZoP k n = Ze (fun L1 => Zfx k (Zl6 k L1) L1) n:=ZG (fun n v => by rw [show (Zl6 k (ZoP k n)) = ZGq k n k from (ZPl k n k).symm]; kernel_rfl)
set_option maxHeartbeats 1000000 in
noncomputable def ZYu (k:Nat):ZA k:=Zx 155 Tryz.f155 (ZPj k) Zl4 Zv ZmW (A:=ZPg) (h:=fun x => by show _ = Zkh k (Zw7 k) x; rw [show Zw7 k = ZoP k k from (ZPk k k).symm]; kernel_rfl)
noncomputable def ZNU (k:Nat):(List Int × Int × Unit) × List Int × Int × Unit → Option (Int × (List Int × Int × Unit) × Unit)
 | ((a0,a1,()),a2,a3,()) => (ZGh k (a2,a3,())).bind fun y => bif y.1 != 0 then some (y.1,(a0,a1,()),()) else (ZGj k (a2,a3,())).bind fun y => (ZP k ((a0,a1,()),y.1.1,7,())).bind fun y_1 => bif decide ((0:Int) < y.1.2.1) then (ZP k ((y_1.2.1.1,y_1.2.1.2.1,()),1,1,())).bind fun y_2 => (Zt5 k ((y_2.2.1.1,y_2.2.1.2.1,()),Jx.wrap (y.1.2.1 - 1),())).bind fun y_3 => bif y.1.1 == 0 then bif decide ((0:Int) ≤ 0 ∧ (0:Int) ≤ 1 ∧ (1:Int) ≤ UD (UK y.1.2.2.2.1)) then (Zbq k ((y_3.2.1.1,y_3.2.1.2.1,()),UN 0 (UO 1 y.1.2.2.2.1),y.1.2.2.1,())).bind fun y => some (0,(y.2.1.1,y.2.1.2.1,()),()) else none else bif y.1.1 == 1 then (Zbq k ((y_3.2.1.1,y_3.2.1.2.1,()),y.1.2.2.2.1,y.1.2.2.1,())).bind fun y => some (0,(y.2.1.1,y.2.1.2.1,()),()) else bif decide ((0:Int) ≤ 0 ∧ (0:Int) ≤ UD (UK y.1.2.2.2.2.1.1) ∧ UD (UK y.1.2.2.2.2.1.1) ≤ UD (UK y.1.2.2.2.1)) then (Zbq k ((y_3.2.1.1,y_3.2.1.2.1,()),UN 0 (UO (UD (UK y.1.2.2.2.2.1.1)).toNat y.1.2.2.2.1),y.1.2.2.1,())).bind fun y_4 => bif decide ((31:Int) < y.1.1) then (ZP k ((y_4.2.1.1,y_4.2.1.2.1,()),11,4,())).bind fun y_5 => (ZP k ((y_5.2.1.1,y_5.2.1.2.1,()),y.1.2.2.2.2.1.2.1,5,())).bind fun y_6 => (Zbq k ((y_6.2.1.1,y_6.2.1.2.1,()),y.1.2.2.2.2.1.1,12,())).bind fun y_7 => (ZmW k ((y_7.2.1.1,y_7.2.1.2.1,()),y.1.2.2.2.2.2.1,UD (UK y.1.2.2.2.2.1.1),())).bind fun y => some (y.1,(y.2.1.1,y.2.1.2.1,()),()) else (ZmW k ((y_4.2.1.1,y_4.2.1.2.1,()),y.1.2.2.2.2.2.1,UD (UK y.1.2.2.2.2.1.1),())).bind fun y => some (y.1,(y.2.1.1,y.2.1.2.1,()),()) else none else (ZP k ((y_1.2.1.1,y_1.2.1.2.1,()),0,1,())).bind fun y_2 => bif y.1.1 == 0 then bif decide ((0:Int) ≤ 0 ∧ (0:Int) ≤ 1 ∧ (1:Int) ≤ UD (UK y.1.2.2.2.1)) then (Zbq k ((y_2.2.1.1,y_2.2.1.2.1,()),UN 0 (UO 1 y.1.2.2.2.1),y.1.2.2.1,())).bind fun y => some (0,(y.2.1.1,y.2.1.2.1,()),()) else none else bif y.1.1 == 1 then (Zbq k ((y_2.2.1.1,y_2.2.1.2.1,()),y.1.2.2.2.1,y.1.2.2.1,())).bind fun y => some (0,(y.2.1.1,y.2.1.2.1,()),()) else bif decide ((0:Int) ≤ 0 ∧ (0:Int) ≤ UD (UK y.1.2.2.2.2.1.1) ∧ UD (UK y.1.2.2.2.2.1.1) ≤ UD (UK y.1.2.2.2.1)) then (Zbq k ((y_2.2.1.1,y_2.2.1.2.1,()),UN 0 (UO (UD (UK y.1.2.2.2.2.1.1)).toNat y.1.2.2.2.1),y.1.2.2.1,())).bind fun y_3 => bif decide ((31:Int) < y.1.1) then (ZP k ((y_3.2.1.1,y_3.2.1.2.1,()),11,4,())).bind fun y_4 => (ZP k ((y_4.2.1.1,y_4.2.1.2.1,()),y.1.2.2.2.2.1.2.1,5,())).bind fun y_5 => (Zbq k ((y_5.2.1.1,y_5.2.1.2.1,()),y.1.2.2.2.2.1.1,12,())).bind fun y_6 => (ZmW k ((y_6.2.1.1,y_6.2.1.2.1,()),y.1.2.2.2.2.2.1,UD (UK y.1.2.2.2.2.1.1),())).bind fun y => some (y.1,(y.2.1.1,y.2.1.2.1,()),()) else (ZmW k ((y_3.2.1.1,y_3.2.1.2.1,()),y.1.2.2.2.2.2.1,UD (UK y.1.2.2.2.2.1.1),())).bind fun y => some (y.1,(y.2.1.1,y.2.1.2.1,()),()) else none
noncomputable def ZFV (k:Nat):=ZNU k
set_option maxHeartbeats 1000000 in
noncomputable def ZX5 (k:Nat):ZA k:=Zx 98 Tryz.f98 [ZqE k,ZYr k,ZYs k,ZUB k,ZYt k,ZYu k] Zl4 Zv ZFV
def ZqK (k:Nat):(List Int × Int × Unit) × Unit → Option (Int × (List Int × Int × Unit) × Unit)
 | ((a0,a1,()),()) => some (Jx.wrap (UD (UH 64 (Jx.wrap ((0:Int) - a1)) &&& UH 64 (7:Int)).toNat),(a0,Jx.wrap (a1 + Jx.wrap (UD (UH 64 (Jx.wrap ((0:Int) - a1)) &&& UH 64 (7:Int)).toNat)),()),())
def ZNW (k:Nat):=ZqK k
noncomputable def ZX6 (k:Nat):ZA k:=Zx 99 Tryz.f99 [] ZNQ Zv ZNW
def ZqL (k:Nat):List Int × Unit → Option (Int × Unit)
 | (a0,()) => (ZmV k (a0,16,32773,())).bind fun y => some (y.1,())
def ZFW (k:Nat):=ZqL k
noncomputable def ZUc (k:Nat):ZA k:=Zx 61 Tryz.f61 [ZUy k] Zfh Zv ZFW
abbrev ZBJ:Kd:=.tup [.own (.int .u8) false,.view (.int .i64)]
noncomputable def ZLS (k:Nat):List (ZA k):=[ZT7 k,ZX3 k,ZT8 k,ZqE k,ZX4 k,ZT9 k,ZUa k,ZUb k,ZX5 k,ZX6 k,ZUc k]
def ZLO:Nat → Ann:=fun id => bif Ja id 27 then ⟨[87,88,86,12,7],[]⟩ else bif Ja id 20 then ⟨[61,62,60,12,10,11,2,8,7],[]⟩ else ⟨[],[]⟩
abbrev ZLR:=Int × Int × List Int × List (List Int) × Int × List Int
abbrev ZvA:=ZLR → Option ((List Int × Int × Unit) × Unit)
abbrev ZLQ:=Int × Int × List Int × Int × Int × Int × List (List Int) × Int × List Int × Int × Int × Int
abbrev Zvz:=ZLQ → Option ((List Int × Int × Unit) × Unit)
def ZVK:ZLR → St
 | (v0,v1,v2,v3,v4,v5) => St.mk (Zk [(87,Zg v0),(88,Zg v1),(86,We v2),(12,AV.bx 8192 0),(7,AV.val (PV.sl (Ty.int Jx).sl v3))]) (Zj [(8192,QG [AV.own 8193,Zg v4]),(8193,RS.live (Res.arr (Ty.int UL) v5 false))])
noncomputable def Zcj (k:Nat) (L2:ZvA):ZvA
 | (v0,v1,v2,v3,v4,v5) => bif decide (v1 < v0) then bif decide (0 ≤ v1 ∧ v1 < UD v2.length) then bif decide (0 ≤ v1 ∧ v1 < UD v3.length) then (ZFV k ((v5,v4,()),v3.getD v1.toNat [],v2.getD v1.toNat 0,())).bind fun y => bif y.1 != 0 then some (([],y.1,()),()) else L2 (v0,Jx.wrap (v1 + 1),v2,v3,y.2.1.2.1,y.2.1.1) else none else none else (ZNW k ((v5,v4,()),())).bind fun y => (Zt2 k ((y.2.1.1,y.2.1.2.1,()),())).bind fun y => (ZFW k (y.1,())).bind fun y_1 => (ZP k ((y.2.1.1,y.2.1.2.1,()),y_1.1,16,())).bind fun y => (Zt2 k ((y.2.1.1,y.2.1.2.1,()),())).bind fun y => some ((y.1,0,()),())
noncomputable def ZhH (k:Nat):ZvA:=Ze (fun L2 => Zcj k L2) k
noncomputable def ZEL (k:Nat) (n:Nat):=Qj (ZLS k) Tryz.f43 ZaM ZBJ [1,1,1,1,1,1,1,1,1,1,1,1,1,1,1,1,1,0,1,0] [] n ZVK (A:=ZLO)
def ZVJ:ZLQ → St
 | (v0,v1,v2,v3,v4,v5,v6,v7,v8,v9,v10,v11) => St.mk (Zk [(61,Zg v0),(62,Zg v1),(60,AV.val (PV.sl (Ty.int UL) v2)),(12,AV.bx 8192 0),(10,Zg v3),(11,Zg v4),(2,AV.bx 8194 0),(8,Zg v5),(7,AV.val (PV.sl (Ty.int Jx).sl v6))]) (Zj [(8192,QG [AV.own 8193,Zg v7]),(8193,RS.live (Res.arr (Ty.int UL) v8 false)),(8194,QG [Zg v9,Zg v10,Zg v11])])
def Ku (k:Nat) (L2:ZvA) (L1:Zvz):Zvz
 | (v0,v1,v2,v3,v4,v5,v6,v7,v8,v9,v10,v11) => bif decide (v1 < v0) then bif decide (0 ≤ v1 ∧ v1 < UD v2.length) then (ZP k ((v8,v7,()),Jx.wrap (v2.getD v1.toNat 0),8,())).bind fun y => L1 (v0,Jx.wrap (v1 + 1),v2,v3,v4,v5,v6,y.2.1.2.1,y.2.1.1,v9,v10,v11) else none else (ZP k ((v8,v7,()),Jx.wrap (v3 - 1),Jx.wrap ((8:Int) * Jx.wrap (Jx.wrap (v4 - 6) + (1:Int))),())).bind fun y => (Zt2 k ((y.2.1.1,y.2.1.2.1,()),())).bind fun y => (ZFU k (y.1,())).bind fun y_1 => (ZP k ((y.2.1.1,y.2.1.2.1,()),y_1.1,8,())).bind fun y => (ZNR k ((v9,v10,v11,()),v5,())).bind fun y_2 => L2 (UD (UK y_2.1),(0:Int),y_2.1,v6,y.2.1.2.1,y.2.1.1)
noncomputable def ZlH (k:Nat):Zvz:=Ze (fun L1 => Ku k (ZhH k) L1) k
noncomputable def ZEK (k:Nat) (n:Nat):=Qj (ZLS k) Tryz.f43 ZaM ZBJ [1,1,1,1,1,1,1,1,1,1,1,1,1,1,0,1,0] [] n ZVJ (A:=ZLO)
def ZiP (k:Nat) (L1:Zvz):(Int × Int × Int × Unit) × (Int × List (List Int) × Unit) × Unit → Option ((List Int × Int × Unit) × Unit)
 | ((a0,a1,a2,()),(a3,a4,()),()) => (ZNy k ((a0,a1,a2,()),(a3,a4,()),())).bind fun y => bif y.1 != 0 then some (([],y.1,()),()) else (ZNG k ((a3,a4,()),())).bind fun y => bif y.1.2.2.1 != 0 then some (([],y.1.2.2.1,()),()) else bif decide ((0:Int) ≤ 0 ∧ (0:Int) < UD (UK y.1.1)) then bif decide ((256:Int) < UD (UK (US y.1.1 (0:Nat) []))) then (Zt1 k ()).bind fun y_1 => (ZP k ((y_1.1.1,y_1.1.2.1,()),16382,14,())).bind fun y_2 => (ZP k ((y_2.2.1.1,y_2.2.1.2.1,()),7,6,())).bind fun y_3 => (ZP k ((y_3.2.1.1,y_3.2.1.2.1,()),y.1.2.1,8,())).bind fun y_4 => (ZP k ((y_4.2.1.1,y_4.2.1.2.1,()),0,4,())).bind fun y_5 => (Zz4 k (a3,())).bind fun y_6 => bif y_6.1.2.1 != 0 then some (([],y_6.1.2.1,()),()) else L1 (UD (UK y_6.1.1),(0:Int),y_6.1.1,UD (UK (US y.1.1 (0:Nat) [])),(7:Int),y.1.2.1,y.1.1,y_5.2.1.2.1,y_5.2.1.1,a0,a1,a2) else (Zt1 k ()).bind fun y_1 => (ZP k ((y_1.1.1,y_1.1.2.1,()),16382,14,())).bind fun y_2 => (ZP k ((y_2.2.1.1,y_2.2.1.2.1,()),6,6,())).bind fun y_3 => (ZP k ((y_3.2.1.1,y_3.2.1.2.1,()),y.1.2.1,8,())).bind fun y_4 => (ZP k ((y_4.2.1.1,y_4.2.1.2.1,()),0,4,())).bind fun y_5 => (Zz4 k (a3,())).bind fun y_6 => bif y_6.1.2.1 != 0 then some (([],y_6.1.2.1,()),()) else L1 (UD (UK y_6.1.1),(0:Int),y_6.1.1,UD (UK (US y.1.1 (0:Nat) [])),(6:Int),y.1.2.1,y.1.1,y_5.2.1.2.1,y_5.2.1.1,a0,a1,a2) else none
noncomputable def ZLP (k:Nat):=ZiP k (ZlH k)
theorem ZLU (k:Nat):∀ n,ZEL k n = Ze (fun L2 => Zcj k L2) n:=ZG
theorem ZLT (k:Nat):∀ n,ZEK k n = Ze (fun L1 => Ku k (ZhH k) L1) n:=ZG (fun n v => by rw [show (ZhH k) = ZEL k k from (ZLU k k).symm]; kernel_rfl)
set_option maxHeartbeats 1000000 in
noncomputable def ZXW (k:Nat):ZA k:=Zx 43 Tryz.f43 (ZLS k) ZaM ZBJ ZLP (A:=ZLO) (h:=fun x => by show _ = ZiP k (ZlH k) x; rw [show ZlH k = ZEK k k from (ZLT k k).symm]; kernel_rfl)
abbrev ZWH:Kd:=.box [.view (.sl (.int .u8)),.view (.int .i64)]
noncomputable def ZUm (k:Nat):ZA k:=XZ 48 Tryz.f48 (fun k => [ZO4 k]) Zfh ZWH
abbrev ZlZ:List Kd:=[.box [.view (.sl (.int .u8)),.view (.int .i64)]]
noncomputable def ZOH (k:Nat):(List Int × Int × Unit) × Unit → Option (Int × (List Int × Int × Unit) × Unit):=ZJ0 (cxP k [] nL) nA Tryz.f50 ZlZ Zv
noncomputable def Zz7 (k:Nat):ZA k:=Zx 50 Tryz.f50 [] ZlZ Zv ZOH (h:=fun _ => rfl)
abbrev ZPR:List Kd:=[.box [.view (.sl (.int .u8)),.ref [.view (.sl (.int .u8)),.view (.int .i64)],.view (.int .i64)],.view .bool,.view (.int .i64)]
noncomputable def ZAl (k:Nat):(List Int × (List Int × Int × Unit) × Int × Unit) × Bool × Int × Unit → Option (Unit × (List Int × (List Int × Int × Unit) × Int × Unit) × Unit):=ZJ0 (cxP k [] nL) nA Tryz.f118 ZPR Yq
noncomputable def ZGE (k:Nat):ZA k:=Zx 118 Tryz.f118 [] ZPR Yq ZAl (h:=fun _ => rfl)
abbrev Zq6:List Kd:=[.box [.view (.sl (.int .u8)),.view (.int .i64)],.view (.int .i64)]
def ZP0 (k:Nat):(List Int × Int × Unit) × Int × Unit → Option (Int × (List Int × Int × Unit) × Unit)
 | ((a0,a1,()),a2,()) => bif decide (0 ≤ Jx.wrap (a2.tdiv (8:Int)) ∧ Jx.wrap (a2.tdiv (8:Int)) < UD a0.length) then bif decide (0 ≤ Jx.wrap ((7:Int) - a2.tmod (8:Int))) then some (Jx.wrap (UD (UH 64 (Jx.wrap (UP (a0.getD (Jx.wrap (a2.tdiv (8:Int))).toNat 0) ((2:Int) ^ min (Jx.wrap ((7:Int) - a2.tmod (8:Int))).toNat 8))) &&& UH 64 (1:Int)).toNat),(a0,a1,()),()) else none else none
def ZPY (k:Nat):=ZP0 k
set_option maxHeartbeats 1000000 in
noncomputable def ZPZ (k:Nat):ZA k:=Zx 126 Tryz.f126 [] Zq6 Zv ZPY
def ZIV (k:Nat):(List Int × Int × Unit) × Unit → Option (Int × (List Int × Int × Unit) × Unit)
 | ((a0,a1,()),()) => some (Jx.wrap (Jx.wrap ((8:Int) * UD a0.length) - a1),(a0,a1,()),())
def ZMk (k:Nat):=ZIV k
noncomputable def ZVU (k:Nat):ZA k:=Zx 207 Tryz.f207 [] ZlZ Zv ZMk
noncomputable def ZLp (k:Nat):List (ZA k):=[ZOU k,ZPZ k,ZVU k]
def ZLo:Nat → Ann:=fun id => bif Ja id 7 then ⟨[19,20,6,0],[]⟩ else ⟨[],[]⟩
abbrev ZEF:=Int × Int × Int × List Int × Int
abbrev ZnP:=ZEF → Option ((Int × Int × Unit) × (List Int × Int × Unit) × Unit)
def ZRQ:ZEF → St
 | (v0,v1,v2,v3,v4) => St.mk (Zk [(19,Zg v0),(20,Zg v1),(6,Zg v2),(0,AV.bx 0 0)]) (Zj [(0,QG [AV.val (PV.sl (Ty.int UL) v3),Zg v4])])
def Zs8 (k:Nat) (L1:ZnP):ZnP
 | (v0,v1,v2,v3,v4) => bif decide (v1 < v0) then (ZPY k ((v3,v4,()),v4,())).bind fun y => L1 (v0,Jx.wrap (v1 + 1),Jx.wrap (UD (UH 64 (Jx.wrap (v2 * (2:Int))) ||| UH 64 y.1).toNat),y.2.1.1,Jx.wrap (y.2.1.2.1 + 1)) else some ((v2,0,()),(v3,v4,()),())
def Zvt (k:Nat):ZnP:=Ze (fun L1 => Zs8 k L1) k
noncomputable def ZyJ (k:Nat) (n:Nat):=Qj (ZLp k) Tryz.f156 Zq6 Wg [1,1,1,0,1,0] [] n ZRQ (A:=ZLo) (a:=[AV.bx (nat_lit 0) (nat_lit 0)]) (b:=[[]]) (q:=[0])
def Zs7 (k:Nat) (L1:ZnP):(List Int × Int × Unit) × Int × Unit → Option ((Int × Int × Unit) × (List Int × Int × Unit) × Unit)
 | ((a0,a1,()),a2,()) => (ZAa k (a2,())).bind fun y => bif y.1 then some ((0,1,()),(a0,a1,()),()) else (ZMk k ((a0,a1,()),())).bind fun y => bif decide (y.1 < a2) then some ((0,10,()),(y.2.1.1,y.2.1.2.1,()),()) else L1 (a2,(0:Int),(0:Int),y.2.1.1,y.2.1.2.1)
def Zvs (k:Nat):=Zs7 k (Zvt k)
theorem ZIh (k:Nat):∀ n,ZyJ k n = Ze (fun L1 => Zs8 k L1) n:=ZG
noncomputable def ZhG (k:Nat):ZA k:=Zx 156 Tryz.f156 (ZLp k) Zq6 Wg Zvs (A:=ZLo) (h:=fun x => by show _ = Zs7 k (Zvt k) x; rw [show Zvt k = ZyJ k k from (ZIh k k).symm]; kernel_rfl)
abbrev ZXb:List Kd:=[.box [.view (.sl (.int .u8)),.ref [.view (.sl (.int .u8)),.view (.int .i64)],.view (.int .i64)],.view (.int .i64)]
def ZPT (k:Nat):(List Int × (List Int × Int × Unit) × Int × Unit) × Int × Unit → Option (Int × (List Int × (List Int × Int × Unit) × Int × Unit) × Unit)
 | ((a0,(a1,a2,()),a3,()),a4,()) => bif a3 == 0 then (Zvs k ((a1,a2,()),a4,())).bind fun y => some (y.1.1,(a0,(y.2.1.1,y.2.1.2.1,()),y.1.2.1,()),()) else some (0,(a0,(a1,a2,()),a3,()),())
def ZPS (k:Nat):=ZPT k
noncomputable def ZGF (k:Nat):ZA k:=Zx 119 Tryz.f119 [ZhG k] ZXb Zv ZPS
abbrev ZWJ:List Kd:=[.box [.view (.sl (.int .u8)),.ref [.view (.sl (.int .u8)),.view (.int .i64)],.view (.int .i64)],.view (.int .i64),.fn 96]
noncomputable def ZOG (k:Nat):(List Int × (List Int × Int × Unit) × Int × Unit) × Int × Unit × Unit → Option (Unit × (List Int × (List Int × Int × Unit) × Int × Unit) × Unit)
 | ((a0,(a1,a2,()),a3,()),a4,(),()) => (ZOH k ((a1,a2,()),())).bind fun y => (ZPS k ((a0,(y.2.1.1,y.2.1.2.1,()),a3,()),a4,())).bind fun y_1 => bif y_1.2.1.2.2.1 != 0 then (ZAl k ((y_1.2.1.1,(y_1.2.1.2.1.1,y_1.2.1.2.1.2.1,()),y_1.2.1.2.2.1,()),true,16,())).bind fun y => some ((),(y.2.1.1,(y.2.1.2.1.1,y.2.1.2.1.2.1,()),y.2.1.2.2.1,()),()) else bif decide ((0:Int) ≤ 0 ∧ (0:Int) ≤ Jx.wrap (UQ y.1 (8:Int)) ∧ Jx.wrap (UQ y.1 (8:Int)) ≤ UD (UK y_1.2.1.1)) then (ZFU k (UN 0 (UO (Jx.wrap (UQ y.1 (8:Int))).toNat y_1.2.1.1),())).bind fun y => (ZAl k ((y_1.2.1.1,(y_1.2.1.2.1.1,y_1.2.1.2.1.2.1,()),y_1.2.1.2.2.1,()),y_1.1 == y.1,16,())).bind fun y => some ((),(y.2.1.1,(y.2.1.2.1.1,y.2.1.2.1.2.1,()),y.2.1.2.2.1,()),()) else none
noncomputable def ZYj (k:Nat):=ZOG k
set_option maxHeartbeats 1000000 in
noncomputable def ZYk (k:Nat):ZA k:=Zx 60 Tryz.f60 [Zz7 k,ZGE k,ZGF k,ZT9 k] ZWJ Yq ZYj
noncomputable def ZYC (k:Nat):ZA k:=XZ 120 Tryz.f120 (fun k => []) ZNS Qp
abbrev ZEZ:List Kd:=[.view (.int .u8)]
def ZJd (k:Nat):Int × Unit → Option (Int × Unit)
 | (a0,()) => bif decide (0 ≤ a0 ∧ a0 < 256) then some (Jx.wrap (UD ((UJ (([0,1,2,2,3,3,3,3,4,4,4,4,4,4,4,4,5,5,5,5,5,5,5,5,5,5,5,5,5,5,5,5,6,6,6,6,6,6,6,6,6,6,6,6,6,6,6,6,6,6,6,6,6,6,6,6,6,6,6,6,6,6,6,6].append [7,7,7,7,7,7,7,7,7,7,7,7,7,7,7,7,7,7,7,7,7,7,7,7,7,7,7,7,7,7,7,7,7,7,7,7,7,7,7,7,7,7,7,7,7,7,7,7,7,7,7,7,7,7,7,7,7,7,7,7,7,7,7,7]).append ([8,8,8,8,8,8,8,8,8,8,8,8,8,8,8,8,8,8,8,8,8,8,8,8,8,8,8,8,8,8,8,8,8,8,8,8,8,8,8,8,8,8,8,8,8,8,8,8,8,8,8,8,8,8,8,8,8,8,8,8,8,8,8,8].append [8,8,8,8,8,8,8,8,8,8,8,8,8,8,8,8,8,8,8,8,8,8,8,8,8,8,8,8,8,8,8,8,8,8,8,8,8,8,8,8,8,8,8,8,8,8,8,8,8,8,8,8,8,8,8,8,8,8,8,8,8,8,8,8])).toArray).data.toList.getD a0.toNat 0).toNat),()) else none
def ZMu (k:Nat):=ZJd k
set_option maxHeartbeats 1000000 in
noncomputable def ZWa (k:Nat):ZA k:=Zx 251 Tryz.f251 [] ZEZ Zv ZMu
def ZIW (k:Nat):Int × Unit → Option (Int × Unit)
 | (a0,()) => (ZMu k (a0,())).bind fun y => some (Jx.wrap ((8:Int) - y.1),())
def ZVV (k:Nat):=ZIW k
noncomputable def ZVW (k:Nat):ZA k:=Zx 213 Tryz.f213 [ZWa k] ZEZ Zv ZVV
abbrev Zbh:Kd:=.tup [.view (.int .i64),.view (.int .i64),.view (.int .i64)]
def ZVq:Nat → Ann:=fun id => bif Ja id 10 then ⟨[8,5,0,6,7],[]⟩ else ⟨[],[]⟩
noncomputable def ZVr (k:Nat):ZA k:=XZ 164 Tryz.f164 (fun k => [ZUx k,ZVW k]) Zfh Zbh (A:=ZVq)
abbrev ZXc:List Kd:=[.box [.view (.sl (.int .u8)),.ref [.view (.sl (.int .u8)),.view (.int .i64)],.view (.int .i64)]]
def ZYD:Nat → Ann:=fun id => bif Ja id 6 then ⟨[31,32,0,3],[]⟩ else ⟨[],[]⟩
noncomputable def ZYE (k:Nat):ZA k:=XZ 121 Tryz.f121 (fun k => [Zz7 k,ZGE k,ZGF k,ZVr k]) ZXc Zv (A:=ZYD)
abbrev ZWI:List Kd:=[.box [.view (.sl (.int .u8)),.ref [.view (.sl (.int .u8)),.view (.int .i64)],.view (.int .i64)],.view ZmA]
noncomputable def ZYe (k:Nat):ZA k:=XZ 56 Tryz.f56 (fun k => [ZYk k,ZGE k,ZGF k,ZYC k,ZYE k]) ZWI Zbh
abbrev ZRR:List Kd:=[.box [.ref [.view (.sl (.int .u8)),.view (.int .i64)],.view (.int .i64)],.view .bool]
noncomputable def ZLq (k:Nat):ZA k:=XZ 165 Tryz.f165 (fun k => []) ZRR Yq
abbrev ZEG:List Kd:=[.box [.ref [.view (.sl (.int .u8)),.view (.int .i64)],.view (.int .i64)],.view (.int .i64)]
def ZIi (k:Nat):((List Int × Int × Unit) × Int × Unit) × Int × Unit → Option (Int × ((List Int × Int × Unit) × Int × Unit) × Unit)
 | (((a0,a1,()),a2,()),a3,()) => bif a2 == 0 then (Zvs k ((a0,a1,()),a3,())).bind fun y => some (y.1.1,((y.2.1.1,y.2.1.2.1,()),y.1.2.1,()),()) else some (0,((a0,a1,()),a2,()),())
def ZVs (k:Nat):=ZIi k
noncomputable def ZLr (k:Nat):ZA k:=Zx 166 Tryz.f166 [ZhG k] ZEG Zv ZVs
noncomputable def ZVt (k:Nat):ZA k:=XZ 167 Tryz.f167 (fun k => []) ZY Qp
noncomputable def ZLv (k:Nat):List (ZA k):=[ZPZ k]
def ZLt:Nat → Ann:=fun id => bif Ja id 4 then ⟨[4,0],[]⟩ else ⟨[],[]⟩
abbrev Zds:=Int × List Int × Int
abbrev ZnQ:=Zds → Option ((Int × Int × Unit) × (List Int × Int × Unit) × Unit)
def ZRS:Zds → St
 | (v0,v1,v2) => St.mk (Zk [(4,Zg v0),(0,AV.bx 0 0)]) (Zj [(0,QG [AV.val (PV.sl (Ty.int UL) v1),Zg v2])])
def Zta (k:Nat) (L1:ZnQ):ZnQ
 | (v0,v1,v2) => bif decide (v0 < Jx.wrap ((8:Int) * UD v1.length)) then (ZPY k ((v1,v2,()),v0,())).bind fun y => bif y.1 == 1 then some ((Jx.wrap (v0 - y.2.1.2.1),0,()),(y.2.1.1,Jx.wrap (v0 + 1),()),()) else L1 (Jx.wrap (v0 + 1),y.2.1.1,y.2.1.2.1) else some ((0,10,()),(v1,v2,()),())
def Zvu (k:Nat):ZnQ:=Ze (fun L1 => Zta k L1) k
noncomputable def ZyL (k:Nat) (n:Nat):=Qj (ZLv k) Tryz.f168 ZlZ Wg [1,1,0,1,0] [] n ZRS (A:=ZLt) (a:=[AV.bx (nat_lit 0) (nat_lit 0)]) (b:=[[]]) (q:=[0])
def Zs9 (k:Nat) (L1:ZnQ):(List Int × Int × Unit) × Unit → Option ((Int × Int × Unit) × (List Int × Int × Unit) × Unit)
 | ((a0,a1,()),()) => L1 (a1,a0,a1)
def ZVu (k:Nat):=Zs9 k (Zvu k)
theorem ZIk (k:Nat):∀ n,ZyL k n = Ze (fun L1 => Zta k L1) n:=ZG
noncomputable def ZLu (k:Nat):ZA k:=Zx 168 Tryz.f168 (ZLv k) ZlZ Wg ZVu (A:=ZLt) (h:=fun x => by show _ = Zs9 k (Zvu k) x; rw [show Zvu k = ZyL k k from (ZIk k k).symm]; kernel_rfl)
noncomputable def ZYF (k:Nat):ZA k:=XZ 123 Tryz.f123 (fun k => [ZLq k,ZLr k,ZVt k,ZLu k]) ZEG Wg
abbrev ZSh:List Kd:=[.view (.int .u32),.view (.int .u32)]
abbrev ZSi:Kd:=.tup [.view (.int .u32),.view (.int .u32)]
def ZJe (k:Nat):Int × Int × Unit → Option ((Int × Int × Unit) × Unit)
 | (a0,a1,()) => some ((IntKind.u32.wrap ((UI.wrap (UI.wrap a0 * UI.wrap a1)).fdiv (4294967296:Int)),IntKind.u32.wrap (UI.wrap (UI.wrap a0 * UI.wrap a1)),()),())
def ZWb (k:Nat):=ZJe k
noncomputable def ZWc (k:Nat):ZA k:=Zx 252 Tryz.f252 [] ZSh ZSi ZWb
abbrev ZE0:List Kd:=[.view (.int .u64),.view (.int .u64)]
abbrev ZE1:Kd:=.tup [.view (.int .u64),.view (.int .u64)]
def ZJf (k:Nat):Int × Int × Unit → Option ((Int × Int × Unit) × Unit)
 | (a0,a1,()) => some ((UI.wrap (UI.wrap (UI.wrap (a0.fdiv (4294967296:Int) * a1.fdiv (4294967296:Int)) + (UI.wrap (UI.wrap (a0.fdiv (4294967296:Int) * UI.wrap (UD (UH 64 a1 &&& UH 64 (4294967295:Int)).toNat)) + (UI.wrap (UI.wrap (UD (UH 64 a0 &&& UH 64 (4294967295:Int)).toNat) * UI.wrap (UD (UH 64 a1 &&& UH 64 (4294967295:Int)).toNat))).fdiv (4294967296:Int))).fdiv (4294967296:Int)) + (UI.wrap (UI.wrap (UD (UH 64 (UI.wrap (UI.wrap (a0.fdiv (4294967296:Int) * UI.wrap (UD (UH 64 a1 &&& UH 64 (4294967295:Int)).toNat)) + (UI.wrap (UI.wrap (UD (UH 64 a0 &&& UH 64 (4294967295:Int)).toNat) * UI.wrap (UD (UH 64 a1 &&& UH 64 (4294967295:Int)).toNat))).fdiv (4294967296:Int))) &&& UH 64 (4294967295:Int)).toNat) + UI.wrap (UI.wrap (UD (UH 64 a0 &&& UH 64 (4294967295:Int)).toNat) * a1.fdiv (4294967296:Int)))).fdiv (4294967296:Int)),UI.wrap (a0 * a1),()),())
def ZMv (k:Nat):=ZJf k
set_option maxHeartbeats 1000000 in
noncomputable def ZWd (k:Nat):ZA k:=Zx 253 Tryz.f253 [] ZE0 ZE1 ZMv
def ZIX (k:Nat):Int × Int × Unit → Option ((Int × Int × Unit) × Unit)
 | (a0,a1,()) => (ZMv k (a0,a1,())).bind fun y => some ((y.1.1,y.1.2.1,()),())
def ZVX (k:Nat):=ZIX k
noncomputable def ZVY (k:Nat):ZA k:=Zx 214 Tryz.f214 [ZWc k,ZWd k] ZE0 ZE1 ZVX
def ZVv:Nat → Ann:=fun id => bif Ja id 8 then ⟨[8,7],[]⟩ else ⟨[],[]⟩
noncomputable def ZVw (k:Nat):ZA k:=XZ 169 Tryz.f169 (fun k => [ZVY k]) ZX Zwr (A:=ZVv) (live:=fun r => bif Ja r 999999 then [1] else [])
noncomputable def ZMl (k:Nat):ZA k:=XZ 215 Tryz.f215 (fun k => [ZhG k]) Zq6 Wg
abbrev ZRT:List Kd:=[.box [.ref [.view (.sl (.int .u8)),.view (.int .i64)],.view (.int .i64)],.view (.int .i64),.view (.int .i64)]
def ZVx:Nat → Ann:=fun id => bif Ja id 3 then ⟨[9,10,0,2,7],[.slot 7 ((Ty.int Jx))]⟩ else ⟨[],[]⟩
noncomputable def ZVy (k:Nat):ZA k:=XZ 170 Tryz.f170 (fun k => [ZMl k]) ZRT Zwr (A:=ZVx)
noncomputable def ZWl (k:Nat):ZA k:=XZ 268 Tryz.f268 (fun k => []) ZY Wg
noncomputable def ZWh (k:Nat):ZA k:=XZ 255 Tryz.f255 (fun k => [ZhG k,ZLu k,ZWl k]) Zq6 Wg
abbrev ZE2:List Kd:=[.box [.ref [.view (.sl (.int .u8)),.view (.int .i64)]],.box [.view (.int .i64)]]
noncomputable def ZWe (k:Nat):ZA k:=XZ 254 Tryz.f254 (fun k => [ZWh k]) ZE2 Wg
noncomputable def ZWi (k:Nat):ZA k:=XZ 256 Tryz.f256 (fun k => [ZMl k]) ZE2 Wg
abbrev ZvN:List Kd:=[.box [.view (.sl (.int .u8)),.view (.int .i64)],.view (.int .i64),.view (.int .i64)]
noncomputable def ZVZ:Nat → Ann:=fun id => bif Ja id 12 then ⟨[40,41,10,13],[.slot 13 ((Ty.int Jx))]⟩ else ⟨[],[]⟩
noncomputable def ZV0 (k:Nat):ZA k:=XZ 218 Tryz.f218 (fun k => [Zvl k,Zvm k,ZhG k,ZWe k,ZWi k]) ZvN Zbi (A:=ZVZ)
def ZVz:Nat → Ann:=fun id => bif Ja id 15 then ⟨[52,53,1,10,2,0,8,11],[.slot 11 ((Ty.int Jx))]⟩ else ⟨[],[]⟩
noncomputable def ZVA (k:Nat):ZA k:=XZ 172 Tryz.f172 (fun k => [ZhG k,ZL2 k,ZBO k,ZV0 k]) ZvN Zbi (A:=ZVz)
abbrev ZRU:List Kd:=[.view Zd7,.view (.sl (.int .i64)),.view (.sl (.int .i64))]
def ZVB:Nat → Ann:=fun id => bif Ja id 9 then ⟨[32,33,31,3,8],[.«show» 8]⟩ else ⟨[],[]⟩
noncomputable def ZVC (k:Nat):ZA k:=XZ 173 Tryz.f173 (fun k => [ZpE k,ZBK k,ZL0 k,ZMm k,ZMo k]) ZRU Zbi (A:=ZVB)
abbrev ZXd:List Kd:=[.box [.ref [.view (.sl (.int .u8)),.view (.int .i64)],.view (.int .i64)],.view (.int .i64),.view (.int .i64),.view (.int .i64)]
noncomputable def ZYG (k:Nat):ZA k:=XZ 124 Tryz.f124 (fun k => [ZBz k,ZLq k,ZLr k,ZVw k,ZVy k,ZVA k,ZVC k]) ZXd Zwr
def ZYf:Nat → Ann:=fun id => bif Ja id 12 then ⟨[58,59,57,2,10,12],[.slot 12 ((Ty.int Jx))]⟩ else ⟨[],[]⟩
noncomputable def ZYg (k:Nat):ZA k:=XZ 58 Tryz.f58 (fun k => [ZUL k,ZYF k,ZYG k,ZUM k]) ZvN Zbi (A:=ZYf)
def ZYh:Nat → Ann:=fun id => bif Ja id 5 then ⟨[4,3,0],[]⟩ else ⟨[],[]⟩
noncomputable def ZYi (k:Nat):ZA k:=XZ 59 Tryz.f59 (fun k => [ZPZ k]) ZlZ Zv (A:=ZYh)
abbrev ZKZ:List Kd:=[.box [.view (.sl (.int .u8)),.ref [.view (.sl (.int .u8)),.view (.int .i64)],.view (.int .i64)],.view (.int .i64),.fn 61]
noncomputable def ZBv (k:Nat):(List Int × (List Int × Int × Unit) × Int × Unit) × Int × Unit × Unit → Option (Unit × (List Int × (List Int × Int × Unit) × Int × Unit) × Unit)
 | ((a0,(a1,a2,()),a3,()),a4,(),()) => (ZOH k ((a1,a2,()),())).bind fun y => (ZPS k ((a0,(y.2.1.1,y.2.1.2.1,()),a3,()),a4,())).bind fun y_1 => bif y_1.2.1.2.2.1 != 0 then (ZAl k ((y_1.2.1.1,(y_1.2.1.2.1.1,y_1.2.1.2.1.2.1,()),y_1.2.1.2.2.1,()),true,16,())).bind fun y => some ((),(y.2.1.1,(y.2.1.2.1.1,y.2.1.2.1.2.1,()),y.2.1.2.2.1,()),()) else bif decide ((0:Int) ≤ 0 ∧ (0:Int) ≤ Jx.wrap (UQ y.1 (8:Int)) ∧ Jx.wrap (UQ y.1 (8:Int)) ≤ UD (UK y_1.2.1.1)) then (ZFW k (UN 0 (UO (Jx.wrap (UQ y.1 (8:Int))).toNat y_1.2.1.1),())).bind fun y => (ZAl k ((y_1.2.1.1,(y_1.2.1.2.1.1,y_1.2.1.2.1.2.1,()),y_1.2.1.2.2.1,()),y_1.1 == y.1,16,())).bind fun y => some ((),(y.2.1.1,(y.2.1.2.1.1,y.2.1.2.1.2.1,()),y.2.1.2.2.1,()),()) else none
noncomputable def ZRs (k:Nat):=ZBv k
set_option maxHeartbeats 1000000 in
noncomputable def ZRt (k:Nat):ZA k:=Zx 60 Tryz.f60 [Zz7 k,ZGE k,ZGF k,ZUc k] ZKZ Yq ZRs
abbrev ZWK:List Kd:=[.view (.sl (.int .i64)),.view (.sl (.int .i64)),.view (.int .i64)]
def ZYl:Nat → Ann:=fun id => bif Ja id 7 then ⟨[36,37,35,1,2,8,9],[]⟩ else ⟨[],[]⟩
noncomputable def ZYm (k:Nat):ZA k:=XZ 62 Tryz.f62 (fun k => [ZUo k,ZUN k]) ZWK ZDs (A:=ZYl)
noncomputable def ZYn (k:Nat):ZA k:=XZ 63 Tryz.f63 (fun k => [ZOR k]) Zdp ZDu
abbrev ZWf:List Kd:=[.view ZmA,.view (.sl (.int .u8))]
abbrev ZWg:Kd:=.tup [.view Zmb,.view (.int .i64),.view (.int .i64)]
def ZXZ:Nat → Ann:=fun id => bif Ja id 10 then ⟨[55,56,54,8,11,4,12,2,9],[.cell 12 1 ((Ty.int Jx).sl)]⟩ else ⟨[],[]⟩
noncomputable def ZX0 (k:Nat):ZA k:=XZ 27 Tryz.f27 (fun k => [ZEA k,ZT7 k,ZUb k,ZUm k,ZYe k,ZYg k,ZYi k,ZRt k,ZYm k,ZYn k,Zz7 k]) ZWf ZWg (A:=ZXZ)
def ZYo:Nat → Ann:=fun id => bif Ja id 4 then ⟨[5,0,1],[]⟩ else ⟨[],[]⟩
noncomputable def ZYp (k:Nat):ZA k:=XZ 117 Tryz.f117 (fun k => []) ZDr Qp (A:=ZYo)
abbrev ZWm:List Kd:=[.view Zmb,.view Zmb]
def ZX1:Nat → Ann:=fun id => bif Ja id 4 then ⟨[5,2,3],[]⟩ else ⟨[],[]⟩
noncomputable def ZX2 (k:Nat):ZA k:=XZ 55 Tryz.f55 (fun k => [ZYp k]) ZWm Qp (A:=ZX1)
def ZeT (k:Nat):(Int × Int × Int × Unit) × Unit → Option (Bool × Unit)
 | ((a0,a1,a2,()),()) => bif a0 == 1 then bif decide (4 ≤ a1) then bif decide (a1 ≤ 24) then bif decide (1 ≤ a2) then some (decide (a2 ≤ 655350),()) else some (false,()) else some (false,()) else some (false,()) else bif a0 == 2 then bif decide (4 ≤ a1) then bif decide (a1 ≤ 24) then bif decide (1 ≤ a2) then some (decide (a2 ≤ 655350),()) else some (false,()) else some (false,()) else some (false,()) else some (false,())
def ZyK (k:Nat):=ZeT k
noncomputable def ZT6 (k:Nat):ZA k:=Zx 32 Tryz.f32 [] ZLb Qp ZyK
def Zfc (k:Nat):Int × Int × Unit → Option (Bool × Unit)
 | (a0,a1,()) => bif a1 == 0 then some (a0 == 0,()) else bif decide (0 ≤ Jx.wrap (a1 - 1)) then bif decide (Jx.wrap ((0:Int) - Jx.wrap ((1:Int) * (2:Int) ^ min (Jx.wrap (a1 - 1)).toNat 64)) ≤ a0) then bif decide (0 ≤ Jx.wrap (a1 - 1)) then some (decide (a0 < Jx.wrap ((1:Int) * (2:Int) ^ min (Jx.wrap (a1 - 1)).toNat 64)),()) else none else some (false,()) else none
def ZqA (k:Nat):=Zfc k
noncomputable def ZFN (k:Nat):ZA k:=Zx 33 Tryz.f33 [] ZaO Qp ZqA
noncomputable def ZLz (k:Nat):List (ZA k):=[ZT6 k,ZFN k]
def ZLw:Nat → Ann:=fun id => bif Ja id 12 then ⟨[7,5,3,6,2],[]⟩ else bif Ja id 9 then ⟨[6,2,5,3],[]⟩ else ⟨[],[]⟩
abbrev ZLy:=Int × Int × Int × Int × List (List Int) × Int × Int × Int
abbrev Zvv:=ZLy → Option (Int × Unit)
abbrev ZLx:=Int × Int × Int × Int × Int × Int × List (List Int)
abbrev Zlq:=ZLx → Option (Int × Unit)
def ZVE:ZLy → St
 | (v0,v1,v2,v3,v4,v5,v6,v7) => St.mk (Zk [(7,Zg v0),(5,Zg v1),(3,AV.bx 8192 0),(6,Zg v2),(2,AV.bx 8193 0)]) (Zj [(8192,QG [Zg v3,AV.val (PV.sl (Ty.int Jx).sl v4)]),(8193,QG [Zg v5,Zg v6,Zg v7])])
def ZeV (k:Nat) (L1:Zlq) (L2:Zvv):Zvv
 | (v0,v1,v2,v3,v4,v5,v6,v7) => bif decide (v0 < v1) then bif decide (0 ≤ v2 ∧ v2 < UD v4.length) then bif decide (0 ≤ v0 ∧ v0 < UD (UK (v4.getD v2.toNat []))) then (ZqA k (US (v4.getD v2.toNat []) v0.toNat 0,v6,())).bind fun y => bif !y.1 then some (12,()) else L2 (Jx.wrap (v0 + 1),v1,v2,v3,v4,v5,v6,v7) else none else none else L1 (Jx.wrap (v2 + 1),v1,v5,v6,v7,v3,v4)
def ZpK (k:Nat) (L1:Zlq):Zvv:=Ze (fun L2 => ZeV k L1 L2) k
noncomputable def ZEI (k:Nat) (n1:Nat) (n:Nat):=Qj (ZLz k) Tryz.f81 ZaM Zv [1,1,1,1,1,0,1,0,0,1,0,0,1,0] [n1] n ZVE (A:=ZLw)
def ZVD:ZLx → St
 | (v0,v1,v2,v3,v4,v5,v6) => St.mk (Zk [(6,Zg v0),(2,AV.bx 8192 0),(5,Zg v1),(3,AV.bx 8193 0)]) (Zj [(8192,QG [Zg v2,Zg v3,Zg v4]),(8193,QG [Zg v5,AV.val (PV.sl (Ty.int Jx).sl v6)])])
def ZeU (k:Nat) (L2:Zvv) (L1:Zlq):Zlq
 | (v0,v1,v2,v3,v4,v5,v6) => bif decide (v0 < v2) then L2 (0,v1,v0,v5,v6,v2,v3,v4) else some (0,())
def Zvw (k:Nat):Zlq:=Ze (fun L1 => ZeU k (ZpK k L1) L1) k
noncomputable def ZnR (k:Nat) (n:Nat):=Qj (ZLz k) Tryz.f81 ZaM Zv [1,1,1,1,1,0,1,0] [] n ZVD (A:=ZLw)
def ZiO (k:Nat) (L1:Zlq):(Int × Int × Int × Unit) × (Int × List (List Int) × Unit) × Unit → Option (Int × Unit)
 | ((a0,a1,a2,()),(a3,a4,()),()) => (ZyK k ((a0,a1,a2,()),())).bind fun y => bif !y.1 then some (2,()) else bif decide (a3 < 0) then some (1,()) else bif decide ((2147483647:Int) < a3) then some (1,()) else bif UD a4.length != a0 then some (1,()) else bif decide ((0:Int) ≤ 0 ∧ (0:Int) < UD a4.length) then bif decide (UD (UK (a4.getD 0 [])) < (1:Int)) then some (1,()) else bif decide ((512:Int) < UD (UK (a4.getD 0 []))) then some (1,()) else bif decide (0 ≤ Jx.wrap (a0 - 1) ∧ Jx.wrap (a0 - 1) < UD a4.length) then bif UD (UK (a4.getD (Jx.wrap (a0 - 1)).toNat [])) != UD (UK (a4.getD 0 [])) then some (1,()) else L1 (0,UD (UK (a4.getD 0 [])),a0,a1,a2,a3,a4) else none else none
def ZEH (k:Nat):=ZiO k (Zvw k)
theorem ZLB (k:Nat) (n1:Nat):∀ n,ZEI k n1 n = Ze (fun L2 => ZeV k (ZnR k n1) L2) n:=ZG
theorem ZLA (k:Nat):∀ n,ZnR k n = Ze (fun L1 => ZeU k (ZpK k L1) L1) n:=ZG (fun n v => by rw [show (ZpK k (ZnR k n)) = ZEI k n k from (ZLB k n k).symm]; kernel_rfl)
set_option maxHeartbeats 1000000 in
noncomputable def ZXV (k:Nat):ZA k:=Zx 81 Tryz.f81 (ZLz k) ZaM Zv ZEH (A:=ZLw) (h:=fun x => by show _ = ZiO k (Zvw k) x; rw [show Zvw k = ZnR k k from (ZLA k k).symm]; kernel_rfl)
def Zq3 (k:Nat):Int × Unit → Option (Int × Unit)
 | (a0,()) => some (Jx.wrap ((Jx.wrap (a0 - (Jx.wrap (a0.tmod (2:Int) + 2)).tmod (2:Int))).tdiv (2:Int)),())
def ZPP (k:Nat):=Zq3 k
noncomputable def ZYB (k:Nat):ZA k:=Zx 146 Tryz.f146 [] ZY Zv ZPP
abbrev ZOA:List Kd:=[.view ZUW,.view (.int .i64)]
abbrev ZOB:Kd:=.tup [.view (.sl (.int .i64)),.view (.sl (.int .i64))]
noncomputable def ZUl (k:Nat):List (ZA k):=[ZYB k]
def ZUj:Nat → Ann:=fun id => bif Ja id 3 then ⟨[8,2,1,6,7],[.slot 6 ((Ty.int Jx)),.slot 7 ((Ty.int Jx))]⟩ else ⟨[],[]⟩
abbrev ZOy:=Int × Int × List Int × List Int × List Int × List Int
abbrev ZwL:=ZOy → Option ((List Int × List Int × Unit) × Unit)
def ZWG:ZOy → St
 | (v0,v1,v2,v3,v4,v5) => St.mk (Zk [(8,Zg v0),(2,AV.bx 8192 0),(1,Zg v1),(6,AV.own 8193),(7,AV.own 8194)]) (Zj [(8192,QG [We v2,We v3]),(8193,rsA v4 false),(8194,rsA v5 false)])
def ZcO (k:Nat) (L1:ZwL):ZwL
 | (v0,v1,v2,v3,v4,v5) => bif decide (v0 < UD v2.length) then bif decide (0 ≤ v0 ∧ v0 < UD v2.length) then bif decide (0 ≤ v0 ∧ v0 < UD v3.length) then bif v1 == 8 then bif decide (v4.length + [v2.getD v0.toNat 0].length < 2147483648) then bif decide (v5.length + [Jx.wrap (v2.getD v0.toNat 0 - v3.getD v0.toNat 0)].length < 2147483648) then L1 (Jx.wrap (v0 + 1),v1,v2,v3,v4 ++ [v2.getD v0.toNat 0],v5 ++ [Jx.wrap (v2.getD v0.toNat 0 - v3.getD v0.toNat 0)]) else none else none else bif v1 == 9 then bif decide (v4.length + [Jx.wrap (v2.getD v0.toNat 0 - v3.getD v0.toNat 0)].length < 2147483648) then bif decide (v5.length + [v3.getD v0.toNat 0].length < 2147483648) then L1 (Jx.wrap (v0 + 1),v1,v2,v3,v4 ++ [Jx.wrap (v2.getD v0.toNat 0 - v3.getD v0.toNat 0)],v5 ++ [v3.getD v0.toNat 0]) else none else none else bif v1 == 10 then (ZPP k (Jx.wrap (v2.getD v0.toNat 0 + v3.getD v0.toNat 0),())).bind fun y => bif decide (v4.length + [y.1].length < 2147483648) then bif decide (v5.length + [Jx.wrap (v2.getD v0.toNat 0 - v3.getD v0.toNat 0)].length < 2147483648) then L1 (Jx.wrap (v0 + 1),v1,v2,v3,v4 ++ [y.1],v5 ++ [Jx.wrap (v2.getD v0.toNat 0 - v3.getD v0.toNat 0)]) else none else none else bif decide (v4.length + [v2.getD v0.toNat 0].length < 2147483648) then bif decide (v5.length + [v3.getD v0.toNat 0].length < 2147483648) then L1 (Jx.wrap (v0 + 1),v1,v2,v3,v4 ++ [v2.getD v0.toNat 0],v5 ++ [v3.getD v0.toNat 0]) else none else none else none else none else some ((v4,v5,()),())
def ZwM (k:Nat):ZwL:=Ze (fun L1 => ZcO k L1) k
noncomputable def ZGa (k:Nat) (n:Nat):=Qj (ZUl k) Tryz.f89 ZOA ZOB [1,1,0,1,0] [] n ZWG (A:=ZUj)
def Zj8 (k:Nat) (L1:ZwL):(List Int × List Int × Unit) × Int × Unit → Option ((List Int × List Int × Unit) × Unit)
 | ((a0,a1,()),a2,()) => L1 (0,a2,a0,a1,[],[])
def ZF9 (k:Nat):=Zj8 k (ZwM k)
theorem ZOz (k:Nat):∀ n,ZGa k n = Ze (fun L1 => ZcO k L1) n:=ZG
noncomputable def ZUk (k:Nat):ZA k:=Zx 89 Tryz.f89 (ZUl k) ZOA ZOB ZF9 (A:=ZUj) (h:=fun x => by show _ = Zj8 k (ZwM k) x; rw [show ZwM k = ZGa k k from (ZOz k k).symm]; kernel_rfl)
noncomputable def ZUG (k:Nat):List (ZA k):=[]
def ZUF:Nat → Ann:=fun id => bif Ja id 3 then ⟨[5,0,3,4],[]⟩ else ⟨[],[]⟩
abbrev ZqV:=Int × List Int × Int × Int
abbrev Zfy:=ZqV → Option (Int × Unit)
def ZWY:ZqV → St
 | (v0,v1,v2,v3) => St.mk (Zk [(5,Zg v0),(0,We v1),(3,Zg v2),(4,Zg v3)]) (Zj [])
def Zfz (k:Nat) (L1:Zfy):Zfy
 | (v0,v1,v2,v3) => bif decide (v0 < UD v1.length) then bif decide (0 ≤ v0 ∧ v0 < UD v1.length) then bif decide (0 ≤ v0 ∧ v0 < UD v1.length) then bif decide (0 ≤ v0 ∧ v0 < UD v1.length) then L1 (Jx.wrap (v0 + 1),v1,Jx.wrap (v2 + if Jx.wrap (v1.getD v0.toNat 0 - v3) < Jx.wrap (v3 - v1.getD v0.toNat 0) then Jx.wrap (v3 - v1.getD v0.toNat 0) else Jx.wrap (v1.getD v0.toNat 0 - v3)),v1.getD v0.toNat 0) else none else none else none else some (v2,())
def Zw8 (k:Nat):Zfy:=Ze (fun L1 => Zfz k L1) k
noncomputable def ZGs (k:Nat) (n:Nat):=Qj (ZUG k) Tryz.f137 XH Zv [1,1,0,1,0] [] n ZWY (A:=ZUF)
def Zki (k:Nat) (L1:Zfy):List Int × Unit → Option (Int × Unit)
 | (a0,()) => L1 (0,a0,(0:Int),(0:Int))
def ZGr (k:Nat):=Zki k (Zw8 k)
theorem ZPm (k:Nat):∀ n,ZGs k n = Ze (fun L1 => Zfz k L1) n:=ZG
noncomputable def ZYv (k:Nat):ZA k:=Zx 137 Tryz.f137 (ZUG k) XH Zv ZGr (A:=ZUF) (h:=fun x => by show _ = Zki k (Zw8 k) x; rw [show Zw8 k = ZGs k k from (ZPm k k).symm]; kernel_rfl)
abbrev ZN1:List Kd:=[.view ZUW]
noncomputable def ZUe (k:Nat):List (ZA k):=[ZUk k,ZYv k]
def ZUd:Nat → Ann:=fun id => bif Ja id 4 then ⟨[6,1,3,5,4],[]⟩ else ⟨[],[]⟩
abbrev ZNZ:=Int × Int × Int × List Int × List Int × List Int
abbrev Zws:=ZNZ → Option (Int × Unit)
def ZWw:ZNZ → St
 | (v0,v1,v2,v3,v4,v5) => St.mk (Zk [(6,Zg v0),(1,AV.bx 8192 0),(3,AV.own 8193),(5,Zg v1),(4,Zg v2)]) (Zj [(8192,QG [We v3,We v4]),(8193,rsA v5 false)])
def Zfi (k:Nat) (L1:Zws):Zws
 | (v0,v1,v2,v3,v4,v5) => bif decide (v0 < 4) then bif decide (0 ≤ v0 ∧ v0 < UD v5.length) then bif decide (v0.toNat < v5.length) then (ZF9 k ((v3,v4,()),v5.getD v0.toNat 0,())).bind fun y => (ZGr k (y.1.1,())).bind fun y_1 => (ZGr k (y.1.2.1,())).bind fun y => bif v0 == 0 then bif decide (0 ≤ v0 ∧ v0 < UD v5.length) then bif decide (v0.toNat < v5.length) then L1 (Jx.wrap (v0 + 1),Jx.wrap (y_1.1 + y.1),v5.getD v0.toNat 0,v3,v4,v5) else none else none else bif decide (Jx.wrap (y_1.1 + y.1) < v1) then bif decide (0 ≤ v0 ∧ v0 < UD v5.length) then bif decide (v0.toNat < v5.length) then L1 (Jx.wrap (v0 + 1),Jx.wrap (y_1.1 + y.1),v5.getD v0.toNat 0,v3,v4,v5) else none else none else L1 (Jx.wrap (v0 + 1),v1,v2,v3,v4,v5) else none else none else some (v2,())
def Zwt (k:Nat):Zws:=Ze (fun L1 => Zfi k L1) k
noncomputable def ZFX (k:Nat) (n:Nat):=Qj (ZUe k) Tryz.f82 ZN1 Zv [1,1,1,0,1,0] [] n ZWw (A:=ZUd)
def Zj1 (k:Nat) (L1:Zws):(List Int × List Int × Unit) × Unit → Option (Int × Unit)
 | ((a0,a1,()),()) => L1 (0,(0:Int),(0:Int),a0,a1,[(0:Int),(8:Int),(9:Int),(10:Int)])
def ZqM (k:Nat):=Zj1 k (Zwt k)
theorem ZN0 (k:Nat):∀ n,ZFX k n = Ze (fun L1 => Zfi k L1) n:=ZG
noncomputable def ZX7 (k:Nat):ZA k:=Zx 82 Tryz.f82 (ZUe k) ZN1 Zv ZqM (A:=ZUd) (h:=fun x => by show _ = Zj1 k (Zwt k) x; rw [show Zwt k = ZFX k k from (ZN0 k k).symm]; kernel_rfl)
abbrev ZhX:Kd:=.view .str
noncomputable def ZUg (k:Nat):List (ZA k):=[]
def ZUf:Nat → Ann:=fun id => bif Ja id 3 then ⟨[6,5,0],[]⟩ else ⟨[],[]⟩
abbrev Zwu:=Ya → Option (ByteArray × Unit)
def ZWx:Ya → St
 | (v0,v1,v2) => St.mk (Zk [(6,Zg v0),(5,AV.own 8192),(0,Zg v1)]) (Zj [(8192,RS.live (Res.arr (Ty.int UL) v2 false))])
def Zj3 (k:Nat) (L1:Zwu):Zwu
 | (v0,v1,v2) => bif decide (0 ≤ v0) then bif decide (0 ≤ v1.tmod (2:Int) ∧ v1.tmod (2:Int) < 2) then bif decide (0 ≤ v0 ∧ v0 < UD v2.length) then bif decide (v0.toNat < v2.length) then L1 (Jx.wrap (v0 - 1),Jx.wrap (v1.tdiv (2:Int)),v2.set v0.toNat (UD ((UJ #[48,49]).data.toList.getD (v1.tmod (2:Int)).toNat 0).toNat)) else none else none else none else some (UJ (UT (fun n => UU n.toNat) v2).toArray,())
def Zwv (k:Nat):Zwu:=Ze (fun L1 => Zj3 k L1) k
noncomputable def ZFY (k:Nat) (n:Nat):=Qj (ZUg k) Tryz.f83 ZaO ZhX [1,1,0,1,0] [] n ZWx (A:=ZUf)
def Zj2 (k:Nat) (L1:Zwu):Int × Int × Unit → Option (ByteArray × Unit)
 | (a0,a1,()) => bif decide (0 ≤ a1 ∧ a1 ≤ a1 ∧ a1 < 4294967296) then L1 (Jx.wrap (a1 - 1),a0,Jd a1.toNat (0:Int)) else none
def Qy (k:Nat):=Zj2 k (Zwv k)
theorem ZN3 (k:Nat):∀ n,ZFY k n = Ze (fun L1 => Zj3 k L1) n:=ZG
noncomputable def ZmT (k:Nat):ZA k:=Zx 83 Tryz.f83 (ZUg k) ZaO ZhX Qy (A:=ZUf) (h:=fun x => by show _ = Zj2 k (Zwv k) x; rw [show Zwv k = ZFY k k from (ZN3 k k).symm]; kernel_rfl)
noncomputable def ZUi (k:Nat):List (ZA k):=[ZmT k]
def ZUh:Nat → Ann:=fun id => bif Ja id 3 then ⟨[4,0,3],[]⟩ else ⟨[],[]⟩
abbrev ZN6:=Int × List Int × List Int
abbrev Zww:=ZN6 → Option (ByteArray × Unit)
def ZWy:ZN6 → St
 | (v0,v1,v2) => St.mk (Zk [(4,Zg v0),(0,AV.val (PV.sl (Ty.int UL) v1)),(3,AV.own 8192)]) (Zj [(8192,RS.live (Res.arr (Ty.int UL) v2 false))])
def Zfj (k:Nat) (L1:Zww):Zww
 | (v0,v1,v2) => bif decide (v0 < UD v1.length) then bif decide (0 ≤ v0 ∧ v0 < UD v1.length) then (Qy k (Jx.wrap (v1.getD v0.toNat 0),8,())).bind fun y => bif decide (v2.length + (UT (fun b => UD b.toNat) y.1.data.toList).length < 2147483648) then L1 (Jx.wrap (v0 + 1),v1,v2 ++ UT (fun b => UD b.toNat) y.1.data.toList) else none else none else some (UJ (UT (fun n => UU n.toNat) v2).toArray,())
def Zwx (k:Nat):Zww:=Ze (fun L1 => Zfj k L1) k
noncomputable def ZFZ (k:Nat) (n:Nat):=Qj (ZUi k) Tryz.f84 Zfh ZhX [1,1,0,1,0] [] n ZWy (A:=ZUh)
def Zj4 (k:Nat) (L1:Zww):List Int × Unit → Option (ByteArray × Unit)
 | (a0,()) => bif decide ((0:Int) ≤ 0 ∧ (0:Int) ≤ Jx.wrap ((8:Int) * UD a0.length) ∧ Jx.wrap ((8:Int) * UD a0.length) < 4294967296) then L1 (0,a0,Jd (0:Nat) (0:Int)) else none
def ZN5 (k:Nat):=Zj4 k (Zwx k)
theorem ZN7 (k:Nat):∀ n,ZFZ k n = Ze (fun L1 => Zfj k L1) n:=ZG
noncomputable def ZX8 (k:Nat):ZA k:=Zx 84 Tryz.f84 (ZUi k) Zfh ZhX ZN5 (A:=ZUh) (h:=fun x => by show _ = Zj4 k (Zwx k) x; rw [show Zwx k = ZFZ k k from (ZN7 k k).symm]; kernel_rfl)
abbrev ZqP:List Kd:=[.view .str]
abbrev ZlY:Kd:=.view (.sl (.int .u8))
noncomputable def ZOn (k:Nat):List (ZA k):=[]
def ZOj:Nat → Ann:=fun id => bif Ja id 7 then ⟨[6,4,5,0,3],[]⟩ else bif Ja id 3 then ⟨[4,0,3],[.slot 3 ((Ty.int UL))]⟩ else ⟨[],[]⟩
abbrev ZOl:=Int × Int × Int × ByteArray × List Int
abbrev ZwB:=ZOl → Option (List Int × Unit)
abbrev ZOk:=Int × ByteArray × List Int
abbrev ZlX:=ZOk → Option (List Int × Unit)
def ZWC:ZOl → St
 | (v0,v1,v2,v3,v4) => St.mk (Zk [(6,Zg v0),(4,Zg v1),(5,Zg v2),(0,AV.val (PV.v (UR v3))),(3,AV.own 8192)]) (Zj [(8192,RS.live (Res.arr (Ty.int UL) v4 false))])
def Zfl (k:Nat) (L1:ZlX) (L2:ZwB):ZwB
 | (v0,v1,v2,v3,v4) => bif decide (v0 < Jx.wrap (v1 + 8)) then bif decide (v0 < UD v3.size) then bif decide (0 ≤ v0 ∧ v0 < UD v3.size) then L2 (Jx.wrap (v0 + 1),v1,Jx.wrap (Jx.wrap ((2:Int) * v2) + Jx.wrap (UL.wrap (UD (v3.data.toList.getD v0.toNat 0).toNat - (48:Int)))),v3,v4) else none else L2 (Jx.wrap (v0 + 1),v1,Jx.wrap ((2:Int) * v2),v3,v4) else bif decide (v4.length + [UL.wrap v2].length < 2147483648) then L1 (Jx.wrap (v1 + 8),v3,v4 ++ [UL.wrap v2]) else none
def ZqO (k:Nat) (L1:ZlX):ZwB:=Ze (fun L2 => Zfl k L1 L2) k
noncomputable def ZF2 (k:Nat) (n1:Nat) (n:Nat):=Qj (ZOn k) Tryz.f87 ZqP ZlY [1,1,0,1,0,0,1,0,0,1,0,1,0] [n1] n ZWC (A:=ZOj)
def ZWB:ZOk → St
 | (v0,v1,v2) => St.mk (Zk [(4,Zg v0),(0,AV.val (PV.v (UR v1))),(3,AV.own 8192)]) (Zj [(8192,RS.live (Res.arr (Ty.int UL) v2 false))])
def ZcK (k:Nat) (L2:ZwB) (L1:ZlX):ZlX
 | (v0,v1,v2) => bif decide (v0 < UD v1.size) then L2 (v0,v0,(0:Int),v1,v2) else some (v2,())
def ZwC (k:Nat):ZlX:=Ze (fun L1 => ZcK k (ZqO k L1) L1) k
noncomputable def ZoN (k:Nat) (n:Nat):=Qj (ZOn k) Tryz.f87 ZqP ZlY [1,1,0,1,0] [] n ZWB (A:=ZOj)
def Zj6 (k:Nat) (L1:ZlX):ByteArray × Unit → Option (List Int × Unit)
 | (a0,()) => L1 (0,a0,[])
def ZmU (k:Nat):=Zj6 k (ZwC k)
theorem ZOp (k:Nat) (n1:Nat):∀ n,ZF2 k n1 n = Ze (fun L2 => Zfl k (ZoN k n1) L2) n:=ZG
theorem ZOo (k:Nat):∀ n,ZoN k n = Ze (fun L1 => ZcK k (ZqO k L1) L1) n:=ZG (fun n v => by rw [show (ZqO k (ZoN k n)) = ZF2 k n k from (ZOp k n k).symm]; kernel_rfl)
noncomputable def ZOm (k:Nat):ZA k:=Zx 87 Tryz.f87 (ZOn k) ZqP ZlY ZmU (A:=ZOj) (h:=fun x => by show _ = Zj6 k (ZwC k) x; rw [show ZwC k = ZoN k k from (ZOo k k).symm]; kernel_rfl)
def ZqW (k:Nat):Int × Unit → Option (Int × Unit)
 | (a0,()) => bif a0 == 1 then some (7,()) else some (Jx.wrap (Jx.wrap ((5:Int) * a0) + 1),())
def ZGt (k:Nat):=ZqW k
noncomputable def ZYw (k:Nat):ZA k:=Zx 138 Tryz.f138 [] ZY Zv ZGt
noncomputable def ZOc (k:Nat):List (ZA k):=[ZmT k,ZOm k,ZYw k]
def ZN9:Nat → Ann:=fun id => bif Ja id 10 then ⟨[7,4,6],[]⟩ else bif Ja id 2 then ⟨[0,3],[]⟩ else ⟨[],[]⟩
abbrev ZOb:=Int × ByteArray × ByteArray
abbrev Zwz:=ZOb → Option (List Int × Unit)
abbrev Zwy:=ZlW → Option (List Int × Unit)
def ZWA:ZOb → St
 | (v0,v1,v2) => St.mk (Zk [(7,Zg v0),(4,AV.val (PV.v (UR v1))),(6,AV.val (PV.v (UR v2)))]) (Zj [])
def Zfk (k:Nat) (L2:Zwz):Zwz
 | (v0,v1,v2) => bif decide (v0 < UD v1.size) then bif decide (v2.size + (2:Nat) < (1099511627776:Nat)) then bif decide (0 ≤ v0 ∧ v0 ≤ Jx.wrap (v0 + 6) ∧ Jx.wrap (v0 + 6) ≤ UD v1.size) then bif decide ((v2 ++ UJ #[49,48]).size + (v1.extract v0.toNat (Jx.wrap (v0 + 6)).toNat).size < 1099511627776) then L2 (Jx.wrap (v0 + 6),v1,v2 ++ UJ #[49,48] ++ v1.extract v0.toNat (Jx.wrap (v0 + 6)).toNat) else none else none else none else (ZmU k (v2,())).bind fun y => some (y.1,())
def ZhY (k:Nat):Zwz:=Ze (fun L2 => Zfk k L2) k
noncomputable def ZF1 (k:Nat) (n:Nat):=Qj (ZOc k) Tryz.f85 ZY ZlY [1,1,1,1,1,1,1,0,1,0] [] n ZWA (A:=ZN9)
def ZWz:ZlW → St
 | (v0,v1) => St.mk (Zk [(0,Zg v0),(3,Zg v1)]) (Zj [])
def Yt (k:Nat) (L2:Zwz) (L1:Zwy):Zwy
 | (v0,v1) => (ZGt k (v1,())).bind fun y => bif decide ((0:Int) ≤ y.1) then bif decide (Jx.wrap ((1:Int) * (2:Int) ^ min (Int.toNat y.1) (64:Nat)) ≤ v0) then L1 (v0,Jx.wrap (v1 + 1)) else bif v1 == 1 then some ([UL.wrap v0],()) else (ZGt k (v1,())).bind fun y => (Qy k (v0,y.1,())).bind fun y => bif decide ((0:Int) ≤ 0 ∧ (0:Int) ≤ v1 ∧ v1 ≤ 8) then bif decide (((UJ #[49,49,49,49,49,49,49,49]).extract (0:Nat) v1.toNat).size + (1:Nat) < (1099511627776:Nat)) then bif decide ((0:Int) ≤ 0 ∧ (0:Int) ≤ Jx.wrap ((8:Int) - UD ((UJ #[49,49,49,49,49,49,49,49]).extract (0:Nat) v1.toNat ++ UJ #[48]).size) ∧ Jx.wrap ((8:Int) - UD ((UJ #[49,49,49,49,49,49,49,49]).extract (0:Nat) v1.toNat ++ UJ #[48]).size) ≤ UD (UM y.1)) then bif decide (((UJ #[49,49,49,49,49,49,49,49]).extract (0:Nat) v1.toNat ++ UJ #[48]).size + (UW y.1 (0:Nat) (Jx.wrap ((8:Int) - UD ((UJ #[49,49,49,49,49,49,49,49]).extract (0:Nat) v1.toNat ++ UJ #[48]).size)).toNat).size < 1099511627776) then L2 (Jx.wrap ((8:Int) - UD ((UJ #[49,49,49,49,49,49,49,49]).extract (0:Nat) v1.toNat ++ UJ #[48]).size),y.1,(UJ #[49,49,49,49,49,49,49,49]).extract (0:Nat) v1.toNat ++ UJ #[48] ++ UW y.1 (0:Nat) (Jx.wrap ((8:Int) - UD ((UJ #[49,49,49,49,49,49,49,49]).extract (0:Nat) v1.toNat ++ UJ #[48]).size)).toNat) else none else none else none else none else none
def ZwA (k:Nat):Zwy:=Ze (fun L1 => Yt k (ZhY k) L1) k
noncomputable def ZF0 (k:Nat) (n:Nat):=Qj (ZOc k) Tryz.f85 ZY ZlY [1,1,0,0] [] n ZWz (A:=ZN9)
def Zj5 (k:Nat) (L1:Zwy):Int × Unit → Option (List Int × Unit)
 | (a0,()) => L1 (a0,(1:Int))
def ZOa (k:Nat):=Zj5 k (ZwA k)
theorem ZOe (k:Nat):∀ n,ZF1 k n = Ze (fun L2 => Zfk k L2) n:=ZG
theorem ZOd (k:Nat):∀ n,ZF0 k n = Ze (fun L1 => Yt k (ZhY k) L1) n:=ZG (fun n v => by rw [show (ZhY k) = ZF1 k k from (ZOe k k).symm]; kernel_rfl)
noncomputable def ZX9 (k:Nat):ZA k:=Zx 85 Tryz.f85 (ZOc k) ZY ZlY ZOa (A:=ZN9) (h:=fun x => by show _ = Zj5 k (ZwA k) x; rw [show ZwA k = ZF0 k k from (ZOd k k).symm]; kernel_rfl)
abbrev ZDx:List Kd:=[.view .str,.view (.int .i64),.view (.int .i64)]
noncomputable def ZPq (k:Nat):List (ZA k):=[]
def ZPn:Nat → Ann:=fun id => bif Ja id 6 then ⟨[9,7,1,0,8,2],[]⟩ else bif Ja id 3 then ⟨[8,0,7,1,2],[]⟩ else ⟨[],[]⟩
abbrev ZPp:=Int × Int × Int × ByteArray × Int × Int
abbrev Zw9:=ZPp → Option (Int × Unit)
abbrev ZPo:=Int × ByteArray × Int × Int × Int
abbrev Zl7:=ZPo → Option (Int × Unit)
def ZW0:ZPp → St
 | (v0,v1,v2,v3,v4,v5) => St.mk (Zk [(9,Zg v0),(7,Zg v1),(1,Zg v2),(0,AV.val (PV.v (UR v3))),(8,Zg v4),(2,Zg v5)]) (Zj [])
def ZfB (k:Nat) (L1:Zl7) (L2:Zw9):Zw9
 | (v0,v1,v2,v3,v4,v5) => bif decide (0 ≤ v0) then bif decide (0 ≤ Jx.wrap (v2 - 1)) then bif decide (0 ≤ v4 ∧ v4 < UD v3.size) then bif decide (0 ≤ v0) then bif decide (0 ≤ v2) then bif decide ¬Jx.wrap ((1:Int) * (2:Int) ^ min v2.toNat 64) = (0:Int) then bif Jx.wrap (UD (UH 64 (Jx.wrap (UD (UH 64 (v1.fdiv ((2:Int) ^ min (Jx.wrap (v2 - 1)).toNat 64)) &&& UH 64 (1:Int)).toNat)) ^^^ UH 64 (Jx.wrap (UD (UH 64 ((Jx.wrap (UD (v3.data.toList.getD v4.toNat 0).toNat)).fdiv ((2:Int) ^ min v0.toNat 64)) &&& UH 64 (1:Int)).toNat))).toNat) == 1 then L2 (Jx.wrap (v0 - 1),Jx.wrap (UD (UH 64 ((Jx.wrap ((2:Int) * v1)).tmod (Jx.wrap ((1:Int) * (2:Int) ^ min v2.toNat 64))) ^^^ UH 64 v5).toNat),v2,v3,v4,v5) else L2 (Jx.wrap (v0 - 1),(Jx.wrap ((2:Int) * v1)).tmod (Jx.wrap ((1:Int) * (2:Int) ^ min v2.toNat 64)),v2,v3,v4,v5) else none else none else none else none else none else L1 (Jx.wrap (v4 + 1),v3,v1,v2,v5)
def Zxb (k:Nat) (L1:Zl7):Zw9:=Ze (fun L2 => ZfB k L1 L2) k
noncomputable def ZGv (k:Nat) (n1:Nat) (n:Nat):=Qj (ZPq k) Tryz.f139 ZDx Zv [1,1,0,1,0,0,1,0,0,1,0] [n1] n ZW0 (A:=ZPn)
def ZWZ:ZPo → St
 | (v0,v1,v2,v3,v4) => St.mk (Zk [(8,Zg v0),(0,AV.val (PV.v (UR v1))),(7,Zg v2),(1,Zg v3),(2,Zg v4)]) (Zj [])
def ZfA (k:Nat) (L2:Zw9) (L1:Zl7):Zl7
 | (v0,v1,v2,v3,v4) => bif decide (v0 < UD v1.size) then L2 (7,v2,v3,v1,v0,v4) else some (v2,())
def Zxa (k:Nat):Zl7:=Ze (fun L1 => ZfA k (Zxb k L1) L1) k
noncomputable def ZoQ (k:Nat) (n:Nat):=Qj (ZPq k) Tryz.f139 ZDx Zv [1,1,0,1,0] [] n ZWZ (A:=ZPn)
def Zkj (k:Nat) (L1:Zl7):ByteArray × Int × Int × Unit → Option (Int × Unit)
 | (a0,a1,a2,()) => L1 (0,a0,(0:Int),a1,a2)
def ZGu (k:Nat):=Zkj k (Zxa k)
theorem ZPs (k:Nat) (n1:Nat):∀ n,ZGv k n1 n = Ze (fun L2 => ZfB k (ZoQ k n1) L2) n:=ZG
theorem ZPr (k:Nat):∀ n,ZoQ k n = Ze (fun L1 => ZfA k (Zxb k L1) L1) n:=ZG (fun n v => by rw [show (Zxb k (ZoQ k n)) = ZGv k n k from (ZPs k n k).symm]; kernel_rfl)
noncomputable def ZUH (k:Nat):ZA k:=Zx 139 Tryz.f139 (ZPq k) ZDx Zv ZGu (A:=ZPn) (h:=fun x => by show _ = Zkj k (Zxa k) x; rw [show Zxa k = ZoQ k k from (ZPr k k).symm]; kernel_rfl)
def ZqN (k:Nat):ByteArray × Unit → Option (Int × Unit)
 | (a0,()) => (ZGu k (a0,8,7,())).bind fun y => some (y.1,())
def ZOh (k:Nat):=ZqN k
noncomputable def ZYa (k:Nat):ZA k:=Zx 86 Tryz.f86 [ZUH k] ZqP Zv ZOh
noncomputable def ZPv (k:Nat):List (ZA k):=[]
def ZPt:Nat → Ann:=fun id => bif Ja id 7 then ⟨[3,5],[]⟩ else bif Ja id 3 then ⟨[4,0,3],[]⟩ else ⟨[],[]⟩
abbrev Zxc:=ZlW → Option (Int × Unit)
abbrev ZbS:=Zds → Option (Int × Unit)
def ZW2:ZlW → St
 | (v0,v1) => St.mk (Zk [(3,Zg v0),(5,Zg v1)]) (Zj [])
def ZcQ (k:Nat) (L2:Zxc):Zxc
 | (v0,v1) => bif v0 != 0 then bif v0.tmod (2:Int) == 0 then L2 (Jx.wrap (v0.tdiv (2:Int)),Jx.wrap (v1 + 1)) else some (v1,()) else some (v1,())
def ZqY (k:Nat):Zxc:=Ze (fun L2 => ZcQ k L2) k
noncomputable def ZGx (k:Nat) (n:Nat):=Qj (ZPv k) Tryz.f140 XH Zv [1,1,1,1,0,0] [] n ZW2 (A:=ZPt)
def ZW1:Zds → St
 | (v0,v1,v2) => St.mk (Zk [(4,Zg v0),(0,We v1),(3,Zg v2)]) (Zj [])
def ZfC (k:Nat) (L2:Zxc) (L1:ZbS):ZbS
 | (v0,v1,v2) => bif decide (v0 < UD v1.length) then bif decide (0 ≤ v0 ∧ v0 < UD v1.length) then L1 (Jx.wrap (v0 + 1),v1,Jx.wrap (UD (UH 64 v2 ||| UH 64 (v1.getD v0.toNat 0)).toNat)) else none else L2 (v2,(0:Int))
def Zxd (k:Nat):ZbS:=Ze (fun L1 => ZfC k (ZqY k) L1) k
noncomputable def ZGw (k:Nat) (n:Nat):=Qj (ZPv k) Tryz.f140 XH Zv [1,1,0,1,0] [] n ZW1 (A:=ZPt)
def Zkk (k:Nat) (L1:ZbS):List Int × Unit → Option (Int × Unit)
 | (a0,()) => L1 (0,a0,(0:Int))
def ZPu (k:Nat):=Zkk k (Zxd k)
theorem ZPx (k:Nat):∀ n,ZGx k n = Ze (fun L2 => ZcQ k L2) n:=ZG
theorem ZPw (k:Nat):∀ n,ZGw k n = Ze (fun L1 => ZfC k (ZqY k) L1) n:=ZG (fun n v => by rw [show (ZqY k) = ZGx k k from (ZPx k k).symm]; kernel_rfl)
noncomputable def ZYx (k:Nat):ZA k:=Zx 140 Tryz.f140 (ZPv k) XH Zv ZPu (A:=ZPt) (h:=fun x => by show _ = Zkk k (Zxd k) x; rw [show Zxd k = ZGw k k from (ZPw k k).symm]; kernel_rfl)
abbrev Zdv:Kd:=.tup [.view .str,.view (.int .i64)]
noncomputable def ZL6 (k:Nat):List (ZA k):=[]
def ZL4:Nat → Ann:=fun id => bif Ja id 5 then ⟨[5,0,4],[]⟩ else ⟨[],[]⟩
abbrev Zn4:=Ya → Option ((ByteArray × Int × Unit) × Unit)
def ZR3:Ya → St
 | (v0,v1,v2) => St.mk (Zk [(5,Zg v0),(0,Zg v1),(4,AV.own 8192)]) (Zj [(8192,RS.live (Res.arr (Ty.int UL) v2 false))])
def Zco (k:Nat) (L1:Zn4):Zn4
 | (v0,v1,v2) => bif decide (v0 < v1) then bif decide (0 ≤ v0 ∧ v0 < UD v2.length) then bif decide (v0.toNat < v2.length) then L1 (Jx.wrap (v0 + 1),v1,v2.set v0.toNat (48:Int)) else none else none else bif decide (0 ≤ v1 ∧ v1 < UD v2.length) then bif decide (v1.toNat < v2.length) then some ((UJ (UT (fun n => UU n.toNat) (v2.set v1.toNat (49:Int))).toArray,0,()),()) else none else none
def Zn5 (k:Nat):Zn4:=Ze (fun L1 => Zco k L1) k
noncomputable def Zy5 (k:Nat) (n:Nat):=Qj (ZL6 k) Tryz.f232 ZY Zdv [1,1,1,0,1,0] [] n ZR3 (A:=ZL4)
def ZgH (k:Nat) (L1:Zn4):Int × Unit → Option ((ByteArray × Int × Unit) × Unit)
 | (a0,()) => bif decide (a0 < 0) then some ((UJ #[],1,()),()) else bif decide ((65536:Int) < a0) then some ((UJ #[],1,()),()) else bif decide (0 ≤ Jx.wrap (a0 + 1) ∧ Jx.wrap (a0 + 1) ≤ Jx.wrap (a0 + 1) ∧ Jx.wrap (a0 + 1) < (4294967296:Int)) then L1 (0,a0,Jd (Jx.wrap (a0 + 1)).toNat (0:Int)) else none
def ZvH (k:Nat):=ZgH k (Zn5 k)
theorem ZIE (k:Nat):∀ n,Zy5 k n = Ze (fun L1 => Zco k L1) n:=ZG
set_option maxHeartbeats 1000000 in
noncomputable def ZL5 (k:Nat):ZA k:=Zx 232 Tryz.f232 (ZL6 k) ZY Zdv ZvH (A:=ZL4) (h:=fun x => by show _ = ZgH k (Zn5 k) x; rw [show Zn5 k = Zy5 k k from (ZIE k k).symm]; kernel_rfl)
def Zln (k:Nat):Int × Int × Unit → Option (ByteArray × Unit)
 | (a0,a1,()) => (Qy k (a0,6,())).bind fun y => bif decide ((1:Nat) + UM y.1 < 1099511627776) then bif a1 == 0 then bif decide ((UJ #[48] ++ y.1).size + (1:Nat) < (1099511627776:Nat)) then some (UJ #[48] ++ y.1 ++ UJ #[48],()) else none else (ZvH k (Jx.wrap (a1 - 1),())).bind fun y_1 => bif decide ((UJ #[48] ++ y.1).size + (1:Nat) < (1099511627776:Nat)) then bif decide ((UJ #[48] ++ y.1 ++ UJ #[49]).size + UM y_1.1.1 < 1099511627776) then some (UJ #[48] ++ y.1 ++ UJ #[49] ++ y_1.1.1,()) else none else none else none
def Zvn (k:Nat):=Zln k
set_option maxHeartbeats 1000000 in
noncomputable def ZVm (k:Nat):ZA k:=Zx 184 Tryz.f184 [ZmT k,ZL5 k] ZaO ZhX Zvn
abbrev ZW3:List Kd:=[.view ZT5,.view (.int .i64),.view .str]
abbrev ZW4:Kd:=.view ZT5
def ZfD (k:Nat):(Int × ByteArray × Int × Unit) × Int × ByteArray × Unit → Option ((Int × ByteArray × Int × Unit) × Unit)
 | ((a0,a1,a2,()),a3,a4,()) => (Zvn k (a3,a2,())).bind fun y => bif decide (UM y.1 + a4.size < 1099511627776) then bif decide (a0 < 0) then some ((a3,y.1 ++ a4,a2,()),()) else bif decide (UD (y.1 ++ a4).size < UD a1.size) then some ((a3,y.1 ++ a4,a2,()),()) else some ((a0,a1,a2,()),()) else none
def ZmX (k:Nat):=ZfD k
noncomputable def ZYy (k:Nat):ZA k:=Zx 141 Tryz.f141 [ZVm k] ZW3 ZW4 ZmX
def Zlo (k:Nat):Int × Int × Unit → Option ((ByteArray × Int × Unit) × Unit)
 | (a0,a1,()) => bif decide (a1 < 0) then some ((UJ #[],1,()),()) else bif decide ((32:Int) < a1) then some ((UJ #[],1,()),()) else (ZqA k (a0,a1,())).bind fun y => bif !y.1 then some ((UJ #[],12,()),()) else bif decide (a0 < 0) then bif decide (0 ≤ a1) then (Qy k (Jx.wrap (a0 + Jx.wrap ((1:Int) * (2:Int) ^ min a1.toNat 64)),a1,())).bind fun y => some ((y.1,0,()),()) else none else (Qy k (a0,a1,())).bind fun y => some ((y.1,0,()),())
def Zvo (k:Nat):=Zlo k
set_option maxHeartbeats 1000000 in
noncomputable def ZLd (k:Nat):ZA k:=Zx 185 Tryz.f185 [ZFN k,ZmT k] ZaO Zdv Zvo
noncomputable def ZUJ (k:Nat):List (ZA k):=[ZLd k]
def ZGy:Nat → Ann:=fun id => bif Ja id 3 then ⟨[6,0,1,5],[]⟩ else ⟨[],[]⟩
abbrev ZPA:=Int × List Int × Int × ByteArray
abbrev Zxe:=ZPA → Option (ByteArray × Unit)
def ZW5:ZPA → St
 | (v0,v1,v2,v3) => St.mk (Zk [(6,Zg v0),(0,We v1),(1,Zg v2),(5,AV.val (PV.v (UR v3)))]) (Zj [])
def ZfE (k:Nat) (L1:Zxe):Zxe
 | (v0,v1,v2,v3) => bif decide (v0 < UD v1.length) then bif decide (0 ≤ v0 ∧ v0 < UD v1.length) then (Zvo k (v1.getD v0.toNat 0,v2,())).bind fun y => bif decide (v3.size + UM y.1.1 < 1099511627776) then L1 (Jx.wrap (v0 + 1),v1,v2,v3 ++ y.1.1) else none else none else some (v3,())
def Zxf (k:Nat):Zxe:=Ze (fun L1 => ZfE k L1) k
noncomputable def ZGz (k:Nat) (n:Nat):=Qj (ZUJ k) Tryz.f142 ZX ZhX [1,1,0,1,0] [] n ZW5 (A:=ZGy)
def Zkl (k:Nat) (L1:Zxe):List Int × Int × Unit → Option (ByteArray × Unit)
 | (a0,a1,()) => L1 (0,a0,a1,UJ #[])
def ZmY (k:Nat):=Zkl k (Zxf k)
theorem ZPB (k:Nat):∀ n,ZGz k n = Ze (fun L1 => ZfE k L1) n:=ZG
noncomputable def ZUI (k:Nat):ZA k:=Zx 142 Tryz.f142 (ZUJ k) ZX ZhX ZmY (A:=ZGy) (h:=fun x => by show _ = Zkl k (Zxf k) x; rw [show Zxf k = ZGz k k from (ZPB k k).symm]; kernel_rfl)
def ZPC (k:Nat):Int × Unit → Option (((List Int × Int × Unit) × Int × Unit) × Unit)
 | (a0,()) => bif decide (a0 < 0) then some ((([],(0:Int),()),1,()),()) else bif decide ((4:Int) < a0) then some ((([],(0:Int),()),1,()),()) else bif decide (0 ≤ a0 ∧ a0 < 5) then bif decide (a0.toNat < (5:Nat)) then some ((([[],[(1:Int)],[(2:Int),(-1:Int)],[(3:Int),(-3:Int),(1:Int)],[(4:Int),(-6:Int),(4:Int),(-1:Int)]].getD a0.toNat [],(0:Int),()),0,()),()) else none else none
def ZGA (k:Nat):=ZPC k
noncomputable def ZUK (k:Nat):ZA k:=Zx 143 Tryz.f143 [] ZY XC ZGA
def ZlN (k:Nat):Int × Unit → Option (Bool × Unit)
 | (a0,()) => bif decide ((-2147483648:Int) < a0) then some (decide (a0 < 2147483648),()) else some (false,())
def ZBW (k:Nat):=ZlN k
noncomputable def ZVT (k:Nat):ZA k:=Zx 240 Tryz.f240 [] ZY Qp ZBW
noncomputable def ZLj (k:Nat):List (ZA k):=[ZVT k]
def ZLh:Nat → Ann:=fun id => bif Ja id 2 then ⟨[3,0],[]⟩ else ⟨[],[]⟩
abbrev ZnL:=Int × List Int
abbrev ZnJ:=ZnL → Option (Bool × Unit)
def ZRN:ZnL → St
 | (v0,v1) => St.mk (Zk [(3,Zg v0),(0,We v1)]) (Zj [])
def Zcg (k:Nat) (L1:ZnJ):ZnJ
 | (v0,v1) => bif decide (v0 < UD v1.length) then bif decide (0 ≤ v0 ∧ v0 < UD v1.length) then (ZBW k (v1.getD v0.toNat 0,())).bind fun y => bif !y.1 then some (false,()) else L1 (Jx.wrap (v0 + 1),v1) else none else some (true,())
def ZnK (k:Nat):ZnJ:=Ze (fun L1 => Zcg k L1) k
noncomputable def ZyG (k:Nat) (n:Nat):=Qj (ZLj k) Tryz.f188 XH Qp [1,0,1,0] [] n ZRN (A:=ZLh)
def Zgz (k:Nat) (L1:ZnJ):List Int × Unit → Option (Bool × Unit)
 | (a0,()) => L1 (0,a0)
def ZpJ (k:Nat):=Zgz k (ZnK k)
theorem ZId (k:Nat):∀ n,ZyG k n = Ze (fun L1 => Zcg k L1) n:=ZG
noncomputable def ZLi (k:Nat):ZA k:=Zx 188 Tryz.f188 (ZLj k) XH Qp ZpJ (A:=ZLh) (h:=fun x => by show _ = Zgz k (ZnK k) x; rw [show ZnK k = ZyG k k from (ZId k k).symm]; kernel_rfl)
noncomputable def ZL8 (k:Nat):List (ZA k):=[]
def ZL7:Nat → Ann:=fun id => bif Ja id 4 then ⟨[3,1],[]⟩ else ⟨[],[]⟩
abbrev Zn6:=Zds → Option (Bool × Unit)
def ZR4:Zds → St
 | (v0,v1,v2) => St.mk (Zk [(3,Zg v0),(1,AV.bx 8192 0)]) (Zj [(8192,QG [We v1,Zg v2])])
def Zcp (k:Nat) (L1:Zn6):Zn6
 | (v0,v1,v2) => bif decide (v0 < UD v1.length) then bif decide (0 ≤ v0 ∧ v0 < UD v1.length) then bif decide (v1.getD v0.toNat 0 < (-2048:Int)) then some (false,()) else bif decide (0 ≤ v0 ∧ v0 < UD v1.length) then bif decide ((2047:Int) < v1.getD v0.toNat 0) then some (false,()) else L1 (Jx.wrap (v0 + 1),v1,v2) else none else none else some (true,())
def Zn7 (k:Nat):Zn6:=Ze (fun L1 => Zcp k L1) k
noncomputable def Zy6 (k:Nat) (n:Nat):=Qj (ZL8 k) Tryz.f233 ZvO Qp [1,1,0,1,0] [] n ZR4 (A:=ZL7)
def ZgI (k:Nat) (L1:Zn6):(List Int × Int × Unit) × Unit → Option (Bool × Unit)
 | ((a0,a1,()),()) => bif decide ((8:Int) < UD a0.length) then some (false,()) else bif decide (a1 < 0) then some (false,()) else bif decide ((15:Int) < a1) then some (false,()) else L1 (0,a0,a1)
def ZBR (k:Nat):=ZgI k (Zn7 k)
theorem ZIF (k:Nat):∀ n,Zy6 k n = Ze (fun L1 => Zcp k L1) n:=ZG
noncomputable def ZVP (k:Nat):ZA k:=Zx 233 Tryz.f233 (ZL8 k) ZvO Qp ZBR (A:=ZL7) (h:=fun x => by show _ = ZgI k (Zn7 k) x; rw [show Zn7 k = Zy6 k k from (ZIF k k).symm]; kernel_rfl)
def ZlR (k:Nat):Int × Int × Unit → Option (Int × Unit)
 | (a0,a1,()) => bif decide (0 ≤ a1) then bif decide ¬Jx.wrap ((1:Int) * (2:Int) ^ min a1.toNat 64) = (0:Int) then bif decide ¬Jx.wrap ((1:Int) * (2:Int) ^ min a1.toNat 64) = (0:Int) then bif decide (a0.tmod (Jx.wrap ((1:Int) * (2:Int) ^ min a1.toNat 64)) < (0:Int)) then some (Jx.wrap (Jx.wrap (a0.tdiv (Jx.wrap ((1:Int) * (2:Int) ^ min a1.toNat 64))) - (1:Int)),()) else some (Jx.wrap (a0.tdiv (Jx.wrap ((1:Int) * (2:Int) ^ min a1.toNat 64))),()) else none else none else none
def ZB2 (k:Nat):=ZlR k
set_option maxHeartbeats 1000000 in
noncomputable def ZV7 (k:Nat):ZA k:=Zx 264 Tryz.f264 [] ZaO Zv ZB2
abbrev ZEQ:List Kd:=[.view Zd7,.view (.sl (.int .i64)),.view (.int .i64)]
noncomputable def ZMa (k:Nat):List (ZA k):=[ZV7 k]
def ZL9:Nat → Ann:=fun id => bif Ja id 3 then ⟨[8,3,7,1,2],[]⟩ else ⟨[],[]⟩
abbrev Zn8:=Zgp → Option (Int × Unit)
def ZR5:Zgp → St
 | (v0,v1,v2,v3,v4,v5) => St.mk (Zk [(8,Zg v0),(3,AV.bx 8192 0),(7,Zg v1),(1,We v2),(2,Zg v3)]) (Zj [(8192,QG [We v4,Zg v5])])
def Zcq (k:Nat) (L1:Zn8):Zn8
 | (v0,v1,v2,v3,v4,v5) => bif decide (v0 < UD v4.length) then bif decide (0 ≤ v0 ∧ v0 < UD v4.length) then bif decide (0 ≤ Jx.wrap (Jx.wrap (v3 - 1) - v0) ∧ Jx.wrap (Jx.wrap (v3 - 1) - v0) < UD v2.length) then L1 (Jx.wrap (v0 + 1),Jx.wrap (v1 + Jx.wrap (v4.getD v0.toNat 0 * v2.getD (Jx.wrap (Jx.wrap (v3 - 1) - v0)).toNat 0)),v2,v3,v4,v5) else none else none else (ZB2 k (v1,v5,())).bind fun y => some (y.1,())
def Zn9 (k:Nat):Zn8:=Ze (fun L1 => Zcq k L1) k
noncomputable def Zy7 (k:Nat) (n:Nat):=Qj (ZMa k) Tryz.f234 ZEQ Zv [1,1,0,1,0] [] n ZR5 (A:=ZL9)
def ZgJ (k:Nat) (L1:Zn8):(List Int × Int × Unit) × List Int × Int × Unit → Option (Int × Unit)
 | ((a0,a1,()),a2,a3,()) => L1 (0,(0:Int),a2,a3,a0,a1)
def ZBS (k:Nat):=ZgJ k (Zn9 k)
theorem ZIH (k:Nat):∀ n,Zy7 k n = Ze (fun L1 => Zcq k L1) n:=ZG
noncomputable def ZVQ (k:Nat):ZA k:=Zx 234 Tryz.f234 (ZMa k) ZEQ Zv ZBS (A:=ZL9) (h:=fun x => by show _ = ZgJ k (Zn9 k) x; rw [show Zn9 k = Zy7 k k from (ZIH k k).symm]; kernel_rfl)
noncomputable def ZLg (k:Nat):List (ZA k):=[ZLi k,ZVP k,ZVQ k]
def ZLe:Nat → Ann:=fun id => bif Ja id 9 then ⟨[7,1,6,2],[.slot 6 ((Ty.int Jx))]⟩ else ⟨[],[]⟩
abbrev ZEB:=Int × List Int × List Int × List Int × Int
abbrev ZnF:=ZEB → Option ((List Int × Int × Unit) × Unit)
def ZRK:ZEB → St
 | (v0,v1,v2,v3,v4) => St.mk (Zk [(7,Zg v0),(1,We v1),(6,AV.own 8192),(2,AV.bx 8193 0)]) (Zj [(8192,rsA v2 false),(8193,QG [We v3,Zg v4])])
def Zce (k:Nat) (L1:ZnF):ZnF
 | (v0,v1,v2,v3,v4) => bif decide (v0 < UD v1.length) then bif decide (0 ≤ v0 ∧ v0 < UD v1.length) then (ZBS k ((v3,v4,()),v1,v0,())).bind fun y => bif decide (v2.length + [Jx.wrap (v1.getD v0.toNat 0 - y.1)].length < 2147483648) then L1 (Jx.wrap (v0 + 1),v1,v2 ++ [Jx.wrap (v1.getD v0.toNat 0 - y.1)],v3,v4) else none else none else (ZpJ k (v2,())).bind fun y => bif !y.1 then some (([],12,()),()) else some ((v2,0,()),())
def ZnG (k:Nat):ZnF:=Ze (fun L1 => Zce k L1) k
noncomputable def ZyE (k:Nat) (n:Nat):=Qj (ZLg k) Tryz.f186 Kh Zbi [1,1,1,1,1,0,1,0] [] n ZRK (A:=ZLe)
def Zgv (k:Nat) (L1:ZnF):(List Int × Int × Unit) × List Int × Unit → Option ((List Int × Int × Unit) × Unit)
 | ((a0,a1,()),a2,()) => (ZBR k ((a0,a1,()),())).bind fun y => bif !y.1 then some (([],2,()),()) else bif decide (UD a2.length < UD a0.length) then some (([],1,()),()) else (ZpJ k (a2,())).bind fun y => bif !y.1 then some (([],12,()),()) else L1 (UD a0.length,a2,[],a0,a1)
def ZpI (k:Nat):=Zgv k (ZnG k)
theorem ZH9 (k:Nat):∀ n,ZyE k n = Ze (fun L1 => Zce k L1) n:=ZG
noncomputable def ZLf (k:Nat):ZA k:=Zx 186 Tryz.f186 (ZLg k) Kh Zbi ZpI (A:=ZLe) (h:=fun x => by show _ = Zgv k (ZnG k) x; rw [show ZnG k = ZyE k k from (ZH9 k k).symm]; kernel_rfl)
def ZlP (k:Nat):Int × Int × Unit → Option (Bool × Unit)
 | (a0,a1,()) => bif decide (1 ≤ a0) then bif decide (a0 ≤ 512) then bif decide (0 ≤ a1) then bif decide (a1 ≤ 8) then some (decide (a1 ≤ a0),()) else some (false,()) else some (false,()) else some (false,()) else some (false,())
def ZBZ (k:Nat):=ZlP k
noncomputable def ZV1 (k:Nat):ZA k:=Zx 249 Tryz.f249 [] ZaO Qp ZBZ
noncomputable def ZMc (k:Nat):List (ZA k):=[ZV1 k]
def ZMb:Nat → Ann:=fun id => bif Ja id 4 then ⟨[5,0],[]⟩ else ⟨[],[]⟩
abbrev Zoa:=ZnL → Option (Int × Unit)
def ZR6:ZnL → St
 | (v0,v1) => St.mk (Zk [(5,Zg v0),(0,We v1)]) (Zj [])
def Zcr (k:Nat) (L1:Zoa):Zoa
 | (v0,v1) => bif decide (v0 < UD v1.length) then bif decide (0 ≤ v0 ∧ v0 < UD v1.length) then bif decide (v1.getD v0.toNat 0 ≤ (-2147483648:Int)) then some (12,()) else bif decide (0 ≤ v0 ∧ v0 < UD v1.length) then bif decide (2147483648 ≤ v1.getD v0.toNat 0) then some (12,()) else L1 (Jx.wrap (v0 + 1),v1) else none else none else some (0,())
def Zob (k:Nat):Zoa:=Ze (fun L1 => Zcr k L1) k
noncomputable def Zy8 (k:Nat) (n:Nat):=Qj (ZMc k) Tryz.f235 ZX Zv [1,1,0,1,0] [] n ZR6 (A:=ZMb)
def ZgK (k:Nat) (L1:Zoa):List Int × Int × Unit → Option (Int × Unit)
 | (a0,a1,()) => bif decide (a1 < 0) then some (1,()) else bif decide ((8:Int) < a1) then some (1,()) else (ZBZ k (Jx.wrap (UD a0.length + a1),a1,())).bind fun y => bif !y.1 then some (1,()) else L1 (0,a0)
def ZBT (k:Nat):=ZgK k (Zob k)
theorem ZIJ (k:Nat):∀ n,Zy8 k n = Ze (fun L1 => Zcr k L1) n:=ZG
noncomputable def ZVR (k:Nat):ZA k:=Zx 235 Tryz.f235 (ZMc k) ZX Zv ZBT (A:=ZMb) (h:=fun x => by show _ = ZgK k (Zob k) x; rw [show Zob k = Zy8 k k from (ZIJ k k).symm]; kernel_rfl)
abbrev ZEV:Kd:=.ns (.sl (.int .i64))
noncomputable def ZMf (k:Nat):List (ZA k):=[]
def ZMd:Nat → Ann:=fun id => bif Ja id 6 then ⟨[9,2,7,1,8,0],[.slot 8 ((Ty.int Jx).sl)]⟩ else ⟨[],[]⟩
abbrev ZEU:=Int × Int × Int × Int × List Int × List (List Int)
abbrev Zoe:=ZEU → Option (List (List Int) × Unit)
def ZSa:ZEU → St
 | (v0,v1,v2,v3,v4,v5) => St.mk (Zk [(9,Zg v0),(2,Zg v1),(7,Zg v2),(1,Zg v3),(8,AV.own 8192),(0,We v4)]) (Zj [(8192,RS.live (Res.arr (Ty.int Jx).sl v5 false))])
def YN (k:Nat) (L1:Zoe):Zoe
 | (v0,v1,v2,v3,v4,v5) => bif decide (0 ≤ v1) then bif decide (v0 < Jx.wrap ((1:Int) * (2:Int) ^ min v1.toNat 64)) then bif decide (0 ≤ v1) then bif v0 == 0 then bif decide ((0:Int) ≤ 0 ∧ (0:Int) ≤ Jx.wrap (v2.fdiv ((2:Int) ^ min v1.toNat 64) - v3) ∧ Jx.wrap (v2.fdiv ((2:Int) ^ min v1.toNat 64) - v3) ≤ UD v4.length) then bif decide (v5.length + [UN 0 (UO (Jx.wrap (v2.fdiv ((2:Int) ^ min v1.toNat 64) - v3)).toNat v4)].length < 2147483648) then bif decide (0 ≤ Jx.wrap (v2.fdiv ((2:Int) ^ min v1.toNat 64) - v3) ∧ Jx.wrap (v2.fdiv ((2:Int) ^ min v1.toNat 64) - v3) ≤ UD v4.length ∧ UD v4.length ≤ UD v4.length) then L1 (Jx.wrap (v0 + 1),v1,v2,v3,UN (Jx.wrap (v2.fdiv ((2:Int) ^ min v1.toNat 64) - v3)).toNat (UO (UD v4.length).toNat v4),v5 ++ [UN 0 (UO (Jx.wrap (v2.fdiv ((2:Int) ^ min v1.toNat 64) - v3)).toNat v4)]) else none else none else none else bif decide ((0:Int) ≤ 0 ∧ (0:Int) ≤ v2.fdiv ((2:Int) ^ min v1.toNat 64) ∧ v2.fdiv ((2:Int) ^ min v1.toNat 64) ≤ UD v4.length) then bif decide (v5.length + [UN 0 (UO (v2.fdiv ((2:Int) ^ min v1.toNat 64)).toNat v4)].length < 2147483648) then bif decide (0 ≤ v2.fdiv ((2:Int) ^ min v1.toNat 64) ∧ v2.fdiv ((2:Int) ^ min v1.toNat 64) ≤ UD v4.length ∧ UD v4.length ≤ UD v4.length) then L1 (Jx.wrap (v0 + 1),v1,v2,v3,UN (v2.fdiv ((2:Int) ^ min v1.toNat 64)).toNat (UO (UD v4.length).toNat v4),v5 ++ [UN 0 (UO (v2.fdiv ((2:Int) ^ min v1.toNat 64)).toNat v4)]) else none else none else none else none else bif decide ((0:Nat) < v5.length) then some (v5,()) else none else none
def Zof (k:Nat):Zoe:=Ze (fun L1 => YN k L1) k
noncomputable def Zza (k:Nat) (n:Nat):=Qj (ZMf k) Tryz.f237 ZnE ZEV [1,1,1,1,0,1,0] [] n ZSa (A:=ZMd)
def ZgN (k:Nat) (L1:Zoe):List Int × Int × Int × Unit → Option (List (List Int) × Unit)
 | (a0,a1,a2,()) => bif decide (0 ≤ a2) then bif decide ¬Jx.wrap ((1:Int) * (2:Int) ^ min a2.toNat 64) = (0:Int) then bif (Jx.wrap (UD a0.length + a1)).tmod (Jx.wrap ((1:Int) * (2:Int) ^ min a2.toNat 64)) != (0:Int) then some ([],()) else bif decide (0 ≤ a2) then bif decide ((Jx.wrap (UD a0.length + a1)).fdiv ((2:Int) ^ min a2.toNat 64) < a1) then some ([],()) else L1 (0,a2,Jx.wrap (UD a0.length + a1),a1,a0,[]) else none else none else none
def ZvK (k:Nat):=ZgN k (Zof k)
theorem ZIQ (k:Nat):∀ n,Zza k n = Ze (fun L1 => YN k L1) n:=ZG
set_option maxHeartbeats 1000000 in
noncomputable def ZMe (k:Nat):ZA k:=Zx 237 Tryz.f237 (ZMf k) ZnE ZEV ZvK (A:=ZMd) (h:=fun x => by show _ = ZgN k (Zof k) x; rw [show Zof k = Zza k k from (ZIQ k k).symm]; kernel_rfl)
def ZlM (k:Nat):Int × Unit → Option (Int × Unit)
 | (a0,()) => bif decide (a0 < 0) then some (Jx.wrap (Jx.wrap ((-2:Int) * a0) - 1),()) else some (Jx.wrap ((2:Int) * a0),())
def ZvM (k:Nat):=ZlM k
noncomputable def ZMj (k:Nat):ZA k:=Zx 239 Tryz.f239 [] ZY Zv ZvM
noncomputable def ZMt (k:Nat):List (ZA k):=[ZMj k]
def ZSe:ZqV → St
 | (v0,v1,v2,v3) => St.mk (Zk [(6,Zg v0),(0,We v1),(1,Zg v2),(5,Zg v3)]) (Zj [])
def Zcw (k:Nat) (L1:Zfy):Zfy
 | (v0,v1,v2,v3) => bif decide (v0 < UD v1.length) then bif decide (0 ≤ v0 ∧ v0 < UD v1.length) then (ZvM k (v1.getD v0.toNat 0,())).bind fun y => bif decide (0 ≤ v2) then bif decide ((65536:Int) < UP y.1 ((2:Int) ^ min v2.toNat 64)) then some ((-1:Int),()) else L1 (Jx.wrap (v0 + 1),v1,v2,Jx.wrap (Jx.wrap (Jx.wrap (v3 + UP y.1 ((2:Int) ^ min v2.toNat 64)) + (1:Int)) + v2)) else none else none else some (v3,())
def Zok (k:Nat):Zfy:=Ze (fun L1 => Zcw k L1) k
noncomputable def Zzd (k:Nat) (n:Nat):=Qj (ZMt k) Tryz.f265 ZX Zv [1,1,0,1,0] [] n ZSe (A:=ZGy)
def ZgQ (k:Nat) (L1:Zfy):List Int × Int × Unit → Option (Int × Unit)
 | (a0,a1,()) => L1 (0,a0,a1,(0:Int))
def ZB3 (k:Nat):=ZgQ k (Zok k)
theorem ZI8 (k:Nat):∀ n,Zzd k n = Ze (fun L1 => Zcw k L1) n:=ZG
noncomputable def ZV8 (k:Nat):ZA k:=Zx 265 Tryz.f265 (ZMt k) ZX Zv ZB3 (A:=ZGy) (h:=fun x => by show _ = ZgQ k (Zok k) x; rw [show Zok k = Zzd k k from (ZI8 k k).symm]; kernel_rfl)
noncomputable def ZB6 (k:Nat):List (ZA k):=[ZFN k]
def ZB4:Nat → Ann:=fun id => bif Ja id 5 then ⟨[0,4,3],[]⟩ else bif Ja id 3 then ⟨[4,0,3],[]⟩ else ⟨[],[]⟩
abbrev ZEY:=List Int × Int × Int
abbrev Zol:=ZEY → Option (Int × Unit)
def ZSg:ZEY → St
 | (v0,v1,v2) => St.mk (Zk [(0,We v0),(4,Zg v1),(3,Zg v2)]) (Zj [])
def Zcy (k:Nat) (L1:ZbS) (L2:Zol):Zol
 | (v0,v1,v2) => bif decide (0 ≤ v1 ∧ v1 < UD v0.length) then (ZqA k (v0.getD v1.toNat 0,v2,())).bind fun y => bif !y.1 then L2 (v0,v1,Jx.wrap (v2 + 1)) else L1 (Jx.wrap (v1 + 1),v0,v2) else none
def Zon (k:Nat) (L1:ZbS):Zol:=Ze (fun L2 => Zcy k L1 L2) k
noncomputable def Zze (k:Nat) (n1:Nat) (n:Nat):=Qj (ZB6 k) Tryz.f266 XH Zv [1,1,0,1,0,0,1,0,0,0] [n1] n ZSg (A:=ZB4)
def ZSf:Zds → St
 | (v0,v1,v2) => St.mk (Zk [(4,Zg v0),(0,We v1),(3,Zg v2)]) (Zj [])
def Zcx (k:Nat) (L2:Zol) (L1:ZbS):ZbS
 | (v0,v1,v2) => bif decide (v0 < UD v1.length) then L2 (v1,v0,v2) else some (v2,())
def Zom (k:Nat):ZbS:=Ze (fun L1 => Zcx k (Zon k L1) L1) k
noncomputable def ZiV (k:Nat) (n:Nat):=Qj (ZB6 k) Tryz.f266 XH Zv [1,1,0,1,0] [] n ZSf (A:=ZB4)
def ZgR (k:Nat) (L1:ZbS):List Int × Unit → Option (Int × Unit)
 | (a0,()) => L1 (0,a0,(0:Int))
def ZB5 (k:Nat):=ZgR k (Zom k)
theorem ZJb (k:Nat) (n1:Nat):∀ n,Zze k n1 n = Ze (fun L2 => Zcy k (ZiV k n1) L2) n:=ZG
theorem ZJa (k:Nat):∀ n,ZiV k n = Ze (fun L1 => Zcx k (Zon k L1) L1) n:=ZG (fun n v => by rw [show (Zon k (ZiV k n)) = Zze k n k from (ZJb k n k).symm]; kernel_rfl)
noncomputable def ZV9 (k:Nat):ZA k:=Zx 266 Tryz.f266 (ZB6 k) XH Zv ZB5 (A:=ZB4) (h:=fun x => by show _ = ZgR k (Zom k) x; rw [show Zom k = ZiV k k from (ZJa k k).symm]; kernel_rfl)
noncomputable def ZMi (k:Nat):List (ZA k):=[ZV8 k,ZV9 k]
def ZMg:Nat → Ann:=fun id => bif Ja id 4 then ⟨[10,7,0,8,9],[]⟩ else ⟨[],[]⟩
abbrev Zog:=Zl9 → Option ((Int × Int × Int × Unit) × Unit)
def ZSb:Zl9 → St
 | (v0,v1,v2,v3,v4) => St.mk (Zk [(10,Zg v0),(7,Zg v1),(0,We v2),(8,Zg v3),(9,Zg v4)]) (Zj [])
def Zcu (k:Nat) (L1:Zog):Zog
 | (v0,v1,v2,v3,v4) => bif decide (v0 < v1) then (ZB3 k (v2,v0,())).bind fun y => bif decide ((0:Int) ≤ y.1) then bif decide (v3 < 0) then L1 (Jx.wrap (v0 + 1),v1,v2,v0,y.1) else bif decide (y.1 < v4) then L1 (Jx.wrap (v0 + 1),v1,v2,v0,y.1) else L1 (Jx.wrap (v0 + 1),v1,v2,v3,v4) else L1 (Jx.wrap (v0 + 1),v1,v2,v3,v4) else (ZB5 k (v2,())).bind fun y => bif decide (y.1 ≤ 31) then bif decide (v3 < 0) then some ((v1,y.1,Jx.wrap ((5:Int) + Jx.wrap (y.1 * UD v2.length)),()),()) else bif decide (Jx.wrap ((5:Int) + Jx.wrap (y.1 * UD v2.length)) < v4) then some ((v1,y.1,Jx.wrap ((5:Int) + Jx.wrap (y.1 * UD v2.length)),()),()) else some ((v3,0,v4,()),()) else some ((v3,0,v4,()),())
def Zoh (k:Nat):Zog:=Ze (fun L1 => Zcu k L1) k
noncomputable def Zzb (k:Nat) (n:Nat):=Qj (ZMi k) Tryz.f238 ZX Zbh [1,1,1,0,1,0] [] n ZSb (A:=ZMg)
def ZgO (k:Nat) (L1:Zog):List Int × Int × Unit → Option ((Int × Int × Int × Unit) × Unit)
 | (a0,a1,()) => bif decide (0 ≤ a1 ∧ a1 < 2) then bif decide (a1.toNat < (2:Nat)) then L1 (0,[(15:Int),(31:Int)].getD a1.toNat 0,a0,(-1:Int),(0:Int)) else none else none
def ZvL (k:Nat):=ZgO k (Zoh k)
theorem ZIS (k:Nat):∀ n,Zzb k n = Ze (fun L1 => Zcu k L1) n:=ZG
noncomputable def ZMh (k:Nat):ZA k:=Zx 238 Tryz.f238 (ZMi k) ZX Zbh ZvL (A:=ZMg) (h:=fun x => by show _ = ZgO k (Zoh k) x; rw [show Zoh k = Zzb k k from (ZIS k k).symm]; kernel_rfl)
noncomputable def ZvJ (k:Nat):List (ZA k):=[ZMe k,ZMh k]
def ZvI:Nat → Ann:=fun id => bif Ja id 11 then ⟨[14,11,12,7,9,10,0,1,8,13],[]⟩ else bif Ja id 7 then ⟨[12,11,7,9,10,0,1,8],[]⟩ else bif Ja id 3 then ⟨[10,0,1,7,9,8],[]⟩ else ⟨[],[]⟩
abbrev ZET:=Int × List (List Int) × Int × Int × Int × Int × List Int × Int × Int × Int
abbrev Zoc:=ZET → Option ((Int × Int × Int × Unit) × Unit)
abbrev ZES:=Int × List (List Int) × Int × Int × Int × List Int × Int × Int
abbrev ZgL:=ZES → Option ((Int × Int × Int × Unit) × Unit)
abbrev ZER:=Int × List Int × Int × Int × Int × Int
abbrev Zbj:=ZER → Option ((Int × Int × Int × Unit) × Unit)
def ZR9:ZET → St
 | (v0,v1,v2,v3,v4,v5,v6,v7,v8,v9) => St.mk (Zk [(14,Zg v0),(11,AV.ns (Ty.int Jx).sl v1),(12,Zg v2),(7,Zg v3),(9,Zg v4),(10,Zg v5),(0,We v6),(1,Zg v7),(8,Zg v8),(13,Zg v9)]) (Zj [])
def Zct (k:Nat) (L1:Zbj) (L2:ZgL) (L3:Zoc):Zoc
 | (v0,v1,v2,v3,v4,v5,v6,v7,v8,v9) => bif decide (v0 < UD v1.length) then bif decide (0 ≤ v0 ∧ v0 < UD v1.length) then (ZvL k (v1.getD v0.toNat [],v2,())).bind fun y => bif decide (y.1.1 < 0) then L2 (Jx.wrap (v2 + 1),v1,v3,v4,v5,v6,v7,v8) else L3 (Jx.wrap (v0 + 1),v1,v2,v3,v4,v5,v6,v7,v8,Jx.wrap (Jx.wrap (Jx.wrap (v9 + 4) + v2) + y.1.2.2.1)) else none else bif decide (0 ≤ v9) then bif decide (v3 < 0) then L2 (Jx.wrap (v2 + 1),v1,v5,v9,v5,v6,v7,v2) else bif decide (v9 < v4) then L2 (Jx.wrap (v2 + 1),v1,v5,v9,v5,v6,v7,v2) else L2 (Jx.wrap (v2 + 1),v1,v3,v4,v5,v6,v7,v8) else L2 (Jx.wrap (v2 + 1),v1,v3,v4,v5,v6,v7,v8)
def Zbk (k:Nat) (L1:Zbj) (L2:ZgL):Zoc:=Ze (fun L3 => Zct k L1 L2 L3) k
noncomputable def Zy9 (k:Nat) (n1 n2:Nat) (n:Nat):=Qj (ZvJ k) Tryz.f236 ZX Zbh [1,1,0,1,0,0,1,0,0,1,1,0,0,1,0,0,1,0,1,0] [n1,n2] n ZR9 (A:=ZvI)
def ZR8:ZES → St
 | (v0,v1,v2,v3,v4,v5,v6,v7) => St.mk (Zk [(12,Zg v0),(11,AV.ns (Ty.int Jx).sl v1),(7,Zg v2),(9,Zg v3),(10,Zg v4),(0,We v5),(1,Zg v6),(8,Zg v7)]) (Zj [])
def XD (k:Nat) (L3:Zoc) (L1:Zbj) (L2:ZgL):ZgL
 | (v0,v1,v2,v3,v4,v5,v6,v7) => bif decide (v0 < 2) then bif !v1.isEmpty then L3 (0,v1,v0,v2,v3,v4,v5,v6,v7,(6:Int)) else L1 (Jx.wrap (v4 + 1),v5,v6,v2,v3,v7) else L1 (Jx.wrap (v4 + 1),v5,v6,v2,v3,v7)
def ZiT (k:Nat) (L1:Zbj):ZgL:=Ze (fun L2 => XD k (Zbk k L1 L2) L1 L2) k
noncomputable def ZiU (k:Nat) (n1:Nat) (n:Nat):=Qj (ZvJ k) Tryz.f236 ZX Zbh [1,1,0,1,0,0,1,0,0,1,1,0] [n1] n ZR8 (A:=ZvI)
def ZR7:ZER → St
 | (v0,v1,v2,v3,v4,v5) => St.mk (Zk [(10,Zg v0),(0,We v1),(1,Zg v2),(7,Zg v3),(9,Zg v4),(8,Zg v5)]) (Zj [])
def Zcs (k:Nat) (L2:ZgL) (L1:Zbj):Zbj
 | (v0,v1,v2,v3,v4,v5) => bif decide (v0 ≤ 4) then (ZvK k (v1,v2,v0,())).bind fun y => L2 (0,y.1,v3,v4,v0,v1,v2,v5) else some ((v3,v5,v4,()),())
def Zod (k:Nat):Zbj:=Ze (fun L1 => Zcs k (ZiT k L1) L1) k
noncomputable def Zaf (k:Nat) (n:Nat):=Qj (ZvJ k) Tryz.f236 ZX Zbh [1,1,0,1,0] [] n ZR7 (A:=ZvI)
def ZgM (k:Nat) (L1:Zbj):List Int × Int × Unit → Option ((Int × Int × Int × Unit) × Unit)
 | (a0,a1,()) => L1 (0,a0,a1,(-1:Int),(0:Int),(0:Int))
def ZBU (k:Nat):=ZgM k (Zod k)
theorem ZIO (k:Nat) (n1 n2:Nat):∀ n,Zy9 k n1 n2 n = Ze (fun L3 => Zct k (Zaf k n1) (ZiU k n1 n2) L3) n:=ZG
theorem ZIN (k:Nat) (n1:Nat):∀ n,ZiU k n1 n = Ze (fun L2 => XD k (Zbk k (Zaf k n1) L2) (Zaf k n1) L2) n:=ZG (fun n v => by rw [show (Zbk k (Zaf k n1) (ZiU k n1 n)) = Zy9 k n1 n k from (ZIO k n1 n k).symm]; kernel_rfl)
theorem ZIM (k:Nat):∀ n,Zaf k n = Ze (fun L1 => Zcs k (ZiT k L1) L1) n:=ZG (fun n v => by rw [show (ZiT k (Zaf k n)) = ZiU k n k from (ZIN k n k).symm]; kernel_rfl)
noncomputable def ZVS (k:Nat):ZA k:=Zx 236 Tryz.f236 (ZvJ k) ZX Zbh ZBU (A:=ZvI) (h:=fun x => by show _ = ZgM k (Zod k) x; rw [show Zod k = Zaf k k from (ZIM k k).symm]; kernel_rfl)
noncomputable def ZBE (k:Nat):List (ZA k):=[ZmT k,ZLd k,ZL5 k,ZVR k,ZVS k,ZMe k,ZMh k,ZMj k]
def ZBD:Nat → Ann:=fun id => bif Ja id 16 then ⟨[17,11,12,16,14,10,13,8],[]⟩ else bif Ja id 8 then ⟨[12,11,8,10],[]⟩ else ⟨[],[]⟩
abbrev ZED:=Int × List (List Int) × Int × Bool × Int × ByteArray × Int × Int
abbrev ZnH:=ZED → Option ((ByteArray × Int × Unit) × Unit)
abbrev ZEC:=Int × List (List Int) × Int × ByteArray
abbrev Zgw:=ZEC → Option ((ByteArray × Int × Unit) × Unit)
def ZRM:ZED → St
 | (v0,v1,v2,v3,v4,v5,v6,v7) => St.mk (Zk [(17,Zg v0),(11,AV.ns (Ty.int Jx).sl v1),(12,Zg v2),(16,avB v3),(14,Zg v4),(10,AV.val (PV.v (UR v5))),(13,Zg v6),(8,Zg v7)]) (Zj [])
def YM (k:Nat) (L1:Zgw) (L2:ZnH):ZnH
 | (v0,v1,v2,v3,v4,v5,v6,v7) => bif decide (0 ≤ v2 ∧ v2 < UD v1.length) then bif decide (v0 < UD (UK (v1.getD v2.toNat []))) then bif v3 then bif decide (0 ≤ v2 ∧ v2 < UD v1.length) then bif decide (0 ≤ v0 ∧ v0 < UD (UK (v1.getD v2.toNat []))) then (Zvo k (US (v1.getD v2.toNat []) v0.toNat 0,v4,())).bind fun y => bif decide (v5.size + UM y.1.1 < 1099511627776) then L2 (Jx.wrap (v0 + 1),v1,v2,v3,v4,v5 ++ y.1.1,v6,v7) else none else none else none else bif decide (0 ≤ v2 ∧ v2 < UD v1.length) then bif decide (0 ≤ v0 ∧ v0 < UD (UK (v1.getD v2.toNat []))) then (ZvM k (US (v1.getD v2.toNat []) v0.toNat 0,())).bind fun y => bif decide (0 ≤ v6) then (ZvH k (UP y.1 ((2:Int) ^ min v6.toNat 64),())).bind fun y_1 => bif decide (0 ≤ v6) then bif decide ¬Jx.wrap ((1:Int) * (2:Int) ^ min v6.toNat 64) = (0:Int) then (Qy k (Int.tmod y.1 (Jx.wrap ((1:Int) * (2:Int) ^ min v6.toNat 64)),v6,())).bind fun y => bif decide (UM y_1.1.1 + UM y.1 < 1099511627776) then bif decide (v5.size + (y_1.1.1 ++ y.1).size < 1099511627776) then L2 (Jx.wrap (v0 + 1),v1,v2,v3,v4,v5 ++ (y_1.1.1 ++ y.1),v6,v7) else none else none else none else none else none else none else none else L1 (Jx.wrap (v2 + 1),v1,v7,v5) else none
def Zgx (k:Nat) (L1:Zgw):ZnH:=Ze (fun L2 => YM k L1 L2) k
noncomputable def ZyF (k:Nat) (n1:Nat) (n:Nat):=Qj (ZBE k) Tryz.f187 ZX Zdv [1,1,1,1,1,1,0,1,0,0,1,0,0,1,1,1,1,1,0] [n1] n ZRM (A:=ZBD)
def ZRL:ZEC → St
 | (v0,v1,v2,v3) => St.mk (Zk [(12,Zg v0),(11,AV.ns (Ty.int Jx).sl v1),(8,Zg v2),(10,AV.val (PV.v (UR v3)))]) (Zj [])
def Zcf (k:Nat) (L2:ZnH) (L1:Zgw):Zgw
 | (v0,v1,v2,v3) => bif decide (v0 < UD v1.length) then bif decide (0 ≤ v0 ∧ v0 < UD v1.length) then (ZvL k (v1.getD v0.toNat [],v2,())).bind fun y => (Qy k (y.1.1,Jx.wrap ((4:Int) + v2),())).bind fun y_1 => bif decide (v3.size + UM y_1.1 < 1099511627776) then bif decide (0 ≤ v2 ∧ v2 < 2) then bif decide (v2.toNat < (2:Nat)) then bif y.1.1 == [(15:Int),(31:Int)].getD v2.toNat 0 then (Qy k (y.1.2.1,5,())).bind fun y_2 => bif decide ((v3 ++ y_1.1).size + UM y_2.1 < 1099511627776) then L2 (0,v1,v0,y.1.1 == [(15:Int),(31:Int)].getD v2.toNat 0,y.1.2.1,v3 ++ y_1.1 ++ y_2.1,y.1.1,v2) else none else L2 (0,v1,v0,y.1.1 == [(15:Int),(31:Int)].getD v2.toNat 0,y.1.2.1,v3 ++ y_1.1,y.1.1,v2) else none else none else none else none else some ((v3,0,()),())
def ZnI (k:Nat):Zgw:=Ze (fun L1 => Zcf k (Zgx k L1) L1) k
noncomputable def ZiN (k:Nat) (n:Nat):=Qj (ZBE k) Tryz.f187 ZX Zdv [1,1,1,1,1,1,0,1,0] [] n ZRL (A:=ZBD)
def Zgy (k:Nat) (L1:Zgw):List Int × Int × Unit → Option ((ByteArray × Int × Unit) × Unit)
 | (a0,a1,()) => (ZBT k (a0,a1,())).bind fun y => bif y.1 != 0 then some ((UJ #[],y.1,()),()) else (ZBU k (a0,a1,())).bind fun y => (Qy k (y.1.2.1,2,())).bind fun y_1 => (Qy k (y.1.1,4,())).bind fun y_2 => bif decide (UM y_1.1 + UM y_2.1 < 1099511627776) then (ZvK k (a0,a1,y.1.1,())).bind fun y_3 => L1 (0,y_3.1,y.1.2.1,y_1.1 ++ y_2.1) else none
def Zvp (k:Nat):=Zgy k (ZnI k)
theorem ZIb (k:Nat) (n1:Nat):∀ n,ZyF k n1 n = Ze (fun L2 => YM k (ZiN k n1) L2) n:=ZG
theorem ZIa (k:Nat):∀ n,ZiN k n = Ze (fun L1 => Zcf k (Zgx k L1) L1) n:=ZG (fun n v => by rw [show (Zgx k (ZiN k n)) = ZyF k n k from (ZIb k n k).symm]; kernel_rfl)
set_option maxHeartbeats 1000000 in
noncomputable def ZVn (k:Nat):ZA k:=Zx 187 Tryz.f187 (ZBE k) ZX Zdv Zvp (A:=ZBD) (h:=fun x => by show _ = Zgy k (ZnI k) x; rw [show ZnI k = ZiN k k from (ZIa k k).symm]; kernel_rfl)
abbrev ZW6:List Kd:=[.view (.sl (.int .i64)),.view (.int .i64),.view Zd7,.view .bool]
abbrev ZW7:Kd:=.tup [.view .str,.view .bool]
def ZPE (k:Nat):List Int × Int × (List Int × Int × Unit) × Bool × Unit → Option ((ByteArray × Bool × Unit) × Unit)
 | (a0,a1,(a2,a3,()),a4,()) => (ZpI k ((a2,a3,()),a0,())).bind fun y => bif y.1.2.1 != 0 then some ((UJ #[],false,()),()) else (Zvp k (y.1.1,UD a2.length,())).bind fun y => bif y.1.2.1 != 0 then some ((UJ #[],false,()),()) else bif decide ((0:Int) ≤ 0 ∧ (0:Int) ≤ UD a2.length ∧ UD a2.length ≤ UD a0.length) then (ZmY k (UN 0 (UO (UD a2.length).toNat a0),a1,())).bind fun y_1 => bif a4 then (Qy k (11,4,())).bind fun y_2 => bif decide (UM y_1.1 + UM y_2.1 < 1099511627776) then (Qy k (a3,5,())).bind fun y_3 => bif decide ((y_1.1 ++ y_2.1).size + UM y_3.1 < 1099511627776) then (ZmY k (a2,12,())).bind fun y_4 => bif decide ((y_1.1 ++ y_2.1 ++ y_3.1).size + UM y_4.1 < 1099511627776) then bif decide ((y_1.1 ++ y_2.1 ++ y_3.1 ++ y_4.1).size + UM y.1.1 < 1099511627776) then some ((y_1.1 ++ y_2.1 ++ y_3.1 ++ y_4.1 ++ y.1.1,true,()),()) else none else none else none else none else bif decide (UM y_1.1 + UM y.1.1 < 1099511627776) then some ((y_1.1 ++ y.1.1,true,()),()) else none else none
def Zt6 (k:Nat):=ZPE k
set_option maxHeartbeats 1000000 in
noncomputable def ZYz (k:Nat):ZA k:=Zx 144 Tryz.f144 [ZmT k,ZUI k,ZLf k,ZVn k] ZW6 ZW7 Zt6
noncomputable def ZLl (k:Nat):List (ZA k):=[ZUK k]
def ZLk:Nat → Ann:=fun id => bif Ja id 4 then ⟨[6,3,5,2],[]⟩ else ⟨[],[]⟩
abbrev ZEE:=Int × List Int × Int × Int × List Int × Int
abbrev ZnM:=ZEE → Option ((List Int × Int × Unit) × Unit)
def ZRO:ZEE → St
 | (v0,v1,v2,v3,v4,v5) => St.mk (Zk [(6,Zg v0),(3,AV.bx 8192 0),(5,AV.bx 8193 0),(2,AV.bx 8195 0)]) (Zj [(8192,QG [We v1,Zg v2]),(8193,QG [AV.own 8194,Zg v3]),(8194,rsA v4 false),(8195,QG [AV.val (PV.v (V4 none (0:Nat) (0:Nat))),Zg v5])])
def Zs5 (k:Nat) (L1:ZnM):ZnM
 | (v0,v1,v2,v3,v4,v5) => bif decide (v0 < UD v1.length) then bif decide (0 ≤ v0 ∧ v0 < UD v1.length) then bif decide (0 ≤ v0 ∧ v0 < UD v4.length) then bif decide (v0.toNat < v4.length) then L1 (Jx.wrap (v0 + 1),v1,v2,v3,v4.set v0.toNat (Jx.wrap ((16:Int) * v1.getD v0.toNat 0)),v5) else none else none else none else some ((v4,v3,()),())
def Zvq (k:Nat):ZnM:=Ze (fun L1 => Zs5 k L1) k
noncomputable def ZyH (k:Nat) (n:Nat):=Qj (ZLl k) Tryz.f189 ZY ZnW [1,1,1,0,1,0] [] n ZRO (A:=ZLk)
def Zs4 (k:Nat) (L1:ZnM):Int × Unit → Option ((List Int × Int × Unit) × Unit)
 | (a0,()) => (ZGA k (if (4:Int) < a0 then (4:Int) else a0,())).bind fun y => bif decide (0 ≤ a0 ∧ a0 ≤ a0 ∧ a0 < 4294967296) then L1 (0,y.1.1.1,y.1.1.2.1,(4:Int),Jd a0.toNat (0:Int),(0:Int)) else none
def ZBF (k:Nat):=Zs4 k (Zvq k)
theorem ZIe (k:Nat):∀ n,ZyH k n = Ze (fun L1 => Zs5 k L1) n:=ZG
noncomputable def ZVo (k:Nat):ZA k:=Zx 189 Tryz.f189 (ZLl k) ZY ZnW ZBF (A:=ZLk) (h:=fun x => by show _ = Zs4 k (Zvq k) x; rw [show Zvq k = ZyH k k from (ZIe k k).symm]; kernel_rfl)
noncomputable def ZLn (k:Nat):List (ZA k):=[ZLf k]
def ZLm:Nat → Ann:=fun id => bif Ja id 4 then ⟨[9,6,8,7],[]⟩ else ⟨[],[]⟩
abbrev ZnN:=ZqV → Option ((Int × Int × Unit) × Unit)
def ZRP:ZqV → St
 | (v0,v1,v2,v3) => St.mk (Zk [(9,Zg v0),(6,We v1),(8,Zg v2),(7,Zg v3)]) (Zj [])
def Zch (k:Nat) (L1:ZnN):ZnN
 | (v0,v1,v2,v3) => bif decide (v0 < UD v1.length) then bif decide (0 ≤ v0 ∧ v0 < UD v1.length) then bif decide (0 ≤ v0 ∧ v0 < UD v1.length) then L1 (Jx.wrap (v0 + 1),v1,Jx.wrap (v2 + if v1.getD v0.toNat 0 < Jx.wrap ((0:Int) - v1.getD v0.toNat 0) then Jx.wrap ((0:Int) - v1.getD v0.toNat 0) else v1.getD v0.toNat 0),v3) else none else none else some ((v2,v3,()),())
def ZnO (k:Nat):ZnN:=Ze (fun L1 => Zch k L1) k
noncomputable def ZyI (k:Nat) (n:Nat):=Qj (ZLn k) Tryz.f190 Kh Wg [1,1,1,0,1,0] [] n ZRP (A:=ZLm)
def ZgA (k:Nat) (L1:ZnN):(List Int × Int × Unit) × List Int × Unit → Option ((Int × Int × Unit) × Unit)
 | ((a0,a1,()),a2,()) => (ZpI k ((a0,a1,()),a2,())).bind fun y => L1 (0,y.1.1,(0:Int),y.1.2.1)
def Zvr (k:Nat):=ZgA k (ZnO k)
theorem ZIg (k:Nat):∀ n,ZyI k n = Ze (fun L1 => Zch k L1) n:=ZG
noncomputable def ZVp (k:Nat):ZA k:=Zx 190 Tryz.f190 (ZLn k) Kh Wg Zvr (A:=ZLm) (h:=fun x => by show _ = ZgA k (ZnO k) x; rw [show ZnO k = ZyI k k from (ZIg k k).symm]; kernel_rfl)
noncomputable def ZGD (k:Nat):List (ZA k):=[ZLi k,ZVo k,ZVp k]
def ZGB:Nat → Ann:=fun id => bif Ja id 17 then ⟨[12,6,11,9,10,0,7,1,4],[.seen 6 0]⟩ else bif Ja id 14 then ⟨[11,1,6,9,10,0,7,4],[]⟩ else bif Ja id 11 then ⟨[10,1,6,9,0,7,4],[]⟩ else ⟨[],[]⟩
abbrev ZPJ:=Int × Int × Int × List Int × Int × Int × List Int × Int × List Int × Int
abbrev Zxg:=ZPJ → Option (((List Int × Int × Unit) × Int × Unit) × Unit)
abbrev ZPI:=Int × Int × Int × List Int × Int × List Int × Int × List Int × Int
abbrev Zl8:=ZPI → Option (((List Int × Int × Unit) × Int × Unit) × Unit)
abbrev ZPH:=Int × Int × List Int × Int × List Int × Int × List Int × Int
abbrev ZfF:=ZPH → Option (((List Int × Int × Unit) × Int × Unit) × Unit)
def ZXa:ZPJ → St
 | (v0,v1,v2,v3,v4,v5,v6,v7,v8,v9) => St.mk (Zk [(12,Zg v0),(6,AV.bx 8192 0),(11,Zg v1),(9,AV.own 8193),(10,Zg v2),(0,We v3),(7,Zg v4),(1,Zg v5),(4,AV.bx 8194 0)]) (Zj [(8192,QG [We v6,Zg v7]),(8193,rsA v8 false),(8194,QG [AV.val (PV.v (V4 none (0:Nat) (0:Nat))),Zg v9])])
def ZcR (k:Nat) (L1:ZfF) (L2:Zl8) (L3:Zxg):Zxg
 | (v0,v1,v2,v3,v4,v5,v6,v7,v8,v9) => bif decide (v0 < 2) then bif decide ((0:Nat) + v6.length < 2147483648) then bif decide (0 ≤ v1 ∧ v1 < UD ([] ++ v6).length) then bif decide (v1.toNat < ([] ++ v6).length) then bif decide (0 ≤ v2 ∧ v2 < UD v8.length) then bif decide (v2.toNat < v8.length) then bif decide (0 ≤ v1 ∧ v1 < UD ([] ++ v6).length) then bif decide (v1.toNat < ([] ++ v6).length) then (Zvr k ((([] ++ v6).set v1.toNat (Jx.wrap (([] ++ v6).getD v1.toNat 0 + Jx.wrap (v8.getD v2.toNat 0 * Jx.wrap ((1:Int) - Jx.wrap ((2:Int) * v0))))),(4:Int),()),v3,())).bind fun y => bif y.1.2.1 == 0 then bif decide (y.1.1 < v4) then L3 (Jx.wrap (v0 + 1),v1,v2,v3,y.1.1,v5,([] ++ v6).set v1.toNat (Jx.wrap (([] ++ v6).getD v1.toNat 0 + Jx.wrap (v8.getD v2.toNat 0 * Jx.wrap ((1:Int) - Jx.wrap ((2:Int) * v0))))),(4:Int),v8,v9) else L3 (Jx.wrap (v0 + 1),v1,v2,v3,v4,v5,v6,v7,v8,v9) else L3 (Jx.wrap (v0 + 1),v1,v2,v3,v4,v5,v6,v7,v8,v9) else none else none else none else none else none else none else none else L2 (Jx.wrap (v1 + 1),v5,v2,v3,v4,v6,v7,v8,v9)
def Zq2 (k:Nat) (L1:ZfF) (L2:Zl8):Zxg:=Ze (fun L3 => ZcR k L1 L2 L3) k
noncomputable def ZGC (k:Nat) (n1 n2:Nat) (n:Nat):=Qj (ZGD k) Tryz.f145 ZX XC [1,1,1,1,1,1,1,0,1,0,0,1,0,0,1,0,0,1,0,0,1,0] [n1,n2] n ZXa (A:=ZGB)
def ZW9:ZPI → St
 | (v0,v1,v2,v3,v4,v5,v6,v7,v8) => St.mk (Zk [(11,Zg v0),(1,Zg v1),(6,AV.bx 8192 0),(9,AV.own 8193),(10,Zg v2),(0,We v3),(7,Zg v4),(4,AV.bx 8194 0)]) (Zj [(8192,QG [We v5,Zg v6]),(8193,rsA v7 false),(8194,QG [AV.val (PV.v (V4 none (0:Nat) (0:Nat))),Zg v8])])
def ZfH (k:Nat) (L3:Zxg) (L1:ZfF) (L2:Zl8):Zl8
 | (v0,v1,v2,v3,v4,v5,v6,v7,v8) => bif decide (v0 < v1) then L3 (0,v0,v2,v3,v4,v1,v5,v6,v7,v8) else L1 (Jx.wrap (v2 + 1),v1,v3,v4,v5,v6,v7,v8)
def Zq1 (k:Nat) (L1:ZfF):Zl8:=Ze (fun L2 => ZfH k (Zq2 k L1 L2) L1 L2) k
noncomputable def ZoR (k:Nat) (n1:Nat) (n:Nat):=Qj (ZGD k) Tryz.f145 ZX XC [1,1,1,1,1,1,1,0,1,0,0,1,0,0,1,0] [n1] n ZW9 (A:=ZGB)
def ZW8:ZPH → St
 | (v0,v1,v2,v3,v4,v5,v6,v7) => St.mk (Zk [(10,Zg v0),(1,Zg v1),(6,AV.bx 8192 0),(9,AV.own 8193),(0,We v2),(7,Zg v3),(4,AV.bx 8194 0)]) (Zj [(8192,QG [We v4,Zg v5]),(8193,rsA v6 false),(8194,QG [AV.val (PV.v (V4 none (0:Nat) (0:Nat))),Zg v7])])
def ZfG (k:Nat) (L2:Zl8) (L1:ZfF):ZfF
 | (v0,v1,v2,v3,v4,v5,v6,v7) => bif decide (v0 < 4) then L2 (0,v1,v0,v2,v3,v4,v5,v6,v7) else some (((v4,v5,()),0,()),())
def Zq0 (k:Nat):ZfF:=Ze (fun L1 => ZfG k (Zq1 k L1) L1) k
noncomputable def Zd2 (k:Nat) (n:Nat):=Qj (ZGD k) Tryz.f145 ZX XC [1,1,1,1,1,1,1,0,1,0] [] n ZW8 (A:=ZGB)
def Zkn (k:Nat) (L1:ZfF):List Int × Int × Unit → Option (((List Int × Int × Unit) × Int × Unit) × Unit)
 | (a0,a1,()) => bif decide (a1 < 0) then some ((([],(0:Int),()),1,()),()) else bif decide ((8:Int) < a1) then some ((([],(0:Int),()),1,()),()) else bif decide (UD a0.length < a1) then some ((([],(0:Int),()),1,()),()) else (ZpJ k (a0,())).bind fun y => bif !y.1 then some ((([],(0:Int),()),12,()),()) else (ZBF k (a1,())).bind fun y => (Zvr k ((y.1.1,y.1.2.1,()),a0,())).bind fun y_1 => bif y_1.1.2.1 != 0 then L1 (0,a1,a0,(4611686018427387904:Int),y.1.1,y.1.2.1,[(8:Int),(4:Int),(2:Int),(1:Int)],(0:Int)) else L1 (0,a1,a0,y_1.1.1,y.1.1,y.1.2.1,[(8:Int),(4:Int),(2:Int),(1:Int)],(0:Int))
def ZPG (k:Nat):=Zkn k (Zq0 k)
theorem ZPN (k:Nat) (n1 n2:Nat):∀ n,ZGC k n1 n2 n = Ze (fun L3 => ZcR k (Zd2 k n1) (ZoR k n1 n2) L3) n:=ZG
theorem ZPM (k:Nat) (n1:Nat):∀ n,ZoR k n1 n = Ze (fun L2 => ZfH k (Zq2 k (Zd2 k n1) L2) (Zd2 k n1) L2) n:=ZG (fun n v => by rw [show (Zq2 k (Zd2 k n1) (ZoR k n1 n)) = ZGC k n1 n k from (ZPN k n1 n k).symm]; kernel_rfl)
theorem ZPL (k:Nat):∀ n,Zd2 k n = Ze (fun L1 => ZfG k (Zq1 k L1) L1) n:=ZG (fun n v => by rw [show (Zq1 k (Zd2 k n)) = ZoR k n k from (ZPM k n k).symm]; kernel_rfl)
set_option maxHeartbeats 1000000 in
noncomputable def ZYA (k:Nat):ZA k:=Zx 145 Tryz.f145 (ZGD k) ZX XC ZPG (A:=ZGB) (h:=fun x => by show _ = Zkn k (Zq0 k) x; rw [show Zq0 k = Zd2 k k from (ZPL k k).symm]; kernel_rfl)
abbrev ZwK:Kd:=.tup [.view (.int .i64),.view .str]
noncomputable def ZF7 (k:Nat):List (ZA k):=[ZYx k,ZYy k,ZUI k,ZUK k,ZYz k,ZYA k]
def ZF3:Nat → Ann:=fun id => bif Ja id 22 then ⟨[17,16,7,1,10],[]⟩ else bif Ja id 14 then ⟨[11,7,1,10],[.«show» 7]⟩ else bif Ja id 5 then ⟨[9,0,7,6,8,1],[.slot 7 ((Ty.int Jx))]⟩ else ⟨[],[]⟩
abbrev ZOs:=Int × Int × List Int × List Int × Int × ByteArray × Int
abbrev ZwF:=ZOs → Option ((Int × ByteArray × Unit) × Unit)
abbrev ZOr:=Int × Int × List Int × Int × ByteArray × Int
abbrev ZwE:=ZOr → Option ((Int × ByteArray × Unit) × Unit)
abbrev ZOq:=Int × List Int × Int × Bool × Int × List Int
abbrev ZwD:=ZOq → Option ((Int × ByteArray × Unit) × Unit)
def ZWF:ZOs → St
 | (v0,v1,v2,v3,v4,v5,v6) => St.mk (Zk [(17,Zg v0),(16,AV.own 8192),(7,AV.own 8193),(1,Zg v1),(10,AV.bx 8194 0)]) (Zj [(8192,rsA v2 false),(8193,rsA v3 true),(8194,QG [Zg v4,AV.val (PV.v (UR v5)),Zg v6])])
def ZcN (k:Nat) (L3:ZwF):ZwF
 | (v0,v1,v2,v3,v4,v5,v6) => bif decide (v0 < 3) then bif decide (0 ≤ v0 ∧ v0 < UD v2.length) then bif decide (v0.toNat < v2.length) then bif decide (v2.getD v0.toNat 0 < UD v3.length) then (ZPG k (v3,v2.getD v0.toNat 0,())).bind fun y => (Zt6 k (v3,v1,(y.1.1.1,y.1.1.2.1,()),true,())).bind fun y => bif y.1.2.1 then (ZmX k ((v4,v5,v6,()),Jx.wrap ((31:Int) + v2.getD v0.toNat 0),y.1.1,())).bind fun y => L3 (Jx.wrap (v0 + 1),v1,v2,v3,y.1.1,y.1.2.1,y.1.2.2.1) else L3 (Jx.wrap (v0 + 1),v1,v2,v3,v4,v5,v6) else L3 (Jx.wrap (v0 + 1),v1,v2,v3,v4,v5,v6) else none else none else (ZmY k (v3,v1,())).bind fun y => (ZmX k ((v4,v5,v6,()),1,y.1,())).bind fun y => some ((y.1.1,y.1.2.1,()),())
def ZwH (k:Nat):ZwF:=Ze (fun L3 => ZcN k L3) k
noncomputable def ZF6 (k:Nat) (n:Nat):=Qj (ZF7 k) Tryz.f88 ZX ZwK [1,1,1,1,1,1,1,1,1,1,0,1,0] [] n ZWF (A:=ZF3)
def ZWE:ZOr → St
 | (v0,v1,v2,v3,v4,v5) => St.mk (Zk [(11,Zg v0),(7,AV.own 8192),(1,Zg v1),(10,AV.bx 8193 0)]) (Zj [(8192,rsA v2 true),(8193,QG [Zg v3,AV.val (PV.v (UR v4)),Zg v5])])
def ZcM (k:Nat) (L3:ZwF) (L2:ZwE):ZwE
 | (v0,v1,v2,v3,v4,v5) => bif decide (v0 ≤ 4) then bif decide (v0 ≤ UD v2.length) then (ZGA k (v0,())).bind fun y => (Zt6 k (v2,v1,(y.1.1.1,y.1.1.2.1,()),false,())).bind fun y => bif y.1.2.1 then (ZmX k ((v3,v4,v5,()),Jx.wrap ((8:Int) + v0),y.1.1,())).bind fun y => L2 (Jx.wrap (v0 + 1),v1,v2,y.1.1,y.1.2.1,y.1.2.2.1) else L2 (Jx.wrap (v0 + 1),v1,v2,v3,v4,v5) else L3 (0,v1,[(2:Int),(4:Int),(8:Int)],v2,v3,v4,v5) else L3 (0,v1,[(2:Int),(4:Int),(8:Int)],v2,v3,v4,v5)
def Zfm (k:Nat):ZwE:=Ze (fun L2 => ZcM k (ZwH k) L2) k
noncomputable def ZF5 (k:Nat) (n:Nat):=Qj (ZF7 k) Tryz.f88 ZX ZwK [1,1,1,1,1,1,1,1,0,1,0] [] n ZWE (A:=ZF3)
def ZWD:ZOq → St
 | (v0,v1,v2,v3,v4,v5) => St.mk (Zk [(9,Zg v0),(0,We v1),(7,AV.own 8192),(6,Zg v2),(8,avB v3),(1,Zg v4)]) (Zj [(8192,rsA v5 false)])
def Yu (k:Nat) (L2:ZwE) (L1:ZwD):ZwD
 | (v0,v1,v2,v3,v4,v5) => bif decide (v0 < UD v1.length) then bif decide (0 ≤ v0 ∧ v0 < UD v1.length) then bif decide (0 ≤ v2) then bif decide ¬Jx.wrap ((1:Int) * (2:Int) ^ min v2.toNat 64) = (0:Int) then bif decide (v5.length + [Jx.wrap (UQ (v1.getD v0.toNat 0) (Jx.wrap ((1:Int) * (2:Int) ^ min v2.toNat 64)))].length < 2147483648) then bif v3 then bif decide (0 ≤ v0 ∧ v0 < UD v1.length) then bif decide ((0:Int) ≤ 0 ∧ (0:Int) < UD v1.length) then L1 (Jx.wrap (v0 + 1),v1,v2,v1.getD v0.toNat 0 == v1.getD 0 0,v4,v5 ++ [Jx.wrap (UQ (v1.getD v0.toNat 0) (Jx.wrap ((1:Int) * (2:Int) ^ min v2.toNat 64)))]) else none else none else L1 (Jx.wrap (v0 + 1),v1,v2,false,v4,v5 ++ [Jx.wrap (UQ (v1.getD v0.toNat 0) (Jx.wrap ((1:Int) * (2:Int) ^ min v2.toNat 64)))]) else none else none else none else none else bif v3 then bif decide ((0:Int) ≤ 0 ∧ (0:Int) ≤ 1 ∧ (1:Int) ≤ UD v5.length) then (ZmY k (UN 0 (UO 1 v5),Jx.wrap (v4 - v2),())).bind fun y => (ZmX k (((-1:Int),UJ #[],v2,()),0,y.1,())).bind fun y => L2 (0,Jx.wrap (v4 - v2),v5,y.1.1,y.1.2.1,y.1.2.2.1) else none else L2 (0,Jx.wrap (v4 - v2),v5,(-1:Int),UJ #[],v2)
def ZwG (k:Nat):ZwD:=Ze (fun L1 => Yu k (Zfm k) L1) k
noncomputable def ZF4 (k:Nat) (n:Nat):=Qj (ZF7 k) Tryz.f88 ZX ZwK [1,1,1,1,0,1,0] [] n ZWD (A:=ZF3)
def Zj7 (k:Nat) (L1:ZwD):List Int × Int × Unit → Option ((Int × ByteArray × Unit) × Unit)
 | (a0,a1,()) => (ZPu k (a0,())).bind fun y => L1 (0,a0,y.1,true,a1,[])
def Zt3 (k:Nat):=Zj7 k (ZwG k)
theorem ZOv (k:Nat):∀ n,ZF6 k n = Ze (fun L3 => ZcN k L3) n:=ZG
theorem ZOu (k:Nat):∀ n,ZF5 k n = Ze (fun L2 => ZcM k (ZwH k) L2) n:=ZG (fun n v => by rw [show (ZwH k) = ZF6 k k from (ZOv k k).symm]; kernel_rfl)
theorem ZOt (k:Nat):∀ n,ZF4 k n = Ze (fun L1 => Yu k (Zfm k) L1) n:=ZG (fun n v => by rw [show (Zfm k) = ZF5 k k from (ZOu k k).symm]; kernel_rfl)
noncomputable def ZYb (k:Nat):ZA k:=Zx 88 Tryz.f88 (ZF7 k) ZX ZwK Zt3 (A:=ZF3) (h:=fun x => by show _ = Zj7 k (ZwG k) x; rw [show ZwG k = ZF4 k k from (ZOt k k).symm]; kernel_rfl)
def ZqQ (k:Nat):Int × Int × Unit → Option ((Int × Int × Unit) × Unit)
 | (a0,a1,()) => bif a1 == 8 then some ((a0,Jx.wrap (a0 + 1),()),()) else bif a1 == 10 then some ((a0,Jx.wrap (a0 + 1),()),()) else bif a1 == 9 then some ((Jx.wrap (a0 + 1),a0,()),()) else some ((a0,a0,()),())
def ZOC (k:Nat):=ZqQ k
noncomputable def ZYc (k:Nat):ZA k:=Zx 90 Tryz.f90 [] ZaO Wg ZOC
def ZqR (k:Nat):ByteArray × Unit → Option (Int × Unit)
 | (a0,()) => (ZGu k (a0,16,32773,())).bind fun y => some (y.1,())
def ZOE (k:Nat):=ZqR k
noncomputable def ZYd (k:Nat):ZA k:=Zx 91 Tryz.f91 [ZUH k] ZqP Zv ZOE
abbrev QI (l:List Int):ByteArray:=UJ (UT (fun n => UU n.toNat) l).toArray
abbrev T17:=(ByteArray × Int × Unit) × Unit
noncomputable def ZEm (k:Nat) (T:ByteArray):Option T17 :=
 (ZmU k (T,())).bind fun y => (ZOE k (QI y.1,())).bind fun z =>
  bif decide ((QI y.1).size + (QI [UL.wrap (Jx.wrap (UQ z.1 (256:Int))),UL.wrap (Int.tmod z.1 (256:Int))]).size < (1099511627776:Nat)) then
   some ((QI y.1 ++ QI [UL.wrap (Jx.wrap (UQ z.1 (256:Int))),UL.wrap (Int.tmod z.1 (256:Int))],0,()),()) else none
noncomputable def ZuZ (k:Nat) (c d:Int) (ch:List (List Int)) (md:Int) (T:ByteArray):Option T17 :=
 bif c == (1:Int) then bif decide ((0:Int) ≤ (0:Int) ∧ (0:Int) < UD ch.length) then (Zt3 k (ch.getD (0:Nat) [],d,())).bind fun y =>
  bif decide (T.size + UM y.1.2.1 < (1099511627776:Nat)) then ZEm k (T ++ y.1.2.1) else none else none
 else bif decide ((0:Int) ≤ (0:Int) ∧ (0:Int) < UD ch.length) then bif decide ((0:Int) ≤ (1:Int) ∧ (1:Int) < UD ch.length) then
  (ZF9 k ((ch.getD (0:Nat) [],ch.getD (1:Nat) [],()),md,())).bind fun y_10 => (ZOC k (d,md,())).bind fun y => (Zt3 k (y_10.1.1,y.1.1,())).bind fun y_11 => (Zt3 k (y_10.1.2.1,y.1.2.1,())).bind fun y_12 =>
   bif decide (T.size + UM y_11.1.2.1 < (1099511627776:Nat)) then bif decide ((T ++ y_11.1.2.1).size + UM y_12.1.2.1 < (1099511627776:Nat)) then ZEm k (T ++ y_11.1.2.1 ++ y_12.1.2.1) else none else none
  else none else none
noncomputable def QH (k:Nat) (kd mc w:Int) (c d n:Int) (ch:List (List Int)) (md:Int):Option T17 :=
 (Qy k (16382,14,())).bind fun y_1 => bif decide (UM y_1.1 + (2:Nat) < (1099511627776:Nat)) then
 (Qy k (kd,4,())).bind fun y_2 => bif decide ((y_1.1 ++ UJ #[48,48]).size + UM y_2.1 < (1099511627776:Nat)) then
 bif decide ((y_1.1 ++ UJ #[48,48] ++ y_2.1).size + (4:Nat) < (1099511627776:Nat)) then
 (Qy k (mc,4,())).bind fun y_3 => bif decide ((y_1.1 ++ UJ #[48,48] ++ y_2.1 ++ UJ #[48,48,48,48]).size + UM y_3.1 < (1099511627776:Nat)) then
 bif decide ((y_1.1 ++ UJ #[48,48] ++ y_2.1 ++ UJ #[48,48,48,48] ++ y_3.1).size + (4:Nat) < (1099511627776:Nat)) then
 (ZOa k (n,())).bind fun y_4 => (ZN5 k (y_4.1,())).bind fun y_5 =>
 bif decide ((y_1.1 ++ UJ #[48,48] ++ y_2.1 ++ UJ #[48,48,48,48] ++ y_3.1 ++ UJ #[48,48,48,48]).size + UM y_5.1 < (1099511627776:Nat)) then
 (Qy k (Jx.wrap (UD (UK (ch.getD (0:Nat) [])) - (1:Int)),w,())).bind fun y_6 =>
 bif decide ((y_1.1 ++ UJ #[48,48] ++ y_2.1 ++ UJ #[48,48,48,48] ++ y_3.1 ++ UJ #[48,48,48,48] ++ y_5.1).size + UM y_6.1 < (1099511627776:Nat)) then
 (ZmU k (y_1.1 ++ UJ #[48,48] ++ y_2.1 ++ UJ #[48,48,48,48] ++ y_3.1 ++ UJ #[48,48,48,48] ++ y_5.1 ++ y_6.1,())).bind fun y_7 => (ZOh k (QI y_7.1,())).bind fun y_8 => (Qy k (y_8.1,8,())).bind fun y_9 =>
 bif decide ((y_1.1 ++ UJ #[48,48] ++ y_2.1 ++ UJ #[48,48,48,48] ++ y_3.1 ++ UJ #[48,48,48,48] ++ y_5.1 ++ y_6.1).size + UM y_9.1 < (1099511627776:Nat)) then
 ZuZ k c d ch md (y_1.1 ++ UJ #[48,48] ++ y_2.1 ++ UJ #[48,48,48,48] ++ y_3.1 ++ UJ #[48,48,48,48] ++ y_5.1 ++ y_6.1 ++ y_9.1)
 else none else none else none else none else none else none else none else none
noncomputable def ZMq (k:Nat):(Int × Int × Int × Unit) × (Int × List (List Int) × Unit) × Unit → Option ((ByteArray × Int × Unit) × Unit)
 | ((c,d,r,()),(n,ch,()),()) =>
  (ZEH k ((c,d,r,()),(n,ch,()),())).bind fun y => bif y.1 != 0 then some ((UJ #[],y.1,()),()) else
   bif decide ((0:Int) ≤ 0 ∧ (0:Int) < UD ch.length) then
    bif decide ((256:Int) < UD (UK (ch.getD 0 []))) then
     bif c == (2:Int) then bif decide ((0:Int) ≤ 0 ∧ (0:Int) < UD ch.length) then bif decide ((0:Int) ≤ 1 ∧ (1:Int) < UD ch.length) then
      (ZqM k ((ch.getD 0 [],ch.getD 1 [],()),())).bind fun y => bif c == (2:Int) then bif y.1 == 0 then QH k 7 1 16 c d n ch y.1 else QH k 7 y.1 16 c d n ch y.1 else QH k 7 y.1 16 c d n ch y.1
      else none else none
     else bif c == (2:Int) then QH k 7 1 16 c d n ch 0 else QH k 7 0 16 c d n ch 0
    else
     bif c == (2:Int) then bif decide ((0:Int) ≤ 0 ∧ (0:Int) < UD ch.length) then bif decide ((0:Int) ≤ 1 ∧ (1:Int) < UD ch.length) then
      (ZqM k ((ch.getD 0 [],ch.getD 1 [],()),())).bind fun y => bif c == (2:Int) then bif y.1 == 0 then QH k 6 1 8 c d n ch y.1 else QH k 6 y.1 8 c d n ch y.1 else QH k 6 y.1 8 c d n ch y.1
      else none else none
     else bif c == (2:Int) then QH k 6 1 8 c d n ch 0 else QH k 6 0 8 c d n ch 0
   else none
noncomputable def ZEX (k:Nat):=ZMq k
set_option maxHeartbeats 1000000 in
noncomputable def ZXY (k:Nat):ZA k:=Zx 41 Tryz.f41 [ZXV k,ZX7 k,ZmT k,ZX8 k,ZX9 k,ZYa k,ZOm k,ZYb k,ZUk k,ZYc k,ZYd k] ZaM Zdv ZEX
end Go.Sh
