/-
  What the row needs, part 10.
-/
import Derived.Test.YtgbhjfacjekhcaaGreatDoorXStreamApart9
import Derived.Shelf.Spec.TrailingZeros
import Derived.Shelf.Strconv.Itoa0
import Derived.Test.YtgbhjfacjekhcaaGreatDoorProg
set_option linter.unusedSimpArgs false
set_option linter.unusedVariables false
set_option linter.unusedSectionVars false
open BitVec renaming ofInt→UN
open Bool renaming and_eq_true→Jh,and_eq_true_iff→UX
open Go.FloatKind renaming f64→Je
open Int renaming ofNat→UJ,fdiv→UT,tdiv→UU,toNat→UV
open Go.IntKind renaming i64→Jx,u64→UO,u8→UQ
open List renaming length→UP,take→UR,drop→US,replicate→Jd,getD→UW
open Nat renaming beq→Ja
open Option renaming bind_eq_some_iff→Uy,some→VF
open Go.Value renaming slice→V5,int→Jv
namespace Go.Sh
open Go
variable [Gl]
variable {P:Program} {ρ:Shelf.Ren} {w:World} {lim:Nat → Nat}
def tzF (x:Int × Unit):Option (Int × Unit):=bif decide (0 ≤ x.1) && decide (x.1 < 18446744073709551616) then some (((Lib.ctz 64 x.1.toNat:Nat):Int),()) else none
theorem ZTd (L:Proofs.Lays7.n29 P ρ) {k f:Nat} {fn:Func} (htab:(Gl.tab (ρ.g 1)) = (.u8,Lib.deBruijn64tab.map fun (n:Nat) => (n:Int))) (hf:ρ.f 29 = f) (hfn:P.funcs[f]? = some fn) (hname:(fn.name == "runtime.NumGoroutine") = false) (hbody:fn.body.isNone = false) :
  Ctr P k f (mk [.view (.int .u64)] (.view (.int .i64)) fun _ x => tzF x) where
 enters:=⟨fn,hfn,hname,hbody⟩
 calls:=by
  intro rvs x hx w lim vs bs hlz hgl hT0 hnd hbs
  simp only [mk] at hx
  obtain ⟨y,hy1,hy2⟩:=Uy.1 hx
  have hrv:=QD [.view (.int .u64)] rvs y hy1
  obtain ⟨n,u⟩:=y
  change Int at n
  change Unit at u
  subst hrv
  simp only [tzF] at hy2
  cases hc:(decide (0 ≤ n) && decide (n < 18446744073709551616)) with
  | false => rw [hc] at hy2; simp at hy2
  | true =>
   rw [hc] at hy2
   simp only [Jh,decide_eq_true_eq] at hc
   obtain rfl:=(VF.inj hy2).symm
   show Calls P f vs.toArray w (Zre w lim vs bs [.view (.int .u64)] (.view (.int .i64) _,[]))
   simp only [Wf,enc] at hT0
   match vs,hT0 with
   | [v1],hT0 =>
    simp only [TTs] at hT0
    obtain ⟨b1,b2,rfl,h1,rfl⟩:=hT0
    obtain ⟨rfl,rfl⟩:=Zra h1
    subst hf
    obtain ⟨m,rfl⟩:=Int.eq_ofNat_of_zero_le hc.1
    refine (Proofs.Any7.bits_TrailingZeros64 L m (by omega) w (fun _ j hj => ?_)).mono ?_
    ·have:=(hgl (ρ.g 1) j ((Lib.deBruijn64tab.getD j 0:Nat):Int) (by
      rw [htab]; simp only [List.getElem?_map]
      rw [List.getD_eq_getElem?_getD,List.getElem?_eq_getElem hj]; rfl)).1
     rw [htab] at this
     exact this
    ·rintro e w' ⟨rfl,rfl⟩
     exact Yk hlz (RowKit.Below.refl _ _) (Zfb _ _) (by simp [TL,ZJ,Wv]) (by simp) (by simp)
def ZMJ (x:Int × Unit):Option (Int × Unit):=bif decide (0 ≤ x.1) && decide (x.1 < 18446744073709551616) then some (((Lib.bitLen x.1.toNat:Nat):Int),()) else none
theorem ZHF (L:Proofs.Lays.n129 P ρ) {k f:Nat} {fn:Func} (hf:ρ.f 129 = f) (hfn:P.funcs[f]? = some fn) (hname:(fn.name == "runtime.NumGoroutine") = false) (hbody:fn.body.isNone = false) :
  Ctr P k f (mk [.view (.int .u64)] (.view (.int .i64)) fun _ x => ZMJ x) where
 enters:=⟨fn,hfn,hname,hbody⟩
 calls:=by
  intro rvs x hx w lim vs bs hlz hgl hT0 hnd hbs
  simp only [mk] at hx
  obtain ⟨y,hy1,hy2⟩:=Uy.1 hx
  have hrv:=QD [.view (.int .u64)] rvs y hy1
  obtain ⟨n,u⟩:=y
  change Int at n
  change Unit at u
  subst hrv
  simp only [ZMJ] at hy2
  cases hc:(decide (0 ≤ n) && decide (n < 18446744073709551616)) with
  | false => rw [hc] at hy2; simp at hy2
  | true =>
   rw [hc] at hy2
   simp only [Jh,decide_eq_true_eq] at hc
   obtain rfl:=(VF.inj hy2).symm
   show Calls P f vs.toArray w (Zre w lim vs bs [.view (.int .u64)] (.view (.int .i64) _,[]))
   simp only [Wf,enc] at hT0
   match vs,hT0 with
   | [v1],hT0 =>
    simp only [TTs] at hT0
    obtain ⟨b1,b2,rfl,h1,rfl⟩:=hT0
    obtain ⟨rfl,rfl⟩:=Zra h1
    subst hf
    refine (Proofs.Any.bits_Len64 L n w hc.1 (by omega)).mono ?_
    rintro e w' ⟨rfl,rfl⟩
    exact Yk hlz (RowKit.Below.refl _ _) (Zfb _ _) (by simp [TL,ZJ,Wv]) (by simp) (by simp)
end Go.Sh
namespace Go.Sh
open Go Go.Proofs
def deBruijnT:List Int:=[0,1,56,2,57,49,28,3,61,58,42,50,38,29,17,4,62,47,59,36,45,43,51,22,53,39,33,30,24,18,12,5,63,55,48,27,60,41,37,16,46,35,44,21,52,32,23,11,54,26,40,15,34,20,31,10,25,14,19,9,13,8,7,6]
instance frameGl:Gl:=⟨fun g => bif Ja g 4 then (.u8,deBruijnT) else (.u8,[])⟩
abbrev ZlM:Ty:=.pair (.int .i64) (.pair (.int .i64) (.pair (.int .i64) .unit))
abbrev Zll:Ty:=.pair (.int .i64) (.pair (.sl (.sl (.int .i64))) .unit)
abbrev Zhp:Ty:=.pair (.sl (.int .i64)) (.pair (.int .i64) .unit)
abbrev Zwj:Ty:=.pair (.int .i64) (.pair (.int .i64) (.pair (.int .i64) (.pair (.sl (.int .i64)) (.pair Zhp (.pair (.sl (.int .i64)) (.pair (.int .i64) .unit))))))
abbrev ZNf:Ty:=.pair (.int .i64) (.pair (.int .i64) (.pair (.int .i64) .unit))
abbrev ZS4:Ty:=.pair (.int .i64) (.pair (.int .i64) (.pair (.sl ZNf) (.pair (.int .i64) .unit)))
theorem Kl:Tryz.prog.follows .mixedOrders = true:=by kernel_rfl
abbrev Zf (v:Int):AV:=AV.val (PV.v (Jv Jx v))
abbrev X6 (v:List Int):AV:=AV.val (PV.sl (Ty.int Jx) v)
abbrev avB (v:Bool):AV:=AV.val (PV.v (Value.bool v))
noncomputable abbrev cdX (f:Func):Code:=f.body.getD .skip
noncomputable def cxX (k:Nat) (l:List (Nat × Callee)) (live:Nat → List Nat:=fun _ => []):Ctx:={ P:=Tryz.prog,Φ:=phi l,k:=k,live:=live }
def nA:Nat → Ann:=fun _ => ⟨[],[]⟩
noncomputable abbrev ZNi (C:Ctx) (A:Nat → Ann) (fn:Func) (pk:List Kd) (rk:Kd) (x:Kd.dens pk):=ZCu C A fn.ntmps (cdX fn) fn.results.toList pk rk (Wf pk x) (ZII pk rk)
noncomputable abbrev lvX (C:Ctx) (fn:Func) (pk:List Kd) (rk:Kd) (a:List AV) (b:List (List Nat)):=Kf C fn.results.toList pk a b rk (ZII pk rk)
noncomputable def ZRl (fn:Func):Bool:=fn.body.isSome && (!(fn.name == "runtime.NumGoroutine") && XW Tryz.prog fn.ntmps (cdX fn))
abbrev QK (l:List AV):RS:=RS.live (Res.box l)
abbrev rsA (v:List Int) (b:Bool):RS:=RS.live (Res.arr (Ty.int Jx) v b)
abbrev ZI (k:Nat):={ p:Nat × Callee // Ctr Tryz.prog k p.1 p.2 }
noncomputable def cxP (k:Nat) (l:List (ZI k)) (live:Nat → List Nat):Ctx:={ P:=Tryz.prog,Φ:=phi (l.map Subtype.val),k:=k,live:=live }
def nL:Nat → List Nat:=fun _ => []
theorem ZT9 (k:Nat) {l:List (ZI k)} {live:Nat → List Nat} {A:Nat → Ann} {f:Nat} {fn:Func} {pk:List Kd} {rk:Kd} {F:Nat → Kd.dens pk → Option (Ans pk rk)}
  (h:∀ x,ZNi (cxP k l live) A fn pk rk x = F k x) (hf:Tryz.prog.funcs[f]? = some fn) (hq:ZRl fn = true):Ctr Tryz.prog k f (mk pk rk F) :=
 have hq1:(fn.body.isSome && (!(fn.name == "runtime.NumGoroutine") && XW Tryz.prog fn.ntmps (cdX fn))) = true:=hq
 have hq2:=UX.1 hq1
 have hq3:=UX.1 hq2.2
 have hb:fn.body = some (cdX fn):=by
  cases e:fn.body with
  | none => rw [e] at hq2; exact absurd hq2.1 (by simp)
  | some c => show some c = some (fn.body.getD .skip); rw [e]; rfl
 ZPy (C:=cxP k l live) (Zv6 (fun p hp => by obtain ⟨q,_,rfl⟩:=List.mem_map.1 hp; exact q.2)) Kl hf hb (by simpa using hq3.1) hq3.2 (fun x y e => (h x).trans e)
noncomputable def Zv (f:Nat) (fn:Func) {k:Nat} (l:List (ZI k)) (pk:List Kd) (rk:Kd) (F:Nat → Kd.dens pk → Option (Ans pk rk)) (A:Nat → Ann:=nA) (live:Nat → List Nat:=nL)
  (h:∀ x,ZNi (cxP k l live) A fn pk rk x = F k x:=by intro x; kernel_rfl) (hf:Tryz.prog.funcs[f]? = some fn:=by kernel_rfl) (hq:ZRl fn = true:=by kernel_rfl):ZI k:=⟨(f,mk pk rk F),ZT9 k h hf hq⟩
def ZMC {α:Type} (k:Nat) (g:Nat → α):α:=match k with | 0 => g 0 | n + 1 => g (n + 1)
theorem ZMD {α:Type} (k:Nat) (g:Nat → α):ZMC k g = g k:=by cases k <;> rfl
noncomputable def ZUB (f:Nat) (fn:Func) {k:Nat} (l:(k:Nat) → List (ZI k)) (pk:List Kd) (rk:Kd) (A:Nat → Ann:=nA) (live:Nat → List Nat:=nL)
  (hf:Tryz.prog.funcs[f]? = some fn:=by kernel_rfl) (hq:ZRl fn = true:=by kernel_rfl):ZI k:=⟨(f,mk pk rk fun k => ZMC k fun k => ZNi (cxP k (l k) live) A fn pk rk),ZT9 k (fun x => (congrFun (ZMD k fun k => ZNi (cxP k (l k) live) A fn pk rk) x).symm) hf hq⟩
noncomputable abbrev Wb {k:Nat} {V:Type} (l:List (ZI k)) (fn:Func) (pk:List Kd) (rk:Kd) (p ns:List Nat) (n:Nat) (S:V → St) (A:Nat → Ann:=nA) (live:Nat → List Nat:=nL) (a:List AV:=[]) (b:List (List Nat):=[]) (q:List Nat:=[]) (v:V):Option (Ans pk rk) :=
 ZSQ (cxP k l live) A q p ns (cdX fn) (lvX (cxP k l live) fn pk rk a b) n (S v)
theorem ZV {V R:Type} {L:Nat → V → Option R} {step:(V → Option R) → V → Option R} (h:∀ n v,L (n + 1) v = step (L n) v:=by intro n v; kernel_rfl) (h0:∀ v,L 0 v = none:=by intro v; kernel_rfl):∀ n,L n = Zh step n:=Zy4 h0 h
abbrev ZRy:List Kd:=[.view ZlM]
abbrev ZB:Kd:=.view (.int .i64)
def Zer (k:Nat):(Int × Int × Int × Unit) × Unit → Option (Int × Unit)
 | ((a0,a1,a2,()),()) => bif decide (a0 < 1) then some (2,()) else bif decide ((2:Int) < a0) then some (2,()) else bif decide (a1 < 4) then some (2,()) else bif decide ((24:Int) < a1) then some (2,()) else bif decide (a2 < 1) then some (2,()) else bif decide ((655350:Int) < a2) then some (2,()) else some (0,())
def ZoG (k:Nat):=Zer k
noncomputable def ZDf (k:Nat):ZI k:=Zv 36 Tryz.f36 [] ZRy ZB ZoG
abbrev Zhk:List Kd:=[.view ZlM,.view Zll]
noncomputable def ZEh (k:Nat):List (ZI k):=[ZDf k]
def ZEe:Nat → Ann:=fun id => bif Ja id 17 then ⟨[68,69,67,2,63,62,61],[]⟩ else bif Ja id 14 then ⟨[62,63,61,2],[]⟩ else bif Ja id 8 then ⟨[42,43,41,6,3,2],[]⟩ else ⟨[],[]⟩
abbrev ZKV:=Int × Int × List Int × Int × Int × List (List Int) × Int × Int × Int
abbrev Zu6:=ZKV → Option (Int × Unit)
abbrev ZKU:=Int × Int × List (List Int) × Int × Int × Int
abbrev Zk9:=ZKU → Option (Int × Unit)
abbrev ZKT:=Int × Int × List (List Int) × Int × Int × List (List Int) × Int × Int × Int
abbrev Zu5:=ZKT → Option (Int × Unit)
def ZSc:ZKV → St
 | (v0,v1,v2,v3,v4,v5,v6,v7,v8) => St.mk (Zp [(68,Zf v0),(69,Zf v1),(67,X6 v2),(2,AV.bx 8192 0),(63,Zf v3),(62,Zf v4),(61,AV.val (PV.sl (Ty.int Jx).sl v5))]) (Zo [(8192,QK [Zf v6,Zf v7,Zf v8])])
def ZeJ (k:Nat) (L2:Zk9) (L3:Zu6):Zu6
 | (v0,v1,v2,v3,v4,v5,v6,v7,v8) => bif decide (v1 < v0) then bif decide (0 ≤ v1 ∧ v1 < UJ v2.length) then bif decide (0 ≤ Jx.wrap (v7 - 1)) then bif UT (v2.getD v1.toNat 0) ((2:Int) ^ min (Jx.wrap (v7 - 1)).toNat 64) != (0:Int) then bif UT (v2.getD v1.toNat 0) ((2:Int) ^ min (Jx.wrap (v7 - 1)).toNat 64) != (-1:Int) then some (12,()) else L3 (v0,Jx.wrap (v1 + 1),v2,v3,v4,v5,v6,v7,v8) else L3 (v0,Jx.wrap (v1 + 1),v2,v3,v4,v5,v6,v7,v8) else none else none else L2 (v4,Jx.wrap (v3 + 1),v5,v6,v7,v8)
def Zpv (k:Nat) (L2:Zk9):Zu6:=Zh (fun L3 => ZeJ k L2 L3) k
noncomputable def ZEg (k:Nat) (n2:Nat) (n:Nat):=Wb (ZEh k) Tryz.f64 Zhk ZB [1,1,1,1,1,0,1,0,0,1,1,0,0,1,1,0] [n2] n ZSc (A:=ZEe)
def ZSb:ZKU → St
 | (v0,v1,v2,v3,v4,v5) => St.mk (Zp [(62,Zf v0),(63,Zf v1),(61,AV.val (PV.sl (Ty.int Jx).sl v2)),(2,AV.bx 8192 0)]) (Zo [(8192,QK [Zf v3,Zf v4,Zf v5])])
def ZcB (k:Nat) (L3:Zu6) (L2:Zk9):Zk9
 | (v0,v1,v2,v3,v4,v5) => bif decide (v1 < v0) then bif decide (0 ≤ v1 ∧ v1 < UJ v2.length) then L3 (UJ (UP (v2.getD v1.toNat [])),(0:Int),v2.getD v1.toNat [],v1,v0,v2,v3,v4,v5) else none else some (0,())
def ZeI (k:Nat):Zk9:=Zh (fun L2 => ZcB k (Zpv k L2) L2) k
noncomputable def ZnG (k:Nat) (n:Nat):=Wb (ZEh k) Tryz.f64 Zhk ZB [1,1,1,1,1,0,1,0] [] n ZSb (A:=ZEe)
def ZSa:ZKT → St
 | (v0,v1,v2,v3,v4,v5,v6,v7,v8) => St.mk (Zp [(42,Zf v0),(43,Zf v1),(41,AV.val (PV.sl (Ty.int Jx).sl v2)),(6,Zf v3),(3,AV.bx 8192 0),(2,AV.bx 8193 0)]) (Zo [(8192,QK [Zf v4,AV.val (PV.sl (Ty.int Jx).sl v5)]),(8193,QK [Zf v6,Zf v7,Zf v8])])
def ZcA (k:Nat) (L2:Zk9) (L1:Zu5):Zu5
 | (v0,v1,v2,v3,v4,v5,v6,v7,v8) => bif decide (v1 < v0) then bif decide (0 ≤ v1 ∧ v1 < UJ v2.length) then bif UJ (UP (v2.getD v1.toNat [])) != v3 then some (1,()) else bif decide (v3 < 1) then some (1,()) else bif decide ((512:Int) < v3) then some (1,()) else L1 (v0,Jx.wrap (v1 + 1),v2,v3,v4,v5,v6,v7,v8) else none else L2 (UJ v5.length,(0:Int),v5,v6,v7,v8)
def Zpu (k:Nat):Zu5:=Zh (fun L1 => ZcA k (ZeI k) L1) k
noncomputable def ZEf (k:Nat) (n:Nat):=Wb (ZEh k) Tryz.f64 Zhk ZB [1,1,1,1,0,1,0] [] n ZSa (A:=ZEe)
def Zi5 (k:Nat) (L1:Zu5):(Int × Int × Int × Unit) × (Int × List (List Int) × Unit) × Unit → Option (Int × Unit)
 | ((a0,a1,a2,()),(a3,a4,()),()) => (ZoG k ((a0,a1,a2,()),())).bind fun y => bif y.1 != 0 then some (y.1,()) else bif decide (a3 < 0) then some (1,()) else bif decide ((2147483647:Int) < a3) then some (1,()) else bif UJ a4.length != a0 then some (1,()) else bif decide ((0:Int) ≤ 0 ∧ (0:Int) < UJ a4.length) then L1 (UJ a4.length,(0:Int),a4,UJ (UP (a4.getD 0 [])),a3,a4,a0,a1,a2) else none
def Zma (k:Nat):=Zi5 k (Zpu k)
theorem ZKY (k:Nat) (n2:Nat):∀ n,ZEg k n2 n = Zh (fun L3 => ZeJ k (ZnG k n2) L3) n:=ZV
theorem ZKX (k:Nat):∀ n,ZnG k n = Zh (fun L2 => ZcB k (Zpv k L2) L2) n:=ZV (fun n v => by rw [show (Zpv k (ZnG k n)) = ZEg k n k from (ZKY k n k).symm]; kernel_rfl)
theorem ZKW (k:Nat):∀ n,ZEf k n = Zh (fun L1 => ZcA k (ZeI k) L1) n:=ZV (fun n v => by rw [show (ZeI k) = ZnG k k from (ZKX k k).symm]; kernel_rfl)
set_option maxHeartbeats 1000000 in
noncomputable def ZQi (k:Nat):ZI k:=Zv 64 Tryz.f64 (ZEh k) Zhk ZB Zma (A:=ZEe) (h:=fun x => by show _ = Zi5 k (Zpu k) x; rw [show Zpu k = ZEf k k from (ZKW k k).symm]; kernel_rfl)
abbrev Zvl:List Kd:=[.view (.sl (.int .i64)),.view (.sl (.int .i64))]
abbrev Zvm:Kd:=.tup [.view (.sl (.cx .f64)),.view (.int .i64)]
noncomputable def ZQz (k:Nat):List (ZI k):=[]
def ZQx:Nat → Ann:=fun id => bif Ja id 7 then ⟨[21,22,20,1,6],[.slot 6 ((Ty.cx Je))]⟩ else ⟨[],[]⟩
abbrev ZLz:=Int × Int × List Int × List Int × List (Nat × Nat)
abbrev Zvk:=ZLz → Option ((List (Nat × Nat) × Int × Unit) × Unit)
def ZSq:ZLz → St
 | (v0,v1,v2,v3,v4) => St.mk (Zp [(21,Zf v0),(22,Zf v1),(20,X6 v2),(1,X6 v3),(6,AV.own 8192)]) (Zo [(8192,RS.live (Res.arr (Ty.cx Je) v4 false))])
def KK (k:Nat) (L1:Zvk):Zvk
 | (v0,v1,v2,v3,v4) => bif decide (v1 < v0) then bif decide (0 ≤ v1 ∧ v1 < UJ v2.length) then bif decide (0 ≤ v1 ∧ v1 < UJ v3.length) then bif decide (v2.getD v1.toNat 0 < (-16777216:Int)) then some (([],12,()),()) else bif decide ((16777216:Int) < v2.getD v1.toNat 0) then some (([],12,()),()) else bif decide (v3.getD v1.toNat 0 < (-16777216:Int)) then some (([],12,()),()) else bif decide ((16777216:Int) < v3.getD v1.toNat 0) then some (([],12,()),()) else bif decide (v4.length + [(Je.nearest (v2.getD v1.toNat 0),Je.nearest (v3.getD v1.toNat 0))].length < 2147483648) then L1 (v0,Jx.wrap (v1 + 1),v2,v3,v4 ++ [(Je.nearest (v2.getD v1.toNat 0),Je.nearest (v3.getD v1.toNat 0))]) else none else none else none else some ((v4,0,()),())
def ZpH (k:Nat):Zvk:=Zh (fun L1 => KK k L1) k
noncomputable def ZEt (k:Nat) (n:Nat):=Wb (ZQz k) Tryz.f129 Zvl Zvm [1,1,1,0,1,0] [] n ZSq (A:=ZQx)
def ZcD (k:Nat) (L1:Zvk):List Int × List Int × Unit → Option ((List (Nat × Nat) × Int × Unit) × Unit)
 | (a0,a1,()) => bif UJ a0.length != UJ a1.length then some (([],1,()),()) else bif decide ((8192:Int) < UJ a0.length) then some (([],14,()),()) else L1 (UJ a0.length,(0:Int),a0,a1,[])
def Zyx (k:Nat):=ZcD k (ZpH k)
theorem ZLA (k:Nat):∀ n,ZEt k n = Zh (fun L1 => KK k L1) n:=ZV
noncomputable def ZQy (k:Nat):ZI k:=Zv 129 Tryz.f129 (ZQz k) Zvl Zvm Zyx (A:=ZQx) (h:=fun x => by show _ = ZcD k (ZpH k) x; rw [show ZpH k = ZEt k k from (ZLA k k).symm]; kernel_rfl)
abbrev QG:List Kd:=[.view (.int .i64)]
abbrev QQ:Kd:=.view .bool
def ZMk (k:Nat):Int × Unit → Option (Bool × Unit)
 | (a0,()) => bif a0 == 0 then some (true,()) else bif decide (8 ≤ a0) then some (decide (a0 ≤ 10),()) else some (false,())
def ZEO (k:Nat):=ZMk k
noncomputable def ZQU (k:Nat):ZI k:=Zv 128 Tryz.f128 [] QG QQ ZEO
abbrev Zdb:List Kd:=[.view (.fl .f64)]
abbrev Zdc:Kd:=.view (.fl .f64)
def ZkF (k:Nat):Nat × Unit → Option (Nat × Unit)
 | (a0,()) => some ((UO.wrap (UJ (UN 64 (UJ a0) &&& ~~~UN 64 (9223372036854775808:Int)).toNat)).toNat,())
def ZkE (k:Nat):=ZkF k
noncomputable def ZAJ (k:Nat):ZI k:=Zv 225 Tryz.f225 [] Zdb Zdc ZkE
abbrev ZOL:List Kd:=[.view (.fl .f64),.view (.fl .f64)]
def ZG7 (k:Nat):Nat × Nat × Unit → Option (Nat × Unit)
 | (a0,a1,()) => some ((UO.wrap (UJ (UN 64 (UO.wrap (UJ (UN 64 (UJ a0) &&& ~~~UN 64 (9223372036854775808:Int)).toNat)) ||| UN 64 (UO.wrap (UJ (UN 64 (UJ a1) &&& UN 64 (9223372036854775808:Int)).toNat))).toNat)).toNat,())
def ZA3 (k:Nat):=ZG7 k
noncomputable def ZJ8 (k:Nat):ZI k:=Zv 269 Tryz.f269 [] ZOL Zdc ZA3
def ZGZ (k:Nat):Nat × Unit → Option (Nat × Unit)
 | (a0,()) => (ZkE k (a0,())).bind fun y => bif Je.format.order y.1 (4607182418800017408:Nat) == some Ordering.lt then (ZA3 k (0,a0,())).bind fun y => some (y.1,()) else bif decide (UO.wrap (UO.wrap (UJ (UN 64 ((UJ a0).fdiv (4503599627370496:Int)) &&& UN 64 (2047:Int)).toNat) - 1023) < (52:Int)) then bif decide (0 ≤ UO.wrap ((52:Int) - UO.wrap (UO.wrap (UJ (UN 64 ((UJ a0).fdiv (4503599627370496:Int)) &&& UN 64 (2047:Int)).toNat) - 1023))) then some ((UO.wrap (UJ (UN 64 (UJ a0) &&& ~~~UN 64 (UO.wrap (UO.wrap ((1:Int) * (2:Int) ^ min (UO.wrap ((52:Int) - UO.wrap (UO.wrap (UJ (UN 64 ((UJ a0).fdiv (4503599627370496:Int)) &&& UN 64 (2047:Int)).toNat) - 1023))).toNat 64) - (1:Int)))).toNat)).toNat,()) else none else some ((UJ a0).toNat,())
def ZRT (k:Nat):=ZGZ k
set_option maxHeartbeats 1000000 in
noncomputable def ZRU (k:Nat):ZI k:=Zv 259 Tryz.f259 [ZAJ k,ZJ8 k] Zdb Zdc ZRT
def ZkC (k:Nat):Nat × Unit → Option (Nat × Unit)
 | (a0,()) => (WG Ieee.Toward.zero a0).bind fun y => some (y,())
def ZkB (k:Nat):=ZkC k
noncomputable def ZJq (k:Nat):ZI k:=Zv 223 Tryz.f223 [ZRU k] Zdb Zdc ZkB
abbrev ZOv:List Kd:=[.view (.fl .f64),.view (.int .i64)]
def ZkD (k:Nat):Nat × Int × Unit → Option (Bool × Unit)
 | (a0,a1,()) => bif a1 == 0 then (ZkE k (a0,())).bind fun y => some (Je.format.order y.1 (9218868437227405311:Nat) == some Ordering.gt,()) else bif decide (a1 < 0) then some (Je.format.order (a0 ^^^ (9223372036854775808:Nat)) (9218868437227405311:Nat) == some Ordering.gt,()) else some (Je.format.order a0 (9218868437227405311:Nat) == some Ordering.gt,())
def Zui (k:Nat):=ZkD k
noncomputable def ZJr (k:Nat):ZI k:=Zv 224 Tryz.f224 [ZAJ k] ZOv QQ Zui
abbrev Zc8:List Kd:=[.view (.sl (.cx .f64))]
noncomputable def ZtZ (k:Nat):List (ZI k):=[ZJq k,ZJr k,ZAJ k]
def ZtY:Nat → Ann:=fun id => bif Ja id 14 then ⟨[37,38,36],[]⟩ else bif Ja id 7 then ⟨[23,22,14,13,12,0],[]⟩ else bif Ja id 4 then ⟨[13,14,12,0],[]⟩ else ⟨[],[]⟩
abbrev ZC2:=Int × Nat × Nat × Int × Int × List (Nat × Nat) × List (Nat × Nat)
abbrev ZmG:=ZC2 → Option (Int × Unit)
abbrev ZC3:=Int × Int × List (Nat × Nat)
abbrev ZmH:=ZC3 → Option (Int × Unit)
abbrev ZC1:=Int × Int × List (Nat × Nat) × List (Nat × Nat)
abbrev ZfF:=ZC1 → Option (Int × Unit)
def ZN3:ZC2 → St
 | (v0,v1,v2,v3,v4,v5,v6) => St.mk (Zp [(23,Zf v0),(22,AV.agg [AV.val (PV.v (Value.float Je v1)),AV.val (PV.v (Value.float Je v2))]),(14,Zf v3),(13,Zf v4),(12,AV.val (PV.sl (Ty.cx Je) v5)),(0,AV.val (PV.sl (Ty.cx Je) v6))]) (Zo [])
def Zb4 (k:Nat) (L1:ZfF) (L2:ZmG):ZmG
 | (v0,v1,v2,v3,v4,v5,v6) => bif decide (v0 < 2) then bif decide (0 ≤ v0 ∧ v0 < 2) then (ZkB k ([v1,v2].getD v0.toNat 0,())).bind fun y => bif Je.format.order y.1 ([v1,v2].getD v0.toNat 0) != some Ordering.eq then some (2,()) else (Zui k ([v1,v2].getD v0.toNat 0,0,())).bind fun y => bif y.1 then some (2,()) else L2 (Jx.wrap (v0 + 1),v1,v2,v3,v4,v5,v6) else none else L1 (v4,Jx.wrap (v3 + 1),v5,v6)
def Zh4 (k:Nat) (L1:ZfF):ZmG:=Zh (fun L2 => Zb4 k L1 L2) k
noncomputable def ZwZ (k:Nat) (n1:Nat) (n:Nat):=Wb (ZtZ k) Tryz.f174 Zc8 ZB [1,1,0,1,0,0,1,1,0,0,1,1,0] [n1] n ZN3 (A:=ZtY)
def ZN4:ZC3 → St
 | (v0,v1,v2) => St.mk (Zp [(37,Zf v0),(38,Zf v1),(36,AV.val (PV.sl (Ty.cx Je) v2))]) (Zo [])
def Zb5 (k:Nat) (L3:ZmH):ZmH
 | (v0,v1,v2) => bif decide (v1 < v0) then bif decide (0 ≤ v1 ∧ v1 < UJ v2.length) then (ZkE k ((v2.getD v1.toNat ((0:Nat),(0:Nat))).1,())).bind fun y => (ZkE k ((v2.getD v1.toNat ((0:Nat),(0:Nat))).2,())).bind fun y_1 => (Zza Je y.1 y_1.1).bind fun y => bif Je.format.order y (4715268809856909312:Nat) == some Ordering.gt then some (12,()) else L3 (v0,Jx.wrap (v1 + 1),v2) else none else some (0,())
def Zh5 (k:Nat):ZmH:=Zh (fun L3 => Zb5 k L3) k
noncomputable def Zw0 (k:Nat) (n:Nat):=Wb (ZtZ k) Tryz.f174 Zc8 ZB [1,1,1,0,1,0] [] n ZN4 (A:=ZtY)
def ZN2:ZC1 → St
 | (v0,v1,v2,v3) => St.mk (Zp [(13,Zf v0),(14,Zf v1),(12,AV.val (PV.sl (Ty.cx Je) v2)),(0,AV.val (PV.sl (Ty.cx Je) v3))]) (Zo [])
def Zb3 (k:Nat) (L2:ZmG) (L3:ZmH) (L1:ZfF):ZfF
 | (v0,v1,v2,v3) => bif decide (v1 < v0) then bif decide (0 ≤ v1 ∧ v1 < UJ v2.length) then L2 (0,(v2.getD v1.toNat ((0:Nat),(0:Nat))).1,(v2.getD v1.toNat ((0:Nat),(0:Nat))).2,v1,v0,v2,v3) else none else L3 (UJ v3.length,(0:Int),v3)
def ZmI (k:Nat):ZfF:=Zh (fun L1 => Zb3 k (Zh4 k L1) (Zh5 k) L1) k
noncomputable def Zh6 (k:Nat) (n:Nat):=Wb (ZtZ k) Tryz.f174 Zc8 ZB [1,1,0,1,0] [] n ZN2 (A:=ZtY)
def ZfG (k:Nat) (L1:ZfF):List (Nat × Nat) × Unit → Option (Int × Unit)
 | (a0,()) => bif decide ((8192:Int) < UJ a0.length) then some (14,()) else L1 (UJ a0.length,(0:Int),a0,a0)
def ZAv (k:Nat):=ZfG k (ZmI k)
theorem ZFR (k:Nat) (n1:Nat):∀ n,ZwZ k n1 n = Zh (fun L2 => Zb4 k (Zh6 k n1) L2) n:=ZV
theorem ZFS (k:Nat):∀ n,Zw0 k n = Zh (fun L3 => Zb5 k L3) n:=ZV
theorem ZFQ (k:Nat):∀ n,Zh6 k n = Zh (fun L1 => Zb3 k (Zh4 k L1) (Zh5 k) L1) n:=ZV (fun n v => by rw [show (Zh4 k (Zh6 k n)) = ZwZ k n k from (ZFR k n k).symm,show (Zh5 k) = Zw0 k k from (ZFS k k).symm]; kernel_rfl)
noncomputable def ZRp (k:Nat):ZI k:=Zv 174 Tryz.f174 (ZtZ k) Zc8 ZB ZAv (A:=ZtY) (h:=fun x => by show _ = ZfG k (ZmI k) x; rw [show ZmI k = Zh6 k k from (ZFQ k k).symm]; kernel_rfl)
abbrev ZN5:List Kd:=[.view (.cx .f64)]
def Zkk (k:Nat):(Nat × Nat) × Unit → Option (Nat × Unit)
 | (a0,()) => (cMulBits a0.1 a0.2 (4607182418800017408:Nat) (4607182418800017408:Nat)).bind fun y => some (y.1,())
def Zox (k:Nat):=Zkk k
noncomputable def ZRq (k:Nat):ZI k:=Zv 175 Tryz.f175 [] ZN5 Zdc Zox
def ZG0 (k:Nat):Nat × Unit → Option (Bool × Unit)
 | (a0,()) => some (Je.format.order a0 a0 != some Ordering.eq,())
def ZJY (k:Nat):=ZG0 k
noncomputable def ZRV (k:Nat):ZI k:=Zv 262 Tryz.f262 [] Zdb QQ ZJY
abbrev ZOI:Kd:=.tup [.view (.fl .f64),.view (.fl .f64)]
def ZG1 (k:Nat):Nat × Unit → Option ((Nat × Nat × Unit) × Unit)
 | (a0,()) => (ZkB k (a0,())).bind fun y => (floatBits BinOp.sub Je a0 y.1).bind fun y_1 => (ZA3 k (y_1,a0,())).bind fun y_2 => some ((y.1,y_2.1,()),())
def ZAX (k:Nat):=ZG1 k
noncomputable def ZRW (k:Nat):ZI k:=Zv 263 Tryz.f263 [ZJq k,ZJ8 k] Zdb ZOI ZAX
def ZGB (k:Nat):Nat × Unit → Option (Nat × Unit)
 | (a0,()) => bif Je.format.order a0 (0:Nat) == some Ordering.eq then some (a0,()) else (ZJY k (a0,())).bind fun y => bif y.1 then some (a0,()) else (Zui k (a0,0,())).bind fun y => bif y.1 then some (a0,()) else bif Je.format.order a0 (0:Nat) == some Ordering.lt then (ZAX k (a0 ^^^ (9223372036854775808:Nat),())).bind fun y => bif Je.format.order y.1.2.1 (0:Nat) != some Ordering.eq then (floatBits BinOp.add Je y.1.1 (4607182418800017408:Nat)).bind fun y => some (y ^^^ (9223372036854775808:Nat),()) else some (y.1.1 ^^^ (9223372036854775808:Nat),()) else (ZAX k (a0,())).bind fun y => some (y.1.1,())
def ZRF (k:Nat):=ZGB k
set_option maxHeartbeats 1000000 in
noncomputable def ZRG (k:Nat):ZI k:=Zv 227 Tryz.f227 [ZJr k,ZRV k,ZRW k] Zdb Zdc ZRF
def Zkl (k:Nat):Nat × Unit → Option (Nat × Unit)
 | (a0,()) => (WG Ieee.Toward.down a0).bind fun y => some (y,())
def ZAx (k:Nat):=Zkl k
noncomputable def ZRr (k:Nat):ZI k:=Zv 176 Tryz.f176 [ZRG k] Zdb Zdc ZAx
abbrev ZLJ:List Kd:=[.view (.sl (.cx .f64)),.view (.int .i64)]
abbrev ZBZ:Kd:=.tup [.view (.sl (.int .i64)),.view (.sl (.int .i64)),.view (.int .i64)]
noncomputable def ZQD (k:Nat):List (ZI k):=[ZQU k,ZRp k,ZRq k,ZRr k]
def ZQC:Nat → Ann:=fun id => bif Ja id 8 then ⟨[23,24,22,1,8,9],[.slot 8 ((Ty.int Jx)),.slot 9 ((Ty.int Jx))]⟩ else ⟨[],[]⟩
abbrev ZLG:=Int × Int × List (Nat × Nat) × Int × List Int × List Int
abbrev Zvo:=ZLG → Option ((List Int × List Int × Int × Unit) × Unit)
def ZSs:ZLG → St
 | (v0,v1,v2,v3,v4,v5) => St.mk (Zp [(23,Zf v0),(24,Zf v1),(22,AV.val (PV.sl (Ty.cx Je) v2)),(1,Zf v3),(8,AV.own 8192),(9,AV.own 8193)]) (Zo [(8192,rsA v4 false),(8193,rsA v5 false)])
def ZeR (k:Nat) (L1:Zvo):Zvo
 | (v0,v1,v2,v3,v4,v5) => bif decide (v1 < v0) then bif decide (0 ≤ v1 ∧ v1 < UJ v2.length) then bif v3 == 8 then (Zox k (((v2.getD v1.toNat ((0:Nat),(0:Nat))).1,(v2.getD v1.toNat ((0:Nat),(0:Nat))).2),())).bind fun y => (floatToIntVal Je (v2.getD v1.toNat ((0:Nat),(0:Nat))).1 Jx).bind fun y_1 => bif decide (v4.length + [y_1].length < 2147483648) then (floatToIntVal Je y.1 Jx).bind fun y => bif decide (v5.length + [y].length < 2147483648) then L1 (v0,Jx.wrap (v1 + 1),v2,v3,v4 ++ [y_1],v5 ++ [y]) else none else none else bif v3 == 9 then (Zox k (((v2.getD v1.toNat ((0:Nat),(0:Nat))).1,(v2.getD v1.toNat ((0:Nat),(0:Nat))).2),())).bind fun y => (floatToIntVal Je y.1 Jx).bind fun y => bif decide (v4.length + [y].length < 2147483648) then (floatToIntVal Je (v2.getD v1.toNat ((0:Nat),(0:Nat))).2 Jx).bind fun y_1 => bif decide (v5.length + [y_1].length < 2147483648) then L1 (v0,Jx.wrap (v1 + 1),v2,v3,v4 ++ [y],v5 ++ [y_1]) else none else none else bif v3 == 10 then (floatBits BinOp.add Je (v2.getD v1.toNat ((0:Nat),(0:Nat))).1 (v2.getD v1.toNat ((0:Nat),(0:Nat))).2).bind fun y => (floatBits BinOp.quo Je y (4611686018427387904:Nat)).bind fun y => (ZAx k (y,())).bind fun y => (Zox k (((v2.getD v1.toNat ((0:Nat),(0:Nat))).1,(v2.getD v1.toNat ((0:Nat),(0:Nat))).2),())).bind fun y_1 => (floatToIntVal Je y.1 Jx).bind fun y => bif decide (v4.length + [y].length < 2147483648) then (floatToIntVal Je y_1.1 Jx).bind fun y_2 => bif decide (v5.length + [y_2].length < 2147483648) then L1 (v0,Jx.wrap (v1 + 1),v2,v3,v4 ++ [y],v5 ++ [y_2]) else none else none else (floatToIntVal Je (v2.getD v1.toNat ((0:Nat),(0:Nat))).1 Jx).bind fun y => bif decide (v4.length + [y].length < 2147483648) then (floatToIntVal Je (v2.getD v1.toNat ((0:Nat),(0:Nat))).2 Jx).bind fun y_1 => bif decide (v5.length + [y_1].length < 2147483648) then L1 (v0,Jx.wrap (v1 + 1),v2,v3,v4 ++ [y],v5 ++ [y_1]) else none else none else none else some ((v4,v5,0,()),())
def Zvp (k:Nat):Zvo:=Zh (fun L1 => ZeR k L1) k
noncomputable def ZEv (k:Nat) (n:Nat):=Wb (ZQD k) Tryz.f130 ZLJ ZBZ [1,1,1,1,0,1,0] [] n ZSs (A:=ZQC)
def Zje (k:Nat) (L1:Zvo):List (Nat × Nat) × Int × Unit → Option ((List Int × List Int × Int × Unit) × Unit)
 | (a0,a1,()) => (ZEO k (a1,())).bind fun y => bif !y.1 then some (([],[],1,()),()) else (ZAv k (a0,())).bind fun y => bif y.1 != 0 then some (([],[],y.1,()),()) else L1 (UJ a0.length,(0:Int),a0,a1,[],[])
def Zyz (k:Nat):=Zje k (Zvp k)
theorem ZLI (k:Nat):∀ n,ZEv k n = Zh (fun L1 => ZeR k L1) n:=ZV
noncomputable def ZLH (k:Nat):ZI k:=Zv 130 Tryz.f130 (ZQD k) ZLJ ZBZ Zyz (A:=ZQC) (h:=fun x => by show _ = Zje k (Zvp k) x; rw [show Zvp k = ZEv k k from (ZLI k k).symm]; kernel_rfl)
abbrev Zlk:List Kd:=[.view (.sl (.int .i64))]
noncomputable def ZQW (k:Nat):List (ZI k):=[]
def ZQV:Nat → Ann:=fun id => bif Ja id 3 then ⟨[8,9,7,3,4],[]⟩ else ⟨[],[]⟩
abbrev Zlj:=Int × Int × List Int × Int × Int
abbrev ZvI:=Zlj → Option (Int × Unit)
def ZSH:Zlj → St
 | (v0,v1,v2,v3,v4) => St.mk (Zp [(8,Zf v0),(9,Zf v1),(7,X6 v2),(3,Zf v3),(4,Zf v4)]) (Zo [])
def Ze1 (k:Nat) (L1:ZvI):ZvI
 | (v0,v1,v2,v3,v4) => bif decide (v1 < v0) then bif decide (0 ≤ v1 ∧ v1 < UJ v2.length) then L1 (v0,Jx.wrap (v1 + 1),v2,Jx.wrap (v3 + if Jx.wrap (v2.getD v1.toNat 0 - v4) < Jx.wrap (v4 - v2.getD v1.toNat 0) then Jx.wrap (v4 - v2.getD v1.toNat 0) else Jx.wrap (v2.getD v1.toNat 0 - v4)),v2.getD v1.toNat 0) else none else some (v3,())
def ZvJ (k:Nat):ZvI:=Zh (fun L1 => Ze1 k L1) k
noncomputable def ZEQ (k:Nat) (n:Nat):=Wb (ZQW k) Tryz.f191 Zlk ZB [1,1,0,1,0] [] n ZSH (A:=ZQV)
def Zjn (k:Nat) (L1:ZvI):List Int × Unit → Option (Int × Unit)
 | (a0,()) => L1 (UJ a0.length,(0:Int),a0,(0:Int),(0:Int))
def ZEP (k:Nat):=Zjn k (ZvJ k)
theorem ZMl (k:Nat):∀ n,ZEQ k n = Zh (fun L1 => Ze1 k L1) n:=ZV
noncomputable def ZT5 (k:Nat):ZI k:=Zv 191 Tryz.f191 (ZQW k) Zlk ZB ZEP (A:=ZQV) (h:=fun x => by show _ = Zjn k (ZvJ k) x; rw [show ZvJ k = ZEQ k k from (ZMl k k).symm]; kernel_rfl)
abbrev W0:Kd:=.tup [.view (.int .i64),.view (.int .i64)]
noncomputable def ZQB (k:Nat):List (ZI k):=[ZLH k,ZT5 k]
def ZQA:Nat → Ann:=fun id => bif Ja id 3 then ⟨[13,12,0,5,4],[]⟩ else ⟨[],[]⟩
abbrev ZLD:=Int × Int × Int × Int × Int × List (Nat × Nat) × Int × Int
abbrev Zvn:=ZLD → Option ((Int × Int × Unit) × Unit)
def ZSr:ZLD → St
 | (v0,v1,v2,v3,v4,v5,v6,v7) => St.mk (Zp [(13,Zf v0),(12,AV.agg [Zf v1,Zf v2,Zf v3,Zf v4]),(0,AV.val (PV.sl (Ty.cx Je) v5)),(5,Zf v6),(4,Zf v7)]) (Zo [])
def ZeQ (k:Nat) (L1:Zvn):Zvn
 | (v0,v1,v2,v3,v4,v5,v6,v7) => bif decide (v0 < 4) then bif decide (0 ≤ v0 ∧ v0 < 4) then (Zyz k (v5,[v1,v2,v3,v4].getD v0.toNat (0:Int),())).bind fun y => bif y.1.2.2.1 != 0 then some ((0,y.1.2.2.1,()),()) else (ZEP k (y.1.1,())).bind fun y_1 => (ZEP k (y.1.2.1,())).bind fun y => bif decide (v6 < 0) then L1 (Jx.wrap (v0 + 1),v1,v2,v3,v4,v5,Jx.wrap (y_1.1 + y.1),[v1,v2,v3,v4].getD v0.toNat (0:Int)) else bif decide (Jx.wrap (y_1.1 + y.1) < v6) then L1 (Jx.wrap (v0 + 1),v1,v2,v3,v4,v5,Jx.wrap (y_1.1 + y.1),[v1,v2,v3,v4].getD v0.toNat (0:Int)) else L1 (Jx.wrap (v0 + 1),v1,v2,v3,v4,v5,v6,v7) else none else some ((v7,0,()),())
def ZBY (k:Nat):Zvn:=Zh (fun L1 => ZeQ k L1) k
noncomputable def ZEu (k:Nat) (n:Nat):=Wb (ZQB k) Tryz.f147 Zc8 W0 [1,1,0,1,0] [] n ZSr (A:=ZQA)
def Zyy (k:Nat) (L1:Zvn):List (Nat × Nat) × Unit → Option ((Int × Int × Unit) × Unit)
 | (a0,()) => L1 (0,(0:Int),(8:Int),(9:Int),(10:Int),a0,(-1:Int),(0:Int))
def ZLC (k:Nat):=Zyy k (ZBY k)
theorem ZLE (k:Nat):∀ n,ZEu k n = Zh (fun L1 => ZeQ k L1) n:=ZV
noncomputable def ZTW (k:Nat):ZI k:=Zv 147 Tryz.f147 (ZQB k) Zc8 W0 ZLC (A:=ZQA) (h:=fun x => by show _ = Zyy k (ZBY k) x; rw [show ZBY k = ZEu k k from (ZLE k k).symm]; kernel_rfl)
abbrev ZSd:List Kd:=[.view Zll]
abbrev ZSe:Kd:=.tup [.view (.sl (.sl (.int .i64))),.view (.int .i64),.view (.int .i64)]
def Zpw (k:Nat):(Int × List (List Int) × Unit) × Unit → Option ((List (List Int) × Int × Int × Unit) × Unit)
 | ((a0,a1,()),()) => bif UJ a1.length == (1:Int) then some ((a1,0,0,()),()) else bif decide ((0:Int) ≤ 0 ∧ (0:Int) < UJ a1.length) then bif decide ((0:Int) ≤ 1 ∧ (1:Int) < UJ a1.length) then (Zyx k (a1.getD 0 [],a1.getD 1 [],())).bind fun y => bif y.1.2.1 != 0 then some (([],0,y.1.2.1,()),()) else (ZLC k (y.1.1,())).bind fun y_1 => bif y_1.1.2.1 != 0 then some (([],0,y_1.1.2.1,()),()) else (Zyz k (y.1.1,y_1.1.1,())).bind fun y => bif y_1.1.1 == 0 then some (([y.1.1,y.1.2.1],1,y.1.2.2.1,()),()) else some (([y.1.1,y.1.2.1],y_1.1.1,y.1.2.2.1,()),()) else none else none
def ZKZ (k:Nat):=Zpw k
set_option maxHeartbeats 1000000 in
noncomputable def ZTL (k:Nat):ZI k:=Zv 92 Tryz.f92 [ZQy k,ZTW k,ZLH k] ZSd ZSe ZKZ
abbrev ZSf:List Kd:=[]
abbrev ZSg:Kd:=.box [.own (.int .u8) false,.view (.int .i64)]
def ZK1 (k:Nat):Unit → Option ((List Int × Int × Unit) × Unit)
 | () => some (([],0,()),())
def ZsO (k:Nat):=ZK1 k
noncomputable def ZQj (k:Nat):ZI k:=Zv 93 Tryz.f93 [] ZSf ZSg ZsO
def ZpJ (k:Nat):Int × Unit → Option (Bool × Unit)
 | (a0,()) => bif decide (a0 < 0) then some (true,()) else some (decide ((32:Int) < a0),())
def ZyA (k:Nat):=ZpJ k
noncomputable def ZLK (k:Nat):ZI k:=Zv 148 Tryz.f148 [] QG QQ ZyA
abbrev Zt0:List Kd:=[.box [.own (.int .u8) false,.view (.int .i64)],.view (.int .i64)]
abbrev Ks:Kd:=.tup []
def Zkm (k:Nat):(List Int × Int × Unit) × Int × Unit → Option (Unit × (List Int × Int × Unit) × Unit)
 | ((a0,a1,()),a2,()) => bif a1.tmod (8:Int) == 0 then bif decide (a0.length + (1:Nat) < (2147483648:Nat)) then bif decide (0 ≤ Jx.wrap (a1.tdiv (8:Int)) ∧ Jx.wrap (a1.tdiv (8:Int)) < UJ (a0 ++ [(0:Int)]).length) then bif decide ((Jx.wrap (a1.tdiv (8:Int))).toNat < (a0 ++ [(0:Int)]).length) then bif decide (0 ≤ Jx.wrap ((7:Int) - a1.tmod (8:Int))) then bif decide (0 ≤ Jx.wrap (a1.tdiv (8:Int)) ∧ Jx.wrap (a1.tdiv (8:Int)) < UJ (a0 ++ [(0:Int)]).length) then bif decide ((Jx.wrap (a1.tdiv (8:Int))).toNat < (a0 ++ [(0:Int)]).length) then some ((),((a0 ++ [(0:Int)]).set (Jx.wrap (a1.tdiv (8:Int))).toNat (UQ.wrap (UJ (UN 8 ((a0 ++ [(0:Int)]).getD (Jx.wrap (a1.tdiv (8:Int))).toNat 0) ||| UN 8 (UQ.wrap (Jx.wrap (a2 * (2:Int) ^ min (Jx.wrap ((7:Int) - a1.tmod (8:Int))).toNat 64)))).toNat)),Jx.wrap (a1 + 1),()),()) else none else none else none else none else none else none else bif decide (0 ≤ Jx.wrap (a1.tdiv (8:Int)) ∧ Jx.wrap (a1.tdiv (8:Int)) < UJ a0.length) then bif decide ((Jx.wrap (a1.tdiv (8:Int))).toNat < a0.length) then bif decide (0 ≤ Jx.wrap ((7:Int) - a1.tmod (8:Int))) then bif decide (0 ≤ Jx.wrap (a1.tdiv (8:Int)) ∧ Jx.wrap (a1.tdiv (8:Int)) < UJ a0.length) then bif decide ((Jx.wrap (a1.tdiv (8:Int))).toNat < a0.length) then some ((),(a0.set (Jx.wrap (a1.tdiv (8:Int))).toNat (UQ.wrap (UJ (UN 8 (a0.getD (Jx.wrap (a1.tdiv (8:Int))).toNat 0) ||| UN 8 (UQ.wrap (Jx.wrap (a2 * (2:Int) ^ min (Jx.wrap ((7:Int) - a1.tmod (8:Int))).toNat 64)))).toNat)),Jx.wrap (a1 + 1),()),()) else none else none else none else none else none
def Zoz (k:Nat):=Zkm k
set_option maxHeartbeats 1000000 in
noncomputable def ZIR (k:Nat):ZI k:=Zv 192 Tryz.f192 [] Zt0 Ks Zoz
abbrev ZLM:List Kd:=[.box [.own (.int .u8) false,.view (.int .i64)],.view (.int .u64),.view (.int .i64)]
noncomputable def ZQG (k:Nat):List (ZI k):=[ZIR k]
def ZQE:Nat → Ann:=fun id => bif Ja id 1 then ⟨[6,0,1],[]⟩ else ⟨[],[]⟩
abbrev Zlc:=Int × Int × Int × List Int
abbrev Zvq:=Zlc → Option (Unit × (List Int × Int × Unit) × Unit)
def ZSt:Zlc → St
 | (v0,v1,v2,v3) => St.mk (Zp [(6,Zf v0),(0,AV.bx 0 0),(1,AV.val (PV.v (Jv UO v1)))]) (Zo [(0,QK [AV.own 8192,Zf v2]),(8192,RS.live (Res.arr (Ty.int UQ) v3 false))])
def ZeS (k:Nat) (L1:Zvq):Zvq
 | (v0,v1,v2,v3) => bif decide (0 ≤ v0) then bif decide (0 ≤ v0) then (Zoz k ((v3,v2,()),Jx.wrap (UO.wrap (UJ (UN 64 (v1.fdiv ((2:Int) ^ min v0.toNat 64)) &&& UN 64 (1:Int)).toNat)),())).bind fun y => L1 (Jx.wrap (v0 - 1),v1,y.2.1.2.1,y.2.1.1) else none else some ((),(v3,v2,()),())
def Zvr (k:Nat):Zvq:=Zh (fun L1 => ZeS k L1) k
noncomputable def ZEw (k:Nat) (n:Nat):=Wb (ZQG k) Tryz.f149 ZLM Ks [1,0] [] n ZSt (A:=ZQE) (a:=[AV.bx (nat_lit 0) (nat_lit 0)]) (b:=[[]]) (q:=[0])
def Zjf (k:Nat) (L1:Zvq):(List Int × Int × Unit) × Int × Int × Unit → Option (Unit × (List Int × Int × Unit) × Unit)
 | ((a0,a1,()),a2,a3,()) => L1 (Jx.wrap (a3 - 1),a2,a1,a0)
def ZgG (k:Nat):=Zjf k (Zvr k)
theorem ZLL (k:Nat):∀ n,ZEw k n = Zh (fun L1 => ZeS k L1) n:=ZV
noncomputable def ZQF (k:Nat):ZI k:=Zv 149 Tryz.f149 (ZQG k) ZLM Ks ZgG (A:=ZQE) (h:=fun x => by show _ = Zjf k (Zvr k) x; rw [show Zvr k = ZEw k k from (ZLL k k).symm]; kernel_rfl)
abbrev ZK2:List Kd:=[.box [.own (.int .u8) false,.view (.int .i64)],.view (.int .i64),.view (.int .i64)]
def Zpy (k:Nat):(List Int × Int × Unit) × Int × Int × Unit → Option (Int × (List Int × Int × Unit) × Unit)
 | ((a0,a1,()),a2,a3,()) => (ZyA k (a3,())).bind fun y => bif y.1 then some (1,(a0,a1,()),()) else bif decide (a2 < 0) then some (12,(a0,a1,()),()) else bif decide (0 ≤ a3) then bif a2.fdiv ((2:Int) ^ min a3.toNat 64) != (0:Int) then some (12,(a0,a1,()),()) else (ZgG k ((a0,a1,()),UO.wrap a2,a3,())).bind fun y => some (0,(y.2.1.1,y.2.1.2.1,()),()) else none
def ZO (k:Nat):=Zpy k
noncomputable def Zpx (k:Nat):ZI k:=Zv 94 Tryz.f94 [ZLK k,ZQF k] ZK2 ZB ZO
def ZpL (k:Nat):Int × Unit → Option (Int × Unit)
 | (a0,()) => bif a0 == 1 then some (7,()) else some (Jx.wrap (Jx.wrap ((5:Int) * a0) + 1),())
def ZEx (k:Nat):=ZpL k
noncomputable def ZQH (k:Nat):ZI k:=Zv 150 Tryz.f150 [] QG ZB ZEx
abbrev ZBX:Kd:=.tup [.view (.sl (.int .u8)),.view (.int .i64)]
noncomputable def ZK5 (k:Nat):List (ZI k):=[ZQH k]
def ZK3:Nat → Ann:=fun id => bif Ja id 10 then ⟨[6,5,0,4],[]⟩ else bif Ja id 6 then ⟨[0,4],[]⟩ else ⟨[],[]⟩
abbrev Zu8:=Zlc → Option ((List Int × Int × Unit) × Unit)
abbrev ZK4:=Int × Int
abbrev Zu7:=ZK4 → Option ((List Int × Int × Unit) × Unit)
def ZSi:Zlc → St
 | (v0,v1,v2,v3) => St.mk (Zp [(6,Zf v0),(5,AV.own 8192),(0,Zf v1),(4,Zf v2)]) (Zo [(8192,RS.live (Res.arr (Ty.int UQ) v3 false))])
def ZeL (k:Nat) (L2:Zu8):Zu8
 | (v0,v1,v2,v3) => bif decide ((0:Int) < v0) then bif decide (0 ≤ v0 ∧ v0 < UJ v3.length) then bif decide (v0.toNat < v3.length) then L2 (Jx.wrap (v0 - 1),v1.fdiv (64:Int),v2,v3.set v0.toNat (UQ.wrap (UJ (UN 8 (128:Int) ||| UN 8 (UQ.wrap (Jx.wrap (UJ (UN 64 v1 &&& UN 64 (63:Int)).toNat)))).toNat))) else none else none else bif decide (0 ≤ v2) then bif decide ((0:Int) ≤ 0 ∧ (0:Int) < UJ v3.length) then bif decide ((0:Nat) < v3.length) then some ((v3.set (0:Nat) (UQ.wrap (UJ (UN 8 (UQ.wrap (UT (65280:Int) ((2:Int) ^ min v2.toNat 64))) ||| UN 8 (UQ.wrap v1)).toNat)),0,()),()) else none else none else none
def Zpz (k:Nat):Zu8:=Zh (fun L2 => ZeL k L2) k
noncomputable def ZEj (k:Nat) (n:Nat):=Wb (ZK5 k) Tryz.f95 QG ZBX [1,1,1,1,1,1,0,1,0] [] n ZSi (A:=ZK3)
def ZSh:ZK4 → St
 | (v0,v1) => St.mk (Zp [(0,Zf v0),(4,Zf v1)]) (Zo [])
def ZeK (k:Nat) (L2:Zu8) (L1:Zu7):Zu7
 | (v0,v1) => (ZEx k (v1,())).bind fun y => bif decide ((0:Int) ≤ y.1) then bif decide ((0:Int) < v0.fdiv ((2:Int) ^ min (UV y.1) (64:Nat))) then L1 (v0,Jx.wrap (v1 + 1)) else bif decide (0 ≤ v1 ∧ v1 ≤ v1 ∧ v1 < 4294967296) then L2 (Jx.wrap (v1 - 1),v0,v1,Jd v1.toNat (0:Int)) else none else none
def Zu9 (k:Nat):Zu7:=Zh (fun L1 => ZeK k (Zpz k) L1) k
noncomputable def ZEi (k:Nat) (n:Nat):=Wb (ZK5 k) Tryz.f95 QG ZBX [1,1,1,1,0,0] [] n ZSh (A:=ZK3)
def Zi6 (k:Nat) (L1:Zu7):Int × Unit → Option ((List Int × Int × Unit) × Unit)
 | (a0,()) => bif decide (a0 < 0) then some (([],12,()),()) else bif decide ((68719476735:Int) < a0) then some (([],12,()),()) else bif decide (a0 < 128) then some (([UQ.wrap a0],0,()),()) else L1 (a0,(2:Int))
def Zyl (k:Nat):=Zi6 k (Zu9 k)
theorem ZK7 (k:Nat):∀ n,ZEj k n = Zh (fun L2 => ZeL k L2) n:=ZV
theorem ZK6 (k:Nat):∀ n,ZEi k n = Zh (fun L1 => ZeK k (Zpz k) L1) n:=ZV (fun n v => by rw [show (Zpz k) = ZEj k k from (ZK7 k k).symm]; kernel_rfl)
noncomputable def ZTM (k:Nat):ZI k:=Zv 95 Tryz.f95 (ZK5 k) QG ZBX Zyl (A:=ZK3) (h:=fun x => by show _ = Zi6 k (Zu9 k) x; rw [show Zu9 k = ZEi k k from (ZK6 k k).symm]; kernel_rfl)
abbrev ZB0:List Kd:=[.view (.sl (.int .u8)),.view (.int .i64),.view (.int .u64)]
noncomputable def ZLQ (k:Nat):List (ZI k):=[]
def ZLN:Nat → Ann:=fun id => bif Ja id 7 then ⟨[24,7,1,2,13,12,11],[]⟩ else bif Ja id 3 then ⟨[12,13,11,7,1,2],[]⟩ else ⟨[],[]⟩
abbrev ZLP:=Int × Int × Int × Int × Int × Int × List Int
abbrev Zvs:=ZLP → Option (Int × Unit)
abbrev ZLO:=Int × Int × List Int × Int × Int × Int
abbrev Zld:=ZLO → Option (Int × Unit)
def ZSv:ZLP → St
 | (v0,v1,v2,v3,v4,v5,v6) => St.mk (Zp [(24,Zf v0),(7,AV.val (PV.v (Jv UO v1))),(1,Zf v2),(2,AV.val (PV.v (Jv UO v3))),(13,Zf v4),(12,Zf v5),(11,AV.val (PV.sl (Ty.int UQ) v6))]) (Zo [])
def ZeU (k:Nat) (L1:Zld) (L2:Zvs):Zvs
 | (v0,v1,v2,v3,v4,v5,v6) => bif decide (v0 < 8) then bif decide (0 ≤ Jx.wrap (v2 - 1)) then bif decide (0 ≤ v2) then L2 (Jx.wrap (v0 + 1),UO.wrap (UJ (UN 64 (UO.wrap (UJ (UN 64 (UO.wrap (v1 * (2:Int))) &&& UN 64 (UO.wrap (UO.wrap ((1:Int) * (2:Int) ^ min v2.toNat 64) - (1:Int)))).toNat)) ^^^ UN 64 (UO.wrap (UO.wrap (UJ (UN 64 (v1.fdiv ((2:Int) ^ min (Jx.wrap (v2 - 1)).toNat 64)) &&& UN 64 (1:Int)).toNat) * v3))).toNat),v2,v3,v4,v5,v6) else none else none else L1 (v5,Jx.wrap (v4 + 1),v6,v1,v2,v3)
def Zvu (k:Nat) (L1:Zld):Zvs:=Zh (fun L2 => ZeU k L1 L2) k
noncomputable def ZEy (k:Nat) (n1:Nat) (n:Nat):=Wb (ZLQ k) Tryz.f127 ZB0 ZB [1,1,0,1,0,0,1,1,0,0,1,1,1,0] [n1] n ZSv (A:=ZLN)
def ZSu:ZLO → St
 | (v0,v1,v2,v3,v4,v5) => St.mk (Zp [(12,Zf v0),(13,Zf v1),(11,AV.val (PV.sl (Ty.int UQ) v2)),(7,AV.val (PV.v (Jv UO v3))),(1,Zf v4),(2,AV.val (PV.v (Jv UO v5)))]) (Zo [])
def ZeT (k:Nat) (L2:Zvs) (L1:Zld):Zld
 | (v0,v1,v2,v3,v4,v5) => bif decide (v1 < v0) then bif decide (0 ≤ v1 ∧ v1 < UJ v2.length) then bif decide (0 ≤ Jx.wrap (v4 - 8)) then L2 (0,UO.wrap (UJ (UN 64 v3 ^^^ UN 64 (UO.wrap (UO.wrap (v2.getD v1.toNat 0) * (2:Int) ^ min (Jx.wrap (v4 - 8)).toNat 64))).toNat),v4,v5,v1,v0,v2) else none else none else some (Jx.wrap v3,())
def Zvt (k:Nat):Zld:=Zh (fun L1 => ZeT k (Zvu k L1) L1) k
noncomputable def ZnH (k:Nat) (n:Nat):=Wb (ZLQ k) Tryz.f127 ZB0 ZB [1,1,0,1,0] [] n ZSu (A:=ZLN)
def Zjg (k:Nat) (L1:Zld):List Int × Int × Int × Unit → Option (Int × Unit)
 | (a0,a1,a2,()) => L1 (UJ a0.length,(0:Int),a0,(0:Int),a1,a2)
def Zmc (k:Nat):=Zjg k (Zvt k)
theorem ZLS (k:Nat) (n1:Nat):∀ n,ZEy k n1 n = Zh (fun L2 => ZeU k (ZnH k n1) L2) n:=ZV
theorem ZLR (k:Nat):∀ n,ZnH k n = Zh (fun L1 => ZeT k (Zvu k L1) L1) n:=ZV (fun n v => by rw [show (Zvu k (ZnH k n)) = ZEy k n k from (ZLS k n k).symm]; kernel_rfl)
noncomputable def ZQI (k:Nat):ZI k:=Zv 127 Tryz.f127 (ZLQ k) ZB0 ZB Zmc (A:=ZLN) (h:=fun x => by show _ = Zjg k (Zvt k) x; rw [show Zvt k = ZnH k k from (ZLR k k).symm]; kernel_rfl)
abbrev Zhl:List Kd:=[.view (.sl (.int .u8))]
def ZpA (k:Nat):List Int × Unit → Option (Int × Unit)
 | (a0,()) => (Zmc k (a0,8,7,())).bind fun y => some (y.1,())
def ZEk (k:Nat):=ZpA k
noncomputable def ZQk (k:Nat):ZI k:=Zv 96 Tryz.f96 [ZQI k] Zhl ZB ZEk
abbrev ZB1:Kd:=.own (.int .u8) false
def Zjh (k:Nat):List Int × Unit → Option (List Int × Unit):=fun x => XL x
noncomputable def ZQJ (k:Nat):Ctx:={ P:=Tryz.prog,Φ:=phi [],k:=k,live:=fun _ => [] }
noncomputable def ZyD:Code:=ZIz Tryz.f74
theorem ZPr (k:Nat):Ctr Tryz.prog k 74 (mk Zhl ZB1 Zjh) :=
 ZrL (C:=ZQJ k) (A:=fun _ => ⟨[],[]⟩) (Zv6 ZCY) Kl (f:=74) (fn:=Tryz.f74) (o0:=Zlw (ZbG [0] ZyD) 0) (o1:=Zlw (ZbG [1,0,0] ZyD) 0) (o2:=Zlw (ZbG [1,0,0] ZyD) 1)
  (r0:=0) (r1:=1) (X:=ZbG [1,0,1,0] ZyD) (Y:=ZbG [1,1] ZyD) (T:=46) (E:=5) (U:=46) (t:=(.int .u8))
  (by kernel_rfl) (by kernel_rfl) (by kernel_rfl) (by kernel_rfl) (by kernel_rfl) (of_decide_eq_true (by kernel_rfl)) (by kernel_rfl) ⟨by kernel_rfl,by kernel_rfl,by kernel_rfl⟩ ⟨by kernel_rfl,by kernel_rfl,by kernel_rfl⟩ ⟨by kernel_rfl,by kernel_rfl,by kernel_rfl⟩ (fun xs => by kernel_rfl) (by kernel_rfl)
noncomputable def ZLT (k:Nat):ZI k:=⟨(74,mk Zhl ZB1 Zjh),ZPr k⟩
abbrev ZK9:List Kd:=[.box [.own (.int .u8) false,.view (.int .i64)]]
def ZpB (k:Nat):(List Int × Int × Unit) × Unit → Option (List Int × (List Int × Int × Unit) × Unit)
 | ((a0,a1,()),()) => (Zjh k (a0,())).bind fun y => some (y.1,(a0,a1,()),())
def ZsP (k:Nat):=ZpB k
noncomputable def ZQl (k:Nat):ZI k:=Zv 97 Tryz.f97 [ZLT k] ZK9 ZB1 ZsP (live:=fun r => bif Ja r 999998 then [74] else [])
abbrev ZLa:List Kd:=[.view ZlM,.view (.int .i64)]
abbrev Zla:Kd:=.view (.sl (.int .i64))
def ZpC (k:Nat):(Int × Int × Int × Unit) × Int × Unit → Option (List Int × Unit)
 | ((a0,a1,a2,()),a3,()) => bif decide ((0:Int) ≤ 0 ∧ (0:Int) ≤ a0 ∧ a0 ≤ UJ [a1,a1].length) then bif a3 == 8 then bif decide ((0:Nat) ≤ a0.toNat ∧ a0.toNat ≤ [a1,a1].length ∧ (0:Int) ≤ 1 ∧ (1:Nat) < a0.toNat - (0:Nat)) then bif decide ((0:Nat) ≤ a0.toNat ∧ a0.toNat ≤ [a1,a1].length ∧ (0:Int) ≤ 1 ∧ (1:Nat) < a0.toNat - (0:Nat)) then bif decide ((0:Nat) ≤ a0.toNat ∧ a0.toNat ≤ ([a1,a1].set (1:Nat) (Jx.wrap ([a1,a1].getD 1 0 + (1:Int)))).length) then some (US 0 (UR a0.toNat ([a1,a1].set (1:Nat) (Jx.wrap ([a1,a1].getD 1 0 + (1:Int))))),()) else none else none else none else bif a3 == 10 then bif decide ((0:Nat) ≤ a0.toNat ∧ a0.toNat ≤ [a1,a1].length ∧ (0:Int) ≤ 1 ∧ (1:Nat) < a0.toNat - (0:Nat)) then bif decide ((0:Nat) ≤ a0.toNat ∧ a0.toNat ≤ [a1,a1].length ∧ (0:Int) ≤ 1 ∧ (1:Nat) < a0.toNat - (0:Nat)) then bif decide ((0:Nat) ≤ a0.toNat ∧ a0.toNat ≤ ([a1,a1].set (1:Nat) (Jx.wrap ([a1,a1].getD 1 0 + (1:Int)))).length) then some (US 0 (UR a0.toNat ([a1,a1].set (1:Nat) (Jx.wrap ([a1,a1].getD 1 0 + (1:Int))))),()) else none else none else none else bif a3 == 9 then bif decide ((0:Nat) ≤ a0.toNat ∧ a0.toNat ≤ [a1,a1].length ∧ (0:Int) ≤ 0 ∧ (0:Nat) < a0.toNat - (0:Nat)) then bif decide ((0:Nat) ≤ a0.toNat ∧ a0.toNat ≤ [a1,a1].length ∧ (0:Int) ≤ 0 ∧ (0:Nat) < a0.toNat - (0:Nat)) then bif decide ((0:Nat) ≤ a0.toNat ∧ a0.toNat ≤ ([a1,a1].set (0:Nat) (Jx.wrap ([a1,a1].getD 0 0 + (1:Int)))).length) then some (US 0 (UR a0.toNat ([a1,a1].set (0:Nat) (Jx.wrap ([a1,a1].getD 0 0 + (1:Int))))),()) else none else none else none else bif decide ((0:Nat) ≤ a0.toNat ∧ a0.toNat ≤ [a1,a1].length) then some (US 0 (UR a0.toNat [a1,a1]),()) else none else none
def ZEl (k:Nat):=ZpC k
set_option maxHeartbeats 1000000 in
noncomputable def ZQm (k:Nat):ZI k:=Zv 57 Tryz.f57 [] ZLa Zla ZEl (live:=fun r => bif Ja r 999999 then [1] else [])
abbrev ZB2:List Kd:=[.view (.int .i64),.view (.int .i64)]
def ZpT (k:Nat):Int × Int × Unit → Option (Bool × Unit)
 | (a0,a1,()) => bif decide (1 ≤ a0) then bif decide (a0 ≤ 512) then bif decide (4 ≤ a1) then some (decide (a1 ≤ 25),()) else some (false,()) else some (false,()) else some (false,())
def ZEM (k:Nat):=ZpT k
noncomputable def ZQR (k:Nat):ZI k:=Zv 122 Tryz.f122 [] ZB2 QQ ZEM
def ZpW (k:Nat):Int × Int × Unit → Option (Bool × Unit)
 | (a0,a1,()) => bif decide (0 ≤ Jx.wrap (a1 - 1)) then bif a0.fdiv ((2:Int) ^ min (Jx.wrap (a1 - 1)).toNat 64) == (0:Int) then some (true,()) else bif decide (0 ≤ Jx.wrap (a1 - 1)) then some (a0.fdiv ((2:Int) ^ min (Jx.wrap (a1 - 1)).toNat 64) == (-1:Int),()) else none else none
def ZEN (k:Nat):=ZpW k
noncomputable def ZQT (k:Nat):ZI k:=Zv 125 Tryz.f125 [] ZB2 QQ ZEN
abbrev ZN7:List Kd:=[.view (.int .i64),.box [.view (.int .i64)]]
def Zko (k:Nat):Int × (Int × Unit) × Unit → Option (Bool × (Int × Unit) × Unit)
 | (a0,(a1,()),()) => (ZEN k (a0,a1,())).bind fun y => some (!y.1,(a1,()),())
def ZAz (k:Nat):=Zko k
noncomputable def ZRs (k:Nat):ZI k:=Zv 194 Tryz.f194 [ZQT k] ZN7 QQ ZAz
abbrev ZkH:List Kd:=[.view (.sl (.int .i64)),.clo 194 [.box [.view (.int .i64)]]]
noncomputable def Zxl (k:Nat):List (ZI k):=[ZRs k]
def XS:Nat → Ann:=fun id => bif Ja id 2 then ⟨[7,8,1,0],[]⟩ else ⟨[],[]⟩
abbrev Yx:=Int × Int × List Int × Int
abbrev ZfW:=Yx → Option (Int × (Int × Unit) × Unit)
def ZGC:Yx → St
 | (v0,v1,v2,v3) => St.mk (Zp [(7,Zf v0),(8,Zf v1),(1,AV.clo 194 [AV.bx 0 0]),(0,X6 v2)]) (Zo [(0,QK [Zf v3])])
def KB (k:Nat) (L1:ZfW):ZfW
 | (v0,v1,v2,v3) => bif decide (v1 < v0) then bif decide (0 ≤ v1 ∧ v1 < UJ v2.length) then (ZAz k (v2.getD v1.toNat 0,(v3,()),())).bind fun y => bif y.1 then some (v1,(y.2.1.1,()),()) else L1 (v0,Jx.wrap (v1 + 1),v2,y.2.1.1) else none else some ((-1:Int),(v3,()),())
def ZkG (k:Nat):ZfW:=Zh (fun L1 => KB k L1) k
noncomputable def ZoL (k:Nat) (n:Nat):=Wb (Zxl k) Tryz.f241 ZkH ZB [1,0,1,0] [] n ZGC (A:=XS) (a:=[AV.bx (nat_lit 0) (nat_lit 0)]) (b:=[[]]) (q:=[0])
def Zl5 (k:Nat) (L1:ZfW):List Int × ((Int × Unit) × Unit) × Unit → Option (Int × (Int × Unit) × Unit)
 | (a0,((a1,()),()),()) => L1 (UJ a0.length,(0:Int),a0,a1)
def ZoK (k:Nat):=Zl5 k (ZkG k)
theorem Zxm (k:Nat):∀ n,ZoL k n = Zh (fun L1 => KB k L1) n:=ZV
noncomputable def ZJs (k:Nat):ZI k:=Zv 241 Tryz.f241 (Zxl k) ZkH ZB ZoK (A:=XS) (h:=fun x => by show _ = Zl5 k (ZkG k) x; rw [show ZkG k = ZoL k k from (Zxm k k).symm]; kernel_rfl)
def Zej (k:Nat):List Int × ((Int × Unit) × Unit) × Unit → Option (Bool × (Int × Unit) × Unit)
 | (a0,((a1,()),()),()) => (ZoK k (a0,((a1,()),()),())).bind fun y => some (decide ((0:Int) ≤ y.1),(y.2.1.1,()),())
def ZoA (k:Nat):=Zej k
noncomputable def ZIS (k:Nat):ZI k:=Zv 193 Tryz.f193 [ZJs k] ZkH QQ ZoA
abbrev WF:List Kd:=[.view (.sl (.int .i64)),.view (.int .i64)]
def ZpN (k:Nat):List Int × Int × Unit → Option (Int × Unit)
 | (a0,a1,()) => (ZEM k (UJ a0.length,a1,())).bind fun y => bif !y.1 then some (1,()) else (ZoA k (a0,((a1,()),()),())).bind fun y => bif y.1 then some (12,()) else some (0,())
def ZEz (k:Nat):=ZpN k
noncomputable def ZTX (k:Nat):ZI k:=Zv 151 Tryz.f151 [ZQR k,ZIS k] WF ZB ZEz
abbrev ZOa:List Kd:=[.view (.int .i64),.box [.view (.int .i64),.view (.int .i64),.view (.int .i64),.view (.sl (.int .i64)),.view (.sl (.int .i64)),.view (.int .i64),.view (.sl (.int .i64)),.view (.int .i64)]]
def Zkp (k:Nat):Int × (Int × Int × Int × List Int × List Int × Int × List Int × Int × Unit) × Unit → Option (Bool × (Int × Int × Int × List Int × List Int × Int × List Int × Int × Unit) × Unit)
 | (a0,(a1,a2,a3,a4,a5,a6,a7,a8,()),()) => bif decide ((0:Int) ≤ 0 ∧ (0:Int) < UJ a4.length) then some (a0 != a4.getD 0 0,(a1,a2,a3,a4,a5,a6,a7,a8,()),()) else none
def ZAB (k:Nat):=Zkp k
noncomputable def ZRv (k:Nat):ZI k:=Zv 197 Tryz.f197 [] ZOa QQ ZAB
abbrev ZkJ:List Kd:=[.view (.sl (.int .i64)),.clo 197 [.box [.view (.int .i64),.view (.int .i64),.view (.int .i64),.view (.sl (.int .i64)),.view (.sl (.int .i64)),.view (.int .i64),.view (.sl (.int .i64)),.view (.int .i64)]]]
noncomputable def Zxn (k:Nat):List (ZI k):=[ZRv k]
abbrev Zr7:=Int × Int × List Int × Int × Int × Int × List Int × List Int × Int × List Int × Int
abbrev ZfX:=Zr7 → Option (Int × (Int × Int × Int × List Int × List Int × Int × List Int × Int × Unit) × Unit)
def ZGD:Zr7 → St
 | (v0,v1,v2,v3,v4,v5,v6,v7,v8,v9,v10) => St.mk (Zp [(7,Zf v0),(8,Zf v1),(1,AV.clo 197 [AV.bx 0 0]),(0,X6 v2)]) (Zo [(0,QK [Zf v3,Zf v4,Zf v5,X6 v6,X6 v7,Zf v8,X6 v9,Zf v10])])
def KC (k:Nat) (L1:ZfX):ZfX
 | (v0,v1,v2,v3,v4,v5,v6,v7,v8,v9,v10) => bif decide (v1 < v0) then bif decide (0 ≤ v1 ∧ v1 < UJ v2.length) then (ZAB k (v2.getD v1.toNat 0,(v3,v4,v5,v6,v7,v8,v9,v10,()),())).bind fun y => bif y.1 then some (v1,(y.2.1.1,y.2.1.2.1,y.2.1.2.2.1,y.2.1.2.2.2.1,y.2.1.2.2.2.2.1,y.2.1.2.2.2.2.2.1,y.2.1.2.2.2.2.2.2.1,y.2.1.2.2.2.2.2.2.2.1,()),()) else L1 (v0,Jx.wrap (v1 + 1),v2,y.2.1.1,y.2.1.2.1,y.2.1.2.2.1,y.2.1.2.2.2.1,y.2.1.2.2.2.2.1,y.2.1.2.2.2.2.2.1,y.2.1.2.2.2.2.2.2.1,y.2.1.2.2.2.2.2.2.2.1) else none else some ((-1:Int),(v3,v4,v5,v6,v7,v8,v9,v10,()),())
def ZkI (k:Nat):ZfX:=Zh (fun L1 => KC k L1) k
noncomputable def ZoN (k:Nat) (n:Nat):=Wb (Zxn k) Tryz.f241 ZkJ ZB [1,0,1,0] [] n ZGD (A:=XS) (a:=[AV.bx (nat_lit 0) (nat_lit 0)]) (b:=[[]]) (q:=[0])
def Zl6 (k:Nat) (L1:ZfX):List Int × ((Int × Int × Int × List Int × List Int × Int × List Int × Int × Unit) × Unit) × Unit → Option (Int × (Int × Int × Int × List Int × List Int × Int × List Int × Int × Unit) × Unit)
 | (a0,((a1,a2,a3,a4,a5,a6,a7,a8,()),()),()) => L1 (UJ a0.length,(0:Int),a0,a1,a2,a3,a4,a5,a6,a7,a8)
def ZoM (k:Nat):=Zl6 k (ZkI k)
theorem Zxo (k:Nat):∀ n,ZoN k n = Zh (fun L1 => KC k L1) n:=ZV
noncomputable def ZJt (k:Nat):ZI k:=Zv 241 Tryz.f241 (Zxn k) ZkJ ZB ZoM (A:=XS) (h:=fun x => by show _ = Zl6 k (ZkI k) x; rw [show ZkI k = ZoN k k from (Zxo k k).symm]; kernel_rfl)
def Zek (k:Nat):List Int × ((Int × Int × Int × List Int × List Int × Int × List Int × Int × Unit) × Unit) × Unit → Option (Bool × (Int × Int × Int × List Int × List Int × Int × List Int × Int × Unit) × Unit)
 | (a0,((a1,a2,a3,a4,a5,a6,a7,a8,()),()),()) => (ZoM k (a0,((a1,a2,a3,a4,a5,a6,a7,a8,()),()),())).bind fun y => some (decide ((0:Int) ≤ y.1),(y.2.1.1,y.2.1.2.1,y.2.1.2.2.1,y.2.1.2.2.2.1,y.2.1.2.2.2.2.1,y.2.1.2.2.2.2.2.1,y.2.1.2.2.2.2.2.2.1,y.2.1.2.2.2.2.2.2.2.1,()),())
def ZoB (k:Nat):=Zek k
noncomputable def ZIT (k:Nat):ZI k:=Zv 193 Tryz.f193 [ZJt k] ZkJ QQ ZoB
abbrev Zm9:List Kd:=[.view (.int .u64)]
def ZAK (k:Nat):Int × Unit → Option (Int × Unit):=fun x => tzF x
def ZUq:Go.Shelf.Ren:=⟨fun n => match n with | 29 => 242 | _ => 0,fun n => match n with | 0 => 0 | 3 => 3 | 4 => 4 | 5 => 5 | 22 => 124 | 25 => 62 | 54 => 301 | _ => 0,fun n => match n with | 1 => 4 | _ => 0⟩
set_option maxRecDepth 100000 in
theorem ZTc:Go.Proofs.Lays7.n29 Tryz.prog ZUq:=by
 constructor <;> first | kernel_rfl | (intro w; rfl)
set_option maxRecDepth 100000 in
theorem ZJx (k:Nat):Ctr Tryz.prog k 242 (mk Zm9 ZB ZAK):=ZTd ZTc (fn:=Tryz.f242) (by kernel_rfl) rfl (by kernel_rfl) (by kernel_rfl) (by kernel_rfl)
noncomputable def ZRH (k:Nat):ZI k:=⟨(242,mk Zm9 ZB ZAK),ZJx k⟩
noncomputable def ZIY (k:Nat):List (ZI k):=[ZRH k]
def ZIX:Nat → Ann:=fun id => bif Ja id 3 then ⟨[7,8,6,3],[]⟩ else ⟨[],[]⟩
abbrev ZmJ:=Yx → Option (Int × Unit)
def ZN8:Yx → St
 | (v0,v1,v2,v3) => St.mk (Zp [(7,Zf v0),(8,Zf v1),(6,X6 v2),(3,Zf v3)]) (Zo [])
def Zb7 (k:Nat) (L1:ZmJ):ZmJ
 | (v0,v1,v2,v3) => bif decide (v1 < v0) then bif decide (0 ≤ v1 ∧ v1 < UJ v2.length) then L1 (v0,Jx.wrap (v1 + 1),v2,Jx.wrap (UJ (UN 64 v3 ||| UN 64 (v2.getD v1.toNat 0)).toNat)) else none else bif v3 == 0 then some (0,()) else (ZAK k (UO.wrap v3,())).bind fun y => some (y.1,())
def ZmK (k:Nat):ZmJ:=Zh (fun L1 => Zb7 k L1) k
noncomputable def Zw5 (k:Nat) (n:Nat):=Wb (ZIY k) Tryz.f195 Zlk ZB [1,1,0,1,0] [] n ZN8 (A:=ZIX)
def ZfH (k:Nat) (L1:ZmJ):List Int × Unit → Option (Int × Unit)
 | (a0,()) => L1 (UJ a0.length,(0:Int),a0,(0:Int))
def ZAA (k:Nat):=ZfH k (ZmK k)
theorem ZFV (k:Nat):∀ n,Zw5 k n = Zh (fun L1 => Zb7 k L1) n:=ZV
noncomputable def ZRt (k:Nat):ZI k:=Zv 195 Tryz.f195 (ZIY k) Zlk ZB ZAA (A:=ZIX) (h:=fun x => by show _ = ZfH k (ZmK k) x; rw [show ZmK k = Zw5 k k from (ZFV k k).symm]; kernel_rfl)
abbrev Zbp:Kd:=.tup [.view Zhp,.view (.int .i64)]
noncomputable def Zt6 (k:Nat):List (ZI k):=[]
def Zt2:Nat → Ann:=fun id => bif Ja id 17 then ⟨[48,49,47,8,2],[.cell 8 0 ((Ty.int Jx))]⟩ else bif Ja id 9 then ⟨[29,30,28,5,20,19,2],[]⟩ else bif Ja id 5 then ⟨[19,20,4,2],[]⟩ else ⟨[],[]⟩
abbrev ZC4:=Int × Int × Int × Int × List Int × List Int × Int
abbrev ZmL:=ZC4 → Option (((List Int × Int × Unit) × Int × Unit) × Unit)
abbrev ZmN:=Int × Int × List Int × Int × List Int × Int
abbrev ZmM:=ZmN → Option (((List Int × Int × Unit) × Int × Unit) × Unit)
abbrev ZfI:=Yx → Option (((List Int × Int × Unit) × Int × Unit) × Unit)
def ZOc:ZC4 → St
 | (v0,v1,v2,v3,v4,v5,v6) => St.mk (Zp [(29,Zf v0),(30,Zf v1),(28,AV.own 8192),(5,AV.own 8193),(20,Zf v2),(19,Zf v3),(2,AV.bx 8194 0)]) (Zo [(8192,rsA v4 false),(8193,rsA v5 false),(8194,QK [AV.val (PV.v (V5 none (0:Nat) (0:Nat))),Zf v6])])
def ZrW (k:Nat) (L1:ZfI) (L2:ZmL):ZmL
 | (v0,v1,v2,v3,v4,v5,v6) => bif decide (v1 < v0) then bif decide (0 ≤ v1 ∧ v1 < UJ v4.length) then bif decide (v1.toNat < v4.length) then bif decide (0 ≤ Jx.wrap (v1 + 1) ∧ Jx.wrap (v1 + 1) < UJ v5.length) then bif decide ((Jx.wrap (v1 + 1)).toNat < v5.length) then bif decide (0 ≤ Jx.wrap (v1 + 1) ∧ Jx.wrap (v1 + 1) < UJ v5.length) then bif decide ((Jx.wrap (v1 + 1)).toNat < v5.length) then L2 (v0,Jx.wrap (v1 + 1),v2,v3,v4,v5.set (Jx.wrap (v1 + 1)).toNat (Jx.wrap (v5.getD (Jx.wrap (v1 + 1)).toNat 0 - v4.getD v1.toNat 0)),v6) else none else none else none else none else none else none else L1 (v3,Jx.wrap (v2 + 1),v5,v6)
def Zt4 (k:Nat) (L1:ZfI):ZmL:=Zh (fun L2 => ZrW k L1 L2) k
noncomputable def Zw7 (k:Nat) (n1:Nat) (n:Nat):=Wb (Zt6 k) Tryz.f171 QG Zbp [1,1,1,0,1,0,0,1,1,0,0,1,1,0,1,0] [n1] n ZOc (A:=Zt2)
def ZOd:ZmN → St
 | (v0,v1,v2,v3,v4,v5) => St.mk (Zp [(48,Zf v0),(49,Zf v1),(47,X6 v2),(8,AV.bx 8192 0),(2,AV.bx 8194 0)]) (Zo [(8192,QK [AV.own 8193,Zf v3]),(8193,rsA v4 false),(8194,QK [AV.val (PV.v (V5 none (0:Nat) (0:Nat))),Zf v5])])
def ZrX (k:Nat) (L3:ZmM):ZmM
 | (v0,v1,v2,v3,v4,v5) => bif decide (v1 < v0) then bif decide (0 ≤ v1 ∧ v1 < UJ v2.length) then bif decide (v4.length + [Jx.wrap ((0:Int) - v2.getD v1.toNat 0)].length < 2147483648) then L3 (v0,Jx.wrap (v1 + 1),v2,v3,v4 ++ [Jx.wrap ((0:Int) - v2.getD v1.toNat 0)],v5) else none else none else some (((v4,v3,()),0,()),())
def Zt5 (k:Nat):ZmM:=Zh (fun L3 => ZrX k L3) k
noncomputable def Zw8 (k:Nat) (n:Nat):=Wb (Zt6 k) Tryz.f171 QG Zbp [1,1,1,1,1,0,1,0] [] n ZOd (A:=Zt2)
def ZOb:Yx → St
 | (v0,v1,v2,v3) => St.mk (Zp [(19,Zf v0),(20,Zf v1),(4,AV.own 8192),(2,AV.bx 8193 0)]) (Zo [(8192,rsA v2 false),(8193,QK [AV.val (PV.v (V5 none (0:Nat) (0:Nat))),Zf v3])])
def ZrV (k:Nat) (L2:ZmL) (L3:ZmM) (L1:ZfI):ZfI
 | (v0,v1,v2,v3) => bif decide (v1 < v0) then bif decide ((0:Nat) + v2.length < 2147483648) then bif decide (([] ++ v2).length + (1:Nat) < (2147483648:Nat)) then L2 (UJ v2.length,(0:Int),v1,v0,v2,[] ++ v2 ++ [(0:Int)],v3) else none else none else bif decide ((0:Int) ≤ 1 ∧ (1:Int) ≤ UJ v2.length ∧ UJ v2.length ≤ UJ v2.length) then L3 (UJ (US 1 (UR (UJ v2.length).toNat v2)).length,(0:Int),US 1 (UR (UJ v2.length).toNat v2),(0:Int),[],v3) else none
def Zt3 (k:Nat):ZfI:=Zh (fun L1 => ZrV k (Zt4 k L1) (Zt5 k) L1) k
noncomputable def Zh7 (k:Nat) (n:Nat):=Wb (Zt6 k) Tryz.f171 QG Zbp [1,1,1,0,1,0] [] n ZOb (A:=Zt2)
def ZrU (k:Nat) (L1:ZfI):Int × Unit → Option (((List Int × Int × Unit) × Int × Unit) × Unit)
 | (a0,()) => bif decide (a0 < 0) then some ((([],(0:Int),()),1,()),()) else bif decide ((4:Int) < a0) then some ((([],(0:Int),()),1,()),()) else L1 (a0,(0:Int),[(1:Int)],(0:Int))
def Zkq (k:Nat):=ZrU k (Zt3 k)
theorem ZFZ (k:Nat) (n1:Nat):∀ n,Zw7 k n1 n = Zh (fun L2 => ZrW k (Zh7 k n1) L2) n:=ZV
theorem ZF0 (k:Nat):∀ n,Zw8 k n = Zh (fun L3 => ZrX k L3) n:=ZV
theorem ZFY (k:Nat):∀ n,Zh7 k n = Zh (fun L1 => ZrV k (Zt4 k L1) (Zt5 k) L1) n:=ZV (fun n v => by rw [show (Zt4 k (Zh7 k n)) = Zw7 k n k from (ZFZ k n k).symm,show (Zt5 k) = Zw8 k k from (ZF0 k k).symm]; kernel_rfl)
noncomputable def ZAC (k:Nat):ZI k:=Zv 171 Tryz.f171 (Zt6 k) QG Zbp Zkq (A:=Zt2) (h:=fun x => by show _ = ZrU k (Zt3 k) x; rw [show Zt3 k = Zh7 k k from (ZFY k k).symm]; kernel_rfl)
def ZkS (k:Nat):Int × Unit → Option (Bool × Unit)
 | (a0,()) => bif decide (a0 ≤ -2147483648) then some (true,()) else some (decide (2147483648 ≤ a0),())
def ZoU (k:Nat):=ZkS k
noncomputable def ZAN (k:Nat):ZI k:=Zv 220 Tryz.f220 [] QG QQ ZoU
abbrev ZkL:List Kd:=[.view (.sl (.int .i64)),.fn 220]
noncomputable def Zxp (k:Nat):List (ZI k):=[ZAN k]
abbrev ZfY:=Int × Int × List Int
abbrev Wq:=ZfY → Option (Int × Unit)
def ZGE:ZfY → St
 | (v0,v1,v2) => St.mk (Zp [(7,Zf v0),(8,Zf v1),(1,AV.fn 220),(0,X6 v2)]) (Zo [])
def KD (k:Nat) (L1:Wq):Wq
 | (v0,v1,v2) => bif decide (v1 < v0) then bif decide (0 ≤ v1 ∧ v1 < UJ v2.length) then (ZoU k (v2.getD v1.toNat 0,())).bind fun y => bif y.1 then some (v1,()) else L1 (v0,Jx.wrap (v1 + 1),v2) else none else some ((-1:Int),())
def ZkK (k:Nat):Wq:=Zh (fun L1 => KD k L1) k
noncomputable def ZoP (k:Nat) (n:Nat):=Wb (Zxp k) Tryz.f241 ZkL ZB [1,0,1,0] [] n ZGE (A:=XS)
def Zl7 (k:Nat) (L1:Wq):List Int × Unit × Unit → Option (Int × Unit)
 | (a0,(),()) => L1 (UJ a0.length,(0:Int),a0)
def ZoO (k:Nat):=Zl7 k (ZkK k)
theorem Zxq (k:Nat):∀ n,ZoP k n = Zh (fun L1 => KD k L1) n:=ZV
noncomputable def ZJu (k:Nat):ZI k:=Zv 241 Tryz.f241 (Zxp k) ZkL ZB ZoO (A:=XS) (h:=fun x => by show _ = Zl7 k (ZkK k) x; rw [show ZkK k = ZoP k k from (Zxq k k).symm]; kernel_rfl)
def Zel (k:Nat):List Int × Unit × Unit → Option (Bool × Unit)
 | (a0,(),()) => (ZoO k (a0,(),())).bind fun y => some (decide ((0:Int) ≤ y.1),())
def Zb6 (k:Nat):=Zel k
noncomputable def ZoC (k:Nat):ZI k:=Zv 193 Tryz.f193 [ZJu k] ZkL QQ Zb6
def Zk6 (k:Nat):Int × Unit → Option (Bool × Unit)
 | (a0,()) => bif decide (a0 < -2048) then some (true,()) else some (decide ((2047:Int) < a0),())
def ZA2 (k:Nat):=Zk6 k
noncomputable def ZR6 (k:Nat):ZI k:=Zv 257 Tryz.f257 [] QG QQ ZA2
abbrev ZkP:List Kd:=[.view (.sl (.int .i64)),.fn 257]
noncomputable def Zxt (k:Nat):List (ZI k):=[ZR6 k]
def ZGG:ZfY → St
 | (v0,v1,v2) => St.mk (Zp [(7,Zf v0),(8,Zf v1),(1,AV.fn 257),(0,X6 v2)]) (Zo [])
def KF (k:Nat) (L1:Wq):Wq
 | (v0,v1,v2) => bif decide (v1 < v0) then bif decide (0 ≤ v1 ∧ v1 < UJ v2.length) then (ZA2 k (v2.getD v1.toNat 0,())).bind fun y => bif y.1 then some (v1,()) else L1 (v0,Jx.wrap (v1 + 1),v2) else none else some ((-1:Int),())
def ZkO (k:Nat):Wq:=Zh (fun L1 => KF k L1) k
noncomputable def ZoT (k:Nat) (n:Nat):=Wb (Zxt k) Tryz.f241 ZkP ZB [1,0,1,0] [] n ZGG (A:=XS)
def Zl9 (k:Nat) (L1:Wq):List Int × Unit × Unit → Option (Int × Unit)
 | (a0,(),()) => L1 (UJ a0.length,(0:Int),a0)
def ZoS (k:Nat):=Zl9 k (ZkO k)
theorem Zxu (k:Nat):∀ n,ZoT k n = Zh (fun L1 => KF k L1) n:=ZV
noncomputable def ZJw (k:Nat):ZI k:=Zv 241 Tryz.f241 (Zxt k) ZkP ZB ZoS (A:=XS) (h:=fun x => by show _ = Zl9 k (ZkO k) x; rw [show ZkO k = ZoT k k from (Zxu k k).symm]; kernel_rfl)
def Zen (k:Nat):List Int × Unit × Unit → Option (Bool × Unit)
 | (a0,(),()) => (ZoS k (a0,(),())).bind fun y => some (decide ((0:Int) ≤ y.1),())
def ZoE (k:Nat):=Zen k
noncomputable def ZIV (k:Nat):ZI k:=Zv 193 Tryz.f193 [ZJw k] ZkP QQ ZoE
abbrev ZOG:List Kd:=[.view Zhp]
def Zk0 (k:Nat):(List Int × Int × Unit) × Unit → Option (Int × Unit)
 | ((a0,a1,()),()) => bif decide ((8:Int) < UJ a0.length) then some (2,()) else bif decide (a1 < 0) then some (2,()) else bif decide ((15:Int) < a1) then some (2,()) else (ZoE k (a0,(),())).bind fun y => bif y.1 then some (2,()) else some (0,())
def Zut (k:Nat):=Zk0 k
noncomputable def ZJU (k:Nat):ZI k:=Zv 219 Tryz.f219 [ZIV k] ZOG ZB Zut
abbrev Zf4:List Kd:=[.view Zhp,.view (.sl (.int .i64))]
noncomputable def ZJX (k:Nat):List (ZI k):=[]
def ZJV:Nat → Ann:=fun id => bif Ja id 3 then ⟨[10,11,9,5,1,2],[]⟩ else ⟨[],[]⟩
abbrev ZDx:=Int × Int × List Int × Int × List Int × List Int × Int
abbrev Znl:=ZDx → Option (Int × Unit)
def ZOH:ZDx → St
 | (v0,v1,v2,v3,v4,v5,v6) => St.mk (Zp [(10,Zf v0),(11,Zf v1),(9,X6 v2),(5,Zf v3),(1,X6 v4),(2,AV.bx 8192 0)]) (Zo [(8192,QK [X6 v5,Zf v6])])
def Zct (k:Nat) (L1:Znl):Znl
 | (v0,v1,v2,v3,v4,v5,v6) => bif decide (v1 < v0) then bif decide (0 ≤ v1 ∧ v1 < UJ v2.length) then bif decide (0 ≤ Jx.wrap (Jx.wrap (UJ v4.length - (1:Int)) - v1) ∧ Jx.wrap (Jx.wrap (UJ v4.length - (1:Int)) - v1) < UJ v4.length) then L1 (v0,Jx.wrap (v1 + 1),v2,Jx.wrap (v3 + Jx.wrap (v2.getD v1.toNat 0 * v4.getD (Jx.wrap (Jx.wrap (UJ v4.length - (1:Int)) - v1)).toNat 0)),v4,v5,v6) else none else none else bif decide (0 ≤ v6) then some (v3.fdiv ((2:Int) ^ min v6.toNat 64),()) else none
def Znm (k:Nat):Znl:=Zh (fun L1 => Zct k L1) k
noncomputable def ZxE (k:Nat) (n:Nat):=Wb (ZJX k) Tryz.f222 Zf4 ZB [1,1,0,1,0] [] n ZOH (A:=ZJV)
def Zf5 (k:Nat) (L1:Znl):(List Int × Int × Unit) × List Int × Unit → Option (Int × Unit)
 | ((a0,a1,()),a2,()) => L1 (UJ a0.length,(0:Int),a0,(0:Int),a2,a0,a1)
def Zuu (k:Nat):=Zf5 k (Znm k)
theorem ZGY (k:Nat):∀ n,ZxE k n = Zh (fun L1 => Zct k L1) n:=ZV
noncomputable def ZJW (k:Nat):ZI k:=Zv 222 Tryz.f222 (ZJX k) Zf4 ZB Zuu (A:=ZJV) (h:=fun x => by show _ = Zf5 k (Znm k) x; rw [show Znm k = ZxE k k from (ZGY k k).symm]; kernel_rfl)
abbrev YH:Kd:=.tup [.view (.sl (.int .i64)),.view (.int .i64)]
noncomputable def ZJA (k:Nat):List (ZI k):=[ZoC k,ZAN k,ZJU k,ZJW k]
def ZJy:Nat → Ann:=fun id => bif Ja id 9 then ⟨[7,1,2,6],[.slot 6 ((Ty.int Jx))]⟩ else ⟨[],[]⟩
abbrev ZDp:=Int × List Int × List Int × Int × List Int
abbrev Zna:=ZDp → Option ((List Int × Int × Unit) × Unit)
def ZOw:ZDp → St
 | (v0,v1,v2,v3,v4) => St.mk (Zp [(7,Zf v0),(1,X6 v1),(2,AV.bx 8192 0),(6,AV.own 8193)]) (Zo [(8192,QK [X6 v2,Zf v3]),(8193,rsA v4 false)])
def Zcl (k:Nat) (L1:Zna):Zna
 | (v0,v1,v2,v3,v4) => bif decide (v0 < UJ v1.length) then bif decide (0 ≤ v0 ∧ v0 < UJ v1.length) then bif decide ((0:Int) ≤ 0 ∧ (0:Int) ≤ v0 ∧ v0 ≤ UJ v1.length) then (Zuu k ((v2,v3,()),US 0 (UR v0.toNat v1),())).bind fun y => (ZoU k (Jx.wrap (v1.getD v0.toNat 0 - y.1),())).bind fun y_1 => bif y_1.1 then some (([],12,()),()) else bif decide (v4.length + [Jx.wrap (v1.getD v0.toNat 0 - y.1)].length < 2147483648) then L1 (Jx.wrap (v0 + 1),v1,v2,v3,v4 ++ [Jx.wrap (v1.getD v0.toNat 0 - y.1)]) else none else none else none else some ((v4,0,()),())
def Znb (k:Nat):Zna:=Zh (fun L1 => Zcl k L1) k
noncomputable def Zxv (k:Nat) (n:Nat):=Wb (ZJA k) Tryz.f243 Zf4 YH [1,1,1,0,1,0] [] n ZOw (A:=ZJy)
def ZfZ (k:Nat) (L1:Zna):(List Int × Int × Unit) × List Int × Unit → Option ((List Int × Int × Unit) × Unit)
 | ((a0,a1,()),a2,()) => (Zut k ((a0,a1,()),())).bind fun y => bif y.1 != 0 then some (([],2,()),()) else bif decide (UJ a2.length < UJ a0.length) then some (([],1,()),()) else (Zb6 k (a2,(),())).bind fun y => bif y.1 then some (([],12,()),()) else L1 (UJ a0.length,a2,a0,a1,[])
def Zuj (k:Nat):=ZfZ k (Znb k)
theorem ZGH (k:Nat):∀ n,Zxv k n = Zh (fun L1 => Zcl k L1) n:=ZV
noncomputable def ZJz (k:Nat):ZI k:=Zv 243 Tryz.f243 (ZJA k) Zf4 YH Zuj (A:=ZJy) (h:=fun x => by show _ = ZfZ k (Znb k) x; rw [show Znb k = Zxv k k from (ZGH k k).symm]; kernel_rfl)
def ZkW (k:Nat):Int × Unit → Option (Bool × Unit)
 | (a0,()) => bif decide (a0 ≤ -2147483648) then some (true,()) else some (decide (2147483648 ≤ a0),())
def ZAP (k:Nat):=ZkW k
noncomputable def ZRN (k:Nat):ZI k:=Zv 247 Tryz.f247 [] QG QQ ZAP
abbrev ZkN:List Kd:=[.view (.sl (.int .i64)),.fn 247]
noncomputable def Zxr (k:Nat):List (ZI k):=[ZRN k]
def ZGF:ZfY → St
 | (v0,v1,v2) => St.mk (Zp [(7,Zf v0),(8,Zf v1),(1,AV.fn 247),(0,X6 v2)]) (Zo [])
def KE (k:Nat) (L1:Wq):Wq
 | (v0,v1,v2) => bif decide (v1 < v0) then bif decide (0 ≤ v1 ∧ v1 < UJ v2.length) then (ZAP k (v2.getD v1.toNat 0,())).bind fun y => bif y.1 then some (v1,()) else L1 (v0,Jx.wrap (v1 + 1),v2) else none else some ((-1:Int),())
def ZkM (k:Nat):Wq:=Zh (fun L1 => KE k L1) k
noncomputable def ZoR (k:Nat) (n:Nat):=Wb (Zxr k) Tryz.f241 ZkN ZB [1,0,1,0] [] n ZGF (A:=XS)
def Zl8 (k:Nat) (L1:Wq):List Int × Unit × Unit → Option (Int × Unit)
 | (a0,(),()) => L1 (UJ a0.length,(0:Int),a0)
def ZoQ (k:Nat):=Zl8 k (ZkM k)
theorem Zxs (k:Nat):∀ n,ZoR k n = Zh (fun L1 => KE k L1) n:=ZV
noncomputable def ZJv (k:Nat):ZI k:=Zv 241 Tryz.f241 (Zxr k) ZkN ZB ZoQ (A:=XS) (h:=fun x => by show _ = Zl8 k (ZkM k) x; rw [show ZkM k = ZoR k k from (Zxs k k).symm]; kernel_rfl)
def Zem (k:Nat):List Int × Unit × Unit → Option (Bool × Unit)
 | (a0,(),()) => (ZoQ k (a0,(),())).bind fun y => some (decide ((0:Int) ≤ y.1),())
def ZoD (k:Nat):=Zem k
noncomputable def ZIU (k:Nat):ZI k:=Zv 193 Tryz.f193 [ZJv k] ZkN QQ ZoD
def ZkV (k:Nat):Int × Int × Unit → Option (Bool × Unit)
 | (a0,a1,()) => bif decide (1 ≤ a0) then bif decide (a0 ≤ 512) then bif decide (0 ≤ a1) then some (decide (a1 ≤ if a0 < 8 then a0 else (8:Int)),()) else some (false,()) else some (false,()) else some (false,())
def Zuo (k:Nat):=ZkV k
noncomputable def ZJP (k:Nat):ZI k:=Zv 216 Tryz.f216 [] ZB2 QQ Zuo
def Zku (k:Nat):List Int × Int × Unit → Option (Int × Unit)
 | (a0,a1,()) => bif decide (a1 < 0) then some (1,()) else bif decide ((8:Int) < a1) then some (1,()) else (Zuo k (Jx.wrap (UJ a0.length + a1),a1,())).bind fun y => bif !y.1 then some (1,()) else (ZoD k (a0,(),())).bind fun y => bif y.1 then some (12,()) else some (0,())
def Zua (k:Nat):=Zku k
noncomputable def ZI1 (k:Nat):ZI k:=Zv 201 Tryz.f201 [ZIU k,ZJP k] WF ZB Zua
abbrev ZDc:List Kd:=[.view (.sl (.int .i64)),.view (.int .i64),.view (.int .i64)]
abbrev ZDd:Kd:=.view (.sl (.sl (.int .i64)))
noncomputable def ZI5 (k:Nat):List (ZI k):=[]
def ZI3:Nat → Ann:=fun id => bif Ja id 4 then ⟨[8,2,9,7],[]⟩ else ⟨[],[]⟩
abbrev ZDb:=Int × List Int × Int × List (List Int)
abbrev ZmT:=ZDb → Option (List (List Int) × Unit)
def ZOm:ZDb → St
 | (v0,v1,v2,v3) => St.mk (Zp [(8,AV.own 8192),(2,Zf v0),(9,X6 v1),(7,Zf v2)]) (Zo [(8192,RS.live (Res.arr (Ty.int Jx).sl v3 false))])
def Zcc (k:Nat) (L1:ZmT):ZmT
 | (v0,v1,v2,v3) => bif decide (0 ≤ v0) then bif decide (UJ v3.length < Jx.wrap ((1:Int) * (2:Int) ^ min v0.toNat 64)) then bif decide ((0:Int) ≤ 0 ∧ (0:Int) ≤ v2 ∧ v2 ≤ UJ v1.length) then bif decide (v3.length + [US 0 (UR v2.toNat v1)].length < 2147483648) then bif decide (0 ≤ v2 ∧ v2 ≤ UJ v1.length ∧ UJ v1.length ≤ UJ v1.length) then L1 (v0,US v2.toNat (UR (UJ v1.length).toNat v1),v2,v3 ++ [US 0 (UR v2.toNat v1)]) else none else none else none else some (v3,()) else none
def ZmU (k:Nat):ZmT:=Zh (fun L1 => Zcc k L1) k
noncomputable def Zxb (k:Nat) (n:Nat):=Wb (ZI5 k) Tryz.f203 ZDc ZDd [1,1,1,0,1,0] [] n ZOm (A:=ZI3)
def ZfN (k:Nat) (L1:ZmT):List Int × Int × Int × Unit → Option (List (List Int) × Unit)
 | (a0,a1,a2,()) => bif decide (0 ≤ a2) then bif decide ((0:Int) ≤ 0 ∧ (0:Int) ≤ Jx.wrap ((Jx.wrap (UJ a0.length + a1)).fdiv ((2:Int) ^ min a2.toNat 64) - a1) ∧ Jx.wrap ((Jx.wrap (UJ a0.length + a1)).fdiv ((2:Int) ^ min a2.toNat 64) - a1) ≤ UJ a0.length) then bif decide (0 ≤ Jx.wrap ((Jx.wrap (UJ a0.length + a1)).fdiv ((2:Int) ^ min a2.toNat 64) - a1) ∧ Jx.wrap ((Jx.wrap (UJ a0.length + a1)).fdiv ((2:Int) ^ min a2.toNat 64) - a1) ≤ UJ a0.length ∧ UJ a0.length ≤ UJ a0.length) then L1 (a2,US (Jx.wrap ((Jx.wrap (UJ a0.length + a1)).fdiv ((2:Int) ^ min a2.toNat 64) - a1)).toNat (UR (UJ a0.length).toNat a0),(Jx.wrap (UJ a0.length + a1)).fdiv ((2:Int) ^ min a2.toNat 64),[US 0 (UR (Jx.wrap ((Jx.wrap (UJ a0.length + a1)).fdiv ((2:Int) ^ min a2.toNat 64) - a1)).toNat a0)]) else none else none else none
def Zue (k:Nat):=ZfN k (ZmU k)
theorem ZGb (k:Nat):∀ n,Zxb k n = Zh (fun L1 => Zcc k L1) n:=ZV
set_option maxHeartbeats 1000000 in
noncomputable def ZI4 (k:Nat):ZI k:=Zv 203 Tryz.f203 (ZI5 k) ZDc ZDd Zue (A:=ZI3) (h:=fun x => by show _ = ZfN k (ZmU k) x; rw [show ZmU k = Zxb k k from (ZGb k k).symm]; kernel_rfl)
def ZGe (k:Nat):Int × Unit → Option (Int × Unit)
 | (a0,()) => some (Jx.wrap ((4:Int) + a0),())
def Zep (k:Nat):=ZGe k
noncomputable def ZAF (k:Nat):ZI k:=Zv 204 Tryz.f204 [] QG ZB Zep
theorem ZTE (k:Nat):Ctr Tryz.prog k 204 (mk QG ZB Zep):=(ZAF k).2
abbrev Znf:List Kd:=[.view (.int .i64),.view (.int .i64),.view (.int .i64)]
def ZkX (k:Nat):Int × Int × Int × Unit → Option (Bool × Unit)
 | (a0,a1,a2,()) => bif decide (0 ≤ a2) then bif Jx.wrap (UJ (UN 64 a0 &&& UN 64 (Jx.wrap (Jx.wrap ((1:Int) * (2:Int) ^ min a2.toNat 64) - (1:Int)))).toNat) == 0 then bif decide (0 ≤ a2) then some (decide (a1 ≤ a0.fdiv ((2:Int) ^ min a2.toNat 64)),()) else none else some (false,()) else none
def Zeu (k:Nat):=ZkX k
noncomputable def ZAQ (k:Nat):ZI k:=Zv 217 Tryz.f217 [] Znf QQ Zeu
theorem ZTI (k:Nat):Ctr Tryz.prog k 217 (mk Znf QQ Zeu):=(ZAQ k).2
def ZGg (k:Nat):Int × Unit → Option (Int × Unit)
 | (a0,()) => (Zep k (a0,())).bind fun y => bif decide ((0:Int) ≤ y.1) then some (Jx.wrap (Jx.wrap ((1:Int) * (2:Int) ^ min (UV y.1) (64:Nat)) - (1:Int)),()) else none
def Zeq (k:Nat):=ZGg k
noncomputable def ZI6 (k:Nat):ZI k:=Zv 205 Tryz.f205 [ZAF k] QG ZB Zeq
theorem ZTF (k:Nat):Ctr Tryz.prog k 205 (mk QG ZB Zeq):=(ZI6 k).2
def Zkx (k:Nat):Int × Unit → Option ((Int × Int × Unit) × Unit)
 | (a0,()) => bif decide (a0 < -1099511627776) then some ((0,12,()),()) else bif decide ((1099511627776:Int) < a0) then some ((0,12,()),()) else some ((Jx.wrap (UJ (UN 64 (Jx.wrap (a0 * (2:Int))) ^^^ UN 64 (a0.fdiv (9223372036854775808:Int))).toNat),0,()),())
def Zg6 (k:Nat):=Zkx k
noncomputable def ZI7 (k:Nat):ZI k:=Zv 206 Tryz.f206 [] QG W0 Zg6
theorem ZTG (k:Nat):Ctr Tryz.prog k 206 (mk QG W0 Zg6):=(ZI7 k).2
def Zux (k:Nat):Int × Unit → Option (Int × Unit):=fun x => ZMJ x
def ZSO:Go.Shelf.Ren:=⟨fun n => match n with | 129 => 270 | _ => 0,fun n => match n with | 0 => 0 | 3 => 3 | 4 => 4 | 5 => 5 | 9 => 9 | 46 => 62 | 53 => 124 | _ => 0,fun n => n⟩
set_option maxRecDepth 100000 in
theorem ZPC:Go.Proofs.Lays.n129 Tryz.prog ZSO:=by
 constructor <;> first | kernel_rfl | (intro w; rfl)
set_option maxRecDepth 100000 in
theorem ZJ9 (k:Nat):Ctr Tryz.prog k 270 (mk Zm9 ZB Zux):=ZHF ZPC (fn:=Tryz.f270) (by kernel_rfl) (by kernel_rfl) (by kernel_rfl) (by kernel_rfl)
noncomputable def ZR7 (k:Nat):ZI k:=⟨(270,mk Zm9 ZB Zux),ZJ9 k⟩
def Zk1 (k:Nat):Int × Unit → Option (Int × Unit)
 | (a0,()) => (Zux k (UO.wrap (Jx.wrap (UJ (UN 64 a0 ^^^ UN 64 (a0.fdiv (9223372036854775808:Int))).toNat)),())).bind fun y => some (Jx.wrap (y.1 + 1),())
def ZAY (k:Nat):=Zk1 k
noncomputable def ZRX (k:Nat):ZI k:=Zv 267 Tryz.f267 [ZR7 k] QG ZB ZAY
def ZbS (k:Nat):Int × Unit → Option (Int × Unit):=match k with | 0 => Zeq 0 | n + 1 => Zeq (n + 1)
theorem Zr3:ZbS = Zeq:=by funext k; cases k <;> rfl
theorem ZGf (k:Nat):Ctr Tryz.prog k 205 (mk QG ZB ZbS):=by rw [Zr3]; exact (ZI6 k).2
noncomputable def Zug (k:Nat):ZI k:=⟨(205,mk QG ZB ZbS),ZGf k⟩
def Zkw (k:Nat):Int × Unit → Option ((Int × Int × Unit) × Unit):=match k with | 0 => Zg6 0 | n + 1 => Zg6 (n + 1)
theorem Zr4:Zkw = Zg6:=by funext k; cases k <;> rfl
theorem ZGi (k:Nat):Ctr Tryz.prog k 206 (mk QG W0 Zkw):=by rw [Zr4]; exact (ZI7 k).2
noncomputable def ZDe (k:Nat):ZI k:=⟨(206,mk QG W0 Zkw),ZGi k⟩
abbrev Znj:Kd:=.tup [.view ZNf,.view .bool]
noncomputable def Zuq (k:Nat):List (ZI k):=[Zug k,ZDe k,ZRX k]
noncomputable def Zup:Nat → Ann:=fun id => bif Ja id 16 then ⟨[55,56,54,13,12,14,7,6,46,45,0,8,9,1,4],[]⟩ else bif Ja id 12 then ⟨[45,46,0,8,7,6,9,1,4],[]⟩ else bif Ja id 5 then ⟨[23,24,22,8,9,1,0,7,6,4],[]⟩ else ⟨[],[]⟩
abbrev ZDw:=Int × Int × Int × Int × Bool × Bool × Int × Int × List Int × Int × Int × List Int × Int × Int × Int × Int × Int × Int
abbrev Znh:=ZDw → Option (((Int × Int × Int × Unit) × Bool × Unit) × Unit)
abbrev ZDv:=Int × Int × List Int × Bool × Int × Int × List Int × Int × Int × Int × Int × Int × Int
abbrev Zf1:=ZDv → Option (((Int × Int × Int × Unit) × Bool × Unit) × Unit)
abbrev ZDu:=Int × Int × List Int × Int × Int × List Int × Bool × List Int × Int × Int × Int × Int × Int × Int
abbrev Zng:=ZDu → Option (((Int × Int × Int × Unit) × Bool × Unit) × Unit)
noncomputable def ZOC:ZDw → St
 | (v0,v1,v2,v3,v4,v5,v6,v7,v8,v9,v10,v11,v12,v13,v14,v15,v16,v17) => St.mk (Zp [(55,Zf v0),(56,Zf v1),(54,AV.own 8192),(13,Zf v2),(12,Zf v3),(14,avB v4),(7,avB v5),(6,AV.bx 8193 0),(46,Zf v6),(45,Zf v7),(0,X6 v8),(8,AV.own 8192),(9,Zf v9),(1,Zf v10),(4,AV.bx 8194 0)]) (Zo [(8192,rsA v11 false),(8193,QK [Zf v12,Zf v13,Zf v14]),(8194,QK [Zf v15,Zf v16,Zf v17])])
noncomputable def Zcq (k:Nat) (L2:Zf1) (L3:Znh):Znh
 | (v0,v1,v2,v3,v4,v5,v6,v7,v8,v9,v10,v11,v12,v13,v14,v15,v16,v17) => bif decide (v1 < v0) then bif decide (0 ≤ v1 ∧ v1 < UJ v11.length) then bif decide (v1.toNat < v11.length) then bif decide (0 ≤ v3) then bif v4 then L3 (v0,Jx.wrap (v1 + 1),Jx.wrap (v2 + UT (v11.getD v1.toNat 0) ((2:Int) ^ min v3.toNat 64)),v3,true,v5,v6,v7,v8,v9,v10,v11,v12,v13,v14,v15,v16,v17) else bif decide (0 ≤ v3) then L3 (v0,Jx.wrap (v1 + 1),Jx.wrap (v2 + UT (v11.getD v1.toNat 0) ((2:Int) ^ min v3.toNat 64)),v3,decide ((65536:Int) < UT (v11.getD v1.toNat 0) ((2:Int) ^ min v3.toNat 64)),v5,v6,v7,v8,v9,v10,v11,v12,v13,v14,v15,v16,v17) else none else none else none else none else bif !v4 then bif !v5 then L2 (v7,Jx.wrap (v6 + 1),v8,true,v9,v10,v11,v3,(0:Int),v2,v15,v16,v17) else bif decide (v2 < v14) then L2 (v7,Jx.wrap (v6 + 1),v8,true,v9,v10,v11,v3,(0:Int),v2,v15,v16,v17) else L2 (v7,Jx.wrap (v6 + 1),v8,v5,v9,v10,v11,v12,v13,v14,v15,v16,v17) else L2 (v7,Jx.wrap (v6 + 1),v8,v5,v9,v10,v11,v12,v13,v14,v15,v16,v17)
noncomputable def Zif (k:Nat) (L2:Zf1):Znh:=Zh (fun L3 => Zcq k L2 L3) k
noncomputable def ZxB (k:Nat) (n2:Nat) (n:Nat):=Wb (Zuq k) Tryz.f248 WF Znj [1,1,1,1,1,0,1,0,0,1,1,0,0,1,1,0,1,0] [n2] n ZOC (A:=Zup)
noncomputable def ZOB:ZDv → St
 | (v0,v1,v2,v3,v4,v5,v6,v7,v8,v9,v10,v11,v12) => St.mk (Zp [(45,Zf v0),(46,Zf v1),(0,X6 v2),(8,AV.own 8192),(7,avB v3),(6,AV.bx 8193 0),(9,Zf v4),(1,Zf v5),(4,AV.bx 8194 0)]) (Zo [(8192,rsA v6 false),(8193,QK [Zf v7,Zf v8,Zf v9]),(8194,QK [Zf v10,Zf v11,Zf v12])])
noncomputable def Zcp (k:Nat) (L3:Znh) (L2:Zf1):Zf1
 | (v0,v1,v2,v3,v4,v5,v6,v7,v8,v9,v10,v11,v12) => bif decide (v1 < v0) then L3 (UJ v6.length,(0:Int),Jx.wrap (Jx.wrap (v1 + 1) * UJ v2.length),v1,false,v3,v1,v0,v2,v4,v5,v6,v7,v8,v9,v10,v11,v12) else bif decide (v4 ≤ 31) then bif !v3 then (ZbS k (v5,())).bind fun y => some (((y.1,v4,Jx.wrap ((5:Int) + Jx.wrap (v4 * UJ v2.length)),()),true,()),()) else bif decide (Jx.wrap ((5:Int) + Jx.wrap (v4 * UJ v2.length)) < v9) then (ZbS k (v5,())).bind fun y => some (((y.1,v4,Jx.wrap ((5:Int) + Jx.wrap (v4 * UJ v2.length)),()),true,()),()) else some (((v7,v8,v9,()),v3,()),()) else some (((v7,v8,v9,()),v3,()),())
noncomputable def Zie (k:Nat):Zf1:=Zh (fun L2 => Zcp k (Zif k L2) L2) k
noncomputable def Zig (k:Nat) (n:Nat):=Wb (Zuq k) Tryz.f248 WF Znj [1,1,1,1,1,0,1,0] [] n ZOB (A:=Zup)
noncomputable def ZOA:ZDu → St
 | (v0,v1,v2,v3,v4,v5,v6,v7,v8,v9,v10,v11,v12,v13) => St.mk (Zp [(23,Zf v0),(24,Zf v1),(22,X6 v2),(8,AV.own 8192),(9,Zf v3),(1,Zf v4),(0,X6 v5),(7,avB v6),(6,AV.bx 8193 0),(4,AV.bx 8194 0)]) (Zo [(8192,rsA v7 false),(8193,QK [Zf v8,Zf v9,Zf v10]),(8194,QK [Zf v11,Zf v12,Zf v13])])
noncomputable def Zco (k:Nat) (L2:Zf1) (L1:Zng):Zng
 | (v0,v1,v2,v3,v4,v5,v6,v7,v8,v9,v10,v11,v12,v13) => bif decide (v1 < v0) then bif decide (0 ≤ v1 ∧ v1 < UJ v2.length) then (Zkw k (v2.getD v1.toNat 0,())).bind fun y => bif decide (0 ≤ v1 ∧ v1 < UJ v7.length) then bif decide (v1.toNat < v7.length) then bif v2.getD v1.toNat 0 != (0:Int) then (ZAY k (v2.getD v1.toNat 0,())).bind fun y_1 => L1 (v0,Jx.wrap (v1 + 1),v2,if v3 < y_1.1 then y_1.1 else v3,v4,v5,v6,v7.set v1.toNat y.1.1,v8,v9,v10,v11,v12,v13) else L1 (v0,Jx.wrap (v1 + 1),v2,v3,v4,v5,v6,v7.set v1.toNat y.1.1,v8,v9,v10,v11,v12,v13) else none else none else none else (ZbS k (v4,())).bind fun y => L2 (y.1,(0:Int),v5,v6,v3,v4,v7,v8,v9,v10,v11,v12,v13)
noncomputable def Zni (k:Nat):Zng:=Zh (fun L1 => Zco k (Zie k) L1) k
noncomputable def ZxA (k:Nat) (n:Nat):=Wb (Zuq k) Tryz.f248 WF Znj [1,1,1,1,0,1,0] [] n ZOA (A:=Zup)
noncomputable def Zf2 (k:Nat) (L1:Zng):List Int × Int × Unit → Option (((Int × Int × Int × Unit) × Bool × Unit) × Unit)
 | (a0,a1,()) => bif decide ((0:Int) ≤ UJ a0.length ∧ UJ a0.length ≤ UJ a0.length ∧ UJ a0.length < (4294967296:Int)) then L1 (UJ a0.length,(0:Int),a0,(0:Int),a1,a0,false,Jd (UJ a0.length).toNat (0:Int),(0:Int),(0:Int),(0:Int),(0:Int),(0:Int),(0:Int)) else none
noncomputable def ZAR (k:Nat):=Zf2 k (Zni k)
theorem ZGQ (k:Nat) (n2:Nat):∀ n,ZxB k n2 n = Zh (fun L3 => Zcq k (Zig k n2) L3) n:=ZV
theorem ZGP (k:Nat):∀ n,Zig k n = Zh (fun L2 => Zcp k (Zif k L2) L2) n:=ZV (fun n v => by rw [show (Zif k (Zig k n)) = ZxB k n k from (ZGQ k n k).symm]; kernel_rfl)
theorem ZGO (k:Nat):∀ n,ZxA k n = Zh (fun L1 => Zco k (Zie k) L1) n:=ZV (fun n v => by rw [show (Zie k) = Zig k k from (ZGP k k).symm]; kernel_rfl)
set_option maxHeartbeats 1000000 in
noncomputable def ZRO (k:Nat):ZI k:=Zv 248 Tryz.f248 (Zuq k) WF Znj ZAR (A:=Zup) (h:=fun x => by show _ = Zf2 k (Zni k) x; rw [show Zni k = ZxA k k from (ZGO k k).symm]; kernel_rfl)
def Zg5 (k:Nat):Int × Unit → Option (Int × Unit):=match k with | 0 => Zep 0 | n + 1 => Zep (n + 1)
theorem Zr2:Zg5 = Zep:=by funext k; cases k <;> rfl
theorem ZGd (k:Nat):Ctr Tryz.prog k 204 (mk QG ZB Zg5):=by rw [Zr2]; exact (ZAF k).2
noncomputable def Zuf (k:Nat):ZI k:=⟨(204,mk QG ZB Zg5),ZGd k⟩
def ZoW (k:Nat):Int × Int × Int × Unit → Option (Bool × Unit):=match k with | 0 => Zeu 0 | n + 1 => Zeu (n + 1)
theorem Zsd:ZoW = Zeu:=by funext k; cases k <;> rfl
theorem ZGN (k:Nat):Ctr Tryz.prog k 217 (mk Znf QQ ZoW):=by rw [Zsd]; exact (ZAQ k).2
noncomputable def ZOz (k:Nat):ZI k:=⟨(217,mk Znf QQ ZoW),ZGN k⟩
abbrev ZmS:Kd:=.view ZS4
noncomputable def Zud (k:Nat):List (ZI k):=[ZI4 k,Zuf k,ZOz k,ZRO k]
noncomputable def Zub:Nat → Ann:=fun id => bif Ja id 11 then ⟨[37,38,36,7,5,8,6,0,1,4,9],[.cell 8 2 (((Ty.int Jx).pair ((Ty.int Jx).pair ((Ty.int Jx).pair Ty.unit))))]⟩ else bif Ja id 7 then ⟨[7,6,0,1,5,4],[.cell 5 2 (((Ty.int Jx).pair ((Ty.int Jx).pair ((Ty.int Jx).pair Ty.unit))))]⟩ else bif Ja id 3 then ⟨[6,0,1,5,4],[.cell 5 2 (((Ty.int Jx).pair ((Ty.int Jx).pair ((Ty.int Jx).pair Ty.unit))))]⟩ else ⟨[],[]⟩
abbrev ZDa:=Int × Int × List (List Int) × Int × Int × List Int × Int × Bool × Int × Int × Int × List (Int × Int × Int × Unit) × Int × Int × Int × List (Int × Int × Int × Unit) × Int × Int × Int
abbrev ZmQ:=ZDa → Option ((Int × Int × List (Int × Int × Int × Unit) × Int × Unit) × Unit)
abbrev ZC9:=Int × Int × List Int × Int × Int × Int × Int × List (Int × Int × Int × Unit) × Int × Int × Int
abbrev ZfL:=ZC9 → Option ((Int × Int × List (Int × Int × Int × Unit) × Int × Unit) × Unit)
abbrev ZC8:=Int × List Int × Int × Int × Int × Int × List (Int × Int × Int × Unit) × Int × Int × Int
abbrev Zbr:=ZC8 → Option ((Int × Int × List (Int × Int × Int × Unit) × Int × Unit) × Unit)
noncomputable def ZOl:ZDa → St
 | (v0,v1,v2,v3,v4,v5,v6,v7,v8,v9,v10,v11,v12,v13,v14,v15,v16,v17,v18) => St.mk (Zp [(37,Zf v0),(38,Zf v1),(36,AV.val (PV.sl (Ty.int Jx).sl v2)),(7,Zf v3),(5,AV.bx 8192 0),(8,AV.bx 8194 0),(6,Zf v4),(0,X6 v5),(1,Zf v6),(4,AV.bx 8196 0),(9,avB v7)]) (Zo [(8192,QK [Zf v8,Zf v9,AV.own 8193,Zf v10]),(8193,RS.live (Res.arr ((Ty.int Jx).pair ((Ty.int Jx).pair ((Ty.int Jx).pair Ty.unit))) v11 false)),(8194,QK [Zf v12,Zf v13,AV.own 8195,Zf v14]),(8195,RS.live (Res.arr ((Ty.int Jx).pair ((Ty.int Jx).pair ((Ty.int Jx).pair Ty.unit))) v15 false)),(8196,QK [Zf v16,Zf v17,AV.val (PV.v (V5 none (0:Nat) (0:Nat))),Zf v18])])
noncomputable def Zcb (k:Nat) (L1:Zbr) (L2:ZfL) (L3:ZmQ):ZmQ
 | (v0,v1,v2,v3,v4,v5,v6,v7,v8,v9,v10,v11,v12,v13,v14,v15,v16,v17,v18) => bif decide (v1 < v0) then bif decide (0 ≤ v1 ∧ v1 < UJ v2.length) then (ZAR k (v2.getD v1.toNat [],v3,())).bind fun y => bif !y.1.2.1 then bif y.1.2.1 then bif decide (v10 < 0) then L2 (Jx.wrap (v3 + 1),v4,v5,v6,v12,v13,v14,v15,v16,v17,v18) else bif decide (v14 < v10) then L2 (Jx.wrap (v3 + 1),v4,v5,v6,v12,v13,v14,v15,v16,v17,v18) else L2 (Jx.wrap (v3 + 1),v4,v5,v6,v8,v9,v10,v11,v16,v17,v18) else L2 (Jx.wrap (v3 + 1),v4,v5,v6,v8,v9,v10,v11,v16,v17,v18) else bif decide (v15.length + [(y.1.1.1,y.1.1.2.1,y.1.1.2.2.1,())].length < 2147483648) then (Zg5 k (v3,())).bind fun y_1 => L3 (v0,Jx.wrap (v1 + 1),v2,v3,v4,v5,v6,y.1.2.1,v8,v9,v10,v11,v12,v13,Jx.wrap (v14 + Jx.wrap (y_1.1 + y.1.1.2.2.1)),v15 ++ [(y.1.1.1,y.1.1.2.1,y.1.1.2.2.1,())],v16,v17,v18) else none else none else bif v7 then bif decide (v10 < 0) then L2 (Jx.wrap (v3 + 1),v4,v5,v6,v12,v13,v14,v15,v16,v17,v18) else bif decide (v14 < v10) then L2 (Jx.wrap (v3 + 1),v4,v5,v6,v12,v13,v14,v15,v16,v17,v18) else L2 (Jx.wrap (v3 + 1),v4,v5,v6,v8,v9,v10,v11,v16,v17,v18) else L2 (Jx.wrap (v3 + 1),v4,v5,v6,v8,v9,v10,v11,v16,v17,v18)
noncomputable def Zc9 (k:Nat) (L1:Zbr) (L2:ZfL):ZmQ:=Zh (fun L3 => Zcb k L1 L2 L3) k
noncomputable def Zxa (k:Nat) (n1 n2:Nat) (n:Nat):=Wb (Zud k) Tryz.f202 WF ZmS [1,1,0,1,0,0,1,0,0,1,1,0,0,1,0,0,1,0,1,0] [n1,n2] n ZOl (A:=Zub)
noncomputable def ZOk:ZC9 → St
 | (v0,v1,v2,v3,v4,v5,v6,v7,v8,v9,v10) => St.mk (Zp [(7,Zf v0),(6,Zf v1),(0,X6 v2),(1,Zf v3),(5,AV.bx 8192 0),(4,AV.bx 8194 0)]) (Zo [(8192,QK [Zf v4,Zf v5,AV.own 8193,Zf v6]),(8193,RS.live (Res.arr ((Ty.int Jx).pair ((Ty.int Jx).pair ((Ty.int Jx).pair Ty.unit))) v7 false)),(8194,QK [Zf v8,Zf v9,AV.val (PV.v (V5 none (0:Nat) (0:Nat))),Zf v10])])
noncomputable def Y4 (k:Nat) (L3:ZmQ) (L1:Zbr) (L2:ZfL):ZfL
 | (v0,v1,v2,v3,v4,v5,v6,v7,v8,v9,v10) => bif decide (v0 < 2) then (Zue k (v2,v3,v1,())).bind fun y => L3 (UJ (UP y.1),(0:Int),y.1,v0,v1,v2,v3,true,v4,v5,v6,v7,v0,v1,(6:Int),[],v8,v9,v10) else L1 (Jx.wrap (v1 + 1),v2,v3,v4,v5,v6,v7,v8,v9,v10)
noncomputable def Zib (k:Nat) (L1:Zbr):ZfL:=Zh (fun L2 => Y4 k (Zc9 k L1 L2) L1 L2) k
noncomputable def Zic (k:Nat) (n1:Nat) (n:Nat):=Wb (Zud k) Tryz.f202 WF ZmS [1,1,0,1,0,0,1,0,0,1,1,0] [n1] n ZOk (A:=Zub)
noncomputable def ZOj:ZC8 → St
 | (v0,v1,v2,v3,v4,v5,v6,v7,v8,v9) => St.mk (Zp [(6,Zf v0),(0,X6 v1),(1,Zf v2),(5,AV.bx 8192 0),(4,AV.bx 8194 0)]) (Zo [(8192,QK [Zf v3,Zf v4,AV.own 8193,Zf v5]),(8193,RS.live (Res.arr ((Ty.int Jx).pair ((Ty.int Jx).pair ((Ty.int Jx).pair Ty.unit))) v6 false)),(8194,QK [Zf v7,Zf v8,AV.val (PV.v (V5 none (0:Nat) (0:Nat))),Zf v9])])
noncomputable def Zca (k:Nat) (L2:ZfL) (L1:Zbr):Zbr
 | (v0,v1,v2,v3,v4,v5,v6,v7,v8,v9) => bif decide (v0 ≤ 4) then (ZoW k (Jx.wrap (UJ v1.length + v2),v2,v0,())).bind fun y => bif !y.1 then L1 (Jx.wrap (v0 + 1),v1,v2,v3,v4,v5,v6,v7,v8,v9) else L2 (0,v0,v1,v2,v3,v4,v5,v6,v7,v8,v9) else some ((v3,v4,v6,v5,()),())
noncomputable def ZmR (k:Nat):Zbr:=Zh (fun L1 => Zca k (Zib k L1) L1) k
noncomputable def Zat (k:Nat) (n:Nat):=Wb (Zud k) Tryz.f202 WF ZmS [1,1,0,1,0] [] n ZOj (A:=Zub)
noncomputable def ZfM (k:Nat) (L1:Zbr):List Int × Int × Unit → Option ((Int × Int × List (Int × Int × Int × Unit) × Int × Unit) × Unit)
 | (a0,a1,()) => L1 (0,a0,a1,(0:Int),(0:Int),(-1:Int),[],(0:Int),(0:Int),(0:Int))
noncomputable def Zuc (k:Nat):=ZfM k (ZmR k)
theorem ZGa (k:Nat) (n1 n2:Nat):∀ n,Zxa k n1 n2 n = Zh (fun L3 => Zcb k (Zat k n1) (Zic k n1 n2) L3) n:=ZV
theorem ZF9 (k:Nat) (n1:Nat):∀ n,Zic k n1 n = Zh (fun L2 => Y4 k (Zc9 k (Zat k n1) L2) (Zat k n1) L2) n:=ZV (fun n v => by rw [show (Zc9 k (Zat k n1) (Zic k n1 n)) = Zxa k n1 n k from (ZGa k n1 n k).symm]; kernel_rfl)
theorem ZF8 (k:Nat):∀ n,Zat k n = Zh (fun L1 => Zca k (Zib k L1) L1) n:=ZV (fun n v => by rw [show (Zib k (Zat k n)) = Zic k n k from (ZF9 k n k).symm]; kernel_rfl)
noncomputable def ZI2 (k:Nat):ZI k:=Zv 202 Tryz.f202 (Zud k) WF ZmS Zuc (A:=Zub) (h:=fun x => by show _ = ZfM k (ZmR k) x; rw [show ZmR k = Zat k k from (ZF8 k k).symm]; kernel_rfl)
noncomputable def ZkQ (k:Nat):List Int × Int × Unit → Option ((Int × Int × Unit) × Unit)
 | (a0,a1,()) => (Zua k (a0,a1,())).bind fun y => bif y.1 != 0 then some ((0,y.1,()),()) else (Zuc k (a0,a1,())).bind fun y => some ((y.1.2.2.2.1,0,()),())
noncomputable def ZAL (k:Nat):=ZkQ k
noncomputable def ZRI (k:Nat):ZI k:=Zv 244 Tryz.f244 [ZI1 k,ZI2 k] WF W0 ZAL
abbrev ZOe:List Kd:=[.view Zwj,.view (.int .i64),.view Zhp,.view (.int .i64)]
abbrev ZOf:Kd:=.tup [.view Zwj,.view .bool]
noncomputable def Zks (k:Nat):(Int × Int × Int × List Int × (List Int × Int × Unit) × List Int × Int × Unit) × Int × (List Int × Int × Unit) × Int × Unit → Option (((Int × Int × Int × List Int × (List Int × Int × Unit) × List Int × Int × Unit) × Bool × Unit) × Unit)
 | ((a0,a1,a2,a3,(a4,a5,()),a6,a7,()),a8,(a9,a10,()),a11,()) => (Zuj k ((a9,a10,()),a3,())).bind fun y => bif y.1.2.1 != 0 then some (((a0,a1,a2,a3,(a4,a5,()),a6,a7,()),false,()),()) else (ZAL k (y.1.1,UJ a9.length,())).bind fun y_1 => bif y_1.1.2.1 != 0 then some (((a0,a1,a2,a3,(a4,a5,()),a6,a7,()),false,()),()) else some (((a8,a1,a2,a3,(a9,a10,()),y.1.1,Jx.wrap (Jx.wrap (a11 + Jx.wrap (UJ a9.length * a2)) + y_1.1.1),()),true,()),())
noncomputable def ZoF (k:Nat):=Zks k
set_option maxHeartbeats 1000000 in
noncomputable def ZRw (k:Nat):ZI k:=Zv 198 Tryz.f198 [ZJz k,ZRI k] ZOe ZOf ZoF
abbrev ZDs:Kd:=.view Zhp
noncomputable def ZJK (k:Nat):List (ZI k):=[ZAC k]
def ZJJ:Nat → Ann:=fun id => bif Ja id 4 then ⟨[19,20,18,3,2],[]⟩ else ⟨[],[]⟩
abbrev Znc:=ZmN → Option ((List Int × Int × Unit) × Unit)
def ZOx:ZmN → St
 | (v0,v1,v2,v3,v4,v5) => St.mk (Zp [(19,Zf v0),(20,Zf v1),(18,X6 v2),(3,AV.bx 8192 0),(2,AV.bx 8194 0)]) (Zo [(8192,QK [AV.own 8193,Zf v3]),(8193,rsA v4 false),(8194,QK [AV.val (PV.v (V5 none (0:Nat) (0:Nat))),Zf v5])])
def Zsa (k:Nat) (L1:Znc):Znc
 | (v0,v1,v2,v3,v4,v5) => bif decide (v1 < v0) then bif decide (0 ≤ v1 ∧ v1 < UJ v2.length) then bif decide (0 ≤ v1 ∧ v1 < UJ v4.length) then bif decide (v1.toNat < v4.length) then L1 (v0,Jx.wrap (v1 + 1),v2,v3,v4.set v1.toNat (Jx.wrap (v2.getD v1.toNat 0 * (16:Int))),v5) else none else none else none else some ((v4,v3,()),())
def Zum (k:Nat):Znc:=Zh (fun L1 => Zsa k L1) k
noncomputable def Zxy (k:Nat) (n:Nat):=Wb (ZJK k) Tryz.f245 QG ZDs [1,1,1,0,1,0] [] n ZOx (A:=ZJJ)
def Zr9 (k:Nat) (L1:Znc):Int × Unit → Option ((List Int × Int × Unit) × Unit)
 | (a0,()) => bif decide (0 ≤ a0 ∧ a0 ≤ a0 ∧ a0 < 4294967296) then (Zkq k (if (4:Int) < a0 then (4:Int) else a0,())).bind fun y => L1 (UJ (UP y.1.1.1),(0:Int),y.1.1.1,(4:Int),Jd a0.toNat (0:Int),(0:Int)) else none
def ZAO (k:Nat):=Zr9 k (Zum k)
theorem ZGJ (k:Nat):∀ n,Zxy k n = Zh (fun L1 => Zsa k L1) n:=ZV
noncomputable def ZRL (k:Nat):ZI k:=Zv 245 Tryz.f245 (ZJK k) QG ZDs ZAO (A:=ZJJ) (h:=fun x => by show _ = Zr9 k (Zum k) x; rw [show Zum k = Zxy k k from (ZGJ k k).symm]; kernel_rfl)
noncomputable def ZJM (k:Nat):List (ZI k):=[ZJz k]
def ZJL:Nat → Ann:=fun id => bif Ja id 4 then ⟨[18,19,17,8,7],[]⟩ else ⟨[],[]⟩
abbrev Znd:=Zlj → Option ((Int × Int × Unit) × Unit)
def ZOy:Zlj → St
 | (v0,v1,v2,v3,v4) => St.mk (Zp [(18,Zf v0),(19,Zf v1),(17,X6 v2),(8,Zf v3),(7,Zf v4)]) (Zo [])
def Zcn (k:Nat) (L1:Znd):Znd
 | (v0,v1,v2,v3,v4) => bif decide (v1 < v0) then bif decide (0 ≤ v1 ∧ v1 < UJ v2.length) then L1 (v0,Jx.wrap (v1 + 1),v2,Jx.wrap (v3 + if v2.getD v1.toNat 0 < Jx.wrap ((0:Int) - v2.getD v1.toNat 0) then Jx.wrap ((0:Int) - v2.getD v1.toNat 0) else v2.getD v1.toNat 0),v4) else none else some ((v3,v4,()),())
def Zne (k:Nat):Znd:=Zh (fun L1 => Zcn k L1) k
noncomputable def Zxz (k:Nat) (n:Nat):=Wb (ZJM k) Tryz.f246 Zf4 W0 [1,1,1,0,1,0] [] n ZOy (A:=ZJL)
def Zf0 (k:Nat) (L1:Znd):(List Int × Int × Unit) × List Int × Unit → Option ((Int × Int × Unit) × Unit)
 | ((a0,a1,()),a2,()) => (Zuj k ((a0,a1,()),a2,())).bind fun y => L1 (UJ (UP y.1.1),(0:Int),y.1.1,(0:Int),y.1.2.1)
def Zun (k:Nat):=Zf0 k (Zne k)
theorem ZGL (k:Nat):∀ n,Zxz k n = Zh (fun L1 => Zcn k L1) n:=ZV
noncomputable def ZRM (k:Nat):ZI k:=Zv 246 Tryz.f246 (ZJM k) Zf4 W0 Zun (A:=ZJL) (h:=fun x => by show _ = Zf0 k (Zne k) x; rw [show Zne k = Zxz k k from (ZGL k k).symm]; kernel_rfl)
abbrev ZDt:Kd:=.own (.int .i64) false
def ZkU (k:Nat):List Int × Unit → Option (List Int × Unit):=fun x => XL x
noncomputable def ZoV:Code:=ZIz Tryz.f221
theorem ZJO (k:Nat):Ctr Tryz.prog k 221 (mk Zlk ZDt ZkU) :=
 ZrL (C:=ZQJ k) (A:=fun _ => ⟨[],[]⟩) (Zv6 ZCY) Kl (f:=221) (fn:=Tryz.f221) (o0:=Zlw (ZbG [0] ZoV) 0) (o1:=Zlw (ZbG [1,0,0] ZoV) 0) (o2:=Zlw (ZbG [1,0,0] ZoV) 1)
  (r0:=0) (r1:=1) (X:=ZbG [1,0,1,0] ZoV) (Y:=ZbG [1,1] ZoV) (T:=61) (E:=3) (U:=61) (t:=(.int .i64))
  (by kernel_rfl) (by kernel_rfl) (by kernel_rfl) (by kernel_rfl) (by kernel_rfl) (of_decide_eq_true (by kernel_rfl)) (by kernel_rfl) ⟨by kernel_rfl,by kernel_rfl,by kernel_rfl⟩ ⟨by kernel_rfl,by kernel_rfl,by kernel_rfl⟩ ⟨by kernel_rfl,by kernel_rfl,by kernel_rfl⟩ (fun xs => by kernel_rfl) (by kernel_rfl)
noncomputable def ZJN (k:Nat):ZI k:=⟨(221,mk Zlk ZDt ZkU),ZJO k⟩
noncomputable def Zt8 (k:Nat):List (ZI k):=[ZoC k,ZRL k,ZRM k,ZJN k]
def Zt7:Nat → Ann:=fun id => bif Ja id 15 then ⟨[57,56,6,11,0,9,7,50,49,10,1,4],[.seen 6 0]⟩ else bif Ja id 12 then ⟨[49,50,10,6,0,9,7,1,4],[]⟩ else bif Ja id 9 then ⟨[10,1,6,0,9,7,4],[]⟩ else ⟨[],[]⟩
abbrev ZC7:=Int × Int × Int × Int × List Int × Bool × Int × Int × Int × Int × Int × List Int × Int × Int
abbrev ZmO:=ZC7 → Option (((List Int × Int × Unit) × Int × Unit) × Unit)
abbrev ZC6:=Int × Int × Int × List Int × Bool × Int × Int × List Int × Int × Int
abbrev ZfJ:=ZC6 → Option (((List Int × Int × Unit) × Int × Unit) × Unit)
abbrev ZC5:=Int × Int × List Int × Bool × Int × List Int × Int × Int
abbrev Zbq:=ZC5 → Option (((List Int × Int × Unit) × Int × Unit) × Unit)
def ZOi:ZC7 → St
 | (v0,v1,v2,v3,v4,v5,v6,v7,v8,v9,v10,v11,v12,v13) => St.mk (Zp [(57,Zf v0),(56,AV.agg [Zf v1,Zf v2]),(6,AV.bx 8192 0),(11,Zf v3),(0,X6 v4),(9,avB v5),(7,Zf v6),(50,Zf v7),(49,Zf v8),(10,Zf v9),(1,Zf v10),(4,AV.bx 8193 0)]) (Zo [(8192,QK [X6 v11,Zf v12]),(8193,QK [AV.val (PV.v (V5 none (0:Nat) (0:Nat))),Zf v13])])
def Zag (k:Nat) (L1:Zbq) (L2:ZfJ) (L3:ZmO):ZmO
 | (v0,v1,v2,v3,v4,v5,v6,v7,v8,v9,v10,v11,v12,v13) => bif decide (v0 < 2) then bif decide (0 ≤ v0 ∧ v0 < 2) then (ZkU k (v11,())).bind fun y => bif decide (0 ≤ v3 ∧ v3 < UJ (UP y.1)) then bif decide (v3.toNat < UP y.1) then bif decide (0 ≤ v3 ∧ v3 < UJ (UP y.1)) then bif decide (v3.toNat < UP y.1) then (Zun k ((List.set y.1 v3.toNat (Jx.wrap (UW y.1 v3.toNat 0 + [v1,v2].getD v0.toNat (0:Int))),v12,()),v4,())).bind fun y_1 => bif y_1.1.2.1 == 0 then bif !v5 then L3 (Jx.wrap (v0 + 1),v1,v2,v3,v4,true,y_1.1.1,v7,v8,v9,v10,List.set y.1 v3.toNat (Jx.wrap (UW y.1 v3.toNat 0 + [v1,v2].getD v0.toNat (0:Int))),v12,v13) else bif decide (y_1.1.1 < v6) then L3 (Jx.wrap (v0 + 1),v1,v2,v3,v4,true,y_1.1.1,v7,v8,v9,v10,List.set y.1 v3.toNat (Jx.wrap (UW y.1 v3.toNat 0 + [v1,v2].getD v0.toNat (0:Int))),v12,v13) else L3 (Jx.wrap (v0 + 1),v1,v2,v3,v4,v5,v6,v7,v8,v9,v10,v11,v12,v13) else L3 (Jx.wrap (v0 + 1),v1,v2,v3,v4,v5,v6,v7,v8,v9,v10,v11,v12,v13) else none else none else none else none else none else L2 (v8,Jx.wrap (v7 + 1),v9,v4,v5,v6,v10,v11,v12,v13)
def Zh9 (k:Nat) (L1:Zbq) (L2:ZfJ):ZmO:=Zh (fun L3 => Zag k L1 L2 L3) k
noncomputable def Zw9 (k:Nat) (n1 n2:Nat) (n:Nat):=Wb (Zt8 k) Tryz.f199 WF Zbp [1,1,1,1,1,0,1,0,0,1,0,0,1,0,0,1,1,0,0,1,1,0] [n1,n2] n ZOi (A:=Zt7)
def ZOh:ZC6 → St
 | (v0,v1,v2,v3,v4,v5,v6,v7,v8,v9) => St.mk (Zp [(49,Zf v0),(50,Zf v1),(10,Zf v2),(6,AV.bx 8192 0),(0,X6 v3),(9,avB v4),(7,Zf v5),(1,Zf v6),(4,AV.bx 8193 0)]) (Zo [(8192,QK [X6 v7,Zf v8]),(8193,QK [AV.val (PV.v (V5 none (0:Nat) (0:Nat))),Zf v9])])
def Zb9 (k:Nat) (L3:ZmO) (L1:Zbq) (L2:ZfJ):ZfJ
 | (v0,v1,v2,v3,v4,v5,v6,v7,v8,v9) => bif decide (v1 < v0) then L3 (0,v2,Jx.wrap ((0:Int) - v2),v1,v3,v4,v5,v1,v0,v2,v6,v7,v8,v9) else L1 (Jx.wrap (v2.tdiv (2:Int)),v6,v3,v4,v5,v7,v8,v9)
def Zh8 (k:Nat) (L1:Zbq):ZfJ:=Zh (fun L2 => Zb9 k (Zh9 k L1 L2) L1 L2) k
noncomputable def Zia (k:Nat) (n1:Nat) (n:Nat):=Wb (Zt8 k) Tryz.f199 WF Zbp [1,1,1,1,1,0,1,0,0,1,0,0,1,0] [n1] n ZOh (A:=Zt7)
def ZOg:ZC5 → St
 | (v0,v1,v2,v3,v4,v5,v6,v7) => St.mk (Zp [(10,Zf v0),(1,Zf v1),(6,AV.bx 8192 0),(0,X6 v2),(9,avB v3),(7,Zf v4),(4,AV.bx 8193 0)]) (Zo [(8192,QK [X6 v5,Zf v6]),(8193,QK [AV.val (PV.v (V5 none (0:Nat) (0:Nat))),Zf v7])])
def Zb8 (k:Nat) (L2:ZfJ) (L1:Zbq):Zbq
 | (v0,v1,v2,v3,v4,v5,v6,v7) => bif decide ((0:Int) < v0) then L2 (v1,(0:Int),v0,v2,v3,v4,v1,v5,v6,v7) else some (((v5,v6,()),0,()),())
def ZmP (k:Nat):Zbq:=Zh (fun L1 => Zb8 k (Zh8 k L1) L1) k
noncomputable def Zas (k:Nat) (n:Nat):=Wb (Zt8 k) Tryz.f199 WF Zbp [1,1,1,1,1,0,1,0] [] n ZOg (A:=Zt7)
def ZfK (k:Nat) (L1:Zbq):List Int × Int × Unit → Option (((List Int × Int × Unit) × Int × Unit) × Unit)
 | (a0,a1,()) => bif decide (a1 < 0) then some ((([],(0:Int),()),1,()),()) else bif decide ((8:Int) < a1) then some ((([],(0:Int),()),1,()),()) else bif decide (UJ a0.length < a1) then some ((([],(0:Int),()),1,()),()) else (Zb6 k (a0,(),())).bind fun y => bif y.1 then some ((([],(0:Int),()),12,()),()) else (ZAO k (a1,())).bind fun y => (Zun k ((y.1.1,y.1.2.1,()),a0,())).bind fun y_1 => L1 (8,a1,a0,y_1.1.2.1 == 0,y_1.1.1,y.1.1,y.1.2.1,(0:Int))
def ZAD (k:Nat):=ZfK k (ZmP k)
theorem ZF5 (k:Nat) (n1 n2:Nat):∀ n,Zw9 k n1 n2 n = Zh (fun L3 => Zag k (Zas k n1) (Zia k n1 n2) L3) n:=ZV
theorem ZF4 (k:Nat) (n1:Nat):∀ n,Zia k n1 n = Zh (fun L2 => Zb9 k (Zh9 k (Zas k n1) L2) (Zas k n1) L2) n:=ZV (fun n v => by rw [show (Zh9 k (Zas k n1) (Zia k n1 n)) = Zw9 k n1 n k from (ZF5 k n1 n k).symm]; kernel_rfl)
theorem ZF3 (k:Nat):∀ n,Zas k n = Zh (fun L1 => Zb8 k (Zh8 k L1) L1) n:=ZV (fun n v => by rw [show (Zh8 k (Zas k n)) = Zia k n k from (ZF4 k n k).symm]; kernel_rfl)
set_option maxHeartbeats 1000000 in
noncomputable def ZRx (k:Nat):ZI k:=Zv 199 Tryz.f199 (Zt8 k) WF Zbp ZAD (A:=Zt7) (h:=fun x => by show _ = ZfK k (ZmP k) x; rw [show ZmP k = Zas k k from (ZF3 k k).symm]; kernel_rfl)
abbrev ZN9:List Kd:=[.view Zwj,.view .bool,.box [.view (.int .i64),.view (.int .i64),.view (.int .i64),.view (.sl (.int .i64)),.view (.sl (.int .i64)),.view (.int .i64),.view (.sl (.int .i64)),.view (.int .i64)]]
def ZFX (k:Nat):(Int × Int × Int × List Int × (List Int × Int × Unit) × List Int × Int × Unit) × Bool × (Int × Int × Int × List Int × List Int × Int × List Int × Int × Unit) × Unit → Option (Unit × (Int × Int × Int × List Int × List Int × Int × List Int × Int × Unit) × Unit)
 | ((a0,a1,a2,a3,(a4,a5,()),a6,a7,()),a8,(a9,a10,a11,a12,a13,a14,a15,a16,()),()) => bif a8 then bif decide (a16 < 0) then some ((),(a0,a1,a2,a3,a4,a5,a6,a7,()),()) else bif decide (a7 < a16) then some ((),(a0,a1,a2,a3,a4,a5,a6,a7,()),()) else some ((),(a9,a10,a11,a12,a13,a14,a15,a16,()),()) else some ((),(a9,a10,a11,a12,a13,a14,a15,a16,()),())
def Zeo (k:Nat):=ZFX k
set_option maxHeartbeats 1000000 in
noncomputable def ZRu (k:Nat):ZI k:=Zv 196 Tryz.f196 [] ZN9 Ks Zeo
abbrev Zvz:Kd:=.view Zwj
noncomputable def ZEF (k:Nat):List (ZI k):=[ZIT k,ZRt k,ZAC k,ZRw k,ZRx k,ZRu k]
def ZEA:Nat → Ann:=fun id => bif Ja id 21 then ⟨[82,81,11,6,10,12,9,4],[]⟩ else bif Ja id 15 then ⟨[62,63,10,6,11,12,9,4],[]⟩ else bif Ja id 4 then ⟨[28,29,27,6,5,4],[.cell 6 3 ((Ty.int Jx))]⟩ else ⟨[],[]⟩
abbrev ZLX:=Int × Int × Int × Int × Int × Int × Int × Int × List Int × List Int × Int × List Int × Int × Int × Int × Int × List Int × List Int × Int × List Int × Int × Int × Int × Int × Int × Int × List Int × Int × Int × Int × Int × Int
abbrev Zvx:=ZLX → Option ((Int × Int × Int × List Int × (List Int × Int × Unit) × List Int × Int × Unit) × Unit)
abbrev ZLW:=Int × Int × Int × Int × Int × Int × List Int × List Int × Int × List Int × Int × Int × Int × Int × List Int × List Int × Int × List Int × Int × Int × Int × Int × Int × Int × List Int × Int × Int × Int × Int × Int
abbrev Zvw:=ZLW → Option ((Int × Int × Int × List Int × (List Int × Int × Unit) × List Int × Int × Unit) × Unit)
abbrev ZLV:=Int × Int × List Int × Int × Int × Int × Int × Int × Int × List Int × Int × Int × Int × Int × Int
abbrev Zvv:=ZLV → Option ((Int × Int × Int × List Int × (List Int × Int × Unit) × List Int × Int × Unit) × Unit)
def ZSy:ZLX → St
 | (v0,v1,v2,v3,v4,v5,v6,v7,v8,v9,v10,v11,v12,v13,v14,v15,v16,v17,v18,v19,v20,v21,v22,v23,v24,v25,v26,v27,v28,v29,v30,v31) => St.mk (Zp [(82,Zf v0),(81,AV.agg [Zf v1,Zf v2,Zf v3]),(11,Zf v4),(6,AV.bx 8192 0),(10,AV.clo 196 [AV.bx 8193 0]),(12,AV.bx 8194 0),(9,AV.bx 8193 0),(4,AV.bx 8196 0)]) (Zo [(8192,QK [Zf v5,Zf v6,Zf v7,X6 v8,X6 v9,Zf v10,X6 v11,Zf v12]),(8193,QK [Zf v13,Zf v14,Zf v15,X6 v16,X6 v17,Zf v18,X6 v19,Zf v20]),(8194,QK [Zf v21,Zf v22,Zf v23,AV.own 8195,AV.val (PV.v (V5 none (0:Nat) (0:Nat))),Zf v24,AV.val (PV.v (V5 none (0:Nat) (0:Nat))),Zf v25]),(8195,rsA v26 true),(8196,QK [Zf v27,Zf v28,Zf v29,AV.val (PV.v (V5 none (0:Nat) (0:Nat))),AV.val (PV.v (V5 none (0:Nat) (0:Nat))),Zf v30,AV.val (PV.v (V5 none (0:Nat) (0:Nat))),Zf v31])])
noncomputable def ZcE (k:Nat) (L3:Zvx):Zvx
 | (v0,v1,v2,v3,v4,v5,v6,v7,v8,v9,v10,v11,v12,v13,v14,v15,v16,v17,v18,v19,v20,v21,v22,v23,v24,v25,v26,v27,v28,v29,v30,v31) => bif decide (v0 < 3) then bif decide (0 ≤ v0 ∧ v0 < 3) then bif decide ([v1,v2,v3].getD v0.toNat (0:Int) < v4) then (ZAD k (v8,[v1,v2,v3].getD v0.toNat (0:Int),())).bind fun y => (ZoF k ((v5,v6,v7,v8,(v9,v10,()),v11,v12,()),Jx.wrap ((31:Int) + [v1,v2,v3].getD v0.toNat (0:Int)),(y.1.1.1,y.1.1.2.1,()),Jx.wrap ((9:Int) + Jx.wrap ((12:Int) * [v1,v2,v3].getD v0.toNat (0:Int))),())).bind fun y => (Zeo k ((y.1.1.1,y.1.1.2.1,y.1.1.2.2.1,y.1.1.2.2.2.1,(y.1.1.2.2.2.2.1.1,y.1.1.2.2.2.2.1.2.1,()),y.1.1.2.2.2.2.2.1,y.1.1.2.2.2.2.2.2.1,()),y.1.2.1,(v13,v14,v15,v16,v17,v18,v19,v20,()),())).bind fun y => L3 (Jx.wrap (v0 + 1),v1,v2,v3,v4,v5,v6,v7,v8,v9,v10,v11,v12,y.2.1.1,y.2.1.2.1,y.2.1.2.2.1,y.2.1.2.2.2.1,y.2.1.2.2.2.2.1,y.2.1.2.2.2.2.2.1,y.2.1.2.2.2.2.2.2.1,y.2.1.2.2.2.2.2.2.2.1,v21,v22,v23,v24,v25,v26,v27,v28,v29,v30,v31) else L3 (Jx.wrap (v0 + 1),v1,v2,v3,v4,v5,v6,v7,v8,v9,v10,v11,v12,v13,v14,v15,v16,v17,v18,v19,v20,v21,v22,v23,v24,v25,v26,v27,v28,v29,v30,v31) else none else (Zeo k (((1:Int),v22,v23,v26,([],v24,()),[],Jx.wrap (v4 * v7),()),true,(v13,v14,v15,v16,v17,v18,v19,v20,()),())).bind fun y => some ((y.2.1.1,y.2.1.2.1,y.2.1.2.2.1,y.2.1.2.2.2.1,(y.2.1.2.2.2.2.1,y.2.1.2.2.2.2.2.1,()),y.2.1.2.2.2.2.2.2.1,y.2.1.2.2.2.2.2.2.2.1,()),())
noncomputable def Zlf (k:Nat):Zvx:=Zh (fun L3 => ZcE k L3) k
noncomputable def ZEE (k:Nat) (n:Nat):=Wb (ZEF k) Tryz.f152 WF Zvz [1,1,1,1,1,1,1,1,1,1,1,0,1,0] [] n ZSy (A:=ZEA)
def ZSx:ZLW → St
 | (v0,v1,v2,v3,v4,v5,v6,v7,v8,v9,v10,v11,v12,v13,v14,v15,v16,v17,v18,v19,v20,v21,v22,v23,v24,v25,v26,v27,v28,v29) => St.mk (Zp [(62,Zf v0),(63,Zf v1),(10,AV.clo 196 [AV.bx 8192 0]),(6,AV.bx 8193 0),(11,Zf v2),(12,AV.bx 8194 0),(9,AV.bx 8192 0),(4,AV.bx 8196 0)]) (Zo [(8192,QK [Zf v3,Zf v4,Zf v5,X6 v6,X6 v7,Zf v8,X6 v9,Zf v10]),(8193,QK [Zf v11,Zf v12,Zf v13,X6 v14,X6 v15,Zf v16,X6 v17,Zf v18]),(8194,QK [Zf v19,Zf v20,Zf v21,AV.own 8195,AV.val (PV.v (V5 none (0:Nat) (0:Nat))),Zf v22,AV.val (PV.v (V5 none (0:Nat) (0:Nat))),Zf v23]),(8195,rsA v24 true),(8196,QK [Zf v25,Zf v26,Zf v27,AV.val (PV.v (V5 none (0:Nat) (0:Nat))),AV.val (PV.v (V5 none (0:Nat) (0:Nat))),Zf v28,AV.val (PV.v (V5 none (0:Nat) (0:Nat))),Zf v29])])
noncomputable def ZeV (k:Nat) (L3:Zvx) (L2:Zvw):Zvw
 | (v0,v1,v2,v3,v4,v5,v6,v7,v8,v9,v10,v11,v12,v13,v14,v15,v16,v17,v18,v19,v20,v21,v22,v23,v24,v25,v26,v27,v28,v29) => bif decide (v1 < v0) then (Zkq k (v1,())).bind fun y => (ZoF k ((v11,v12,v13,v14,(v15,v16,()),v17,v18,()),Jx.wrap ((8:Int) + v1),(y.1.1.1,y.1.1.2.1,()),0,())).bind fun y => (Zeo k ((y.1.1.1,y.1.1.2.1,y.1.1.2.2.1,y.1.1.2.2.2.1,(y.1.1.2.2.2.2.1.1,y.1.1.2.2.2.2.1.2.1,()),y.1.1.2.2.2.2.2.1,y.1.1.2.2.2.2.2.2.1,()),y.1.2.1,(v3,v4,v5,v6,v7,v8,v9,v10,()),())).bind fun y => L2 (v0,Jx.wrap (v1 + 1),v2,y.2.1.1,y.2.1.2.1,y.2.1.2.2.1,y.2.1.2.2.2.1,y.2.1.2.2.2.2.1,y.2.1.2.2.2.2.2.1,y.2.1.2.2.2.2.2.2.1,y.2.1.2.2.2.2.2.2.2.1,v11,v12,v13,v14,v15,v16,v17,v18,v19,v20,v21,v22,v23,v24,v25,v26,v27,v28,v29) else L3 (0,(2:Int),(4:Int),(8:Int),v2,v11,v12,v13,v14,v15,v16,v17,v18,v3,v4,v5,v6,v7,v8,v9,v10,v19,v20,v21,v22,v23,v24,v25,v26,v27,v28,v29)
noncomputable def Zle (k:Nat):Zvw:=Zh (fun L2 => ZeV k (Zlf k) L2) k
noncomputable def ZED (k:Nat) (n:Nat):=Wb (ZEF k) Tryz.f152 WF Zvz [1,1,1,1,1,1,1,1,1,1,0,1,0] [] n ZSx (A:=ZEA)
def ZSw:ZLV → St
 | (v0,v1,v2,v3,v4,v5,v6,v7,v8,v9,v10,v11,v12,v13,v14) => St.mk (Zp [(28,Zf v0),(29,Zf v1),(27,X6 v2),(6,AV.bx 8192 0),(5,Zf v3),(4,AV.bx 8194 0)]) (Zo [(8192,QK [Zf v4,Zf v5,Zf v6,AV.own 8193,AV.val (PV.v (V5 none (0:Nat) (0:Nat))),Zf v7,AV.val (PV.v (V5 none (0:Nat) (0:Nat))),Zf v8]),(8193,rsA v9 false),(8194,QK [Zf v10,Zf v11,Zf v12,AV.val (PV.v (V5 none (0:Nat) (0:Nat))),AV.val (PV.v (V5 none (0:Nat) (0:Nat))),Zf v13,AV.val (PV.v (V5 none (0:Nat) (0:Nat))),Zf v14])])
def KL (k:Nat) (L2:Zvw) (L1:Zvv):Zvv
 | (v0,v1,v2,v3,v4,v5,v6,v7,v8,v9,v10,v11,v12,v13,v14) => bif decide (v1 < v0) then bif decide (0 ≤ v1 ∧ v1 < UJ v2.length) then bif decide (0 ≤ v3) then bif decide (v9.length + [UT (v2.getD v1.toNat 0) ((2:Int) ^ min v3.toNat 64)].length < 2147483648) then L1 (v0,Jx.wrap (v1 + 1),v2,v3,v4,v5,v6,v7,v8,v9 ++ [UT (v2.getD v1.toNat 0) ((2:Int) ^ min v3.toNat 64)],v10,v11,v12,v13,v14) else none else none else none else (ZoB k (v9,((v4,v5,v6,v9,[],v7,[],v8,()),()),())).bind fun y => (Zeo k (((0:Int),v5,v6,v9,([],v7,()),[],v6,()),!y.1,(0,0,0,[],[],0,[],(-1:Int),()),())).bind fun y_1 => L2 (Jx.wrap ((if UJ v9.length < (4:Int) then UJ v9.length else (4:Int)) + (1:Int)),(0:Int),UJ v9.length,y_1.2.1.1,y_1.2.1.2.1,y_1.2.1.2.2.1,y_1.2.1.2.2.2.1,y_1.2.1.2.2.2.2.1,y_1.2.1.2.2.2.2.2.1,y_1.2.1.2.2.2.2.2.2.1,y_1.2.1.2.2.2.2.2.2.2.1,y.2.1.1,y.2.1.2.1,y.2.1.2.2.1,y.2.1.2.2.2.1,y.2.1.2.2.2.2.1,y.2.1.2.2.2.2.2.1,y.2.1.2.2.2.2.2.2.1,y.2.1.2.2.2.2.2.2.2.1,(0:Int),v5,v6,v7,v6,v9,v10,v11,v12,v13,v14)
noncomputable def Zvy (k:Nat):Zvv:=Zh (fun L1 => KL k (Zle k) L1) k
noncomputable def ZEC (k:Nat) (n:Nat):=Wb (ZEF k) Tryz.f152 WF Zvz [1,1,1,0,1,0] [] n ZSw (A:=ZEA)
def Zji (k:Nat) (L1:Zvv):List Int × Int × Unit → Option ((Int × Int × Int × List Int × (List Int × Int × Unit) × List Int × Int × Unit) × Unit)
 | (a0,a1,()) => (ZAA k (a0,())).bind fun y => L1 (UJ a0.length,(0:Int),a0,y.1,(0:Int),y.1,Jx.wrap (a1 - y.1),(0:Int),(0:Int),[],(0:Int),(0:Int),(0:Int),(0:Int),(0:Int))
noncomputable def ZEB (k:Nat):=Zji k (Zvy k)
theorem ZL0 (k:Nat):∀ n,ZEE k n = Zh (fun L3 => ZcE k L3) n:=ZV
theorem ZLZ (k:Nat):∀ n,ZED k n = Zh (fun L2 => ZeV k (Zlf k) L2) n:=ZV (fun n v => by rw [show (Zlf k) = ZEE k k from (ZL0 k k).symm]; kernel_rfl)
theorem ZLY (k:Nat):∀ n,ZEC k n = Zh (fun L1 => KL k (Zle k) L1) n:=ZV (fun n v => by rw [show (Zle k) = ZED k k from (ZLZ k k).symm]; kernel_rfl)
noncomputable def ZTY (k:Nat):ZI k:=Zv 152 Tryz.f152 (ZEF k) WF Zvz ZEB (A:=ZEA) (h:=fun x => by show _ = Zji k (Zvy k) x; rw [show Zvy k = ZEC k k from (ZLY k k).symm]; kernel_rfl)
noncomputable def ZQM (k:Nat):List (ZI k):=[ZIR k]
def ZQK:Nat → Ann:=fun id => bif Ja id 4 then ⟨[15,16,0],[]⟩ else ⟨[],[]⟩
abbrev ZvA:=Zlc → Option (Int × (List Int × Int × Unit) × Unit)
def ZSz:Zlc → St
 | (v0,v1,v2,v3) => St.mk (Zp [(15,Zf v0),(16,Zf v1),(0,AV.bx 0 0)]) (Zo [(0,QK [AV.own 8192,Zf v2]),(8192,RS.live (Res.arr (Ty.int UQ) v3 false))])
def ZeW (k:Nat) (L1:ZvA):ZvA
 | (v0,v1,v2,v3) => bif decide (v1 < v0) then (Zoz k ((v3,v2,()),0,())).bind fun y => L1 (v0,Jx.wrap (v1 + 1),y.2.1.2.1,y.2.1.1) else (Zoz k ((v3,v2,()),1,())).bind fun y => some (0,(y.2.1.1,y.2.1.2.1,()),())
def ZvB (k:Nat):ZvA:=Zh (fun L1 => ZeW k L1) k
noncomputable def ZEG (k:Nat) (n:Nat):=Wb (ZQM k) Tryz.f153 Zt0 ZB [1,1,0,1,0] [] n ZSz (A:=ZQK) (a:=[AV.bx (nat_lit 0) (nat_lit 0)]) (b:=[[]]) (q:=[0])
def Zjj (k:Nat) (L1:ZvA):(List Int × Int × Unit) × Int × Unit → Option (Int × (List Int × Int × Unit) × Unit)
 | ((a0,a1,()),a2,()) => bif decide (a2 < 0) then some (1,(a0,a1,()),()) else bif decide ((65536:Int) < a2) then some (1,(a0,a1,()),()) else L1 (a2,(0:Int),a1,a0)
def ZsQ (k:Nat):=Zjj k (ZvB k)
theorem ZL2 (k:Nat):∀ n,ZEG k n = Zh (fun L1 => ZeW k L1) n:=ZV
noncomputable def ZQL (k:Nat):ZI k:=Zv 153 Tryz.f153 (ZQM k) Zt0 ZB ZsQ (A:=ZQK) (h:=fun x => by show _ = Zjj k (ZvB k) x; rw [show ZvB k = ZEG k k from (ZL2 k k).symm]; kernel_rfl)
def Zkt (k:Nat):(List Int × Int × Unit) × Int × Int × Unit → Option (Int × (List Int × Int × Unit) × Unit)
 | ((a0,a1,()),a2,a3,()) => (ZyA k (a3,())).bind fun y => bif y.1 then some (1,(a0,a1,()),()) else bif a3 == 0 then bif a2 != 0 then some (12,(a0,a1,()),()) else bif decide ((0:Int) < a3) then bif decide (0 ≤ Jx.wrap (a3 - 1)) then bif a2.fdiv ((2:Int) ^ min (Jx.wrap (a3 - 1)).toNat 64) != (0:Int) then bif decide (0 ≤ Jx.wrap (a3 - 1)) then bif a2.fdiv ((2:Int) ^ min (Jx.wrap (a3 - 1)).toNat 64) != (-1:Int) then some (12,(a0,a1,()),()) else (ZgG k ((a0,a1,()),UO.wrap a2,a3,())).bind fun y => some (0,(y.2.1.1,y.2.1.2.1,()),()) else none else (ZgG k ((a0,a1,()),UO.wrap a2,a3,())).bind fun y => some (0,(y.2.1.1,y.2.1.2.1,()),()) else none else (ZgG k ((a0,a1,()),UO.wrap a2,a3,())).bind fun y => some (0,(y.2.1.1,y.2.1.2.1,()),()) else bif decide ((0:Int) < a3) then bif decide (0 ≤ Jx.wrap (a3 - 1)) then bif a2.fdiv ((2:Int) ^ min (Jx.wrap (a3 - 1)).toNat 64) != (0:Int) then bif decide (0 ≤ Jx.wrap (a3 - 1)) then bif a2.fdiv ((2:Int) ^ min (Jx.wrap (a3 - 1)).toNat 64) != (-1:Int) then some (12,(a0,a1,()),()) else (ZgG k ((a0,a1,()),UO.wrap a2,a3,())).bind fun y => some (0,(y.2.1.1,y.2.1.2.1,()),()) else none else (ZgG k ((a0,a1,()),UO.wrap a2,a3,())).bind fun y => some (0,(y.2.1.1,y.2.1.2.1,()),()) else none else (ZgG k ((a0,a1,()),UO.wrap a2,a3,())).bind fun y => some (0,(y.2.1.1,y.2.1.2.1,()),())
def Zt9 (k:Nat):=Zkt k
set_option maxHeartbeats 1000000 in
noncomputable def ZI0 (k:Nat):ZI k:=Zv 200 Tryz.f200 [ZLK k,ZQF k] ZK2 ZB Zt9
abbrev Zlg:List Kd:=[.box [.own (.int .u8) false,.view (.int .i64)],.view (.sl (.int .i64)),.view (.int .i64)]
noncomputable def ZQO (k:Nat):List (ZI k):=[ZI0 k]
def ZQN:Nat → Ann:=fun id => bif Ja id 1 then ⟨[9,10,8,0,2],[]⟩ else ⟨[],[]⟩
abbrev ZpO:=Int × Int × List Int × Int × Int × List Int
abbrev ZvC:=ZpO → Option (Unit × (List Int × Int × Unit) × Unit)
def ZSA:ZpO → St
 | (v0,v1,v2,v3,v4,v5) => St.mk (Zp [(9,Zf v0),(10,Zf v1),(8,X6 v2),(0,AV.bx 0 0),(2,Zf v3)]) (Zo [(0,QK [AV.own 8192,Zf v4]),(8192,RS.live (Res.arr (Ty.int UQ) v5 false))])
def ZeX (k:Nat) (L1:ZvC):ZvC
 | (v0,v1,v2,v3,v4,v5) => bif decide (v1 < v0) then bif decide (0 ≤ v1 ∧ v1 < UJ v2.length) then (Zt9 k ((v5,v4,()),v2.getD v1.toNat 0,v3,())).bind fun y => L1 (v0,Jx.wrap (v1 + 1),v2,v3,y.2.1.2.1,y.2.1.1) else none else some ((),(v5,v4,()),())
def ZvD (k:Nat):ZvC:=Zh (fun L1 => ZeX k L1) k
noncomputable def ZEH (k:Nat) (n:Nat):=Wb (ZQO k) Tryz.f154 Zlg Ks [1,0] [] n ZSA (A:=ZQN) (a:=[AV.bx (nat_lit 0) (nat_lit 0)]) (b:=[[]]) (q:=[0])
def Zjk (k:Nat) (L1:ZvC):(List Int × Int × Unit) × List Int × Int × Unit → Option (Unit × (List Int × Int × Unit) × Unit)
 | ((a0,a1,()),a2,a3,()) => L1 (UJ a2.length,(0:Int),a2,a3,a1,a0)
def Zbv (k:Nat):=Zjk k (ZvD k)
theorem ZL3 (k:Nat):∀ n,ZEH k n = Zh (fun L1 => ZeX k L1) n:=ZV
noncomputable def ZTZ (k:Nat):ZI k:=Zv 154 Tryz.f154 (ZQO k) Zlg Ks Zbv (A:=ZQN) (h:=fun x => by show _ = Zjk k (ZvD k) x; rw [show ZvD k = ZEH k k from (ZL3 k k).symm]; kernel_rfl)
noncomputable def ZL7 (k:Nat):List (ZI k):=[Zpx k,ZQL k,ZI1 k,ZI2 k,ZI4 k,Zuf k,Zug k,ZDe k,ZI0 k]
noncomputable def ZL4:Nat → Ann:=fun id => bif Ja id 17 then ⟨[69,70,68,11,8,0,41,40,39],[]⟩ else bif Ja id 10 then ⟨[40,41,39,8,0],[]⟩ else ⟨[],[]⟩
abbrev ZL6:=Int × Int × List Int × Int × Int × List (List Int) × Int × List Int × Int × Int × Int × Int × Int × List (Int × Int × Int × Unit) × Int
abbrev ZvE:=ZL6 → Option (Int × (List Int × Int × Unit) × Unit)
abbrev ZL5:=Int × Int × List (List Int) × Int × List Int × Int × Int × List (Int × Int × Int × Unit) × Int
abbrev Zlh:=ZL5 → Option (Int × (List Int × Int × Unit) × Unit)
noncomputable def ZSC:ZL6 → St
 | (v0,v1,v2,v3,v4,v5,v6,v7,v8,v9,v10,v11,v12,v13,v14) => St.mk (Zp [(69,Zf v0),(70,Zf v1),(68,X6 v2),(11,AV.bx 8193 0),(8,AV.bx 8194 0),(0,AV.bx 0 0),(41,Zf v3),(40,Zf v4),(39,AV.val (PV.sl (Ty.int Jx).sl v5))]) (Zo [(0,QK [AV.own 8192,Zf v6]),(8192,RS.live (Res.arr (Ty.int UQ) v7 false)),(8193,QK [Zf v8,Zf v9,Zf v10]),(8194,QK [Zf v11,Zf v12,AV.val (PV.sl ((Ty.int Jx).pair ((Ty.int Jx).pair ((Ty.int Jx).pair Ty.unit))) v13),Zf v14])])
noncomputable def ZaV (k:Nat) (L1:Zlh) (L2:ZvE):ZvE
 | (v0,v1,v2,v3,v4,v5,v6,v7,v8,v9,v10,v11,v12,v13,v14) => bif decide (v1 < v0) then bif decide (0 ≤ v1 ∧ v1 < UJ v2.length) then (ZbS k (v11,())).bind fun y => bif v8 == y.1 then (Zt9 k ((v7,v6,()),v2.getD v1.toNat 0,v9,())).bind fun y => L2 (v0,Jx.wrap (v1 + 1),v2,v3,v4,v5,y.2.1.2.1,y.2.1.1,v8,v9,v10,v11,v12,v13,v14) else (Zkw k (v2.getD v1.toNat 0,())).bind fun y => bif decide (0 ≤ v8) then (ZsQ k ((v7,v6,()),UT y.1.1 ((2:Int) ^ min v8.toNat 64),())).bind fun y_1 => bif decide (0 ≤ v8) then (ZO k ((y_1.2.1.1,y_1.2.1.2.1,()),Jx.wrap (UJ (UN 64 y.1.1 &&& UN 64 (Jx.wrap (Jx.wrap ((1:Int) * (2:Int) ^ min v8.toNat 64) - (1:Int)))).toNat),v8,())).bind fun y => L2 (v0,Jx.wrap (v1 + 1),v2,v3,v4,v5,y.2.1.2.1,y.2.1.1,v8,v9,v10,v11,v12,v13,v14) else none else none else none else L1 (v4,Jx.wrap (v3 + 1),v5,v6,v7,v11,v12,v13,v14)
noncomputable def Zli (k:Nat) (L1:Zlh):ZvE:=Zh (fun L2 => ZaV k L1 L2) k
noncomputable def ZEI (k:Nat) (n1:Nat) (n:Nat):=Wb (ZL7 k) Tryz.f155 Zlg ZB [1,1,1,1,1,1,0,1,0,0,1,1,0,0,1,1,1,1,1,0] [n1] n ZSC (A:=ZL4) (a:=[AV.bx (nat_lit 0) (nat_lit 0)]) (b:=[[]]) (q:=[0])
noncomputable def ZSB:ZL5 → St
 | (v0,v1,v2,v3,v4,v5,v6,v7,v8) => St.mk (Zp [(40,Zf v0),(41,Zf v1),(39,AV.val (PV.sl (Ty.int Jx).sl v2)),(8,AV.bx 8193 0),(0,AV.bx 0 0)]) (Zo [(0,QK [AV.own 8192,Zf v3]),(8192,RS.live (Res.arr (Ty.int UQ) v4 false)),(8193,QK [Zf v5,Zf v6,AV.val (PV.sl ((Ty.int Jx).pair ((Ty.int Jx).pair ((Ty.int Jx).pair Ty.unit))) v7),Zf v8])])
noncomputable def ZeZ (k:Nat) (L2:ZvE) (L1:Zlh):Zlh
 | (v0,v1,v2,v3,v4,v5,v6,v7,v8) => bif decide (v1 < v0) then bif decide (0 ≤ v1 ∧ v1 < UJ v2.length) then bif decide (0 ≤ v1 ∧ v1 < UJ v7.length) then (Zg5 k (v5,())).bind fun y => (ZO k ((v4,v3,()),(v7.getD v1.toNat (0,0,0,())).1,y.1,())).bind fun y => (ZbS k (v5,())).bind fun y_1 => bif (v7.getD v1.toNat (0,0,0,())).1 == y_1.1 then (ZO k ((y.2.1.1,y.2.1.2.1,()),(v7.getD v1.toNat (0,0,0,())).2.1,5,())).bind fun y => L2 (UJ (UP (v2.getD v1.toNat [])),(0:Int),v2.getD v1.toNat [],v1,v0,v2,y.2.1.2.1,y.2.1.1,(v7.getD v1.toNat (0,0,0,())).1,(v7.getD v1.toNat (0,0,0,())).2.1,(v7.getD v1.toNat (0,0,0,())).2.2.1,v5,v6,v7,v8) else L2 (UJ (UP (v2.getD v1.toNat [])),(0:Int),v2.getD v1.toNat [],v1,v0,v2,y.2.1.2.1,y.2.1.1,(v7.getD v1.toNat (0,0,0,())).1,(v7.getD v1.toNat (0,0,0,())).2.1,(v7.getD v1.toNat (0,0,0,())).2.2.1,v5,v6,v7,v8) else none else none else some (0,(v4,v3,()),())
noncomputable def ZvF (k:Nat):Zlh:=Zh (fun L1 => ZeZ k (Zli k L1) L1) k
noncomputable def ZnI (k:Nat) (n:Nat):=Wb (ZL7 k) Tryz.f155 Zlg ZB [1,1,1,1,1,1,0,1,0] [] n ZSB (A:=ZL4) (a:=[AV.bx (nat_lit 0) (nat_lit 0)]) (b:=[[]]) (q:=[0])
noncomputable def Zjl (k:Nat) (L1:Zlh):(List Int × Int × Unit) × List Int × Int × Unit → Option (Int × (List Int × Int × Unit) × Unit)
 | ((a0,a1,()),a2,a3,()) => (Zua k (a2,a3,())).bind fun y => bif y.1 != 0 then some (y.1,(a0,a1,()),()) else (Zuc k (a2,a3,())).bind fun y => (ZO k ((a0,a1,()),y.1.1,2,())).bind fun y_1 => (ZO k ((y_1.2.1.1,y_1.2.1.2.1,()),y.1.2.1,4,())).bind fun y_2 => (Zue k (a2,a3,y.1.2.1,())).bind fun y_3 => L1 (UJ (UP y_3.1),(0:Int),y_3.1,y_2.2.1.2.1,y_2.2.1.1,y.1.1,y.1.2.1,y.1.2.2.1,y.1.2.2.2.1)
noncomputable def Zmd (k:Nat):=Zjl k (ZvF k)
theorem ZL9 (k:Nat) (n1:Nat):∀ n,ZEI k n1 n = Zh (fun L2 => ZaV k (ZnI k n1) L2) n:=ZV
theorem ZL8 (k:Nat):∀ n,ZnI k n = Zh (fun L1 => ZeZ k (Zli k L1) L1) n:=ZV (fun n v => by rw [show (Zli k (ZnI k n)) = ZEI k n k from (ZL9 k n k).symm]; kernel_rfl)
set_option maxHeartbeats 1000000 in
noncomputable def ZT0 (k:Nat):ZI k:=Zv 155 Tryz.f155 (ZL7 k) Zlg ZB Zmd (A:=ZL4) (h:=fun x => by show _ = Zjl k (ZvF k) x; rw [show ZvF k = ZnI k k from (ZL8 k k).symm]; kernel_rfl)
noncomputable def ZLb (k:Nat):(List Int × Int × Unit) × List Int × Int × Unit → Option (Int × (List Int × Int × Unit) × Unit)
 | ((a0,a1,()),a2,a3,()) => (ZEz k (a2,a3,())).bind fun y => bif y.1 != 0 then some (y.1,(a0,a1,()),()) else (ZEB k (a2,a3,())).bind fun y => (ZO k ((a0,a1,()),y.1.1,7,())).bind fun y_1 => bif decide ((0:Int) < y.1.2.1) then (ZO k ((y_1.2.1.1,y_1.2.1.2.1,()),1,1,())).bind fun y_2 => (ZsQ k ((y_2.2.1.1,y_2.2.1.2.1,()),Jx.wrap (y.1.2.1 - 1),())).bind fun y_3 => bif y.1.1 == 0 then bif decide ((0:Int) ≤ 0 ∧ (0:Int) ≤ 1 ∧ (1:Int) ≤ UJ (UP y.1.2.2.2.1)) then (Zbv k ((y_3.2.1.1,y_3.2.1.2.1,()),US 0 (UR 1 y.1.2.2.2.1),y.1.2.2.1,())).bind fun y => some (0,(y.2.1.1,y.2.1.2.1,()),()) else none else bif y.1.1 == 1 then (Zbv k ((y_3.2.1.1,y_3.2.1.2.1,()),y.1.2.2.2.1,y.1.2.2.1,())).bind fun y => some (0,(y.2.1.1,y.2.1.2.1,()),()) else bif decide ((0:Int) ≤ 0 ∧ (0:Int) ≤ UJ (UP y.1.2.2.2.2.1.1) ∧ UJ (UP y.1.2.2.2.2.1.1) ≤ UJ (UP y.1.2.2.2.1)) then (Zbv k ((y_3.2.1.1,y_3.2.1.2.1,()),US 0 (UR (UJ (UP y.1.2.2.2.2.1.1)).toNat y.1.2.2.2.1),y.1.2.2.1,())).bind fun y_4 => bif decide ((31:Int) < y.1.1) then (ZO k ((y_4.2.1.1,y_4.2.1.2.1,()),11,4,())).bind fun y_5 => (ZO k ((y_5.2.1.1,y_5.2.1.2.1,()),y.1.2.2.2.2.1.2.1,5,())).bind fun y_6 => (Zbv k ((y_6.2.1.1,y_6.2.1.2.1,()),y.1.2.2.2.2.1.1,12,())).bind fun y_7 => (Zmd k ((y_7.2.1.1,y_7.2.1.2.1,()),y.1.2.2.2.2.2.1,UJ (UP y.1.2.2.2.2.1.1),())).bind fun y => some (y.1,(y.2.1.1,y.2.1.2.1,()),()) else (Zmd k ((y_4.2.1.1,y_4.2.1.2.1,()),y.1.2.2.2.2.2.1,UJ (UP y.1.2.2.2.2.1.1),())).bind fun y => some (y.1,(y.2.1.1,y.2.1.2.1,()),()) else none else (ZO k ((y_1.2.1.1,y_1.2.1.2.1,()),0,1,())).bind fun y_2 => bif y.1.1 == 0 then bif decide ((0:Int) ≤ 0 ∧ (0:Int) ≤ 1 ∧ (1:Int) ≤ UJ (UP y.1.2.2.2.1)) then (Zbv k ((y_2.2.1.1,y_2.2.1.2.1,()),US 0 (UR 1 y.1.2.2.2.1),y.1.2.2.1,())).bind fun y => some (0,(y.2.1.1,y.2.1.2.1,()),()) else none else bif y.1.1 == 1 then (Zbv k ((y_2.2.1.1,y_2.2.1.2.1,()),y.1.2.2.2.1,y.1.2.2.1,())).bind fun y => some (0,(y.2.1.1,y.2.1.2.1,()),()) else bif decide ((0:Int) ≤ 0 ∧ (0:Int) ≤ UJ (UP y.1.2.2.2.2.1.1) ∧ UJ (UP y.1.2.2.2.2.1.1) ≤ UJ (UP y.1.2.2.2.1)) then (Zbv k ((y_2.2.1.1,y_2.2.1.2.1,()),US 0 (UR (UJ (UP y.1.2.2.2.2.1.1)).toNat y.1.2.2.2.1),y.1.2.2.1,())).bind fun y_3 => bif decide ((31:Int) < y.1.1) then (ZO k ((y_3.2.1.1,y_3.2.1.2.1,()),11,4,())).bind fun y_4 => (ZO k ((y_4.2.1.1,y_4.2.1.2.1,()),y.1.2.2.2.2.1.2.1,5,())).bind fun y_5 => (Zbv k ((y_5.2.1.1,y_5.2.1.2.1,()),y.1.2.2.2.2.1.1,12,())).bind fun y_6 => (Zmd k ((y_6.2.1.1,y_6.2.1.2.1,()),y.1.2.2.2.2.2.1,UJ (UP y.1.2.2.2.2.1.1),())).bind fun y => some (y.1,(y.2.1.1,y.2.1.2.1,()),()) else (Zmd k ((y_3.2.1.1,y_3.2.1.2.1,()),y.1.2.2.2.2.2.1,UJ (UP y.1.2.2.2.2.1.1),())).bind fun y => some (y.1,(y.2.1.1,y.2.1.2.1,()),()) else none
noncomputable def ZEm (k:Nat):=ZLb k
set_option maxHeartbeats 1000000 in
noncomputable def ZTN (k:Nat):ZI k:=Zv 98 Tryz.f98 [Zpx k,ZTX k,ZTY k,ZQL k,ZTZ k,ZT0 k] Zlg ZB ZEm
def ZpD (k:Nat):(List Int × Int × Unit) × Unit → Option (Int × (List Int × Int × Unit) × Unit)
 | ((a0,a1,()),()) => some (Jx.wrap (UJ (UN 64 (Jx.wrap ((0:Int) - a1)) &&& UN 64 (7:Int)).toNat),(a0,Jx.wrap (a1 + Jx.wrap (UJ (UN 64 (Jx.wrap ((0:Int) - a1)) &&& UN 64 (7:Int)).toNat)),()),())
def ZLd (k:Nat):=ZpD k
noncomputable def ZTO (k:Nat):ZI k:=Zv 99 Tryz.f99 [] ZK9 ZB ZLd
def ZpE (k:Nat):List Int × Unit → Option (Int × Unit)
 | (a0,()) => (Zmc k (a0,16,32773,())).bind fun y => some (y.1,())
def ZEn (k:Nat):=ZpE k
noncomputable def ZQn (k:Nat):ZI k:=Zv 61 Tryz.f61 [ZQI k] Zhl ZB ZEn
abbrev ZAM:Kd:=.tup [.own (.int .u8) false,.view (.int .i64)]
noncomputable def ZJF (k:Nat):List (ZI k):=[ZQi k,ZTL k,ZQj k,Zpx k,ZTM k,ZQk k,ZQl k,ZQm k,ZTN k,ZTO k,ZQn k]
def ZJB:Nat → Ann:=fun id => bif Ja id 27 then ⟨[87,88,86,12,7],[]⟩ else bif Ja id 20 then ⟨[61,62,60,12,10,11,2,8,7],[]⟩ else ⟨[],[]⟩
abbrev ZJE:=Int × Int × List Int × List (List Int) × Int × List Int
abbrev Zul:=ZJE → Option ((List Int × Int × Unit) × Unit)
abbrev ZJD:=Int × Int × List Int × Int × Int × Int × List (List Int) × Int × List Int × Int × Int × Int
abbrev Zuk:=ZJD → Option ((List Int × Int × Unit) × Unit)
def ZRK:ZJE → St
 | (v0,v1,v2,v3,v4,v5) => St.mk (Zp [(87,Zf v0),(88,Zf v1),(86,X6 v2),(12,AV.bx 8192 0),(7,AV.val (PV.sl (Ty.int Jx).sl v3))]) (Zo [(8192,QK [AV.own 8193,Zf v4]),(8193,RS.live (Res.arr (Ty.int UQ) v5 false))])
noncomputable def Zcm (k:Nat) (L2:Zul):Zul
 | (v0,v1,v2,v3,v4,v5) => bif decide (v1 < v0) then bif decide (0 ≤ v1 ∧ v1 < UJ v2.length) then bif decide (0 ≤ v1 ∧ v1 < UJ v3.length) then (ZEm k ((v5,v4,()),v3.getD v1.toNat [],v2.getD v1.toNat 0,())).bind fun y => bif y.1 != 0 then some (([],y.1,()),()) else L2 (v0,Jx.wrap (v1 + 1),v2,v3,y.2.1.2.1,y.2.1.1) else none else none else (ZLd k ((v5,v4,()),())).bind fun y => (ZsP k ((y.2.1.1,y.2.1.2.1,()),())).bind fun y => (ZEn k (y.1,())).bind fun y_1 => (ZO k ((y.2.1.1,y.2.1.2.1,()),y_1.1,16,())).bind fun y => (ZsP k ((y.2.1.1,y.2.1.2.1,()),())).bind fun y => some ((y.1,0,()),())
noncomputable def Zg8 (k:Nat):Zul:=Zh (fun L2 => Zcm k L2) k
noncomputable def ZDr (k:Nat) (n:Nat):=Wb (ZJF k) Tryz.f43 Zhk ZAM [1,1,1,1,1,1,1,1,1,1,1,1,1,1,1,1,1,0,1,0] [] n ZRK (A:=ZJB)
def ZRJ:ZJD → St
 | (v0,v1,v2,v3,v4,v5,v6,v7,v8,v9,v10,v11) => St.mk (Zp [(61,Zf v0),(62,Zf v1),(60,AV.val (PV.sl (Ty.int UQ) v2)),(12,AV.bx 8192 0),(10,Zf v3),(11,Zf v4),(2,AV.bx 8194 0),(8,Zf v5),(7,AV.val (PV.sl (Ty.int Jx).sl v6))]) (Zo [(8192,QK [AV.own 8193,Zf v7]),(8193,RS.live (Res.arr (Ty.int UQ) v8 false)),(8194,QK [Zf v9,Zf v10,Zf v11])])
def KG (k:Nat) (L2:Zul) (L1:Zuk):Zuk
 | (v0,v1,v2,v3,v4,v5,v6,v7,v8,v9,v10,v11) => bif decide (v1 < v0) then bif decide (0 ≤ v1 ∧ v1 < UJ v2.length) then (ZO k ((v8,v7,()),Jx.wrap (v2.getD v1.toNat 0),8,())).bind fun y => L1 (v0,Jx.wrap (v1 + 1),v2,v3,v4,v5,v6,y.2.1.2.1,y.2.1.1,v9,v10,v11) else none else (ZO k ((v8,v7,()),Jx.wrap (v3 - 1),Jx.wrap ((8:Int) * Jx.wrap (Jx.wrap (v4 - 6) + (1:Int))),())).bind fun y => (ZsP k ((y.2.1.1,y.2.1.2.1,()),())).bind fun y => (ZEk k (y.1,())).bind fun y_1 => (ZO k ((y.2.1.1,y.2.1.2.1,()),y_1.1,8,())).bind fun y => (ZEl k ((v9,v10,v11,()),v5,())).bind fun y_2 => L2 (UJ (UP y_2.1),(0:Int),y_2.1,v6,y.2.1.2.1,y.2.1.1)
noncomputable def ZkR (k:Nat):Zuk:=Zh (fun L1 => KG k (Zg8 k) L1) k
noncomputable def ZDq (k:Nat) (n:Nat):=Wb (ZJF k) Tryz.f43 Zhk ZAM [1,1,1,1,1,1,1,1,1,1,1,1,1,1,0,1,0] [] n ZRJ (A:=ZJB)
def Zid (k:Nat) (L1:Zuk):(Int × Int × Int × Unit) × (Int × List (List Int) × Unit) × Unit → Option ((List Int × Int × Unit) × Unit)
 | ((a0,a1,a2,()),(a3,a4,()),()) => (Zma k ((a0,a1,a2,()),(a3,a4,()),())).bind fun y => bif y.1 != 0 then some (([],y.1,()),()) else (ZKZ k ((a3,a4,()),())).bind fun y => bif y.1.2.2.1 != 0 then some (([],y.1.2.2.1,()),()) else bif decide ((0:Int) ≤ 0 ∧ (0:Int) < UJ (UP y.1.1)) then bif decide ((256:Int) < UJ (UP (UW y.1.1 (0:Nat) []))) then (ZsO k ()).bind fun y_1 => (ZO k ((y_1.1.1,y_1.1.2.1,()),16382,14,())).bind fun y_2 => (ZO k ((y_2.2.1.1,y_2.2.1.2.1,()),7,6,())).bind fun y_3 => (ZO k ((y_3.2.1.1,y_3.2.1.2.1,()),y.1.2.1,8,())).bind fun y_4 => (ZO k ((y_4.2.1.1,y_4.2.1.2.1,()),0,4,())).bind fun y_5 => (Zyl k (a3,())).bind fun y_6 => bif y_6.1.2.1 != 0 then some (([],y_6.1.2.1,()),()) else L1 (UJ (UP y_6.1.1),(0:Int),y_6.1.1,UJ (UP (UW y.1.1 (0:Nat) [])),(7:Int),y.1.2.1,y.1.1,y_5.2.1.2.1,y_5.2.1.1,a0,a1,a2) else (ZsO k ()).bind fun y_1 => (ZO k ((y_1.1.1,y_1.1.2.1,()),16382,14,())).bind fun y_2 => (ZO k ((y_2.2.1.1,y_2.2.1.2.1,()),6,6,())).bind fun y_3 => (ZO k ((y_3.2.1.1,y_3.2.1.2.1,()),y.1.2.1,8,())).bind fun y_4 => (ZO k ((y_4.2.1.1,y_4.2.1.2.1,()),0,4,())).bind fun y_5 => (Zyl k (a3,())).bind fun y_6 => bif y_6.1.2.1 != 0 then some (([],y_6.1.2.1,()),()) else L1 (UJ (UP y_6.1.1),(0:Int),y_6.1.1,UJ (UP (UW y.1.1 (0:Nat) [])),(6:Int),y.1.2.1,y.1.1,y_5.2.1.2.1,y_5.2.1.1,a0,a1,a2) else none
noncomputable def ZJC (k:Nat):=Zid k (ZkR k)
theorem ZJH (k:Nat):∀ n,ZDr k n = Zh (fun L2 => Zcm k L2) n:=ZV
theorem ZJG (k:Nat):∀ n,ZDq k n = Zh (fun L1 => KG k (Zg8 k) L1) n:=ZV (fun n v => by rw [show (Zg8 k) = ZDr k k from (ZJH k k).symm]; kernel_rfl)
set_option maxHeartbeats 1000000 in
noncomputable def ZTH (k:Nat):ZI k:=Zv 43 Tryz.f43 (ZJF k) Zhk ZAM ZJC (A:=ZJB) (h:=fun x => by show _ = Zid k (ZkR k) x; rw [show ZkR k = ZDq k k from (ZJG k k).symm]; kernel_rfl)
abbrev ZSj:Kd:=.box [.view (.sl (.int .u8)),.view (.int .i64)]
def ZeM (k:Nat):List Int × Unit → Option ((List Int × Int × Unit) × Unit)
 | (a0,()) => (Zjh k (a0,())).bind fun y => some ((y.1,0,()),())
def Zyq (k:Nat):=ZeM k
noncomputable def ZQo (k:Nat):ZI k:=Zv 48 Tryz.f48 [ZLT k] Zhl ZSj Zyq
abbrev Zlb:List Kd:=[.box [.view (.sl (.int .u8)),.view (.int .i64)]]
def ZLu (k:Nat):(List Int × Int × Unit) × Unit → Option (Int × (List Int × Int × Unit) × Unit)
 | ((a0,a1,()),()) => some (a1,(a0,a1,()),())
def ZaU (k:Nat):=ZLu k
noncomputable def Zyw (k:Nat):ZI k:=Zv 50 Tryz.f50 [] Zlb ZB ZaU
abbrev ZSD:List Kd:=[.box [.view (.sl (.int .u8)),.ref [.view (.sl (.int .u8)),.view (.int .i64)],.view (.int .i64)],.view .bool,.view (.int .i64)]
def ZpP (k:Nat):(List Int × (List Int × Int × Unit) × Int × Unit) × Bool × Int × Unit → Option (Unit × (List Int × (List Int × Int × Unit) × Int × Unit) × Unit)
 | ((a0,(a1,a2,()),a3,()),a4,a5,()) => bif a3 == 0 then bif !a4 then some ((),(a0,(a1,a2,()),a5,()),()) else some ((),(a0,(a1,a2,()),a3,()),()) else some ((),(a0,(a1,a2,()),a3,()),())
def Wg (k:Nat):=ZpP k
noncomputable def ZEJ (k:Nat):ZI k:=Zv 118 Tryz.f118 [] ZSD Ks Wg
abbrev ZpX:List Kd:=[.box [.view (.sl (.int .u8)),.view (.int .i64)],.view (.int .i64)]
def ZpY (k:Nat):(List Int × Int × Unit) × Int × Unit → Option (Int × (List Int × Int × Unit) × Unit)
 | ((a0,a1,()),a2,()) => bif decide (0 ≤ Jx.wrap (a2.tdiv (8:Int)) ∧ Jx.wrap (a2.tdiv (8:Int)) < UJ a0.length) then bif decide (0 ≤ Jx.wrap ((7:Int) - a2.tmod (8:Int))) then some (Jx.wrap (UJ (UN 64 (Jx.wrap (UT (a0.getD (Jx.wrap (a2.tdiv (8:Int))).toNat 0) ((2:Int) ^ min (Jx.wrap ((7:Int) - a2.tmod (8:Int))).toNat 8))) &&& UN 64 (1:Int)).toNat),(a0,a1,()),()) else none else none
def ZyK (k:Nat):=ZpY k
set_option maxHeartbeats 1000000 in
noncomputable def ZMj (k:Nat):ZI k:=Zv 126 Tryz.f126 [] ZpX ZB ZyK
def ZkY (k:Nat):(List Int × Int × Unit) × Unit → Option (Int × (List Int × Int × Unit) × Unit)
 | ((a0,a1,()),()) => some (Jx.wrap (Jx.wrap ((8:Int) * UJ a0.length) - a1),(a0,a1,()),())
def ZAT (k:Nat):=ZkY k
noncomputable def ZRP (k:Nat):ZI k:=Zv 207 Tryz.f207 [] Zlb ZB ZAT
noncomputable def ZI9 (k:Nat):List (ZI k):=[ZLK k,ZMj k,ZRP k]
def ZI8:Nat → Ann:=fun id => bif Ja id 7 then ⟨[19,20,6,0],[]⟩ else ⟨[],[]⟩
abbrev ZDg:=Int × Int × Int × List Int × Int
abbrev ZmV:=ZDg → Option ((Int × Int × Unit) × (List Int × Int × Unit) × Unit)
def ZOn:ZDg → St
 | (v0,v1,v2,v3,v4) => St.mk (Zp [(19,Zf v0),(20,Zf v1),(6,Zf v2),(0,AV.bx 0 0)]) (Zo [(0,QK [AV.val (PV.sl (Ty.int UQ) v3),Zf v4])])
def Zce (k:Nat) (L1:ZmV):ZmV
 | (v0,v1,v2,v3,v4) => bif decide (v1 < v0) then (ZyK k ((v3,v4,()),v4,())).bind fun y => L1 (v0,Jx.wrap (v1 + 1),Jx.wrap (UJ (UN 64 (Jx.wrap (v2 * (2:Int))) ||| UN 64 y.1).toNat),y.2.1.1,Jx.wrap (y.2.1.2.1 + 1)) else some ((v2,0,()),(v3,v4,()),())
def ZmW (k:Nat):ZmV:=Zh (fun L1 => Zce k L1) k
noncomputable def Zxc (k:Nat) (n:Nat):=Wb (ZI9 k) Tryz.f156 ZpX W0 [1,1,1,0,1,0] [] n ZOn (A:=ZI8) (a:=[AV.bx (nat_lit 0) (nat_lit 0)]) (b:=[[]]) (q:=[0])
def ZfO (k:Nat) (L1:ZmV):(List Int × Int × Unit) × Int × Unit → Option ((Int × Int × Unit) × (List Int × Int × Unit) × Unit)
 | ((a0,a1,()),a2,()) => (ZyA k (a2,())).bind fun y => bif y.1 then some ((0,1,()),(a0,a1,()),()) else (ZAT k ((a0,a1,()),())).bind fun y => bif decide (y.1 < a2) then some ((0,10,()),(y.2.1.1,y.2.1.2.1,()),()) else L1 (a2,(0:Int),(0:Int),y.2.1.1,y.2.1.2.1)
def Y5 (k:Nat):=ZfO k (ZmW k)
theorem ZGk (k:Nat):∀ n,Zxc k n = Zh (fun L1 => Zce k L1) n:=ZV
noncomputable def Zg7 (k:Nat):ZI k:=Zv 156 Tryz.f156 (ZI9 k) ZpX W0 Y5 (A:=ZI8) (h:=fun x => by show _ = ZfO k (ZmW k) x; rw [show ZmW k = Zxc k k from (ZGk k k).symm]; kernel_rfl)
abbrev ZSE:List Kd:=[.box [.view (.sl (.int .u8)),.ref [.view (.sl (.int .u8)),.view (.int .i64)],.view (.int .i64)],.view (.int .i64)]
def ZpQ (k:Nat):(List Int × (List Int × Int × Unit) × Int × Unit) × Int × Unit → Option (Int × (List Int × (List Int × Int × Unit) × Int × Unit) × Unit)
 | ((a0,(a1,a2,()),a3,()),a4,()) => bif a3 == 0 then (Y5 k ((a1,a2,()),a4,())).bind fun y => some (y.1.1,(a0,(y.2.1.1,y.2.1.2.1,()),y.1.2.1,()),()) else some (0,(a0,(a1,a2,()),a3,()),())
def WO (k:Nat):=ZpQ k
noncomputable def ZEK (k:Nat):ZI k:=Zv 119 Tryz.f119 [Zg7 k] ZSE ZB WO
abbrev ZSn:List Kd:=[.box [.view (.sl (.int .u8)),.ref [.view (.sl (.int .u8)),.view (.int .i64)],.view (.int .i64)],.view (.int .i64),.fn 96]
def ZpF (k:Nat):(List Int × (List Int × Int × Unit) × Int × Unit) × Int × Unit × Unit → Option (Unit × (List Int × (List Int × Int × Unit) × Int × Unit) × Unit)
 | ((a0,(a1,a2,()),a3,()),a4,(),()) => (ZaU k ((a1,a2,()),())).bind fun y => (WO k ((a0,(y.2.1.1,y.2.1.2.1,()),a3,()),a4,())).bind fun y_1 => bif y_1.2.1.2.2.1 != 0 then (Wg k ((y_1.2.1.1,(y_1.2.1.2.1.1,y_1.2.1.2.1.2.1,()),y_1.2.1.2.2.1,()),true,16,())).bind fun y => some ((),(y.2.1.1,(y.2.1.2.1.1,y.2.1.2.1.2.1,()),y.2.1.2.2.1,()),()) else bif decide ((0:Int) ≤ 0 ∧ (0:Int) ≤ Jx.wrap (UU y.1 (8:Int)) ∧ Jx.wrap (UU y.1 (8:Int)) ≤ UJ (UP y_1.2.1.1)) then (ZEk k (US 0 (UR (Jx.wrap (UU y.1 (8:Int))).toNat y_1.2.1.1),())).bind fun y => (Wg k ((y_1.2.1.1,(y_1.2.1.2.1.1,y_1.2.1.2.1.2.1,()),y_1.2.1.2.2.1,()),y_1.1 == y.1,16,())).bind fun y => some ((),(y.2.1.1,(y.2.1.2.1.1,y.2.1.2.1.2.1,()),y.2.1.2.2.1,()),()) else none
def Zmb (k:Nat):=ZpF k
set_option maxHeartbeats 1000000 in
noncomputable def ZTS (k:Nat):ZI k:=Zv 60 Tryz.f60 [Zyw k,ZEJ k,ZEK k,ZQk k] ZSn Ks Zmb
def ZpR (k:Nat):(Int × Int × Int × Unit) × Int × Unit → Option (Bool × Unit)
 | ((a0,a1,a2,()),a3,()) => bif a0 == 1 then some (a3 == 0,()) else bif a3 == 1 then some (true,()) else bif decide (8 ≤ a3) then some (decide (a3 ≤ 10),()) else some (false,())
def ZyH (k:Nat):=ZpR k
noncomputable def ZT1 (k:Nat):ZI k:=Zv 120 Tryz.f120 [] ZLa QQ ZyH
abbrev ZDy:List Kd:=[.view (.int .u8)]
def ZG3 (k:Nat):Int × Unit → Option (Int × Unit)
 | (a0,()) => bif decide (0 ≤ a0 ∧ a0 < 256) then some (Jx.wrap (UJ ((ByteArray.mk (([0,1,2,2,3,3,3,3,4,4,4,4,4,4,4,4,5,5,5,5,5,5,5,5,5,5,5,5,5,5,5,5,6,6,6,6,6,6,6,6,6,6,6,6,6,6,6,6,6,6,6,6,6,6,6,6,6,6,6,6,6,6,6,6].append [7,7,7,7,7,7,7,7,7,7,7,7,7,7,7,7,7,7,7,7,7,7,7,7,7,7,7,7,7,7,7,7,7,7,7,7,7,7,7,7,7,7,7,7,7,7,7,7,7,7,7,7,7,7,7,7,7,7,7,7,7,7,7,7]).append ([8,8,8,8,8,8,8,8,8,8,8,8,8,8,8,8,8,8,8,8,8,8,8,8,8,8,8,8,8,8,8,8,8,8,8,8,8,8,8,8,8,8,8,8,8,8,8,8,8,8,8,8,8,8,8,8,8,8,8,8,8,8,8,8].append [8,8,8,8,8,8,8,8,8,8,8,8,8,8,8,8,8,8,8,8,8,8,8,8,8,8,8,8,8,8,8,8,8,8,8,8,8,8,8,8,8,8,8,8,8,8,8,8,8,8,8,8,8,8,8,8,8,8,8,8,8,8,8,8])).toArray).data.toList.getD a0.toNat 0).toNat),()) else none
def ZJZ (k:Nat):=ZG3 k
set_option maxHeartbeats 1000000 in
noncomputable def ZRY (k:Nat):ZI k:=Zv 251 Tryz.f251 [] ZDy ZB ZJZ
def ZGS (k:Nat):Int × Unit → Option (Int × Unit)
 | (a0,()) => (ZJZ k (a0,())).bind fun y => some (Jx.wrap ((8:Int) - y.1),())
def Zur (k:Nat):=ZGS k
noncomputable def ZRQ (k:Nat):ZI k:=Zv 213 Tryz.f213 [ZRY k] ZDy ZB Zur
abbrev Zuh:Kd:=.tup [.view (.int .i64),.view (.int .i64),.view (.int .i64)]
noncomputable def ZJb (k:Nat):List (ZI k):=[ZQH k,ZRQ k]
def ZJa:Nat → Ann:=fun id => bif Ja id 10 then ⟨[8,5,0,6,7],[]⟩ else ⟨[],[]⟩
abbrev ZmX:=Zlj → Option ((Int × Int × Int × Unit) × Unit)
def ZOo:Zlj → St
 | (v0,v1,v2,v3,v4) => St.mk (Zp [(8,Zf v0),(5,Zf v1),(0,AV.val (PV.sl (Ty.int UQ) v2)),(6,Zf v3),(7,Zf v4)]) (Zo [])
def Zcf (k:Nat) (L1:ZmX):ZmX
 | (v0,v1,v2,v3,v4) => bif decide (v0 < v1) then bif decide (v0 < UJ v2.length) then bif decide (0 ≤ v0 ∧ v0 < UJ v2.length) then bif UT (v2.getD v0.toNat 0) (64:Int) != 2 then some ((0,0,2,()),()) else bif decide (0 ≤ v0 ∧ v0 < UJ v2.length) then L1 (Jx.wrap (v0 + 1),v1,v2,Jx.wrap (UJ (UN 64 (Jx.wrap (v3 * (64:Int))) ||| UN 64 (Jx.wrap (UJ (UN 64 (Jx.wrap (v2.getD v0.toNat 0)) &&& UN 64 (63:Int)).toNat))).toNat),Jx.wrap (UJ (UN 64 (Jx.wrap (v4 * (64:Int))) ||| UN 64 (Jx.wrap (UJ (UN 64 (Jx.wrap (v2.getD v0.toNat 0)) &&& UN 64 (63:Int)).toNat))).toNat)) else none else none else L1 (Jx.wrap (v0 + 1),v1,v2,Jx.wrap (UJ (UN 64 (Jx.wrap (v3 * (64:Int))) ||| UN 64 (0:Int)).toNat),Jx.wrap (UJ (UN 64 (Jx.wrap (v4 * (64:Int))) ||| UN 64 (63:Int)).toNat)) else (ZEx k (Jx.wrap (v1 - 1),())).bind fun y => bif decide ((0:Int) ≤ y.1) then bif decide (v4 < Jx.wrap ((1:Int) * (2:Int) ^ min (UV y.1) (64:Nat))) then some ((0,0,2,()),()) else bif decide (UJ v2.length < v1) then some ((0,0,10,()),()) else some ((v3,v1,0,()),()) else none
def ZmY (k:Nat):ZmX:=Zh (fun L1 => Zcf k L1) k
noncomputable def Zxd (k:Nat) (n:Nat):=Wb (ZJb k) Tryz.f164 Zhl Zuh [1,1,1,1,1,0,1,0] [] n ZOo (A:=ZJa)
def ZfP (k:Nat) (L1:ZmX):List Int × Unit → Option ((Int × Int × Int × Unit) × Unit)
 | (a0,()) => bif UJ a0.length == (0:Int) then some ((0,0,10,()),()) else bif decide ((0:Int) ≤ 0 ∧ (0:Int) < UJ a0.length) then (Zur k (UQ.wrap (UJ (UN 8 (255:Int) ^^^ UN 8 (a0.getD 0 0)).toNat),())).bind fun y => bif y.1 == 0 then bif decide ((0:Int) ≤ 0 ∧ (0:Int) < UJ a0.length) then some ((Jx.wrap (a0.getD 0 0),1,0,()),()) else none else bif y.1 == 1 then some ((0,0,2,()),()) else bif decide ((7:Int) < y.1) then some ((0,0,2,()),()) else bif decide ((0:Int) ≤ 0 ∧ (0:Int) < UJ a0.length) then bif decide ((0:Int) ≤ y.1) then bif decide ((0:Int) ≤ 0 ∧ (0:Int) < UJ a0.length) then bif decide ((0:Int) ≤ y.1) then L1 (1,y.1,a0,Jx.wrap (UJ (UN 64 (Jx.wrap (a0.getD 0 0)) &&& UN 64 (UT (127:Int) ((2:Int) ^ min (UV y.1) (64:Nat)))).toNat),Jx.wrap (UJ (UN 64 (Jx.wrap (a0.getD 0 0)) &&& UN 64 (UT (127:Int) ((2:Int) ^ min (UV y.1) (64:Nat)))).toNat)) else none else none else none else none else none
def ZAG (k:Nat):=ZfP k (ZmY k)
theorem ZGm (k:Nat):∀ n,Zxd k n = Zh (fun L1 => Zcf k L1) n:=ZV
set_option maxHeartbeats 1000000 in
noncomputable def ZRz (k:Nat):ZI k:=Zv 164 Tryz.f164 (ZJb k) Zhl Zuh ZAG (A:=ZJa) (h:=fun x => by show _ = ZfP k (ZmY k) x; rw [show ZmY k = Zxd k k from (ZGm k k).symm]; kernel_rfl)
abbrev ZMd:List Kd:=[.box [.view (.sl (.int .u8)),.ref [.view (.sl (.int .u8)),.view (.int .i64)],.view (.int .i64)]]
noncomputable def ZQQ (k:Nat):List (ZI k):=[Zyw k,ZEJ k,ZEK k,ZRz k]
def ZQP:Nat → Ann:=fun id => bif Ja id 6 then ⟨[31,32,0,3],[]⟩ else ⟨[],[]⟩
abbrev ZMb:=Int × Int × Int × List Int × Int × List Int × Int
abbrev ZvG:=ZMb → Option (Int × (List Int × (List Int × Int × Unit) × Int × Unit) × Unit)
def ZSF:ZMb → St
 | (v0,v1,v2,v3,v4,v5,v6) => St.mk (Zp [(31,Zf v0),(32,Zf v1),(0,AV.bx 0 0),(3,Zf v2)]) (Zo [(0,QK [AV.val (PV.sl (Ty.int UQ) v3),AV.bx 1 0,Zf v4]),(1,QK [AV.val (PV.sl (Ty.int UQ) v5),Zf v6])])
def Ze0 (k:Nat) (L1:ZvG):ZvG
 | (v0,v1,v2,v3,v4,v5,v6) => bif decide (v1 < v0) then (WO k ((v3,(v5,v6,()),v4,()),8,())).bind fun y => L1 (v0,Jx.wrap (v1 + 1),v2,y.2.1.1,y.2.1.2.2.1,y.2.1.2.1.1,y.2.1.2.1.2.1) else (Wg k ((v3,(v5,v6,()),v4,()),decide (v2 ≤ 2147483647),2,())).bind fun y => some (v2,(y.2.1.1,(y.2.1.2.1.1,y.2.1.2.1.2.1,()),y.2.1.2.2.1,()),())
def ZvH (k:Nat):ZvG:=Zh (fun L1 => Ze0 k L1) k
noncomputable def ZEL (k:Nat) (n:Nat):=Wb (ZQQ k) Tryz.f121 ZMd ZB [1,1,1,1,0,1,0] [] n ZSF (A:=ZQP) (a:=[AV.bx (nat_lit 0) (nat_lit 0)]) (b:=[[1]]) (q:=[0,1])
def Zjm (k:Nat) (L1:ZvG):(List Int × (List Int × Int × Unit) × Int × Unit) × Unit → Option (Int × (List Int × (List Int × Int × Unit) × Int × Unit) × Unit)
 | ((a0,(a1,a2,()),a3,()),()) => bif a3 != 0 then some (0,(a0,(a1,a2,()),a3,()),()) else (ZaU k ((a1,a2,()),())).bind fun y => bif decide (0 ≤ Jx.wrap (UU y.1 (8:Int)) ∧ Jx.wrap (UU y.1 (8:Int)) ≤ UJ a0.length ∧ UJ a0.length ≤ UJ a0.length) then (ZAG k (US (Jx.wrap (UU y.1 (8:Int))).toNat (UR (UJ a0.length).toNat a0),())).bind fun y_1 => L1 (y_1.1.2.1,(0:Int),y_1.1.1,a0,y_1.1.2.2.1,y.2.1.1,y.2.1.2.1) else none
def ZpS (k:Nat):=Zjm k (ZvH k)
theorem ZMc (k:Nat):∀ n,ZEL k n = Zh (fun L1 => Ze0 k L1) n:=ZV
set_option maxHeartbeats 1000000 in
noncomputable def ZT2 (k:Nat):ZI k:=Zv 121 Tryz.f121 (ZQQ k) ZMd ZB ZpS (A:=ZQP) (h:=fun x => by show _ = Zjm k (ZvH k) x; rw [show ZvH k = ZEL k k from (ZMc k k).symm]; kernel_rfl)
abbrev ZSk:List Kd:=[.box [.view (.sl (.int .u8)),.ref [.view (.sl (.int .u8)),.view (.int .i64)],.view (.int .i64)],.view ZlM]
def ZLf (k:Nat):(List Int × (List Int × Int × Unit) × Int × Unit) × (Int × Int × Int × Unit) × Unit → Option ((Int × Int × Int × Unit) × (List Int × (List Int × Int × Unit) × Int × Unit) × Unit)
 | ((a0,(a1,a2,()),a3,()),(a4,a5,a6,()),()) => (WO k ((a0,(a1,a2,()),a3,()),15,())).bind fun y => (Wg k ((y.2.1.1,(y.2.1.2.1.1,y.2.1.2.1.2.1,()),y.2.1.2.2.1,()),y.1 == 32764,11,())).bind fun y => (WO k ((y.2.1.1,(y.2.1.2.1.1,y.2.1.2.1.2.1,()),y.2.1.2.2.1,()),1,())).bind fun y => (Wg k ((y.2.1.1,(y.2.1.2.1.1,y.2.1.2.1.2.1,()),y.2.1.2.2.1,()),y.1 == 0,2,())).bind fun y => (WO k ((y.2.1.1,(y.2.1.2.1.1,y.2.1.2.1.2.1,()),y.2.1.2.2.1,()),4,())).bind fun y => bif y.1 == 6 then (Wg k ((y.2.1.1,(y.2.1.2.1.1,y.2.1.2.1.2.1,()),y.2.1.2.2.1,()),true,2,())).bind fun y_1 => (WO k ((y_1.2.1.1,(y_1.2.1.2.1.1,y_1.2.1.2.1.2.1,()),y_1.2.1.2.2.1,()),4,())).bind fun y_2 => (Wg k ((y_2.2.1.1,(y_2.2.1.2.1.1,y_2.2.1.2.1.2.1,()),y_2.2.1.2.2.1,()),y_2.1 == 0,2,())).bind fun y_3 => (WO k ((y_3.2.1.1,(y_3.2.1.2.1.1,y_3.2.1.2.1.2.1,()),y_3.2.1.2.2.1,()),4,())).bind fun y_4 => (ZyH k ((a4,a5,a6,()),y_4.1,())).bind fun y_5 => (Wg k ((y_4.2.1.1,(y_4.2.1.2.1.1,y_4.2.1.2.1.2.1,()),y_4.2.1.2.2.1,()),y_5.1,2,())).bind fun y_6 => (WO k ((y_6.2.1.1,(y_6.2.1.2.1.1,y_6.2.1.2.1.2.1,()),y_6.2.1.2.2.1,()),4,())).bind fun y_7 => (Wg k ((y_7.2.1.1,(y_7.2.1.2.1.1,y_7.2.1.2.1.2.1,()),y_7.2.1.2.2.1,()),y_7.1 == 0,2,())).bind fun y_8 => (ZpS k ((y_8.2.1.1,(y_8.2.1.2.1.1,y_8.2.1.2.1.2.1,()),y_8.2.1.2.2.1,()),())).bind fun y_9 => bif y_9.2.1.2.2.1 == 0 then (WO k ((y_9.2.1.1,(y_9.2.1.2.1.1,y_9.2.1.2.1.2.1,()),y_9.2.1.2.2.1,()),Jx.wrap ((8:Int) * Jx.wrap (Jx.wrap (y.1 - 6) + (1:Int))),())).bind fun y => (Wg k ((y.2.1.1,(y.2.1.2.1.1,y.2.1.2.1.2.1,()),y.2.1.2.2.1,()),decide (Jx.wrap (y.1 + 1) ≤ (512:Int)),1,())).bind fun y_10 => (Zmb k ((y_10.2.1.1,(y_10.2.1.2.1.1,y_10.2.1.2.1.2.1,()),y_10.2.1.2.2.1,()),8,(),())).bind fun y_11 => some ((y_4.1,y_9.1,Jx.wrap (y.1 + 1),()),(y_11.2.1.1,(y_11.2.1.2.1.1,y_11.2.1.2.1.2.1,()),y_11.2.1.2.2.1,()),()) else (Wg k ((y_9.2.1.1,(y_9.2.1.2.1.1,y_9.2.1.2.1.2.1,()),y_9.2.1.2.2.1,()),decide ((0:Int) ≤ 512),1,())).bind fun y => (Zmb k ((y.2.1.1,(y.2.1.2.1.1,y.2.1.2.1.2.1,()),y.2.1.2.2.1,()),8,(),())).bind fun y => some ((y_4.1,y_9.1,0,()),(y.2.1.1,(y.2.1.2.1.1,y.2.1.2.1.2.1,()),y.2.1.2.2.1,()),()) else (Wg k ((y.2.1.1,(y.2.1.2.1.1,y.2.1.2.1.2.1,()),y.2.1.2.2.1,()),y.1 == 7,2,())).bind fun y_1 => (WO k ((y_1.2.1.1,(y_1.2.1.2.1.1,y_1.2.1.2.1.2.1,()),y_1.2.1.2.2.1,()),4,())).bind fun y_2 => (Wg k ((y_2.2.1.1,(y_2.2.1.2.1.1,y_2.2.1.2.1.2.1,()),y_2.2.1.2.2.1,()),y_2.1 == 0,2,())).bind fun y_3 => (WO k ((y_3.2.1.1,(y_3.2.1.2.1.1,y_3.2.1.2.1.2.1,()),y_3.2.1.2.2.1,()),4,())).bind fun y_4 => (ZyH k ((a4,a5,a6,()),y_4.1,())).bind fun y_5 => (Wg k ((y_4.2.1.1,(y_4.2.1.2.1.1,y_4.2.1.2.1.2.1,()),y_4.2.1.2.2.1,()),y_5.1,2,())).bind fun y_6 => (WO k ((y_6.2.1.1,(y_6.2.1.2.1.1,y_6.2.1.2.1.2.1,()),y_6.2.1.2.2.1,()),4,())).bind fun y_7 => (Wg k ((y_7.2.1.1,(y_7.2.1.2.1.1,y_7.2.1.2.1.2.1,()),y_7.2.1.2.2.1,()),y_7.1 == 0,2,())).bind fun y_8 => (ZpS k ((y_8.2.1.1,(y_8.2.1.2.1.1,y_8.2.1.2.1.2.1,()),y_8.2.1.2.2.1,()),())).bind fun y_9 => bif y_9.2.1.2.2.1 == 0 then (WO k ((y_9.2.1.1,(y_9.2.1.2.1.1,y_9.2.1.2.1.2.1,()),y_9.2.1.2.2.1,()),Jx.wrap ((8:Int) * Jx.wrap (Jx.wrap (y.1 - 6) + (1:Int))),())).bind fun y => (Wg k ((y.2.1.1,(y.2.1.2.1.1,y.2.1.2.1.2.1,()),y.2.1.2.2.1,()),decide (Jx.wrap (y.1 + 1) ≤ (512:Int)),1,())).bind fun y_10 => (Zmb k ((y_10.2.1.1,(y_10.2.1.2.1.1,y_10.2.1.2.1.2.1,()),y_10.2.1.2.2.1,()),8,(),())).bind fun y_11 => some ((y_4.1,y_9.1,Jx.wrap (y.1 + 1),()),(y_11.2.1.1,(y_11.2.1.2.1.1,y_11.2.1.2.1.2.1,()),y_11.2.1.2.2.1,()),()) else (Wg k ((y_9.2.1.1,(y_9.2.1.2.1.1,y_9.2.1.2.1.2.1,()),y_9.2.1.2.2.1,()),decide ((0:Int) ≤ 512),1,())).bind fun y => (Zmb k ((y.2.1.1,(y.2.1.2.1.1,y.2.1.2.1.2.1,()),y.2.1.2.2.1,()),8,(),())).bind fun y => some ((y_4.1,y_9.1,0,()),(y.2.1.1,(y.2.1.2.1.1,y.2.1.2.1.2.1,()),y.2.1.2.2.1,()),())
def ZEo (k:Nat):=ZLf k
set_option maxHeartbeats 1000000 in
noncomputable def ZTP (k:Nat):ZI k:=Zv 56 Tryz.f56 [ZTS k,ZEJ k,ZEK k,ZT1 k,ZT2 k] ZSk Zuh ZEo
abbrev ZOp:List Kd:=[.box [.ref [.view (.sl (.int .u8)),.view (.int .i64)],.view (.int .i64)],.view .bool]
def Zky (k:Nat):((List Int × Int × Unit) × Int × Unit) × Bool × Unit → Option (Unit × ((List Int × Int × Unit) × Int × Unit) × Unit)
 | (((a0,a1,()),a2,()),a3,()) => bif a2 == 0 then bif !a3 then some ((),((a0,a1,()),2,()),()) else some ((),((a0,a1,()),a2,()),()) else some ((),((a0,a1,()),a2,()),())
def Xo (k:Nat):=Zky k
noncomputable def ZJc (k:Nat):ZI k:=Zv 165 Tryz.f165 [] ZOp Ks Xo
abbrev ZDh:List Kd:=[.box [.ref [.view (.sl (.int .u8)),.view (.int .i64)],.view (.int .i64)],.view (.int .i64)]
def Zkz (k:Nat):((List Int × Int × Unit) × Int × Unit) × Int × Unit → Option (Int × ((List Int × Int × Unit) × Int × Unit) × Unit)
 | (((a0,a1,()),a2,()),a3,()) => bif a2 == 0 then (Y5 k ((a0,a1,()),a3,())).bind fun y => some (y.1.1,((y.2.1.1,y.2.1.2.1,()),y.1.2.1,()),()) else some (0,((a0,a1,()),a2,()),())
def K0 (k:Nat):=Zkz k
noncomputable def ZJd (k:Nat):ZI k:=Zv 166 Tryz.f166 [Zg7 k] ZDh ZB K0
def ZkA (k:Nat):Int × Unit → Option (Bool × Unit)
 | (a0,()) => bif a0 == 0 then some (true,()) else bif a0 == 1 then some (true,()) else bif decide (8 ≤ a0) then bif decide (a0 ≤ 12) then some (true,()) else bif decide ((31:Int) < a0) then some (decide (a0 ≤ 39),()) else some (false,()) else bif decide ((31:Int) < a0) then some (decide (a0 ≤ 39),()) else some (false,())
def ZAH (k:Nat):=ZkA k
noncomputable def ZRA (k:Nat):ZI k:=Zv 167 Tryz.f167 [] QG QQ ZAH
noncomputable def ZJg (k:Nat):List (ZI k):=[ZMj k]
def ZJe:Nat → Ann:=fun id => bif Ja id 4 then ⟨[4,0],[]⟩ else ⟨[],[]⟩
abbrev ZDi:=Int × List Int × Int
abbrev ZmZ:=ZDi → Option ((Int × Int × Unit) × (List Int × Int × Unit) × Unit)
def ZOq:ZDi → St
 | (v0,v1,v2) => St.mk (Zp [(4,Zf v0),(0,AV.bx 0 0)]) (Zo [(0,QK [AV.val (PV.sl (Ty.int UQ) v1),Zf v2])])
def Zch (k:Nat) (L1:ZmZ):ZmZ
 | (v0,v1,v2) => bif decide (v0 < Jx.wrap ((8:Int) * UJ v1.length)) then (ZyK k ((v1,v2,()),v0,())).bind fun y => bif y.1 == 1 then some ((Jx.wrap (v0 - y.2.1.2.1),0,()),(y.2.1.1,Jx.wrap (v0 + 1),()),()) else L1 (Jx.wrap (v0 + 1),y.2.1.1,y.2.1.2.1) else some ((0,10,()),(v1,v2,()),())
def Zm0 (k:Nat):ZmZ:=Zh (fun L1 => Zch k L1) k
noncomputable def Zxe (k:Nat) (n:Nat):=Wb (ZJg k) Tryz.f168 Zlb W0 [1,1,0,1,0] [] n ZOq (A:=ZJe) (a:=[AV.bx (nat_lit 0) (nat_lit 0)]) (b:=[[]]) (q:=[0])
def ZfQ (k:Nat) (L1:ZmZ):(List Int × Int × Unit) × Unit → Option ((Int × Int × Unit) × (List Int × Int × Unit) × Unit)
 | ((a0,a1,()),()) => L1 (a1,a0,a1)
def ZoI (k:Nat):=ZfQ k (Zm0 k)
theorem ZGq (k:Nat):∀ n,Zxe k n = Zh (fun L1 => Zch k L1) n:=ZV
noncomputable def ZJf (k:Nat):ZI k:=Zv 168 Tryz.f168 (ZJg k) Zlb W0 ZoI (A:=ZJe) (h:=fun x => by show _ = ZfQ k (Zm0 k) x; rw [show Zm0 k = Zxe k k from (ZGq k k).symm]; kernel_rfl)
def ZpU (k:Nat):((List Int × Int × Unit) × Int × Unit) × Int × Unit → Option ((Int × Int × Unit) × ((List Int × Int × Unit) × Int × Unit) × Unit)
 | (((a0,a1,()),a2,()),a3,()) => (K0 k (((a0,a1,()),a2,()),1,())).bind fun y => (Xo k (((y.2.1.1.1,y.2.1.1.2.1,()),y.2.1.2.1,()),y.1 == 0,())).bind fun y => (K0 k (((y.2.1.1.1,y.2.1.1.2.1,()),y.2.1.2.1,()),6,())).bind fun y => (ZAH k (y.1,())).bind fun y_1 => (Xo k (((y.2.1.1.1,y.2.1.1.2.1,()),y.2.1.2.1,()),y_1.1,())).bind fun y_2 => (K0 k (((y_2.2.1.1.1,y_2.2.1.1.2.1,()),y_2.2.1.2.1,()),1,())).bind fun y_3 => bif y_3.1 == 1 then bif y_3.2.1.2.1 == 0 then (ZoI k ((y_3.2.1.1.1,y_3.2.1.1.2.1,()),())).bind fun y_4 => (Xo k (((y_4.2.1.1,y_4.2.1.2.1,()),y_4.1.2.1,()),decide (Jx.wrap (y_4.1.1 + 1) < a3),())).bind fun y_5 => some ((y.1,Jx.wrap (y_4.1.1 + 1),()),((y_5.2.1.1.1,y_5.2.1.1.2.1,()),y_5.2.1.2.1,()),()) else (Xo k (((y_3.2.1.1.1,y_3.2.1.1.2.1,()),y_3.2.1.2.1,()),decide ((0:Int) < a3),())).bind fun y_4 => some ((y.1,0,()),((y_4.2.1.1.1,y_4.2.1.1.2.1,()),y_4.2.1.2.1,()),()) else (Xo k (((y_3.2.1.1.1,y_3.2.1.1.2.1,()),y_3.2.1.2.1,()),decide ((0:Int) < a3),())).bind fun y_4 => some ((y.1,0,()),((y_4.2.1.1.1,y_4.2.1.1.2.1,()),y_4.2.1.2.1,()),())
def ZMf (k:Nat):=ZpU k
set_option maxHeartbeats 1000000 in
noncomputable def ZT3 (k:Nat):ZI k:=Zv 123 Tryz.f123 [ZJc k,ZJd k,ZRA k,ZJf k] ZDh W0 ZMf
abbrev ZOJ:List Kd:=[.view (.int .u32),.view (.int .u32)]
abbrev ZOK:Kd:=.tup [.view (.int .u32),.view (.int .u32)]
def ZG4 (k:Nat):Int × Int × Unit → Option ((Int × Int × Unit) × Unit)
 | (a0,a1,()) => some ((IntKind.u32.wrap ((UO.wrap (UO.wrap a0 * UO.wrap a1)).fdiv (4294967296:Int)),IntKind.u32.wrap (UO.wrap (UO.wrap a0 * UO.wrap a1)),()),())
def ZRZ (k:Nat):=ZG4 k
noncomputable def ZR0 (k:Nat):ZI k:=Zv 252 Tryz.f252 [] ZOJ ZOK ZRZ
abbrev ZDz:List Kd:=[.view (.int .u64),.view (.int .u64)]
abbrev ZDA:Kd:=.tup [.view (.int .u64),.view (.int .u64)]
def Zk2 (k:Nat):Int × Int × Unit → Option ((Int × Int × Unit) × Unit)
 | (a0,a1,()) => some ((UO.wrap (UO.wrap (UO.wrap (a0.fdiv (4294967296:Int) * a1.fdiv (4294967296:Int)) + (UO.wrap (UO.wrap (a0.fdiv (4294967296:Int) * UO.wrap (UJ (UN 64 a1 &&& UN 64 (4294967295:Int)).toNat)) + (UO.wrap (UO.wrap (UJ (UN 64 a0 &&& UN 64 (4294967295:Int)).toNat) * UO.wrap (UJ (UN 64 a1 &&& UN 64 (4294967295:Int)).toNat))).fdiv (4294967296:Int))).fdiv (4294967296:Int)) + (UO.wrap (UO.wrap (UJ (UN 64 (UO.wrap (UO.wrap (a0.fdiv (4294967296:Int) * UO.wrap (UJ (UN 64 a1 &&& UN 64 (4294967295:Int)).toNat)) + (UO.wrap (UO.wrap (UJ (UN 64 a0 &&& UN 64 (4294967295:Int)).toNat) * UO.wrap (UJ (UN 64 a1 &&& UN 64 (4294967295:Int)).toNat))).fdiv (4294967296:Int))) &&& UN 64 (4294967295:Int)).toNat) + UO.wrap (UO.wrap (UJ (UN 64 a0 &&& UN 64 (4294967295:Int)).toNat) * a1.fdiv (4294967296:Int)))).fdiv (4294967296:Int)),UO.wrap (a0 * a1),()),())
def ZJ0 (k:Nat):=Zk2 k
set_option maxHeartbeats 1000000 in
noncomputable def ZR1 (k:Nat):ZI k:=Zv 253 Tryz.f253 [] ZDz ZDA ZJ0
def ZGU (k:Nat):Int × Int × Unit → Option ((Int × Int × Unit) × Unit)
 | (a0,a1,()) => (ZJ0 k (a0,a1,())).bind fun y => some ((y.1.1,y.1.2.1,()),())
def ZAU (k:Nat):=ZGU k
noncomputable def ZRR (k:Nat):ZI k:=Zv 214 Tryz.f214 [ZR0 k,ZR1 k] ZDz ZDA ZAU
noncomputable def ZJi (k:Nat):List (ZI k):=[ZRR k]
def ZJj:Nat → List Nat:=fun r => bif Ja r 999999 then [1] else []
def ZJh:Nat → Ann:=fun id => bif Ja id 8 then ⟨[8,7],[]⟩ else ⟨[],[]⟩
abbrev ZDj:=Int × List Int
abbrev Zm1:=ZDj → Option (List Int × Unit)
def ZOr:ZDj → St
 | (v0,v1) => St.mk (Zp [(8,Zf v0),(7,AV.own 8192)]) (Zo [(8192,rsA v1 false)])
def ZfS (k:Nat) (L1:Zm1):Zm1
 | (v0,v1) => bif decide (v0 < UJ v1.length) then bif decide (0 ≤ v0 ∧ v0 ≤ UJ v1.length ∧ UJ v1.length ≤ UJ v1.length) then bif decide ((0:Int) ≤ 0 ∧ (0:Int) ≤ v0 ∧ v0 ≤ UJ v1.length) then bif decide (v0.toNat ≤ (UJ v1.length).toNat ∧ (UJ v1.length).toNat ≤ v1.length) then bif decide ((0:Nat) ≤ v0.toNat ∧ v0.toNat ≤ v1.length) then L1 (Jx.wrap (v0 + UJ (min (US 0 (UR v0.toNat v1)).length ((UJ v1.length).toNat - v0.toNat))),UR v0.toNat v1 ++ UR ((UJ v1.length).toNat - v0.toNat) (US 0 (UR v0.toNat v1)) ++ US (v0.toNat + min (US 0 (UR v0.toNat v1)).length ((UJ v1.length).toNat - v0.toNat)) v1) else none else none else none else none else some (v1,())
def Zm2 (k:Nat):Zm1:=Zh (fun L1 => ZfS k L1) k
noncomputable def Zxf (k:Nat) (n:Nat):=Wb (ZJi k) Tryz.f169 WF Zla [1,1,1,1,1,1,0,0] [] n ZOr (A:=ZJh) (live:=ZJj)
def ZfR (k:Nat) (L1:Zm1):List Int × Int × Unit → Option (List Int × Unit)
 | (a0,a1,()) => bif decide (a1 < 0) then none else (ZAU k (UO.wrap (UJ a0.length),UO.wrap a1,())).bind fun y => bif decide ((0:Int) < y.1.1) then none else bif decide ((9223372036854775807:Int) < y.1.2.1) then none else bif decide (0 ≤ Jx.wrap y.1.2.1 ∧ Jx.wrap y.1.2.1 ≤ Jx.wrap y.1.2.1 ∧ Jx.wrap y.1.2.1 < 4294967296) then L1 (UJ (min a0.length ((Jd (Jx.wrap y.1.2.1).toNat (0:Int)).length - (0:Nat))),UR 0 (Jd (Jx.wrap y.1.2.1).toNat (0:Int)) ++ UR ((Jd (Jx.wrap y.1.2.1).toNat (0:Int)).length - (0:Nat)) a0 ++ US ((0:Nat) + min a0.length ((Jd (Jx.wrap y.1.2.1).toNat (0:Int)).length - (0:Nat))) (Jd (Jx.wrap y.1.2.1).toNat (0:Int))) else none
def ZAI (k:Nat):=ZfR k (Zm2 k)
theorem ZGs (k:Nat):∀ n,Zxf k n = Zh (fun L1 => ZfS k L1) n:=ZV
set_option maxHeartbeats 1000000 in
noncomputable def ZRB (k:Nat):ZI k:=Zv 169 Tryz.f169 (ZJi k) WF Zla ZAI (A:=ZJh) (live:=ZJj) (h:=fun x => by show _ = ZfR k (Zm2 k) x; rw [show Zm2 k = Zxf k k from (ZGs k k).symm]; kernel_rfl)
def ZkZ (k:Nat):(List Int × Int × Unit) × Int × Unit → Option ((Int × Int × Unit) × (List Int × Int × Unit) × Unit)
 | ((a0,a1,()),a2,()) => (Y5 k ((a0,a1,()),a2,())).bind fun y => bif y.1.2.1 == 0 then bif decide ((0:Int) < a2) then bif decide (0 ≤ Jx.wrap (a2 - 1)) then bif UT y.1.1 ((2:Int) ^ min (Jx.wrap (a2 - 1)).toNat 64) == (1:Int) then bif decide (0 ≤ a2) then some ((Jx.wrap (y.1.1 - Jx.wrap ((1:Int) * (2:Int) ^ min a2.toNat 64)),y.1.2.1,()),(y.2.1.1,y.2.1.2.1,()),()) else none else some ((y.1.1,y.1.2.1,()),(y.2.1.1,y.2.1.2.1,()),()) else none else some ((y.1.1,y.1.2.1,()),(y.2.1.1,y.2.1.2.1,()),()) else some ((y.1.1,y.1.2.1,()),(y.2.1.1,y.2.1.2.1,()),())
def Zus (k:Nat):=ZkZ k
set_option maxHeartbeats 1000000 in
noncomputable def ZJS (k:Nat):ZI k:=Zv 215 Tryz.f215 [Zg7 k] ZpX W0 Zus
abbrev ZDl:List Kd:=[.box [.ref [.view (.sl (.int .u8)),.view (.int .i64)],.view (.int .i64)],.view (.int .i64),.view (.int .i64)]
noncomputable def ZJl (k:Nat):List (ZI k):=[ZJS k]
def ZJk:Nat → Ann:=fun id => bif Ja id 3 then ⟨[9,10,0,2,7],[.slot 7 ((Ty.int Jx))]⟩ else ⟨[],[]⟩
abbrev ZDk:=Int × Int × Int × Int × List Int × Int × List Int
abbrev Zm3:=ZDk → Option (List Int × ((List Int × Int × Unit) × Int × Unit) × Unit)
def ZOs:ZDk → St
 | (v0,v1,v2,v3,v4,v5,v6) => St.mk (Zp [(9,Zf v0),(10,Zf v1),(0,AV.bx 0 0),(2,Zf v2),(7,AV.own 8192)]) (Zo [(0,QK [AV.bx 1 0,Zf v3]),(1,QK [AV.val (PV.sl (Ty.int UQ) v4),Zf v5]),(8192,rsA v6 false)])
def Zci (k:Nat) (L1:Zm3):Zm3
 | (v0,v1,v2,v3,v4,v5,v6) => bif decide (v1 < v0) then bif v3 == 0 then (Zus k ((v4,v5,()),v2,())).bind fun y => bif decide (v6.length + [y.1.1].length < 2147483648) then L1 (v0,Jx.wrap (v1 + 1),v2,y.1.2.1,y.2.1.1,y.2.1.2.1,v6 ++ [y.1.1]) else none else bif decide (v6.length + (1:Nat) < (2147483648:Nat)) then L1 (v0,Jx.wrap (v1 + 1),v2,v3,v4,v5,v6 ++ [(0:Int)]) else none else some (v6,((v4,v5,()),v3,()),())
def Zm4 (k:Nat):Zm3:=Zh (fun L1 => Zci k L1) k
noncomputable def Zxg (k:Nat) (n:Nat):=Wb (ZJl k) Tryz.f170 ZDl Zla [1,1,0,1,0] [] n ZOs (A:=ZJk) (a:=[AV.bx (nat_lit 0) (nat_lit 0)]) (b:=[[1]]) (q:=[0,1])
def ZfT (k:Nat) (L1:Zm3):((List Int × Int × Unit) × Int × Unit) × Int × Int × Unit → Option (List Int × ((List Int × Int × Unit) × Int × Unit) × Unit)
 | (((a0,a1,()),a2,()),a3,a4,()) => L1 (a3,(0:Int),a4,a2,a0,a1,[])
def Zda (k:Nat):=ZfT k (Zm4 k)
theorem ZGv (k:Nat):∀ n,Zxg k n = Zh (fun L1 => Zci k L1) n:=ZV
noncomputable def ZRC (k:Nat):ZI k:=Zv 170 Tryz.f170 (ZJl k) ZDl Zla Zda (A:=ZJk) (h:=fun x => by show _ = ZfT k (Zm4 k) x; rw [show Zm4 k = Zxg k k from (ZGv k k).symm]; kernel_rfl)
def Zk7 (k:Nat):Int × Unit → Option ((Int × Int × Unit) × Unit)
 | (a0,()) => bif decide (a0 < 0) then some ((0,12,()),()) else bif decide ((2199023255552:Int) < a0) then some ((0,12,()),()) else some ((Jx.wrap (UJ (UN 64 (a0.fdiv (2:Int)) ^^^ UN 64 (Jx.wrap ((0:Int) - Jx.wrap (UJ (UN 64 a0 &&& UN 64 (1:Int)).toNat)))).toNat),0,()),())
def ZA4 (k:Nat):=Zk7 k
noncomputable def ZR8 (k:Nat):ZI k:=Zv 268 Tryz.f268 [] QG W0 ZA4
def Zk4 (k:Nat):(List Int × Int × Unit) × Int × Unit → Option ((Int × Int × Unit) × (List Int × Int × Unit) × Unit)
 | ((a0,a1,()),a2,()) => (ZoI k ((a0,a1,()),())).bind fun y => bif y.1.2.1 != 0 then some ((0,y.1.2.1,()),(y.2.1.1,y.2.1.2.1,()),()) else (Y5 k ((y.2.1.1,y.2.1.2.1,()),a2,())).bind fun y_1 => bif y_1.1.2.1 != 0 then some ((0,y_1.1.2.1,()),(y_1.2.1.1,y_1.2.1.2.1,()),()) else bif decide (0 ≤ a2) then bif decide (4294967295 ≤ Jx.wrap (UJ (UN 64 (Jx.wrap (y.1.1 * (2:Int) ^ min a2.toNat 64)) ||| UN 64 y_1.1.1).toNat)) then some ((0,12,()),(y_1.2.1.1,y_1.2.1.2.1,()),()) else (ZA4 k (Jx.wrap (UJ (UN 64 (Jx.wrap (y.1.1 * (2:Int) ^ min a2.toNat 64)) ||| UN 64 y_1.1.1).toNat),())).bind fun y => some ((y.1.1,y.1.2.1,()),(y_1.2.1.1,y_1.2.1.2.1,()),()) else none
def ZA0 (k:Nat):=Zk4 k
set_option maxHeartbeats 1000000 in
noncomputable def ZR4 (k:Nat):ZI k:=Zv 255 Tryz.f255 [Zg7 k,ZJf k,ZR8 k] ZpX W0 ZA0
abbrev ZDB:List Kd:=[.box [.ref [.view (.sl (.int .u8)),.view (.int .i64)]],.box [.view (.int .i64)]]
def Zk3 (k:Nat):((List Int × Int × Unit) × Unit) × (Int × Unit) × Unit → Option ((Int × Int × Unit) × ((List Int × Int × Unit) × Unit) × (Int × Unit) × Unit)
 | (((a0,a1,()),()),(a2,()),()) => (ZA0 k ((a0,a1,()),a2,())).bind fun y => some ((y.1.1,y.1.2.1,()),((y.2.1.1,y.2.1.2.1,()),()),(a2,()),())
def ZAZ (k:Nat):=Zk3 k
noncomputable def ZR2 (k:Nat):ZI k:=Zv 254 Tryz.f254 [ZR4 k] ZDB W0 ZAZ
def Zk5 (k:Nat):((List Int × Int × Unit) × Unit) × (Int × Unit) × Unit → Option ((Int × Int × Unit) × ((List Int × Int × Unit) × Unit) × (Int × Unit) × Unit)
 | (((a0,a1,()),()),(a2,()),()) => (Zus k ((a0,a1,()),a2,())).bind fun y => some ((y.1.1,y.1.2.1,()),((y.2.1.1,y.2.1.2.1,()),()),(a2,()),())
def ZA1 (k:Nat):=Zk5 k
noncomputable def ZR5 (k:Nat):ZI k:=Zv 256 Tryz.f256 [ZJS k] ZDB W0 ZA1
abbrev Zdd:List Kd:=[.box [.view (.sl (.int .u8)),.view (.int .i64)],.view (.int .i64),.view (.int .i64)]
noncomputable def ZAW (k:Nat):List (ZI k):=[Zuf k,Zug k,Zg7 k,ZR2 k,ZR5 k]
noncomputable def ZAV:Nat → Ann:=fun id => bif Ja id 12 then ⟨[40,41,10,13],[.slot 13 ((Ty.int Jx))]⟩ else ⟨[],[]⟩
abbrev Zbs:=ZpO → Option ((List Int × Int × Unit) × (List Int × Int × Unit) × Unit)
noncomputable def ZOD:ZpO → St
 | (v0,v1,v2,v3,v4,v5) => St.mk (Zp [(40,Zf v0),(41,Zf v1),(10,AV.clo 256 [AV.bx 8192 0,AV.bx 8193 0]),(13,AV.own 8194)]) (Zo [(0,QK [AV.val (PV.sl (Ty.int UQ) v2),Zf v3]),(8192,QK [AV.bx 0 0]),(8193,QK [Zf v4]),(8194,rsA v5 false)])
noncomputable def Zcr (k:Nat) (L1:Zbs):Zbs
 | (v0,v1,v2,v3,v4,v5) => bif decide (v1 < v0) then (ZA1 k (((v2,v3,()),()),(v4,()),())).bind fun y => bif y.1.2.1 != 0 then some (([],y.1.2.1,()),(y.2.1.1.1,y.2.1.1.2.1,()),()) else bif decide (v5.length + [y.1.1].length < 2147483648) then L1 (v0,Jx.wrap (v1 + 1),y.2.1.1.1,y.2.1.1.2.1,y.2.2.1.1,v5 ++ [y.1.1]) else none else some ((v5,0,()),(v2,v3,()),())
noncomputable def Znk (k:Nat):Zbs:=Zh (fun L1 => Zcr k L1) k
noncomputable def ZxC (k:Nat) (n:Nat):=Wb (ZAW k) Tryz.f218 Zdd YH [1,1,1,1,1,1,0,1,0] [] n ZOD (A:=ZAV) (a:=[AV.bx (nat_lit 0) (nat_lit 0)]) (b:=[[]]) (q:=[0])
noncomputable def ZOE:ZpO → St
 | (v0,v1,v2,v3,v4,v5) => St.mk (Zp [(40,Zf v0),(41,Zf v1),(10,AV.clo 254 [AV.bx 8192 0,AV.bx 8193 0]),(13,AV.own 8194)]) (Zo [(0,QK [AV.val (PV.sl (Ty.int UQ) v2),Zf v3]),(8192,QK [AV.bx 0 0]),(8193,QK [Zf v4]),(8194,rsA v5 false)])
noncomputable def Zcs (k:Nat) (L2:Zbs):Zbs
 | (v0,v1,v2,v3,v4,v5) => bif decide (v1 < v0) then (ZAZ k (((v2,v3,()),()),(v4,()),())).bind fun y => bif y.1.2.1 != 0 then some (([],y.1.2.1,()),(y.2.1.1.1,y.2.1.1.2.1,()),()) else bif decide (v5.length + [y.1.1].length < 2147483648) then L2 (v0,Jx.wrap (v1 + 1),y.2.1.1.1,y.2.1.1.2.1,y.2.2.1.1,v5 ++ [y.1.1]) else none else some ((v5,0,()),(v2,v3,()),())
noncomputable def Zih (k:Nat):Zbs:=Zh (fun L2 => Zcs k L2) k
noncomputable def ZxD (k:Nat) (n:Nat):=Wb (ZAW k) Tryz.f218 Zdd YH [1,1,1,1,1,1,0,1,0] [] n ZOE (A:=ZAV) (a:=[AV.bx (nat_lit 0) (nat_lit 0)]) (b:=[[]]) (q:=[0])
noncomputable def Zf3 (k:Nat) (L1:Zbs) (L2:Zbs):(List Int × Int × Unit) × Int × Int × Unit → Option ((List Int × Int × Unit) × (List Int × Int × Unit) × Unit)
 | ((a0,a1,()),a2,a3,()) => (Zg5 k (a2,())).bind fun y => (Y5 k ((a0,a1,()),y.1,())).bind fun y => bif y.1.2.1 != 0 then some (([],y.1.2.1,()),(y.2.1.1,y.2.1.2.1,()),()) else (ZbS k (a2,())).bind fun y_1 => bif y.1.1 == y_1.1 then (Y5 k ((y.2.1.1,y.2.1.2.1,()),5,())).bind fun y => bif y.1.2.1 != 0 then some (([],y.1.2.1,()),(y.2.1.1,y.2.1.2.1,()),()) else L1 (a3,(0:Int),y.2.1.1,y.2.1.2.1,y.1.1,[]) else L2 (a3,(0:Int),y.2.1.1,y.2.1.2.1,y.1.1,[])
noncomputable def ZoX (k:Nat):=Zf3 k (Znk k) (Zih k)
theorem ZGV (k:Nat):∀ n,ZxC k n = Zh (fun L1 => Zcr k L1) n:=ZV
theorem ZGW (k:Nat):∀ n,ZxD k n = Zh (fun L2 => Zcs k L2) n:=ZV
set_option maxHeartbeats 1000000 in
noncomputable def ZRS (k:Nat):ZI k:=Zv 218 Tryz.f218 (ZAW k) Zdd YH ZoX (A:=ZAV) (h:=fun x => by show _ = Zf3 k (Znk k) (Zih k) x; rw [show Znk k = ZxC k k from (ZGV k k).symm,show Zih k = ZxD k k from (ZGW k k).symm]; kernel_rfl)
noncomputable def ZJn (k:Nat):List (ZI k):=[Zg7 k,ZJP k,ZAQ k,ZRS k]
def ZJm:Nat → Ann:=fun id => bif Ja id 15 then ⟨[52,53,1,10,2,0,8,11],[.slot 11 ((Ty.int Jx))]⟩ else ⟨[],[]⟩
abbrev ZDm:=Int × Int × Int × Int × Int × Int × List Int × Int × List Int
abbrev Zm5:=ZDm → Option ((List Int × Int × Unit) × (List Int × Int × Unit) × Unit)
def ZOt:ZDm → St
 | (v0,v1,v2,v3,v4,v5,v6,v7,v8) => St.mk (Zp [(52,Zf v0),(53,Zf v1),(1,Zf v2),(10,Zf v3),(2,Zf v4),(0,AV.bx 0 0),(8,Zf v5),(11,AV.own 8192)]) (Zo [(0,QK [AV.val (PV.sl (Ty.int UQ) v6),Zf v7]),(8192,rsA v8 false)])
noncomputable def Zah (k:Nat) (L1:Zm5):Zm5
 | (v0,v1,v2,v3,v4,v5,v6,v7,v8) => bif decide (v1 < v0) then bif decide (0 ≤ v3) then bif v1 == 0 then (ZoX k ((v6,v7,()),v5,Jx.wrap (v2.fdiv ((2:Int) ^ min v3.toNat 64) - v4),())).bind fun y => bif y.1.2.1 != 0 then some (([],y.1.2.1,()),(y.2.1.1,y.2.1.2.1,()),()) else bif decide (v8.length + UP y.1.1 < 2147483648) then L1 (v0,Jx.wrap (v1 + 1),v2,v3,v4,v5,y.2.1.1,y.2.1.2.1,v8 ++ y.1.1) else none else (ZoX k ((v6,v7,()),v5,v2.fdiv ((2:Int) ^ min v3.toNat 64),())).bind fun y => bif y.1.2.1 != 0 then some (([],y.1.2.1,()),(y.2.1.1,y.2.1.2.1,()),()) else bif decide (v8.length + UP y.1.1 < 2147483648) then L1 (v0,Jx.wrap (v1 + 1),v2,v3,v4,v5,y.2.1.1,y.2.1.2.1,v8 ++ y.1.1) else none else none else some ((v8,0,()),(v6,v7,()),())
noncomputable def Zm6 (k:Nat):Zm5:=Zh (fun L1 => Zah k L1) k
noncomputable def Zxh (k:Nat) (n:Nat):=Wb (ZJn k) Tryz.f172 Zdd YH [1,1,1,1,1,1,1,0,1,0] [] n ZOt (A:=ZJm) (a:=[AV.bx (nat_lit 0) (nat_lit 0)]) (b:=[[]]) (q:=[0])
def ZfU (k:Nat) (L1:Zm5):(List Int × Int × Unit) × Int × Int × Unit → Option ((List Int × Int × Unit) × (List Int × Int × Unit) × Unit)
 | ((a0,a1,()),a2,a3,()) => (Zuo k (a2,a3,())).bind fun y => bif !y.1 then some (([],1,()),(a0,a1,()),()) else (Y5 k ((a0,a1,()),2,())).bind fun y => bif y.1.2.1 != 0 then some (([],y.1.2.1,()),(y.2.1.1,y.2.1.2.1,()),()) else bif decide ((1:Int) < y.1.1) then some (([],2,()),(y.2.1.1,y.2.1.2.1,()),()) else (Y5 k ((y.2.1.1,y.2.1.2.1,()),4,())).bind fun y_1 => bif y_1.1.2.1 != 0 then some (([],y_1.1.2.1,()),(y_1.2.1.1,y_1.2.1.2.1,()),()) else (Zeu k (a2,a3,y_1.1.1,())).bind fun y_2 => bif !y_2.1 then some (([],2,()),(y_1.2.1.1,y_1.2.1.2.1,()),()) else bif decide ((0:Int) ≤ y_1.1.1) then L1 (Jx.wrap ((1:Int) * (2:Int) ^ min (UV y_1.1.1) (64:Nat)),(0:Int),a2,y_1.1.1,a3,y.1.1,y_1.2.1.1,y_1.2.1.2.1,[]) else none
noncomputable def Zes (k:Nat):=ZfU k (Zm6 k)
theorem ZGw (k:Nat):∀ n,Zxh k n = Zh (fun L1 => Zah k L1) n:=ZV
set_option maxHeartbeats 1000000 in
noncomputable def ZRD (k:Nat):ZI k:=Zv 172 Tryz.f172 (ZJn k) Zdd YH Zes (A:=ZJm) (h:=fun x => by show _ = ZfU k (Zm6 k) x; rw [show Zm6 k = Zxh k k from (ZGw k k).symm]; kernel_rfl)
abbrev ZDo:List Kd:=[.view Zhp,.view (.sl (.int .i64)),.view (.sl (.int .i64))]
noncomputable def ZJp (k:Nat):List (ZI k):=[ZoC k,ZAN k,ZJN k,ZJU k,ZJW k]
def ZJo:Nat → Ann:=fun id => bif Ja id 9 then ⟨[32,33,31,3,8],[.«show» 8]⟩ else ⟨[],[]⟩
abbrev ZDn:=Int × Int × List Int × List Int × Int × List Int
abbrev Zm7:=ZDn → Option ((List Int × Int × Unit) × Unit)
def ZOu:ZDn → St
 | (v0,v1,v2,v3,v4,v5) => St.mk (Zp [(32,Zf v0),(33,Zf v1),(31,X6 v2),(3,AV.bx 8192 0),(8,AV.own 8193)]) (Zo [(8192,QK [X6 v3,Zf v4]),(8193,rsA v5 true)])
def Zck (k:Nat) (L1:Zm7):Zm7
 | (v0,v1,v2,v3,v4,v5) => bif decide (v1 < v0) then bif decide (0 ≤ v1 ∧ v1 < UJ v2.length) then (Zuu k ((v3,v4,()),v5,())).bind fun y => (ZoU k (Jx.wrap (v2.getD v1.toNat 0 + y.1),())).bind fun y_1 => bif y_1.1 then some (([],12,()),()) else bif decide (v5.length + [Jx.wrap (v2.getD v1.toNat 0 + y.1)].length < 2147483648) then L1 (v0,Jx.wrap (v1 + 1),v2,v3,v4,v5 ++ [Jx.wrap (v2.getD v1.toNat 0 + y.1)]) else none else none else some ((v5,0,()),())
def Zm8 (k:Nat):Zm7:=Zh (fun L1 => Zck k L1) k
noncomputable def Zxi (k:Nat) (n:Nat):=Wb (ZJp k) Tryz.f173 ZDo YH [1,1,1,0,1,0] [] n ZOu (A:=ZJo)
def ZfV (k:Nat) (L1:Zm7):(List Int × Int × Unit) × List Int × List Int × Unit → Option ((List Int × Int × Unit) × Unit)
 | ((a0,a1,()),a2,a3,()) => (Zut k ((a0,a1,()),())).bind fun y => bif y.1 != 0 then some (([],2,()),()) else bif UJ a2.length != UJ a0.length then some (([],1,()),()) else (Zb6 k (a2,(),())).bind fun y => bif y.1 then some (([],12,()),()) else (Zb6 k (a3,(),())).bind fun y => bif y.1 then some (([],12,()),()) else (ZkU k (a2,())).bind fun y => L1 (UJ a3.length,(0:Int),a3,a0,a1,y.1)
def Zet (k:Nat):=ZfV k (Zm8 k)
theorem ZGz (k:Nat):∀ n,Zxi k n = Zh (fun L1 => Zck k L1) n:=ZV
set_option maxHeartbeats 1000000 in
noncomputable def ZRE (k:Nat):ZI k:=Zv 173 Tryz.f173 (ZJp k) ZDo YH Zet (A:=ZJo) (h:=fun x => by show _ = ZfV k (Zm8 k) x; rw [show Zm8 k = Zxi k k from (ZGz k k).symm]; kernel_rfl)
abbrev ZSG:List Kd:=[.box [.ref [.view (.sl (.int .u8)),.view (.int .i64)],.view (.int .i64)],.view (.int .i64),.view (.int .i64),.view (.int .i64)]
noncomputable def ZpV (k:Nat):((List Int × Int × Unit) × Int × Unit) × Int × Int × Int × Unit → Option (List Int × ((List Int × Int × Unit) × Int × Unit) × Unit)
 | (((a0,a1,()),a2,()),a3,a4,a5,()) => bif a3 == 0 then (Zda k (((a0,a1,()),a2,()),1,a5,())).bind fun y => (ZAI k (y.1,a4,())).bind fun y_1 => some (y_1.1,((y.2.1.1.1,y.2.1.1.2.1,()),y.2.1.2.1,()),()) else bif a3 == 1 then (Zda k (((a0,a1,()),a2,()),a4,a5,())).bind fun y => some (y.1,((y.2.1.1.1,y.2.1.1.2.1,()),y.2.1.2.1,()),()) else bif decide ((31:Int) < a3) then (Xo k (((a0,a1,()),a2,()),decide (Jx.wrap (a3 - 31) ≤ a4),())).bind fun y => bif y.2.1.2.1 != 0 then some ([],((y.2.1.1.1,y.2.1.1.2.1,()),y.2.1.2.1,()),()) else (Zda k (((y.2.1.1.1,y.2.1.1.2.1,()),y.2.1.2.1,()),Jx.wrap (a3 - 31),a5,())).bind fun y => (Zkq k (if (4:Int) < Jx.wrap (a3 - 31) then (4:Int) else Jx.wrap (a3 - 31),())).bind fun y_1 => bif decide ((31:Int) < a3) then (K0 k (((y.2.1.1.1,y.2.1.1.2.1,()),y.2.1.2.1,()),4,())).bind fun y_2 => (Xo k (((y_2.2.1.1.1,y_2.2.1.1.2.1,()),y_2.2.1.2.1,()),y_2.1 == 11,())).bind fun y_3 => (K0 k (((y_3.2.1.1.1,y_3.2.1.1.2.1,()),y_3.2.1.2.1,()),5,())).bind fun y_4 => (Xo k (((y_4.2.1.1.1,y_4.2.1.1.2.1,()),y_4.2.1.2.1,()),decide (y_4.1 ≤ 15),())).bind fun y_5 => (Zda k (((y_5.2.1.1.1,y_5.2.1.1.2.1,()),y_5.2.1.2.1,()),Jx.wrap (a3 - 31),12,())).bind fun y_6 => bif y_6.2.1.2.1 != 0 then some ([],((y_6.2.1.1.1,y_6.2.1.1.2.1,()),y_6.2.1.2.1,()),()) else (Zes k ((y_6.2.1.1.1,y_6.2.1.1.2.1,()),a4,Jx.wrap (a3 - 31),())).bind fun y_7 => bif y_7.1.2.1 != 0 then some ([],((y_7.2.1.1,y_7.2.1.2.1,()),y_7.1.2.1,()),()) else (Zet k ((y_6.1,y_4.1,()),y.1,y_7.1.1,())).bind fun y => some (y.1.1,((y_7.2.1.1,y_7.2.1.2.1,()),y.1.2.1,()),()) else bif y.2.1.2.1 != 0 then some ([],((y.2.1.1.1,y.2.1.1.2.1,()),y.2.1.2.1,()),()) else (Zes k ((y.2.1.1.1,y.2.1.1.2.1,()),a4,Jx.wrap (a3 - 31),())).bind fun y_2 => bif y_2.1.2.1 != 0 then some ([],((y_2.2.1.1,y_2.2.1.2.1,()),y_2.1.2.1,()),()) else (Zet k ((y_1.1.1.1,y_1.1.1.2.1,()),y.1,y_2.1.1,())).bind fun y => some (y.1.1,((y_2.2.1.1,y_2.2.1.2.1,()),y.1.2.1,()),()) else (Xo k (((a0,a1,()),a2,()),decide (Jx.wrap (a3 - 8) ≤ a4),())).bind fun y => bif y.2.1.2.1 != 0 then some ([],((y.2.1.1.1,y.2.1.1.2.1,()),y.2.1.2.1,()),()) else (Zda k (((y.2.1.1.1,y.2.1.1.2.1,()),y.2.1.2.1,()),Jx.wrap (a3 - 8),a5,())).bind fun y => (Zkq k (if (4:Int) < Jx.wrap (a3 - 8) then (4:Int) else Jx.wrap (a3 - 8),())).bind fun y_1 => bif decide ((31:Int) < a3) then (K0 k (((y.2.1.1.1,y.2.1.1.2.1,()),y.2.1.2.1,()),4,())).bind fun y_2 => (Xo k (((y_2.2.1.1.1,y_2.2.1.1.2.1,()),y_2.2.1.2.1,()),y_2.1 == 11,())).bind fun y_3 => (K0 k (((y_3.2.1.1.1,y_3.2.1.1.2.1,()),y_3.2.1.2.1,()),5,())).bind fun y_4 => (Xo k (((y_4.2.1.1.1,y_4.2.1.1.2.1,()),y_4.2.1.2.1,()),decide (y_4.1 ≤ 15),())).bind fun y_5 => (Zda k (((y_5.2.1.1.1,y_5.2.1.1.2.1,()),y_5.2.1.2.1,()),Jx.wrap (a3 - 8),12,())).bind fun y_6 => bif y_6.2.1.2.1 != 0 then some ([],((y_6.2.1.1.1,y_6.2.1.1.2.1,()),y_6.2.1.2.1,()),()) else (Zes k ((y_6.2.1.1.1,y_6.2.1.1.2.1,()),a4,Jx.wrap (a3 - 8),())).bind fun y_7 => bif y_7.1.2.1 != 0 then some ([],((y_7.2.1.1,y_7.2.1.2.1,()),y_7.1.2.1,()),()) else (Zet k ((y_6.1,y_4.1,()),y.1,y_7.1.1,())).bind fun y => some (y.1.1,((y_7.2.1.1,y_7.2.1.2.1,()),y.1.2.1,()),()) else bif y.2.1.2.1 != 0 then some ([],((y.2.1.1.1,y.2.1.1.2.1,()),y.2.1.2.1,()),()) else (Zes k ((y.2.1.1.1,y.2.1.1.2.1,()),a4,Jx.wrap (a3 - 8),())).bind fun y_2 => bif y_2.1.2.1 != 0 then some ([],((y_2.2.1.1,y_2.2.1.2.1,()),y_2.1.2.1,()),()) else (Zet k ((y_1.1.1.1,y_1.1.1.2.1,()),y.1,y_2.1.1,())).bind fun y => some (y.1.1,((y_2.2.1.1,y_2.2.1.2.1,()),y.1.2.1,()),())
noncomputable def ZMh (k:Nat):=ZpV k
set_option maxHeartbeats 1000000 in
noncomputable def ZT4 (k:Nat):ZI k:=Zv 124 Tryz.f124 [ZAC k,ZJc k,ZJd k,ZRB k,ZRC k,ZRD k,ZRE k] ZSG Zla ZMh
noncomputable def ZQq (k:Nat):List (ZI k):=[ZQR k,ZT3 k,ZT4 k,ZQT k]
def ZQp:Nat → Ann:=fun id => bif Ja id 12 then ⟨[58,59,57,2,10,12],[.slot 12 ((Ty.int Jx))]⟩ else ⟨[],[]⟩
abbrev ZLi:=Int × Int × List Int × Int × Int × List Int × Int × List Int
abbrev Zvc:=ZLi → Option ((List Int × Int × Unit) × (List Int × Int × Unit) × Unit)
def ZSl:ZLi → St
 | (v0,v1,v2,v3,v4,v5,v6,v7) => St.mk (Zp [(58,Zf v0),(59,Zf v1),(57,X6 v2),(2,Zf v3),(10,Zf v4),(12,AV.own 8192)]) (Zo [(0,QK [AV.val (PV.sl (Ty.int UQ) v5),Zf v6]),(8192,rsA v7 false)])
def ZeN (k:Nat) (L1:Zvc):Zvc
 | (v0,v1,v2,v3,v4,v5,v6,v7) => bif decide (v1 < v0) then bif decide (0 ≤ v1 ∧ v1 < UJ v2.length) then (ZEN k (v2.getD v1.toNat 0,Jx.wrap (v3 - v4),())).bind fun y => bif !y.1 then some (([],12,()),(v5,v6,()),()) else bif decide (0 ≤ v4) then bif decide (v7.length + [Jx.wrap (v2.getD v1.toNat 0 * (2:Int) ^ min v4.toNat 64)].length < 2147483648) then L1 (v0,Jx.wrap (v1 + 1),v2,v3,v4,v5,v6,v7 ++ [Jx.wrap (v2.getD v1.toNat 0 * (2:Int) ^ min v4.toNat 64)]) else none else none else none else some ((v7,0,()),(v5,v6,()),())
def Zvd (k:Nat):Zvc:=Zh (fun L1 => ZeN k L1) k
noncomputable def ZEp (k:Nat) (n:Nat):=Wb (ZQq k) Tryz.f58 Zdd YH [1,1,1,1,1,1,1,1,0,1,0] [] n ZSl (A:=ZQp) (a:=[AV.bx (nat_lit 0) (nat_lit 0)]) (b:=[[]]) (q:=[0])
noncomputable def Zi9 (k:Nat) (L1:Zvc):(List Int × Int × Unit) × Int × Int × Unit → Option ((List Int × Int × Unit) × (List Int × Int × Unit) × Unit)
 | ((a0,a1,()),a2,a3,()) => (ZEM k (a2,a3,())).bind fun y => bif !y.1 then some (([],1,()),(a0,a1,()),()) else (ZMf k (((a0,a1,()),0,()),a3,())).bind fun y => bif y.2.1.2.1 != 0 then some (([],y.2.1.2.1,()),(y.2.1.1.1,y.2.1.1.2.1,()),()) else (ZMh k (((y.2.1.1.1,y.2.1.1.2.1,()),y.2.1.2.1,()),y.1.1,a2,Jx.wrap (a3 - y.1.2.1),())).bind fun y_1 => bif y_1.2.1.2.1 != 0 then some (([],y_1.2.1.2.1,()),(y_1.2.1.1.1,y_1.2.1.1.2.1,()),()) else L1 (UJ (UP y_1.1),(0:Int),y_1.1,a3,y.1.2.1,y_1.2.1.1.1,y_1.2.1.1.2.1,[])
noncomputable def ZLh (k:Nat):=Zi9 k (Zvd k)
theorem ZLj (k:Nat):∀ n,ZEp k n = Zh (fun L1 => ZeN k L1) n:=ZV
set_option maxHeartbeats 1000000 in
noncomputable def ZTQ (k:Nat):ZI k:=Zv 58 Tryz.f58 (ZQq k) Zdd YH ZLh (A:=ZQp) (h:=fun x => by show _ = Zi9 k (Zvd k) x; rw [show Zvd k = ZEp k k from (ZLj k k).symm]; kernel_rfl)
noncomputable def ZQs (k:Nat):List (ZI k):=[ZMj k]
def ZQr:Nat → Ann:=fun id => bif Ja id 5 then ⟨[4,3,0],[]⟩ else ⟨[],[]⟩
abbrev Zve:=Yx → Option (Int × (List Int × Int × Unit) × Unit)
def ZSm:Yx → St
 | (v0,v1,v2,v3) => St.mk (Zp [(4,Zf v0),(3,Zf v1),(0,AV.bx 0 0)]) (Zo [(0,QK [AV.val (PV.sl (Ty.int UQ) v2),Zf v3])])
def ZeO (k:Nat) (L1:Zve):Zve
 | (v0,v1,v2,v3) => bif decide (v0 < v1) then (ZyK k ((v2,v3,()),v0,())).bind fun y => bif y.1 == 1 then some (2,(y.2.1.1,y.2.1.2.1,()),()) else L1 (Jx.wrap (v0 + 1),v1,y.2.1.1,y.2.1.2.1) else some (0,(v2,v1,()),())
def Zvf (k:Nat):Zve:=Zh (fun L1 => ZeO k L1) k
noncomputable def ZEq (k:Nat) (n:Nat):=Wb (ZQs k) Tryz.f59 Zlb ZB [1,1,1,0,1,0] [] n ZSm (A:=ZQr) (a:=[AV.bx (nat_lit 0) (nat_lit 0)]) (b:=[[]]) (q:=[0])
def Zja (k:Nat) (L1:Zve):(List Int × Int × Unit) × Unit → Option (Int × (List Int × Int × Unit) × Unit)
 | ((a0,a1,()),()) => L1 (a1,Jx.wrap (UJ (UN 64 (Jx.wrap (a1 + 7)) &&& ~~~UN 64 (7:Int)).toNat),a0,a1)
def ZLl (k:Nat):=Zja k (Zvf k)
theorem ZLm (k:Nat):∀ n,ZEq k n = Zh (fun L1 => ZeO k L1) n:=ZV
noncomputable def ZTR (k:Nat):ZI k:=Zv 59 Tryz.f59 (ZQs k) Zlb ZB ZLl (A:=ZQr) (h:=fun x => by show _ = Zja k (Zvf k) x; rw [show Zvf k = ZEq k k from (ZLm k k).symm]; kernel_rfl)
abbrev ZIW:List Kd:=[.box [.view (.sl (.int .u8)),.ref [.view (.sl (.int .u8)),.view (.int .i64)],.view (.int .i64)],.view (.int .i64),.fn 61]
def Zg4 (k:Nat):(List Int × (List Int × Int × Unit) × Int × Unit) × Int × Unit × Unit → Option (Unit × (List Int × (List Int × Int × Unit) × Int × Unit) × Unit)
 | ((a0,(a1,a2,()),a3,()),a4,(),()) => (ZaU k ((a1,a2,()),())).bind fun y => (WO k ((a0,(y.2.1.1,y.2.1.2.1,()),a3,()),a4,())).bind fun y_1 => bif y_1.2.1.2.2.1 != 0 then (Wg k ((y_1.2.1.1,(y_1.2.1.2.1.1,y_1.2.1.2.1.2.1,()),y_1.2.1.2.2.1,()),true,16,())).bind fun y => some ((),(y.2.1.1,(y.2.1.2.1.1,y.2.1.2.1.2.1,()),y.2.1.2.2.1,()),()) else bif decide ((0:Int) ≤ 0 ∧ (0:Int) ≤ Jx.wrap (UU y.1 (8:Int)) ∧ Jx.wrap (UU y.1 (8:Int)) ≤ UJ (UP y_1.2.1.1)) then (ZEn k (US 0 (UR (Jx.wrap (UU y.1 (8:Int))).toNat y_1.2.1.1),())).bind fun y => (Wg k ((y_1.2.1.1,(y_1.2.1.2.1.1,y_1.2.1.2.1.2.1,()),y_1.2.1.2.2.1,()),y_1.1 == y.1,16,())).bind fun y => some ((),(y.2.1.1,(y.2.1.2.1.1,y.2.1.2.1.2.1,()),y.2.1.2.2.1,()),()) else none
def Zt1 (k:Nat):=Zg4 k
set_option maxHeartbeats 1000000 in
noncomputable def ZN6 (k:Nat):ZI k:=Zv 60 Tryz.f60 [Zyw k,ZEJ k,ZEK k,ZQn k] ZIW Ks Zt1
abbrev ZLr:List Kd:=[.view (.sl (.int .i64)),.view (.sl (.int .i64)),.view (.int .i64)]
noncomputable def ZQu (k:Nat):List (ZI k):=[ZQy k,ZQU k]
def ZQt:Nat → Ann:=fun id => bif Ja id 7 then ⟨[36,37,35,1,2,8,9],[]⟩ else ⟨[],[]⟩
abbrev ZLp:=Int × Int × List Int × List Int × Int × List Int × List Int
abbrev Zvg:=ZLp → Option ((List (Nat × Nat) × Int × Unit) × Unit)
def ZSo:ZLp → St
 | (v0,v1,v2,v3,v4,v5,v6) => St.mk (Zp [(36,Zf v0),(37,Zf v1),(35,X6 v2),(1,X6 v3),(2,Zf v4),(8,AV.own 8192),(9,AV.own 8193)]) (Zo [(8192,rsA v5 false),(8193,rsA v6 false)])
def ZcC (k:Nat) (L1:Zvg):Zvg
 | (v0,v1,v2,v3,v4,v5,v6) => bif decide (v1 < v0) then bif decide (0 ≤ v1 ∧ v1 < UJ v2.length) then bif decide (0 ≤ v1 ∧ v1 < UJ v3.length) then bif decide ((if v3.getD v1.toNat 0 < v2.getD v1.toNat 0 then v3.getD v1.toNat 0 else v2.getD v1.toNat 0) < -67108864) then some (([],12,()),()) else bif decide ((67108864:Int) < if v2.getD v1.toNat 0 < v3.getD v1.toNat 0 then v3.getD v1.toNat 0 else v2.getD v1.toNat 0) then some (([],12,()),()) else bif v4 == 0 then bif decide (0 ≤ v1 ∧ v1 < UJ v5.length) then bif decide (v1.toNat < v5.length) then bif decide (0 ≤ v1 ∧ v1 < UJ v6.length) then bif decide (v1.toNat < v6.length) then L1 (v0,Jx.wrap (v1 + 1),v2,v3,v4,v5.set v1.toNat (v2.getD v1.toNat 0),v6.set v1.toNat (v3.getD v1.toNat 0)) else none else none else none else none else bif v4 == 8 then bif decide (0 ≤ v1 ∧ v1 < UJ v5.length) then bif decide (v1.toNat < v5.length) then bif decide (0 ≤ v1 ∧ v1 < UJ v6.length) then bif decide (v1.toNat < v6.length) then L1 (v0,Jx.wrap (v1 + 1),v2,v3,v4,v5.set v1.toNat (v2.getD v1.toNat 0),v6.set v1.toNat (Jx.wrap (v2.getD v1.toNat 0 - v3.getD v1.toNat 0))) else none else none else none else none else bif v4 == 9 then bif decide (0 ≤ v1 ∧ v1 < UJ v5.length) then bif decide (v1.toNat < v5.length) then bif decide (0 ≤ v1 ∧ v1 < UJ v6.length) then bif decide (v1.toNat < v6.length) then L1 (v0,Jx.wrap (v1 + 1),v2,v3,v4,v5.set v1.toNat (Jx.wrap (v2.getD v1.toNat 0 + v3.getD v1.toNat 0)),v6.set v1.toNat (v3.getD v1.toNat 0)) else none else none else none else none else bif v4 == 10 then bif decide (0 ≤ v1 ∧ v1 < UJ v5.length) then bif decide (v1.toNat < v5.length) then bif decide (0 ≤ v1 ∧ v1 < UJ v6.length) then bif decide (v1.toNat < v6.length) then L1 (v0,Jx.wrap (v1 + 1),v2,v3,v4,v5.set v1.toNat ((Jx.wrap (Jx.wrap (UJ (UN 64 (Jx.wrap (v2.getD v1.toNat 0 * (2:Int))) ||| UN 64 (Jx.wrap (UJ (UN 64 (v3.getD v1.toNat 0) &&& UN 64 (1:Int)).toNat))).toNat) + v3.getD v1.toNat 0)).fdiv (2:Int)),v6.set v1.toNat ((Jx.wrap (Jx.wrap (UJ (UN 64 (Jx.wrap (v2.getD v1.toNat 0 * (2:Int))) ||| UN 64 (Jx.wrap (UJ (UN 64 (v3.getD v1.toNat 0) &&& UN 64 (1:Int)).toNat))).toNat) - v3.getD v1.toNat 0)).fdiv (2:Int))) else none else none else none else none else L1 (v0,Jx.wrap (v1 + 1),v2,v3,v4,v5,v6) else none else none else (Zyx k (v5,v6,())).bind fun y => some ((y.1.1,y.1.2.1,()),())
def Zvh (k:Nat):Zvg:=Zh (fun L1 => ZcC k L1) k
noncomputable def ZEr (k:Nat) (n:Nat):=Wb (ZQu k) Tryz.f62 ZLr Zvm [1,1,1,0,1,0] [] n ZSo (A:=ZQt)
def Zjb (k:Nat) (L1:Zvg):List Int × List Int × Int × Unit → Option ((List (Nat × Nat) × Int × Unit) × Unit)
 | (a0,a1,a2,()) => (ZEO k (a2,())).bind fun y => bif !y.1 then some (([],1,()),()) else bif UJ a0.length != UJ a1.length then some (([],1,()),()) else bif decide ((8192:Int) < UJ a0.length) then some (([],14,()),()) else bif decide ((0:Int) ≤ UJ a0.length ∧ UJ a0.length ≤ UJ a0.length ∧ UJ a0.length < (4294967296:Int)) then bif decide ((0:Int) ≤ UJ a0.length ∧ UJ a0.length ≤ UJ a0.length ∧ UJ a0.length < (4294967296:Int)) then L1 (UJ a0.length,(0:Int),a0,a1,a2,Jd (UJ a0.length).toNat (0:Int),Jd (UJ a0.length).toNat (0:Int)) else none else none
def Zyu (k:Nat):=Zjb k (Zvh k)
theorem ZLq (k:Nat):∀ n,ZEr k n = Zh (fun L1 => ZcC k L1) n:=ZV
set_option maxHeartbeats 1000000 in
noncomputable def ZTT (k:Nat):ZI k:=Zv 62 Tryz.f62 (ZQu k) ZLr Zvm Zyu (A:=ZQt) (h:=fun x => by show _ = Zjb k (Zvh k) x; rw [show Zvh k = ZEr k k from (ZLq k k).symm]; kernel_rfl)
def ZpG (k:Nat):List (Nat × Nat) × Unit → Option ((List Int × List Int × Int × Unit) × Unit)
 | (a0,()) => (Zyz k (a0,0,())).bind fun y => some ((y.1.1,y.1.2.1,y.1.2.2.1,()),())
def Zyv (k:Nat):=ZpG k
noncomputable def ZTU (k:Nat):ZI k:=Zv 63 Tryz.f63 [ZLH k] Zc8 ZBZ Zyv
abbrev ZJ5:List Kd:=[.view ZlM,.view (.sl (.int .u8))]
abbrev ZJ6:Kd:=.tup [.view Zll,.view (.int .i64),.view (.int .i64)]
noncomputable def ZQf (k:Nat):List (ZI k):=[ZDf k,ZQi k,ZQm k,ZQo k,ZTP k,ZTQ k,ZTR k,ZN6 k,ZTT k,ZTU k,Zyw k]
def ZQe:Nat → Ann:=fun id => bif Ja id 10 then ⟨[55,56,54,8,11,4,12,2,9],[.cell 12 1 ((Ty.int Jx).sl)]⟩ else ⟨[],[]⟩
abbrev ZJ2:=Int × Int × List Int × Int × Int × List Int × Int × List Int × Int × Int × Int × List (List Int) × Int × Int × Int
abbrev Zuv:=ZJ2 → Option (((Int × List (List Int) × Unit) × Int × Int × Unit) × Unit)
def ZR3:ZJ2 → St
 | (v0,v1,v2,v3,v4,v5,v6,v7,v8,v9,v10,v11,v12,v13,v14) => St.mk (Zp [(55,Zf v0),(56,Zf v1),(54,X6 v2),(8,AV.bx 8192 0),(11,Zf v3),(4,AV.bx 8194 0),(12,AV.bx 8195 0),(2,AV.bx 8197 0),(9,Zf v4)]) (Zo [(8192,QK [AV.val (PV.sl (Ty.int UQ) v5),AV.bx 8193 0,Zf v6]),(8193,QK [AV.val (PV.sl (Ty.int UQ) v7),Zf v8]),(8194,QK [Zf v9,AV.val (PV.v (V5 none (0:Nat) (0:Nat)))]),(8195,QK [Zf v10,AV.own 8196]),(8196,RS.live (Res.arr (Ty.int Jx).sl v11 false)),(8197,QK [Zf v12,Zf v13,Zf v14])])
noncomputable def Zev (k:Nat) (L1:Zuv):Zuv
 | (v0,v1,v2,v3,v4,v5,v6,v7,v8,v9,v10,v11,v12,v13,v14) => bif decide (v1 < v0) then bif decide (0 ≤ v1 ∧ v1 < UJ v2.length) then (ZLh k ((v7,v8,()),v3,v2.getD v1.toNat 0,())).bind fun y => bif y.1.2.1 != 0 then some ((((0:Int),[],()),0,y.1.2.1,()),()) else bif decide (v11.length + [y.1.1].length < 2147483648) then L1 (v0,Jx.wrap (v1 + 1),v2,v3,v4,v5,v6,y.2.1.1,y.2.1.2.1,v9,v10,v11 ++ [y.1.1],v12,v13,v14) else none else none else (ZLl k ((v7,v8,()),())).bind fun y => (Zt1 k ((v5,(y.2.1.1,y.2.1.2.1,()),y.1,()),16,(),())).bind fun y => bif y.2.1.2.2.1 != 0 then some ((((0:Int),[],()),0,y.2.1.2.2.1,()),()) else bif decide ((1:Int) < v12) then bif v4 == 1 then bif decide ((0:Int) ≤ 0 ∧ (0:Int) < UJ v11.length) then bif decide ((0:Nat) < v11.length) then bif decide ((0:Int) ≤ 1 ∧ (1:Int) < UJ v11.length) then bif decide ((1:Nat) < v11.length) then (Zyu k (v11.getD 0 [],v11.getD 1 [],0,())).bind fun y_1 => bif y_1.1.2.1 != 0 then some ((((0:Int),[],()),0,y_1.1.2.1,()),()) else (Zyv k (y_1.1.1,())).bind fun y_2 => bif y_2.1.2.2.1 != 0 then some ((((0:Int),[],()),0,y_2.1.2.2.1,()),()) else (Zma k ((v12,v13,v14,()),(v10,[y_2.1.1,y_2.1.2.1],()),())).bind fun y_3 => bif y_3.1 != 0 then some ((((0:Int),[],()),0,y_3.1,()),()) else (ZaU k ((y.2.1.2.1.1,y.2.1.2.1.2.1,()),())).bind fun y => some (((v10,[y_2.1.1,y_2.1.2.1],()),Jx.wrap (UU y.1 (8:Int)),0,()),()) else none else none else none else none else bif decide ((0:Int) ≤ 0 ∧ (0:Int) < UJ v11.length) then bif decide ((0:Nat) < v11.length) then bif decide ((0:Int) ≤ 1 ∧ (1:Int) < UJ v11.length) then bif decide ((1:Nat) < v11.length) then (Zyu k (v11.getD 0 [],v11.getD 1 [],v4,())).bind fun y_1 => bif y_1.1.2.1 != 0 then some ((((0:Int),[],()),0,y_1.1.2.1,()),()) else (Zyv k (y_1.1.1,())).bind fun y_2 => bif y_2.1.2.2.1 != 0 then some ((((0:Int),[],()),0,y_2.1.2.2.1,()),()) else (Zma k ((v12,v13,v14,()),(v10,[y_2.1.1,y_2.1.2.1],()),())).bind fun y_3 => bif y_3.1 != 0 then some ((((0:Int),[],()),0,y_3.1,()),()) else (ZaU k ((y.2.1.2.1.1,y.2.1.2.1.2.1,()),())).bind fun y => some (((v10,[y_2.1.1,y_2.1.2.1],()),Jx.wrap (UU y.1 (8:Int)),0,()),()) else none else none else none else none else (Zma k ((v12,v13,v14,()),(v10,v11,()),())).bind fun y_1 => bif y_1.1 != 0 then some ((((0:Int),[],()),0,y_1.1,()),()) else (ZaU k ((y.2.1.2.1.1,y.2.1.2.1.2.1,()),())).bind fun y => some (((v10,v11,()),Jx.wrap (UU y.1 (8:Int)),0,()),())
noncomputable def Zuw (k:Nat):Zuv:=Zh (fun L1 => Zev k L1) k
noncomputable def ZDC (k:Nat) (n:Nat):=Wb (ZQf k) Tryz.f27 ZJ5 ZJ6 [1,1,1,1,1,1,0,1,0] [] n ZR3 (A:=ZQe)
def Zii (k:Nat) (L1:Zuv):(Int × Int × Int × Unit) × List Int × Unit → Option (((Int × List (List Int) × Unit) × Int × Int × Unit) × Unit)
 | ((a0,a1,a2,()),a3,()) => (ZoG k ((a0,a1,a2,()),())).bind fun y => bif y.1 != 0 then some ((((0:Int),[],()),0,y.1,()),()) else (Zyq k (a3,())).bind fun y => (ZEo k ((a3,(y.1.1,y.1.2.1,()),0,()),(a0,a1,a2,()),())).bind fun y => bif y.2.1.2.2.1 != 0 then some ((((0:Int),[],()),0,y.2.1.2.2.1,()),()) else (ZEl k ((a0,a1,a2,()),y.1.1,())).bind fun y_1 => L1 (UJ (UP y_1.1),(0:Int),y_1.1,y.1.2.2.1,y.1.1,y.2.1.1,y.2.1.2.2.1,y.2.1.2.1.1,y.2.1.2.1.2.1,(0:Int),y.1.2.1,[],a0,a1,a2)
noncomputable def ZJ1 (k:Nat):=Zii k (Zuw k)
theorem ZJ3 (k:Nat):∀ n,ZDC k n = Zh (fun L1 => Zev k L1) n:=ZV
set_option maxHeartbeats 1000000 in
noncomputable def ZTJ (k:Nat):ZI k:=Zv 27 Tryz.f27 (ZQf k) ZJ5 ZJ6 ZJ1 (A:=ZQe) (h:=fun x => by show _ = Zii k (Zuw k) x; rw [show Zuw k = ZDC k k from (ZJ3 k k).symm]; kernel_rfl)
noncomputable def ZQw (k:Nat):List (ZI k):=[]
def ZQv:Nat → Ann:=fun id => bif Ja id 4 then ⟨[5,0,1],[]⟩ else ⟨[],[]⟩
abbrev ZLw:=Int × List Int × List Int
abbrev Zvi:=ZLw → Option (Bool × Unit)
def ZSp:ZLw → St
 | (v0,v1,v2) => St.mk (Zp [(5,Zf v0),(0,X6 v1),(1,X6 v2)]) (Zo [])
def ZeP (k:Nat) (L1:Zvi):Zvi
 | (v0,v1,v2) => bif decide (v0 < UJ v1.length) then bif decide (0 ≤ v0 ∧ v0 < UJ v1.length) then bif decide (0 ≤ v0 ∧ v0 < UJ v2.length) then bif v1.getD v0.toNat 0 != v2.getD v0.toNat 0 then some (false,()) else L1 (Jx.wrap (v0 + 1),v1,v2) else none else none else some (true,())
def Zvj (k:Nat):Zvi:=Zh (fun L1 => ZeP k L1) k
noncomputable def ZEs (k:Nat) (n:Nat):=Wb (ZQw k) Tryz.f117 Zvl QQ [1,1,0,1,0] [] n ZSp (A:=ZQv)
def Zjc (k:Nat) (L1:Zvi):List Int × List Int × Unit → Option (Bool × Unit)
 | (a0,a1,()) => bif UJ a0.length != UJ a1.length then some (false,()) else L1 (0,a0,a1)
def ZLv (k:Nat):=Zjc k (Zvj k)
theorem ZLx (k:Nat):∀ n,ZEs k n = Zh (fun L1 => ZeP k L1) n:=ZV
noncomputable def ZTV (k:Nat):ZI k:=Zv 117 Tryz.f117 (ZQw k) Zvl QQ ZLv (A:=ZQv) (h:=fun x => by show _ = Zjc k (Zvj k) x; rw [show Zvj k = ZEs k k from (ZLx k k).symm]; kernel_rfl)
abbrev ZKI:List Kd:=[.view Zll,.view Zll]
noncomputable def ZQh (k:Nat):List (ZI k):=[ZTV k]
def ZQg:Nat → Ann:=fun id => bif Ja id 4 then ⟨[5,2,3],[]⟩ else ⟨[],[]⟩
abbrev ZKG:=Int × Int × List (List Int) × Int × List (List Int)
abbrev Zu0:=ZKG → Option (Bool × Unit)
def ZR9:ZKG → St
 | (v0,v1,v2,v3,v4) => St.mk (Zp [(5,Zf v0),(2,AV.bx 8192 0),(3,AV.bx 8193 0)]) (Zo [(8192,QK [Zf v1,AV.val (PV.sl (Ty.int Jx).sl v2)]),(8193,QK [Zf v3,AV.val (PV.sl (Ty.int Jx).sl v4)])])
def ZeG (k:Nat) (L1:Zu0):Zu0
 | (v0,v1,v2,v3,v4) => bif decide (v0 < UJ v2.length) then bif decide (0 ≤ v0 ∧ v0 < UJ v2.length) then bif decide (0 ≤ v0 ∧ v0 < UJ v4.length) then (ZLv k (v2.getD v0.toNat [],v4.getD v0.toNat [],())).bind fun y => bif !y.1 then some (false,()) else L1 (Jx.wrap (v0 + 1),v1,v2,v3,v4) else none else none else some (true,())
def Zu1 (k:Nat):Zu0:=Zh (fun L1 => ZeG k L1) k
noncomputable def ZD0 (k:Nat) (n:Nat):=Wb (ZQh k) Tryz.f55 ZKI QQ [1,1,0,1,0] [] n ZR9 (A:=ZQg)
def ZiW (k:Nat) (L1:Zu0):(Int × List (List Int) × Unit) × (Int × List (List Int) × Unit) × Unit → Option (Bool × Unit)
 | ((a0,a1,()),(a2,a3,()),()) => bif a0 != a2 then some (false,()) else bif UJ a1.length != UJ a3.length then some (false,()) else L1 (0,a0,a1,a2,a3)
def ZKF (k:Nat):=ZiW k (Zu1 k)
theorem ZKH (k:Nat):∀ n,ZD0 k n = Zh (fun L1 => ZeG k L1) n:=ZV
noncomputable def ZTK (k:Nat):ZI k:=Zv 55 Tryz.f55 (ZQh k) ZKI QQ ZKF (A:=ZQg) (h:=fun x => by show _ = ZiW k (Zu1 k) x; rw [show Zu1 k = ZD0 k k from (ZKH k k).symm]; kernel_rfl)
end Go.Sh
