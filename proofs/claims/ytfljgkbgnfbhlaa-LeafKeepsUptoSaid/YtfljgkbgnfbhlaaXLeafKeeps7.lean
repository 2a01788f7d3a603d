/-
  What the row needs, part 7.
-/
import Derived.Test.YtfljgkbgnfbhlaaXLeafKeeps6
import Derived.Test.YtfljgkbgnfbhlaaProg
set_option linter.unusedSimpArgs false
set_option linter.unusedVariables false
set_option linter.unusedSectionVars false
open Bool renaming and_eq_true_iff→UT
open ByteArray renaming mk→UL,size→UN,toList→UR
open Int renaming ofNat→UM
open Go.IntKind renaming i64→Jx,u8→UO
open List renaming drop→UP,take→UQ,length→US
open Nat renaming beq→Ja
open Go.Value renaming slice→V5
namespace Go.Sh
open Go Go.Proofs
instance leafGl:Gl:=⟨fun _ => (.u8,[])⟩
abbrev ZR:Ty:=.pair .str (.pair .str .unit)
abbrev nodeT:Ty:=.pair .bool (.pair (.int .i64) (.pair (.sl ZR) .unit))
theorem WC:Try.prog.follows .mixedOrders = true:=by kernel_rfl
abbrev avI (v:Int):AV:=AV.val (PV.v (Value.int Jx v))
abbrev avL (v:List Int):AV:=AV.val (PV.sl (Ty.int Jx) v)
abbrev avB (v:Bool):AV:=AV.val (PV.v (Value.bool v))
noncomputable abbrev cdX (f:Func):Code:=f.body.getD .skip
noncomputable def cxX (k:Nat) (l:List (Nat × Callee)) (live:Nat → List Nat:=fun _ => []):Ctx:={ P:=Try.prog,Φ:=phi l,k:=k,live:=live }
def nA:Nat → Ann:=fun _ => ⟨[],[]⟩
noncomputable abbrev Zjc (C:Ctx) (A:Nat → Ann) (fn:Func) (pk:List Kd) (rk:Kd) (x:Kd.dens pk):=Zfz C A fn.ntmps (cdX fn) fn.results.toList pk rk (Qu pk x) (Zhr pk rk)
noncomputable abbrev lvX (C:Ctx) (fn:Func) (pk:List Kd) (rk:Kd) (a:List AV) (b:List (List Nat)):=Wu C fn.results.toList pk a b rk (Zhr pk rk)
noncomputable def ZjT (fn:Func):Bool:=fn.body.isSome && (!(fn.name == "runtime.NumGoroutine") && QU Try.prog fn.ntmps (cdX fn))
abbrev rsB (l:List AV):RS:=RS.live (Res.box l)
abbrev rsA (v:List Int) (b:Bool):RS:=RS.live (Res.arr (Ty.int Jx) v b)
abbrev YZ (k:Nat):={ p:Nat × Callee // Ctr Try.prog k p.1 p.2 }
noncomputable def cxP (k:Nat) (l:List (YZ k)) (live:Nat → List Nat):Ctx:={ P:=Try.prog,Φ:=phi (l.map Subtype.val),k:=k,live:=live }
def nL:Nat → List Nat:=fun _ => []
theorem Zk0 (k:Nat) {l:List (YZ k)} {live:Nat → List Nat} {A:Nat → Ann} {f:Nat} {fn:Func} {pk:List Kd} {rk:Kd} {F:Nat → Kd.dens pk → Option (Ans pk rk)}
  (h:∀ x,Zjc (cxP k l live) A fn pk rk x = F k x) (hf:Try.prog.funcs[f]? = some fn) (hq:ZjT fn = true):Ctr Try.prog k f (mk pk rk F) :=
 have hq1:(fn.body.isSome && (!(fn.name == "runtime.NumGoroutine") && QU Try.prog fn.ntmps (cdX fn))) = true:=hq
 have hq2:=UT.1 hq1
 have hq3:=UT.1 hq2.2
 have hb:fn.body = some (cdX fn):=by
  cases e:fn.body with
  | none => rw [e] at hq2; exact absurd hq2.1 (by simp)
  | some c => show some c = some (fn.body.getD .skip); rw [e]; rfl
 ZiV (C:=cxP k l live) (Zfs (fun p hp => by obtain ⟨q,_,rfl⟩:=List.mem_map.1 hp; exact q.2)) WC hf hb (by simpa using hq3.1) hq3.2 (fun x y e => (h x).trans e)
noncomputable def YE (f:Nat) (fn:Func) {k:Nat} (l:List (YZ k)) (pk:List Kd) (rk:Kd) (F:Nat → Kd.dens pk → Option (Ans pk rk)) (A:Nat → Ann:=nA) (live:Nat → List Nat:=nL)
  (h:∀ x,Zjc (cxP k l live) A fn pk rk x = F k x:=by intro x; kernel_rfl) (hf:Try.prog.funcs[f]? = some fn:=by kernel_rfl) (hq:ZjT fn = true:=by kernel_rfl):YZ k:=⟨(f,mk pk rk F),Zk0 k h hf hq⟩
def ZjF {α:Type} (k:Nat) (g:Nat → α):α:=match k with | 0 => g 0 | n + 1 => g (n + 1)
theorem Zib {α:Type} (k:Nat) (g:Nat → α):ZjF k g = g k:=by cases k <;> rfl
noncomputable def Zll (f:Nat) (fn:Func) {k:Nat} (l:(k:Nat) → List (YZ k)) (pk:List Kd) (rk:Kd) (A:Nat → Ann:=nA) (live:Nat → List Nat:=nL)
  (hf:Try.prog.funcs[f]? = some fn:=by kernel_rfl) (hq:ZjT fn = true:=by kernel_rfl):YZ k:=⟨(f,mk pk rk fun k => ZjF k fun k => Zjc (cxP k (l k) live) A fn pk rk),Zk0 k (fun x => (congrFun (Zib k fun k => Zjc (cxP k (l k) live) A fn pk rk) x).symm) hf hq⟩
noncomputable abbrev atX {k:Nat} {V:Type} (l:List (YZ k)) (fn:Func) (pk:List Kd) (rk:Kd) (p ns:List Nat) (n:Nat) (S:V → St) (A:Nat → Ann:=nA) (live:Nat → List Nat:=nL) (a:List AV:=[]) (b:List (List Nat):=[]) (q:List Nat:=[]) (v:V):Option (Ans pk rk) :=
 Zkl (cxP k l live) A q p ns (cdX fn) (lvX (cxP k l live) fn pk rk a b) n (S v)
theorem ZgN {V R:Type} {L:Nat → V → Option R} {step:(V → Option R) → V → Option R} (h:∀ n v,L (n + 1) v = step (L n) v:=by intro n v; kernel_rfl) (h0:∀ v,L 0 v = none:=by intro v; kernel_rfl):∀ n,L n = Wh step n:=Zey h0 h
abbrev Zfa:List Kd:=[.view ZR]
abbrev Kr:Kd:=.view (.int .i64)
def Zel (k:Nat):(ByteArray × ByteArray × Unit) × Unit → Option (Int × Unit)
 | ((a0,a1,()),()) => some (Jx.wrap (Jx.wrap ((2:Int) + UM a0.size) + UM a1.size),())
def ZaE (k:Nat):=Zel k
noncomputable def ZjD (k:Nat):YZ k:=YE 31 Try.f31 [] Zfa Kr ZaE (live:=fun _ => [64])
abbrev Zdr:List Kd:=[.view (.sl ZR)]
noncomputable def ZjB (k:Nat):List (YZ k):=[ZjD k]
def ZjC:Nat → List Nat:=fun _ => [64]
def Zjz:Nat → Ann:=fun id => bif Ja id 3 then ⟨[7,8,6,3],[]⟩ else ⟨[],[]⟩
abbrev ZhV:=Int × Int × List (ByteArray × ByteArray × Unit) × Int
abbrev Zdp:=ZhV → Option (Int × Unit)
def Zkd:ZhV → St
 | (v0,v1,v2,v3) => St.mk (Qm [(7,avI v0),(8,avI v1),(6,AV.val (PV.sl (Ty.str.pair (Ty.str.pair Ty.unit)) v2)),(3,avI v3)]) (Ql [])
def Yv (k:Nat) (L1:Zdp):Zdp
 | (v0,v1,v2,v3) => bif decide (v1 < v0) then bif decide (0 ≤ v1 ∧ v1 < UM v2.length) then (ZaE k (((v2.getD v1.toNat (UL #[],UL #[],())).1,(v2.getD v1.toNat (UL #[],UL #[],())).2.1,()),())).bind fun y => L1 (v0,Jx.wrap (v1 + 1),v2,Jx.wrap (v3 + y.1)) else none else some (v3,())
def Zdq (k:Nat):Zdp:=Wh (fun L1 => Yv k L1) k
noncomputable def Zf5 (k:Nat) (n:Nat):=atX (ZjB k) Try.f30 Zdr Kr [1,1,0,1,0] [] n Zkd (A:=Zjz) (live:=ZjC)
def Zbu (k:Nat) (L1:Zdp):List (ByteArray × ByteArray × Unit) × Unit → Option (Int × Unit)
 | (a0,()) => L1 (UM a0.length,(0:Int),a0,(0:Int))
def ZaD (k:Nat):=Zbu k (Zdq k)
theorem ZhW (k:Nat):∀ n,Zf5 k n = Wh (fun L1 => Yv k L1) n:=ZgN
noncomputable def ZjA (k:Nat):YZ k:=YE 30 Try.f30 (ZjB k) Zdr Kr ZaD (A:=Zjz) (live:=ZjC) (h:=fun x => by show _ = Zbu k (Zdq k) x; rw [show Zdq k = Zf5 k k from (ZhW k k).symm]; kernel_rfl)
abbrev Xv:List Kd:=[.view nodeT]
def Zbr (k:Nat):(Bool × Int × List (ByteArray × ByteArray × Unit) × Unit) × Unit → Option (Int × Unit)
 | ((a0,a1,a2,()),()) => bif a0 then (ZaD k (a2,())).bind fun y => some (Jx.wrap ((6:Int) + y.1),()) else (ZaD k (a2,())).bind fun y => some (Jx.wrap ((2:Int) + y.1),())
def Zeg (k:Nat):=Zbr k
noncomputable def ZkL (k:Nat):YZ k:=YE 19 Try.f19 [ZjA k] Xv Kr Zeg (live:=fun _ => [64])
noncomputable def Zjv (k:Nat):List (YZ k):=[]
def Zjw:Nat → List Nat:=fun _ => [64]
def Zjt:Nat → Ann:=fun id => bif Ja id 3 then ⟨[5,3,1],[]⟩ else ⟨[],[]⟩
abbrev ZhQ:=Int × Int × ByteArray × ByteArray
abbrev Zdn:=ZhQ → Option (Int × Unit)
def Zka:ZhQ → St
 | (v0,v1,v2,v3) => St.mk (Qm [(5,avI v0),(3,avI v1),(1,AV.bx 8192 0)]) (Ql [(8192,rsB [AV.val (PV.v (Value.string v2)),AV.val (PV.v (Value.string v3))])])
def WH (k:Nat) (L1:Zdn):Zdn
 | (v0,v1,v2,v3) => bif decide (v0 < 4) then bif decide (0 ≤ v0 ∧ v0 < UM v3.size) then L1 (Jx.wrap (v0 + 1),Jx.wrap (UM (BitVec.ofInt 64 (Jx.wrap (v1 * (256:Int))) ||| BitVec.ofInt 64 (Jx.wrap (UM (v3.data.toList.getD v0.toNat 0).toNat))).toNat),v2,v3) else none else some (v1,())
def Ze7 (k:Nat):Zdn:=Wh (fun L1 => WH k L1) k
noncomputable def Zf4 (k:Nat) (n:Nat):=atX (Zjv k) Try.f26 Zfa Kr [1,1,0,1,0] [] n Zka (A:=Zjt) (live:=Zjw)
def Zei (k:Nat) (L1:Zdn):(ByteArray × ByteArray × Unit) × Unit → Option (Int × Unit)
 | ((a0,a1,()),()) => L1 (0,(0:Int),a0,a1)
def ZaC (k:Nat):=Zei k (Ze7 k)
theorem ZhR (k:Nat):∀ n,Zf4 k n = Wh (fun L1 => WH k L1) n:=ZgN
noncomputable def Zju (k:Nat):YZ k:=YE 26 Try.f26 (Zjv k) Zfa Kr ZaC (A:=Zjt) (live:=Zjw) (h:=fun x => by show _ = Zei k (Ze7 k) x; rw [show Ze7 k = Zf4 k k from (ZhR k k).symm]; kernel_rfl)
abbrev Zkc:List Kd:=[.view (.int .i64)]
abbrev Ze8:Kd:=.view .str
def ZhT (k:Nat):Int × Unit → Option (ByteArray × Unit)
 | (a0,()) => some (UL (List.map (fun n => UInt8.ofNat n.toNat) [UO.wrap (a0.fdiv (16777216:Int)),UO.wrap (a0.fdiv (65536:Int)),UO.wrap (a0.fdiv (256:Int)),UO.wrap a0]).toArray,())
def Zej (k:Nat):=ZhT k
noncomputable def Zjx (k:Nat):YZ k:=YE 27 Try.f27 [] Zkc Ze8 Zej (live:=fun _ => [64])
abbrev ZjY:List Kd:=[.view .str,.view (.int .i64)]
abbrev ZjZ:Kd:=.view ZR
def Zhx (k:Nat):ByteArray × Int × Unit → Option ((ByteArray × ByteArray × Unit) × Unit)
 | (a0,a1,()) => (Zej k (a1,())).bind fun y => some ((a0,y.1,()),())
def Zhw (k:Nat):=Zhx k
noncomputable def ZkH (k:Nat):YZ k:=YE 13 Try.f13 [Zjx k] ZjY ZjZ Zhw (live:=fun _ => [64])
abbrev Kq:Kd:=.view .bool
noncomputable def Zjr (k:Nat):List (YZ k):=[Zju k]
def Zjs:Nat → List Nat:=fun _ => [64]
def Zjq:Nat → Ann:=fun id => bif Ja id 4 then ⟨[35,36,34,1],[]⟩ else ⟨[],[]⟩
abbrev ZhM:=Int × Int × List (ByteArray × ByteArray × Unit) × Bool × Int × List (ByteArray × ByteArray × Unit)
abbrev Zdl:=ZhM → Option (Bool × Unit)
def Zj9:ZhM → St
 | (v0,v1,v2,v3,v4,v5) => St.mk (Qm [(35,avI v0),(36,avI v1),(34,AV.val (PV.sl (Ty.str.pair (Ty.str.pair Ty.unit)) v2)),(1,AV.bx 8192 0)]) (Ql [(8192,rsB [avB v3,avI v4,AV.val (PV.sl (Ty.str.pair (Ty.str.pair Ty.unit)) v5)])])
def XD (k:Nat) (L1:Zdl):Zdl
 | (v0,v1,v2,v3,v4,v5) => bif decide (v1 < v0) then bif decide (0 ≤ v1 ∧ v1 < UM v2.length) then bif UR (v2.getD v1.toNat (UL #[],UL #[],())).1 == (UL #[]).toList then some (false,()) else bif decide ((32:Int) < UM (UN (v2.getD v1.toNat (UL #[],UL #[],())).1)) then some (false,()) else bif decide ((0:Int) < v1) then bif decide (0 ≤ Jx.wrap (v1 - 1) ∧ Jx.wrap (v1 - 1) < UM v5.length) then bif Op.bytesLess (UR (v2.getD v1.toNat (UL #[],UL #[],())).1) (UR (v5.getD (Jx.wrap (v1 - 1)).toNat (UL #[],UL #[],())).1) || UR (v2.getD v1.toNat (UL #[],UL #[],())).1 == UR (v5.getD (Jx.wrap (v1 - 1)).toNat (UL #[],UL #[],())).1 then some (false,()) else bif v3 then bif UM (UN (v2.getD v1.toNat (UL #[],UL #[],())).2.1) != 4 then some (false,()) else (ZaC k (((v2.getD v1.toNat (UL #[],UL #[],())).1,(v2.getD v1.toNat (UL #[],UL #[],())).2.1,()),())).bind fun y => bif y.1 == 0 then some (false,()) else bif !v3 then bif decide ((48:Int) < UM (UN (v2.getD v1.toNat (UL #[],UL #[],())).2.1)) then some (false,()) else L1 (v0,Jx.wrap (v1 + 1),v2,v3,v4,v5) else L1 (v0,Jx.wrap (v1 + 1),v2,v3,v4,v5) else bif !v3 then bif decide ((48:Int) < UM (UN (v2.getD v1.toNat (UL #[],UL #[],())).2.1)) then some (false,()) else L1 (v0,Jx.wrap (v1 + 1),v2,v3,v4,v5) else L1 (v0,Jx.wrap (v1 + 1),v2,v3,v4,v5) else none else bif v3 then bif UM (UN (v2.getD v1.toNat (UL #[],UL #[],())).2.1) != 4 then some (false,()) else (ZaC k (((v2.getD v1.toNat (UL #[],UL #[],())).1,(v2.getD v1.toNat (UL #[],UL #[],())).2.1,()),())).bind fun y => bif y.1 == 0 then some (false,()) else bif !v3 then bif decide ((48:Int) < UM (UN (v2.getD v1.toNat (UL #[],UL #[],())).2.1)) then some (false,()) else L1 (v0,Jx.wrap (v1 + 1),v2,v3,v4,v5) else L1 (v0,Jx.wrap (v1 + 1),v2,v3,v4,v5) else bif !v3 then bif decide ((48:Int) < UM (UN (v2.getD v1.toNat (UL #[],UL #[],())).2.1)) then some (false,()) else L1 (v0,Jx.wrap (v1 + 1),v2,v3,v4,v5) else L1 (v0,Jx.wrap (v1 + 1),v2,v3,v4,v5) else none else some (true,())
def Zdm (k:Nat):Zdl:=Wh (fun L1 => XD k L1) k
noncomputable def Zf3 (k:Nat) (n:Nat):=atX (Zjr k) Try.f25 Xv Kq [1,1,0,1,0] [] n Zj9 (A:=Zjq) (live:=Zjs)
def KM (k:Nat) (L1:Zdl):(Bool × Int × List (ByteArray × ByteArray × Unit) × Unit) × Unit → Option (Bool × Unit)
 | ((a0,a1,a2,()),()) => bif decide ((255:Int) < UM a2.length) then some (false,()) else bif !a0 then bif a1 != 0 then some (false,()) else bif a0 then bif decide (a1 < 1) then some (false,()) else bif decide (4294967296 ≤ a1) then some (false,()) else L1 (UM a2.length,(0:Int),a2,a0,a1,a2) else L1 (UM a2.length,(0:Int),a2,a0,a1,a2) else bif a0 then bif decide (a1 < 1) then some (false,()) else bif decide (4294967296 ≤ a1) then some (false,()) else L1 (UM a2.length,(0:Int),a2,a0,a1,a2) else L1 (UM a2.length,(0:Int),a2,a0,a1,a2)
def Y7 (k:Nat):=KM k (Zdm k)
theorem ZhO (k:Nat):∀ n,Zf3 k n = Wh (fun L1 => XD k L1) n:=ZgN
set_option maxHeartbeats 1000000 in
noncomputable def ZhN (k:Nat):YZ k:=YE 25 Try.f25 (Zjr k) Xv Kq Y7 (A:=Zjq) (live:=Zjs) (h:=fun x => by show _ = KM k (Zdm k) x; rw [show Zdm k = Zf3 k k from (ZhO k k).symm]; kernel_rfl)
abbrev ZhU:Kd:=.own ZR false
def Y8 (k:Nat):List (ByteArray × ByteArray × Unit) × Unit → Option (List (ByteArray × ByteArray × Unit) × Unit):=fun x => Zbk x
noncomputable def ZkO (k:Nat):Ctx:={ P:=Try.prog,Φ:=phi [],k:=k,live:=fun _ => [64] }
noncomputable def Zek:Code:=ZjS Try.f29
theorem ZiQ (k:Nat):Ctr Try.prog k 29 (mk Zdr ZhU Y8) :=
 ZgC (C:=ZkO k) (A:=fun _ => ⟨[],[]⟩) (Zfs ZiN) WC (f:=29) (fn:=Try.f29) (o0:=Zfr (KS [0] Zek) 0) (o1:=Zfr (KS [1,0,0] Zek) 0) (o2:=Zfr (KS [1,0,0] Zek) 1)
  (r0:=0) (r1:=1) (X:=KS [1,0,1,0] Zek) (Y:=KS [1,1] Zek) (T:=22) (E:=34) (U:=22) (t:=ZR)
  (by kernel_rfl) (by kernel_rfl) (by kernel_rfl) (by kernel_rfl) (by kernel_rfl) (of_decide_eq_true (by kernel_rfl)) (by kernel_rfl) ⟨by kernel_rfl,by kernel_rfl,by kernel_rfl⟩ ⟨by kernel_rfl,by kernel_rfl,by kernel_rfl⟩ ⟨by kernel_rfl,by kernel_rfl,by kernel_rfl⟩ (fun xs => by kernel_rfl) (by kernel_rfl)
noncomputable def Zjy (k:Nat):YZ k:=⟨(29,mk Zdr ZhU Y8),ZiQ k⟩
abbrev ZhF:Kd:=.view nodeT
def ZhE (k:Nat):(Bool × Int × List (ByteArray × ByteArray × Unit) × Unit) × Unit → Option ((Bool × Int × List (ByteArray × ByteArray × Unit) × Unit) × Unit)
 | ((a0,a1,a2,()),()) => some ((a0,a1,a2,()),())
def ZhD (k:Nat):=ZhE k
noncomputable def ZkK (k:Nat):YZ k:=YE 18 Try.f18 [] Xv ZhF ZhD (live:=fun _ => [64])
theorem ZfX (k:Nat):Ctr Try.prog k 18 (mk Xv ZhF ZhD):=(ZkK k).2
abbrev Ze4:List Kd:=[.view nodeT,.view nodeT]
noncomputable def Zji (k:Nat):List (YZ k):=[]
def Zjj:Nat → List Nat:=fun _ => [64]
def Zjh:Nat → Ann:=fun id => bif Ja id 4 then ⟨[5,2,3],[]⟩ else ⟨[],[]⟩
abbrev ZhA:=Int × Bool × Int × List (ByteArray × ByteArray × Unit) × Bool × Int × List (ByteArray × ByteArray × Unit)
abbrev Zdg:=ZhA → Option (Bool × Unit)
def Zj1:ZhA → St
 | (v0,v1,v2,v3,v4,v5,v6) => St.mk (Qm [(5,avI v0),(2,AV.bx 8192 0),(3,AV.bx 8193 0)]) (Ql [(8192,rsB [avB v1,avI v2,AV.val (PV.sl (Ty.str.pair (Ty.str.pair Ty.unit)) v3)]),(8193,rsB [avB v4,avI v5,AV.val (PV.sl (Ty.str.pair (Ty.str.pair Ty.unit)) v6)])])
def Yt (k:Nat) (L1:Zdg):Zdg
 | (v0,v1,v2,v3,v4,v5,v6) => bif decide (v0 < UM v3.length) then bif decide (0 ≤ v0 ∧ v0 < UM v3.length) then bif decide (0 ≤ v0 ∧ v0 < UM v6.length) then bif !(decide ((v3.getD v0.toNat (UL #[],UL #[],())).1 = (v6.getD v0.toNat (UL #[],UL #[],())).1) && (decide ((v3.getD v0.toNat (UL #[],UL #[],())).2.1 = (v6.getD v0.toNat (UL #[],UL #[],())).2.1) && true)) then some (false,()) else L1 (Jx.wrap (v0 + 1),v1,v2,v3,v4,v5,v6) else none else none else some (true,())
def Zdh (k:Nat):Zdg:=Wh (fun L1 => Yt k L1) k
noncomputable def ZfV (k:Nat) (n:Nat):=atX (Zji k) Try.f17 Ze4 Kq [1,1,0,1,0] [] n Zj1 (A:=Zjh) (live:=Zjj)
def Zbq (k:Nat) (L1:Zdg):(Bool × Int × List (ByteArray × ByteArray × Unit) × Unit) × (Bool × Int × List (ByteArray × ByteArray × Unit) × Unit) × Unit → Option (Bool × Unit)
 | ((a0,a1,a2,()),(a3,a4,a5,()),()) => bif !a0 == a3 then some (false,()) else bif a1 != a4 then some (false,()) else bif UM a2.length != UM a5.length then some (false,()) else L1 (0,a0,a1,a2,a3,a4,a5)
def ZfU (k:Nat):=Zbq k (Zdh k)
theorem ZhB (k:Nat):∀ n,ZfV k n = Wh (fun L1 => Yt k L1) n:=ZgN
noncomputable def ZkJ (k:Nat):YZ k:=YE 17 Try.f17 (Zji k) Ze4 Kq ZfU (A:=Zjh) (live:=Zjj) (h:=fun x => by show _ = Zbq k (Zdh k) x; rw [show Zdh k = ZfV k k from (ZhB k k).symm]; kernel_rfl)
theorem ZfW (k:Nat):Ctr Try.prog k 17 (mk Ze4 Kq ZfU):=(ZkJ k).2
abbrev Zhy:List Kd:=[.view nodeT,.view .str,.view nodeT]
abbrev Zhz:Kd:=.tup [.agg [.view .bool,.view (.int .i64),.own ZR true],.view (.int .i64)]
def Zef (k:Nat):(Bool × Int × List (ByteArray × ByteArray × Unit) × Unit) × ByteArray × (Bool × Int × List (ByteArray × ByteArray × Unit) × Unit) × Unit → Option (((Bool × Int × List (ByteArray × ByteArray × Unit) × Unit) × Int × Unit) × Unit)
 | ((a0,a1,a2,()),a3,(a4,a5,a6,()),()) => bif !a0 == a4 then some (((false,0,[],()),1,()),()) else (Y7 k ((a0,a1,a2,()),())).bind fun y => bif !y.1 then some (((false,0,[],()),2,()),()) else (Y7 k ((a4,a5,a6,()),())).bind fun y => bif !y.1 then some (((false,0,[],()),2,()),()) else (Y8 k (a2,())).bind fun y => bif a0 then (Zhw k (a3,a5,())).bind fun y_1 => bif decide (US y.1 + [(y_1.1.1,y_1.1.2.1,())].length < 2147483648) then bif decide ((y.1 ++ [(y_1.1.1,y_1.1.2.1,())]).length + a6.length < 2147483648) then (Y7 k ((a0,a1,y.1 ++ [(y_1.1.1,y_1.1.2.1,())] ++ a6,()),())).bind fun y_2 => bif !y_2.1 then some (((false,0,[],()),2,()),()) else some (((a0,a1,y.1 ++ [(y_1.1.1,y_1.1.2.1,())] ++ a6,()),0,()),()) else none else none else bif decide (US y.1 + a6.length < 2147483648) then (Y7 k ((a0,a1,y.1 ++ a6,()),())).bind fun y_1 => bif !y_1.1 then some (((false,0,[],()),2,()),()) else some (((a0,a1,y.1 ++ a6,()),0,()),()) else none
def ZfS (k:Nat):=Zef k
set_option maxHeartbeats 1000000 in
noncomputable def ZkI (k:Nat):YZ k:=YE 16 Try.f16 [ZhN k,Zjy k,ZkH k] Zhy Zhz ZfS (live:=fun i => bif Ja i 0 then [64] else [])
theorem ZfT (k:Nat):Ctr Try.prog k 16 (mk Zhy Zhz ZfS):=(ZkI k).2
abbrev Ze5:Kd:=.tup [.agg [.view .bool,.view (.int .i64),.own ZR false],.view .str,.agg [.view .bool,.view (.int .i64),.own ZR false],.view (.int .i64)]
noncomputable def Zjl (k:Nat):List (YZ k):=[ZhN k,ZjA k,ZjD k,Zjy k,Zju k]
def Zjm:Nat → List Nat:=fun i => bif Ja i 0 then [64] else []
def Zjk:Nat → Ann:=fun id => bif Ja id 10 then ⟨[8,6,9,7,1,2,4],[]⟩ else ⟨[],[]⟩
abbrev ZhG:=Int × Int × Int × Int × Bool × Int × List (ByteArray × ByteArray × Unit) × Bool × Int × Bool × Int
abbrev Zdi:=ZhG → Option (((Bool × Int × List (ByteArray × ByteArray × Unit) × Unit) × ByteArray × (Bool × Int × List (ByteArray × ByteArray × Unit) × Unit) × Int × Unit) × Unit)
def Zj5:ZhG → St
 | (v0,v1,v2,v3,v4,v5,v6,v7,v8,v9,v10) => St.mk (Qm [(8,avI v0),(6,avI v1),(9,avI v2),(7,avI v3),(1,AV.bx 8192 0),(2,AV.bx 8193 0),(4,AV.bx 8194 0)]) (Ql [(8192,rsB [avB v4,avI v5,AV.val (PV.sl (Ty.str.pair (Ty.str.pair Ty.unit)) v6)]),(8193,rsB [avB v7,avI v8,AV.val (PV.v (V5 none (0:Nat) (0:Nat)))]),(8194,rsB [avB v9,avI v10,AV.val (PV.v (V5 none (0:Nat) (0:Nat)))])])
def QI (k:Nat) (L1:Zdi):Zdi
 | (v0,v1,v2,v3,v4,v5,v6,v7,v8,v9,v10) => bif decide (v0 < v1) then bif decide (Jx.wrap ((2:Int) * v2) < v3) then bif decide (0 ≤ v0 ∧ v0 < UM v6.length) then (ZaE k (((v6.getD v0.toNat (UL #[],UL #[],())).1,(v6.getD v0.toNat (UL #[],UL #[],())).2.1,()),())).bind fun y => L1 (Jx.wrap (v0 + 1),v1,Jx.wrap (v2 + y.1),v3,v4,v5,v6,v7,v8,v9,v10) else none else bif decide ((0:Int) ≤ 0 ∧ (0:Int) ≤ v0 ∧ v0 ≤ UM v6.length) then (Y8 k (UP 0 (UQ v0.toNat v6),())).bind fun y => bif decide (0 ≤ v0 ∧ v0 < UM v6.length) then bif v4 then (ZaC k (((v6.getD v0.toNat (UL #[],UL #[],())).1,(v6.getD v0.toNat (UL #[],UL #[],())).2.1,()),())).bind fun y_1 => bif decide (0 ≤ Jx.wrap (v0 + 1) ∧ Jx.wrap (v0 + 1) ≤ UM v6.length ∧ UM v6.length ≤ UM v6.length) then (Y8 k (UP (Jx.wrap (v0 + 1)).toNat (UQ (UM v6.length).toNat v6),())).bind fun y_2 => some (((v4,v5,y.1,()),(v6.getD v0.toNat (UL #[],UL #[],())).1,(true,y_1.1,y_2.1,()),0,()),()) else none else bif decide (0 ≤ v0 ∧ v0 ≤ UM v6.length ∧ UM v6.length ≤ UM v6.length) then (Y8 k (UP v0.toNat (UQ (UM v6.length).toNat v6),())).bind fun y_1 => some (((v4,v5,y.1,()),(v6.getD v0.toNat (UL #[],UL #[],())).1,(false,0,y_1.1,()),0,()),()) else none else none else none else bif decide ((0:Int) ≤ 0 ∧ (0:Int) ≤ v0 ∧ v0 ≤ UM v6.length) then (Y8 k (UP 0 (UQ v0.toNat v6),())).bind fun y => bif decide (0 ≤ v0 ∧ v0 < UM v6.length) then bif v4 then (ZaC k (((v6.getD v0.toNat (UL #[],UL #[],())).1,(v6.getD v0.toNat (UL #[],UL #[],())).2.1,()),())).bind fun y_1 => bif decide (0 ≤ Jx.wrap (v0 + 1) ∧ Jx.wrap (v0 + 1) ≤ UM v6.length ∧ UM v6.length ≤ UM v6.length) then (Y8 k (UP (Jx.wrap (v0 + 1)).toNat (UQ (UM v6.length).toNat v6),())).bind fun y_2 => some (((v4,v5,y.1,()),(v6.getD v0.toNat (UL #[],UL #[],())).1,(true,y_1.1,y_2.1,()),0,()),()) else none else bif decide (0 ≤ v0 ∧ v0 ≤ UM v6.length ∧ UM v6.length ≤ UM v6.length) then (Y8 k (UP v0.toNat (UQ (UM v6.length).toNat v6),())).bind fun y_1 => some (((v4,v5,y.1,()),(v6.getD v0.toNat (UL #[],UL #[],())).1,(false,0,y_1.1,()),0,()),()) else none else none else none
def Zdj (k:Nat):Zdi:=Wh (fun L1 => QI k L1) k
noncomputable def ZfZ (k:Nat) (n:Nat):=atX (Zjl k) Try.f20 Xv Ze5 [1,1,1,1,1,1,1,0,0] [] n Zj5 (A:=Zjk) (live:=Zjm)
def Zbs (k:Nat) (L1:Zdi):(Bool × Int × List (ByteArray × ByteArray × Unit) × Unit) × Unit → Option (((Bool × Int × List (ByteArray × ByteArray × Unit) × Unit) × ByteArray × (Bool × Int × List (ByteArray × ByteArray × Unit) × Unit) × Int × Unit) × Unit)
 | ((a0,a1,a2,()),()) => (Y7 k ((a0,a1,a2,()),())).bind fun y => bif !y.1 then some (((false,0,[],()),UL #[],(false,0,[],()),2,()),()) else bif a0 then bif decide (Jx.wrap (Jx.wrap (UM a2.length - (1:Int)) - (1:Int)) < (1:Int)) then some (((false,0,[],()),UL #[],(false,0,[],()),1,()),()) else (ZaD k (a2,())).bind fun y => bif decide ((0:Int) ≤ 0 ∧ (0:Int) < UM a2.length) then (ZaE k (((a2.getD 0 (UL #[],UL #[],())).1,(a2.getD 0 (UL #[],UL #[],())).2.1,()),())).bind fun y_1 => L1 (1,Jx.wrap (Jx.wrap (UM a2.length - (1:Int)) - (1:Int)),y_1.1,y.1,a0,a1,a2,false,(0:Int),false,(0:Int)) else none else bif decide (Jx.wrap (UM a2.length - (1:Int)) < (1:Int)) then some (((false,0,[],()),UL #[],(false,0,[],()),1,()),()) else (ZaD k (a2,())).bind fun y => bif decide ((0:Int) ≤ 0 ∧ (0:Int) < UM a2.length) then (ZaE k (((a2.getD 0 (UL #[],UL #[],())).1,(a2.getD 0 (UL #[],UL #[],())).2.1,()),())).bind fun y_1 => L1 (1,Jx.wrap (UM a2.length - (1:Int)),y_1.1,y.1,a0,a1,a2,false,(0:Int),false,(0:Int)) else none
def ZfY (k:Nat):=Zbs k (Zdj k)
theorem ZhH (k:Nat):∀ n,ZfZ k n = Wh (fun L1 => QI k L1) n:=ZgN
set_option maxHeartbeats 1000000 in
noncomputable def ZkM (k:Nat):YZ k:=YE 20 Try.f20 (Zjl k) Xv Ze5 ZfY (A:=Zjk) (live:=Zjm) (h:=fun x => by show _ = Zbs k (Zdj k) x; rw [show Zdj k = ZfZ k k from (ZhH k k).symm]; kernel_rfl)
theorem Zf0 (k:Nat):Ctr Try.prog k 20 (mk Xv Ze5 ZfY):=(ZkM k).2
abbrev Zfc:List Kd:=[.bld 64]
abbrev Zh3:Kd:=.tup []
def ZaF (k:Nat):List Int × Unit → Option (Unit × List Int × Unit):=fun x => some ((),x.1,())
def Zc6:Go.Shelf.Ren:=⟨fun n => match n with | 240 => 39 | 276 => 40 | 169 => 37 | _ => 0,fun n => match n with | 0 => 0 | 3 => 3 | 4 => 4 | 5 => 5 | 9 => 9 | 20 => 20 | 70 => 62 | 72 => 64 | 37 => 52 | 127 => 73 | 164 => 74 | _ => 0,fun n => n⟩
theorem ZiL:Go.Proofs.Lays.n240 Try.prog Zc6:=by
 constructor <;> first | kernel_rfl | (intro w; rfl)
theorem ZkC:Go.Proofs.Builder.X72 Try.prog Zc6:=⟨by kernel_rfl,by kernel_rfl⟩
theorem ZiS (k:Nat):Ctr Try.prog k 39 (mk Zfc Zh3 ZaF):=Zci ZiL ZkC (fn:=Try.f39) rfl (by kernel_rfl) (by kernel_rfl) (by kernel_rfl)
noncomputable def Zh2 (k:Nat):YZ k:=⟨(39,mk Zfc Zh3 ZaF),ZiS k⟩
abbrev Zh1:List Kd:=[.use 64]
def Zep (k:Nat):List Int × Unit → Option (ByteArray × Unit):=fun x => Ziw x
theorem Zhm:Go.Proofs.Lays.n169 Try.prog Zc6:=by
 constructor <;> first | kernel_rfl | (intro w; rfl)
theorem ZkD:Go.Proofs.Builder.Extra Try.prog Zc6:={ ZkC with t5:=by kernel_rfl,a5:=fun w => by rfl,z5:=fun w => by rfl,v5:=fun w => by rfl,infoByte:=by kernel_rfl,cellsByte:=by kernel_rfl,sizeByte:=by kernel_rfl,neB5:=by decide }
theorem ZiR (k:Nat):Ctr Try.prog k 37 (mk Zh1 Ze8 Zep):=ZfC Zhm ZkD rfl (fn:=Try.f37) rfl (by kernel_rfl) (by kernel_rfl) (by kernel_rfl)
noncomputable def ZkT (k:Nat):YZ k:=⟨(37,mk Zh1 Ze8 Zep),ZiR k⟩
def Zh0 (k:Nat):List Int × Unit → Option (Int × List Int × Unit)
 | (a0,()) => some (UM a0.length,a0,())
def ZhZ (k:Nat):=Zh0 k
noncomputable def ZkS (k:Nat):YZ k:=YE 36 Try.f36 [] Zfc Kr ZhZ (live:=fun i => bif Ja i 0 then [64] else [])
abbrev Zke:List Kd:=[.bld 64,.view (.int .u8)]
abbrev Zkf:Kd:=.view .raw
def Zem (k:Nat):List Int × Int × Unit → Option (Value × List Int × Unit)
 | (a0,a1,()) => (ZaF k (a0,())).bind fun y => bif decide (US y.2.1 + [a1].length < 2147483648) then some (Value.nilIface,y.2.1 ++ [a1],()) else none
def KN (k:Nat):=Zem k
noncomputable def ZkP (k:Nat):YZ k:=YE 33 Try.f33 [Zh2 k] Zke Zkf KN (live:=fun i => bif Ja i 0 then [64] else [])
abbrev Zkg:List Kd:=[.bld 64,.view .str]
abbrev ZhY:Kd:=.tup [.view (.int .i64),.view .raw]
def Zen (k:Nat):List Int × ByteArray × Unit → Option ((Int × Value × Unit) × List Int × Unit)
 | (a0,a1,()) => (ZaF k (a0,())).bind fun y => bif decide (US y.2.1 + (List.map (fun b => UM b.toNat) a1.data.toList).length < 2147483648) then some ((UM a1.size,Value.nilIface,()),y.2.1 ++ List.map (fun b => UM b.toNat) a1.data.toList,()) else none
def Zbv (k:Nat):=Zen k
noncomputable def ZkQ (k:Nat):YZ k:=YE 34 Try.f34 [Zh2 k] Zkg ZhY Zbv (live:=fun i => bif Ja i 0 then [64] else [])
abbrev Zki:List Kd:=[.bld 64,.view (.sl (.int .u8))]
def Zeo (k:Nat):List Int × List Int × Unit → Option ((Int × Value × Unit) × List Int × Unit)
 | (a0,a1,()) => (ZaF k (a0,())).bind fun y => bif decide (US y.2.1 + a1.length < 2147483648) then some ((UM a1.length,Value.nilIface,()),y.2.1 ++ a1,()) else none
def Zf6 (k:Nat):=Zeo k
noncomputable def ZkR (k:Nat):YZ k:=YE 35 Try.f35 [Zh2 k] Zki ZhY Zf6 (live:=fun i => bif Ja i 0 then [64] else [])
abbrev ZhL:Kd:=.tup [.view .str,.view (.int .i64)]
noncomputable def Zjo (k:Nat):List (YZ k):=[ZhN k,ZkL k,Zjx k,ZkP k,ZkQ k,ZkR k,ZkS k,ZkT k]
def Zjp:Nat → List Nat:=fun i => bif Ja i 0 then [64] else []
def Zjn:Nat → Ann:=fun id => bif Ja id 14 then ⟨[33,34,32,4],[]⟩ else ⟨[],[]⟩
abbrev ZhJ:=Int × Int × List (ByteArray × ByteArray × Unit) × List Int
abbrev Zdk:=ZhJ → Option ((ByteArray × Int × Unit) × Unit)
def Zj7:ZhJ → St
 | (v0,v1,v2,v3) => St.mk (Qm [(33,avI v0),(34,avI v1),(32,AV.val (PV.sl (Ty.str.pair (Ty.str.pair Ty.unit)) v2)),(4,AV.bx 8192 0)]) (Ql [(8192,rsB [AV.me 8192 64,AV.own 8193]),(8193,RS.live (Res.arr (Ty.int UO) v3 false))])
def Yu (k:Nat) (L1:Zdk):Zdk
 | (v0,v1,v2,v3) => bif decide (v1 < v0) then bif decide (0 ≤ v1 ∧ v1 < UM v2.length) then (KN k (v3,UO.wrap (UM (UN (v2.getD v1.toNat (UL #[],UL #[],())).1)),())).bind fun y => (KN k (y.2.1,UO.wrap (UM (UN (v2.getD v1.toNat (UL #[],UL #[],())).2.1)),())).bind fun y => (Zbv k (y.2.1,(v2.getD v1.toNat (UL #[],UL #[],())).1,())).bind fun y => (Zbv k (y.2.1,(v2.getD v1.toNat (UL #[],UL #[],())).2.1,())).bind fun y => L1 (v0,Jx.wrap (v1 + 1),v2,y.2.1) else none else (ZhZ k (v3,())).bind fun y => bif decide (0 ≤ Jx.wrap ((256:Int) - y.1) ∧ Jx.wrap ((256:Int) - y.1) ≤ Jx.wrap ((256:Int) - y.1) ∧ Jx.wrap ((256:Int) - y.1) < 4294967296) then (Zf6 k (y.2.1,List.replicate (Jx.wrap ((256:Int) - y.1)).toNat (0:Int),())).bind fun y => (Zep k (y.2.1,())).bind fun y => some ((y.1,0,()),()) else none
def Ze6 (k:Nat):Zdk:=Wh (fun L1 => Yu k L1) k
noncomputable def Zf2 (k:Nat) (n:Nat):=atX (Zjo k) Try.f23 Xv ZhL [1,1,1,1,1,1,1,1,0,1,0] [] n Zj7 (A:=Zjn) (live:=Zjp)
def Zbt (k:Nat) (L1:Zdk):(Bool × Int × List (ByteArray × ByteArray × Unit) × Unit) × Unit → Option ((ByteArray × Int × Unit) × Unit)
 | ((a0,a1,a2,()),()) => (Y7 k ((a0,a1,a2,()),())).bind fun y => bif !y.1 then some ((UL #[],2,()),()) else (Zeg k ((a0,a1,a2,()),())).bind fun y => bif decide ((256:Int) < y.1) then some ((UL #[],14,()),()) else bif a0 then (KN k ([],2,())).bind fun y => (KN k (y.2.1,UO.wrap (UM a2.length),())).bind fun y => bif a0 then (Zej k (a1,())).bind fun y_1 => (Zbv k (y.2.1,y_1.1,())).bind fun y => L1 (UM a2.length,(0:Int),a2,y.2.1) else L1 (UM a2.length,(0:Int),a2,y.2.1) else (KN k ([],1,())).bind fun y => (KN k (y.2.1,UO.wrap (UM a2.length),())).bind fun y => bif a0 then (Zej k (a1,())).bind fun y_1 => (Zbv k (y.2.1,y_1.1,())).bind fun y => L1 (UM a2.length,(0:Int),a2,y.2.1) else L1 (UM a2.length,(0:Int),a2,y.2.1)
def Zf1 (k:Nat):=Zbt k (Ze6 k)
theorem ZhK (k:Nat):∀ n,Zf2 k n = Wh (fun L1 => Yu k L1) n:=ZgN
set_option maxHeartbeats 1000000 in
noncomputable def ZkN (k:Nat):YZ k:=YE 23 Try.f23 (Zjo k) Xv ZhL Zf1 (A:=Zjn) (live:=Zjp) (h:=fun x => by show _ = Zbt k (Ze6 k) x; rw [show Ze6 k = Zf2 k k from (ZhK k k).symm]; kernel_rfl)
abbrev ZjE:List Kd:=[]
def Zf7 (k:Nat):Unit → Option (Bool × Unit)
 | () => (Zf1 k ((false,(0:Int),[(UL #[97],UL #[49],())],()),())).bind fun y => bif y.1.2.1 == 0 then bif UM (UN y.1.1) == 256 then bif decide ((0:Int) ≤ 0 ∧ (0:Int) ≤ 7 ∧ (7:Int) ≤ UM (UN y.1.1)) then some ((ByteArray.extract y.1.1 (0:Nat) (7:Nat)).toList == (UL #[1,1,1,1,97,49,0]).toList,()) else none else some (false,()) else some (false,())
def ZiT (k:Nat):=Zf7 k
noncomputable def Zla (k:Nat):YZ k:=YE 9 Try.f9 [ZkN k] ZjE Kq ZiT (live:=fun i => bif Ja i 0 then [64] else [])
theorem Zh4 (k:Nat):Ctr Try.prog k 9 (mk ZjE Kq ZiT):=(Zla k).2
end Go.Sh
