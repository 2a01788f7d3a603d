/-
  What the row needs, part 9.
-/
import Derived.Test.YtmeahimfdhdggaaGreatDoorXFrameWrites8
set_option linter.unusedSimpArgs false
set_option linter.unusedVariables false
set_option linter.unusedSectionVars false
namespace Go.Sh
open Go Go.Proofs
def Zy7 (k:Nat):=Zjz k (ZvX k)
theorem ZKO (k:Nat):∀ n,ZDn k n = Zm (fun L2 => ZcE k L2) n :=
 Zk (fun v => by kernel_rfl) (fun n v => by
  obtain ⟨v0,v1⟩:=v
  kernel_rfl)
theorem ZKN (k:Nat):∀ n,ZDm k n = Zm (fun L1 => ZeL k (Zp2 k) L1) n :=
 Zk (fun v => by kernel_rfl) (fun n v => by
  rw [show (Zp2 k) = ZDn k k from (ZKO k k).symm]
  obtain ⟨v0,v1,v2⟩:=v
  kernel_rfl)
theorem ZTn (k:Nat) (x:Kd.dens Qy):ZF (ZJ k) ZKM Tryz.f75 Qy Ze x = Zy7 k x:=by
 show _ = Zjz k (ZvX k) x
 rw [show ZvX k = ZDm k k from (ZKN k k).symm]
 obtain ⟨a0,⟨⟩⟩:=x
 kernel_rfl
theorem ZOQ (k:Nat):Ctr Tryz.prog k 75 (mk Qy Ze Zy7) :=
 ZG (fn:=Tryz.f75) (Zh Zc) (by kernel_rfl) (by kernel_rfl) (ZTn k)
noncomputable abbrev ZU1:Nat × Callee:=(75,mk Qy Ze Zy7)
abbrev W9:Kd:=.tup [.view .str,.view (.int .i64)]
def ZII:Nat → Ann:=fun id => bif Nat.beq id 5 then ⟨[5,0,4],[]⟩ else ⟨[],[]⟩
abbrev Znk:=Wj → Option ((ByteArray × Int × Unit) × Unit)
def ZNt:Wj → St
 | (v0,v1,v2) => St.mk (Zy [(5,Zp v0),(0,Zp v1),(4,AV.own 8192)]) (Zx [(8192,RS.live (Res.arr (Ty.int IntKind.u8) v2 false))])
def Zce (k:Nat) (L1:Znk):Znk
 | (v0,v1,v2) => bif decide (v0 < v1) then bif decide (0 ≤ v0 ∧ v0 < Int.ofNat v2.length) then bif decide (v0.toNat < v2.length) then L1 (IntKind.i64.wrap (v0 + 1),v1,v2.set v0.toNat (48:Int)) else none else none else bif decide (0 ≤ v1 ∧ v1 < Int.ofNat v2.length) then bif decide (v1.toNat < v2.length) then some ((ByteArray.mk (List.map (fun n => UInt8.ofNat n.toNat) (v2.set v1.toNat (49:Int))).toArray,0,()),()) else none else none
def Znl (k:Nat):Znk:=Zm (fun L1 => Zce k L1) k
noncomputable def Zya (k:Nat) (n:Nat) (v:Wj) :=
 Zt (ZJ k) ZII [] [1,1,1,0,1,0] [] (Q4 Tryz.f158) (Q8 (ZJ k) Tryz.f158 Zr W9 [] []) n (ZNt v)
def Zgf (k:Nat) (L1:Znk):Int × Unit → Option ((ByteArray × Int × Unit) × Unit)
 | (a0,()) => bif decide (a0 < 0) then some ((ByteArray.mk #[],1,()),()) else bif decide ((65536:Int) < a0) then some ((ByteArray.mk #[],1,()),()) else bif decide (0 ≤ IntKind.i64.wrap (a0 + 1) ∧ IntKind.i64.wrap (a0 + 1) ≤ IntKind.i64.wrap (a0 + 1) ∧ IntKind.i64.wrap (a0 + 1) < (4294967296:Int)) then L1 (0,a0,List.replicate (IntKind.i64.wrap (a0 + 1)).toNat (0:Int)) else none
def Zk5 (k:Nat):=Zgf k (Znl k)
theorem ZFB (k:Nat):∀ n,Zya k n = Zm (fun L1 => Zce k L1) n :=
 Zk (fun v => by kernel_rfl) (fun n v => by
  obtain ⟨v0,v1,v2⟩:=v
  kernel_rfl)
theorem ZNu (k:Nat) (x:Kd.dens Zr):ZF (ZJ k) ZII Tryz.f158 Zr W9 x = Zk5 k x:=by
 show _ = Zgf k (Znl k) x
 rw [show Znl k = Zya k k from (ZFB k k).symm]
 obtain ⟨a0,⟨⟩⟩:=x
 kernel_rfl
theorem Zyb (k:Nat):Ctr Tryz.prog k 158 (mk Zr W9 Zk5) :=
 ZG (fn:=Tryz.f158) (Zh Zc) (by kernel_rfl) (by kernel_rfl) (ZNu k)
noncomputable abbrev ZIJ:Nat × Callee:=(158,mk Zr W9 Zk5)
noncomputable def ZQR (k:Nat):=Wc k [ZpG,ZIJ]
def ZfG (k:Nat):Int × Int × Unit → Option (ByteArray × Unit)
 | (a0,a1,()) => (Xh k (a0,6,())).bind fun y => bif decide ((1:Nat) + ByteArray.size y.1 < 1099511627776) then bif a1 == 0 then bif decide ((ByteArray.mk #[48] ++ y.1).size + (1:Nat) < (1099511627776:Nat)) then some (ByteArray.mk #[48] ++ y.1 ++ ByteArray.mk #[48],()) else none else (Zk5 k (IntKind.i64.wrap (a1 - 1),())).bind fun y_1 => bif decide ((ByteArray.mk #[48] ++ y.1).size + (1:Nat) < (1099511627776:Nat)) then bif decide ((ByteArray.mk #[48] ++ y.1 ++ ByteArray.mk #[49]).size + ByteArray.size y_1.1.1 < 1099511627776) then some (ByteArray.mk #[48] ++ y.1 ++ ByteArray.mk #[49] ++ y_1.1.1,()) else none else none else none
def ZkL (k:Nat):=ZfG k
theorem ZMG (k:Nat) (x:Kd.dens Qf):ZF (ZQR k) nA Tryz.f119 Qf Yi x = ZkL k x:=by
 show _ = ZfG k x
 obtain ⟨a0,⟨a1,⟨⟩⟩⟩:=x
 kernel_rfl
theorem ZHP (k:Nat):Ctr Tryz.prog k 119 (mk Qf Yi ZkL) :=
 ZG (fn:=Tryz.f119) (Zh (Za (Zdh k) (Za (Zyb k) Zc))) (by kernel_rfl) (by kernel_rfl) (ZMG k)
noncomputable abbrev ZQS:Nat × Callee:=(119,mk Qf Yi ZkL)
abbrev ZvY:List Kd:=[.view ZPC,.view (.int .i64),.view .str]
abbrev ZBH:Kd:=.view ZPC
noncomputable def ZU2 (k:Nat):=Wc k [ZQS]
def ZcF (k:Nat):(Int × ByteArray × Int × Unit) × Int × ByteArray × Unit → Option ((Int × ByteArray × Int × Unit) × Unit)
 | ((a0,a1,a2,()),a3,a4,()) => (ZkL k (a3,a2,())).bind fun y => bif decide (ByteArray.size y.1 + a4.size < 1099511627776) then bif decide (a0 < 0) then some ((a3,y.1 ++ a4,a2,()),()) else bif decide (Int.ofNat (y.1 ++ a4).size < Int.ofNat a1.size) then some ((a3,y.1 ++ a4,a2,()),()) else some ((a0,a1,a2,()),()) else none
def Zg0 (k:Nat):=ZcF k
theorem ZTo (k:Nat) (x:Kd.dens ZvY):ZF (ZU2 k) nA Tryz.f76 ZvY ZBH x = Zg0 k x:=by
 show _ = ZcF k x
 obtain ⟨⟨a0,⟨a1,⟨a2,⟨⟩⟩⟩⟩,⟨a3,⟨a4,⟨⟩⟩⟩⟩:=x
 kernel_rfl
theorem ZOR (k:Nat):Ctr Tryz.prog k 76 (mk ZvY ZBH Zg0) :=
 ZG (fn:=Tryz.f76) (Zh (Za (ZHP k) Zc)) (by kernel_rfl) (by kernel_rfl) (ZTo k)
noncomputable abbrev ZU3:Nat × Callee:=(76,mk ZvY ZBH Zg0)
noncomputable def ZQU (k:Nat):=Wc k [ZJx,ZpG]
def ZfH (k:Nat):Int × Int × Unit → Option ((ByteArray × Int × Unit) × Unit)
 | (a0,a1,()) => bif decide (a1 < 0) then some ((ByteArray.mk #[],1,()),()) else bif decide ((32:Int) < a1) then some ((ByteArray.mk #[],1,()),()) else (Zpv k (a0,a1,())).bind fun y => bif !y.1 then some ((ByteArray.mk #[],12,()),()) else bif decide (a0 < 0) then bif decide (0 ≤ a1) then (Xh k (IntKind.i64.wrap (a0 + IntKind.i64.wrap ((1:Int) * (2:Int) ^ min a1.toNat 64)),a1,())).bind fun y => some ((y.1,0,()),()) else none else (Xh k (a0,a1,())).bind fun y => some ((y.1,0,()),())
def ZkM (k:Nat):=ZfH k
theorem ZMH (k:Nat) (x:Kd.dens Qf):ZF (ZQU k) nA Tryz.f120 Qf W9 x = ZkM k x:=by
 show _ = ZfH k x
 obtain ⟨a0,⟨a1,⟨⟩⟩⟩:=x
 kernel_rfl
theorem Zxv (k:Nat):Ctr Tryz.prog k 120 (mk Qf W9 ZkM) :=
 ZG (fn:=Tryz.f120) (Zh (Za (ZuV k) (Za (Zdh k) Zc))) (by kernel_rfl) (by kernel_rfl) (ZMH k)
noncomputable abbrev ZHR:Nat × Callee:=(120,mk Qf W9 ZkM)
noncomputable def ZKR (k:Nat):=Wc k [ZHR]
def ZDo:Nat → Ann:=fun id => bif Nat.beq id 3 then ⟨[6,0,1,5],[]⟩ else ⟨[],[]⟩
abbrev ZBI:=Int × List Int × Int × ByteArray
abbrev ZvZ:=ZBI → Option (ByteArray × Unit)
def ZTp:ZBI → St
 | (v0,v1,v2,v3) => St.mk (Zy [(6,Zp v0),(0,WM v1),(1,Zp v2),(5,AV.val (PV.v (Value.string v3)))]) (Zx [])
def ZeM (k:Nat) (L1:ZvZ):ZvZ
 | (v0,v1,v2,v3) => bif decide (v0 < Int.ofNat v1.length) then bif decide (0 ≤ v0 ∧ v0 < Int.ofNat v1.length) then (ZkM k (v1.getD v0.toNat 0,v2,())).bind fun y => bif decide (v3.size + ByteArray.size y.1.1 < 1099511627776) then L1 (IntKind.i64.wrap (v0 + 1),v1,v2,v3 ++ y.1.1) else none else none else some (v3,())
def Zv0 (k:Nat):ZvZ:=Zm (fun L1 => ZeM k L1) k
noncomputable def ZDp (k:Nat) (n:Nat) (v:ZBI) :=
 Zt (ZKR k) ZDo [] [1,1,0,1,0] [] (Q4 Tryz.f77) (Q8 (ZKR k) Tryz.f77 Zz Yi [] []) n (ZTp v)
def ZjA (k:Nat) (L1:ZvZ):List Int × Int × Unit → Option (ByteArray × Unit)
 | (a0,a1,()) => L1 (0,a0,a1,ByteArray.mk #[])
def Zg1 (k:Nat):=ZjA k (Zv0 k)
theorem ZKS (k:Nat):∀ n,ZDp k n = Zm (fun L1 => ZeM k L1) n :=
 Zk (fun v => by kernel_rfl) (fun n v => by
  obtain ⟨v0,v1,v2,v3⟩:=v
  kernel_rfl)
theorem ZTq (k:Nat) (x:Kd.dens Zz):ZF (ZKR k) ZDo Tryz.f77 Zz Yi x = Zg1 k x:=by
 show _ = ZjA k (Zv0 k) x
 rw [show Zv0 k = ZDp k k from (ZKS k k).symm]
 obtain ⟨a0,⟨a1,⟨⟩⟩⟩:=x
 kernel_rfl
theorem ZDq (k:Nat):Ctr Tryz.prog k 77 (mk Zz Yi Zg1) :=
 ZG (fn:=Tryz.f77) (Zh (Za (Zxv k) Zc)) (by kernel_rfl) (by kernel_rfl) (ZTq k)
noncomputable abbrev ZQc:Nat × Callee:=(77,mk Zz Yi Zg1)
def Zy8 (k:Nat):Int × Unit → Option (((List Int × Int × Unit) × Int × Unit) × Unit)
 | (a0,()) => bif decide (a0 < 0) then some ((([],(0:Int),()),1,()),()) else bif decide ((4:Int) < a0) then some ((([],(0:Int),()),1,()),()) else bif decide (0 ≤ a0 ∧ a0 < 5) then bif decide (a0.toNat < (5:Nat)) then some ((([[],[(1:Int)],[(2:Int),(-1:Int)],[(3:Int),(-3:Int),(1:Int)],[(4:Int),(-6:Int),(4:Int),(-1:Int)]].getD a0.toNat [],(0:Int),()),0,()),()) else none else none
def ZsN (k:Nat):=Zy8 k
theorem ZTr (k:Nat) (x:Kd.dens Zr):ZF (ZJ k) nA Tryz.f78 Zr Q0 x = ZsN k x:=by
 show _ = Zy8 k x
 obtain ⟨a0,⟨⟩⟩:=x
 kernel_rfl
theorem ZDr (k:Nat):Ctr Tryz.prog k 78 (mk Zr Q0 ZsN) :=
 ZG (fn:=Tryz.f78) (Zh Zc) (by kernel_rfl) (by kernel_rfl) (ZTr k)
noncomputable abbrev ZQd:Nat × Callee:=(78,mk Zr Q0 ZsN)
def Zgo (k:Nat):Int × Unit → Option (Bool × Unit)
 | (a0,()) => bif decide ((-2147483648:Int) < a0) then some (decide (a0 < 2147483648),()) else some (false,())
def Zpd (k:Nat):=Zgo k
theorem ZNL (k:Nat) (x:Kd.dens Zr):ZF (ZJ k) nA Tryz.f166 Zr ZA x = Zpd k x:=by
 show _ = Zgo k x
 obtain ⟨a0,⟨⟩⟩:=x
 kernel_rfl
theorem ZIY (k:Nat):Ctr Tryz.prog k 166 (mk Zr ZA Zpd) :=
 ZG (fn:=Tryz.f166) (Zh Zc) (by kernel_rfl) (by kernel_rfl) (ZNL k)
noncomputable abbrev ZRt:Nat × Callee:=(166,mk Zr ZA Zpd)
noncomputable def ZAC (k:Nat):=Wc k [ZRt]
def ZHV:Nat → Ann:=fun id => bif Nat.beq id 2 then ⟨[3,0],[]⟩ else ⟨[],[]⟩
abbrev ZmQ:=Zaf → Option (Bool × Unit)
def ZMN:Zaf → St
 | (v0,v1) => St.mk (Zy [(3,Zp v0),(0,WM v1)]) (Zx [])
def ZbY (k:Nat) (L1:ZmQ):ZmQ
 | (v0,v1) => bif decide (v0 < Int.ofNat v1.length) then bif decide (0 ≤ v0 ∧ v0 < Int.ofNat v1.length) then (Zpd k (v1.getD v0.toNat 0,())).bind fun y => bif !y.1 then some (false,()) else L1 (IntKind.i64.wrap (v0 + 1),v1) else none else some (true,())
def ZmR (k:Nat):ZmQ:=Zm (fun L1 => ZbY k L1) k
noncomputable def Zxy (k:Nat) (n:Nat) (v:Zaf) :=
 Zt (ZAC k) ZHV [] [1,0,1,0] [] (Q4 Tryz.f123) (Q8 (ZAC k) Tryz.f123 Qy ZA [] []) n (ZMN v)
def ZfM (k:Nat) (L1:ZmQ):List Int × Unit → Option (Bool × Unit)
 | (a0,()) => L1 (0,a0)
def Zhy (k:Nat):=ZfM k (ZmR k)
theorem ZEV (k:Nat):∀ n,Zxy k n = Zm (fun L1 => ZbY k L1) n :=
 Zk (fun v => by kernel_rfl) (fun n v => by
  obtain ⟨v0,v1⟩:=v
  kernel_rfl)
theorem ZMO (k:Nat) (x:Kd.dens Qy):ZF (ZAC k) ZHV Tryz.f123 Qy ZA x = Zhy k x:=by
 show _ = ZfM k (ZmR k) x
 rw [show ZmR k = Zxy k k from (ZEV k k).symm]
 obtain ⟨a0,⟨⟩⟩:=x
 kernel_rfl
theorem Zxz (k:Nat):Ctr Tryz.prog k 123 (mk Qy ZA Zhy) :=
 ZG (fn:=Tryz.f123) (Zh (Za (ZIY k) Zc)) (by kernel_rfl) (by kernel_rfl) (ZMO k)
noncomputable abbrev ZHW:Nat × Callee:=(123,mk Qy ZA Zhy)
def ZIK:Nat → Ann:=fun id => bif Nat.beq id 4 then ⟨[3,1],[]⟩ else ⟨[],[]⟩
abbrev Znm:=YI → Option (Bool × Unit)
def ZNv:YI → St
 | (v0,v1,v2) => St.mk (Zy [(3,Zp v0),(1,AV.bx 8192 0)]) (Zx [(8192,Wh [WM v1,Zp v2])])
def Zcf (k:Nat) (L1:Znm):Znm
 | (v0,v1,v2) => bif decide (v0 < Int.ofNat v1.length) then bif decide (0 ≤ v0 ∧ v0 < Int.ofNat v1.length) then bif decide (v1.getD v0.toNat 0 < (-2048:Int)) then some (false,()) else bif decide (0 ≤ v0 ∧ v0 < Int.ofNat v1.length) then bif decide ((2047:Int) < v1.getD v0.toNat 0) then some (false,()) else L1 (IntKind.i64.wrap (v0 + 1),v1,v2) else none else none else some (true,())
def Znn (k:Nat):Znm:=Zm (fun L1 => Zcf k L1) k
noncomputable def Zyc (k:Nat) (n:Nat) (v:YI) :=
 Zt (ZJ k) ZIK [] [1,1,0,1,0] [] (Q4 Tryz.f159) (Q8 (ZJ k) Tryz.f159 Zah ZA [] []) n (ZNv v)
def Zgg (k:Nat) (L1:Znm):(List Int × Int × Unit) × Unit → Option (Bool × Unit)
 | ((a0,a1,()),()) => bif decide ((8:Int) < Int.ofNat a0.length) then some (false,()) else bif decide (a1 < 0) then some (false,()) else bif decide ((15:Int) < a1) then some (false,()) else L1 (0,a0,a1)
def Zo9 (k:Nat):=Zgg k (Znn k)
theorem ZFC (k:Nat):∀ n,Zyc k n = Zm (fun L1 => Zcf k L1) n :=
 Zk (fun v => by kernel_rfl) (fun n v => by
  obtain ⟨v0,v1,v2⟩:=v
  kernel_rfl)
theorem ZNw (k:Nat) (x:Kd.dens Zah):ZF (ZJ k) ZIK Tryz.f159 Zah ZA x = Zo9 k x:=by
 show _ = Zgg k (Znn k) x
 rw [show Znn k = Zyc k k from (ZFC k k).symm]
 obtain ⟨⟨a0,⟨a1,⟨⟩⟩⟩,⟨⟩⟩:=x
 kernel_rfl
theorem ZIL (k:Nat):Ctr Tryz.prog k 159 (mk Zah ZA Zo9) :=
 ZG (fn:=Tryz.f159) (Zh Zc) (by kernel_rfl) (by kernel_rfl) (ZNw k)
noncomputable abbrev ZRn:Nat × Callee:=(159,mk Zah ZA Zo9)
def Zgw (k:Nat):Int × Int × Unit → Option (Int × Unit)
 | (a0,a1,()) => bif decide (0 ≤ a1) then bif decide ¬IntKind.i64.wrap ((1:Int) * (2:Int) ^ min a1.toNat 64) = (0:Int) then bif decide ¬IntKind.i64.wrap ((1:Int) * (2:Int) ^ min a1.toNat 64) = (0:Int) then bif decide (a0.tmod (IntKind.i64.wrap ((1:Int) * (2:Int) ^ min a1.toNat 64)) < (0:Int)) then some (IntKind.i64.wrap (IntKind.i64.wrap (a0.tdiv (IntKind.i64.wrap ((1:Int) * (2:Int) ^ min a1.toNat 64))) - (1:Int)),()) else some (IntKind.i64.wrap (a0.tdiv (IntKind.i64.wrap ((1:Int) * (2:Int) ^ min a1.toNat 64))),()) else none else none else none
def Zpk (k:Nat):=Zgw k
theorem ZN4 (k:Nat) (x:Kd.dens Qf):ZF (ZJ k) nA Tryz.f183 Qf Ze x = Zpk k x:=by
 show _ = Zgw k x
 obtain ⟨a0,⟨a1,⟨⟩⟩⟩:=x
 kernel_rfl
theorem ZJg (k:Nat):Ctr Tryz.prog k 183 (mk Qf Ze Zpk) :=
 ZG (fn:=Tryz.f183) (Zh Zc) (by kernel_rfl) (by kernel_rfl) (ZN4 k)
noncomputable abbrev ZRN:Nat × Callee:=(183,mk Qf Ze Zpk)
abbrev ZiG:List Kd:=[.view Zdo,.view (.sl (.int .i64)),.view (.int .i64)]
noncomputable def ZA2 (k:Nat):=Wc k [ZRN]
def ZIO:Nat → Ann:=fun id => bif Nat.beq id 3 then ⟨[8,3,7,1,2],[]⟩ else ⟨[],[]⟩
abbrev Zno:=Zae → Option (Int × Unit)
def ZNy:Zae → St
 | (v0,v1,v2,v3,v4,v5) => St.mk (Zy [(8,Zp v0),(3,AV.bx 8192 0),(7,Zp v1),(1,WM v2),(2,Zp v3)]) (Zx [(8192,Wh [WM v4,Zp v5])])
def Zcg (k:Nat) (L1:Zno):Zno
 | (v0,v1,v2,v3,v4,v5) => bif decide (v0 < Int.ofNat v4.length) then bif decide (0 ≤ v0 ∧ v0 < Int.ofNat v4.length) then bif decide (0 ≤ IntKind.i64.wrap (IntKind.i64.wrap (v3 - 1) - v0) ∧ IntKind.i64.wrap (IntKind.i64.wrap (v3 - 1) - v0) < Int.ofNat v2.length) then L1 (IntKind.i64.wrap (v0 + 1),IntKind.i64.wrap (v1 + IntKind.i64.wrap (v4.getD v0.toNat 0 * v2.getD (IntKind.i64.wrap (IntKind.i64.wrap (v3 - 1) - v0)).toNat 0)),v2,v3,v4,v5) else none else none else (Zpk k (v1,v5,())).bind fun y => some (y.1,())
def Znp (k:Nat):Zno:=Zm (fun L1 => Zcg k L1) k
noncomputable def Zye (k:Nat) (n:Nat) (v:Zae) :=
 Zt (ZA2 k) ZIO [] [1,1,0,1,0] [] (Q4 Tryz.f160) (Q8 (ZA2 k) Tryz.f160 ZiG Ze [] []) n (ZNy v)
def Zgh (k:Nat) (L1:Zno):(List Int × Int × Unit) × List Int × Int × Unit → Option (Int × Unit)
 | ((a0,a1,()),a2,a3,()) => L1 (0,(0:Int),a2,a3,a0,a1)
def Zpa (k:Nat):=Zgh k (Znp k)
theorem ZFE (k:Nat):∀ n,Zye k n = Zm (fun L1 => Zcg k L1) n :=
 Zk (fun v => by kernel_rfl) (fun n v => by
  obtain ⟨v0,v1,v2,v3,v4,v5⟩:=v
  kernel_rfl)
theorem ZNz (k:Nat) (x:Kd.dens ZiG):ZF (ZA2 k) ZIO Tryz.f160 ZiG Ze x = Zpa k x:=by
 show _ = Zgh k (Znp k) x
 rw [show Znp k = Zye k k from (ZFE k k).symm]
 obtain ⟨⟨a0,⟨a1,⟨⟩⟩⟩,⟨a2,⟨a3,⟨⟩⟩⟩⟩:=x
 kernel_rfl
theorem ZIP (k:Nat):Ctr Tryz.prog k 160 (mk ZiG Ze Zpa) :=
 ZG (fn:=Tryz.f160) (Zh (Za (ZJg k) Zc)) (by kernel_rfl) (by kernel_rfl) (ZNz k)
noncomputable abbrev ZRq:Nat × Callee:=(160,mk ZiG Ze Zpa)
noncomputable def ZAA (k:Nat):=Wc k [ZHW,ZRn,ZRq]
def ZHS:Nat → Ann:=fun id => bif Nat.beq id 9 then ⟨[7,1,6,2],[.slot 6 ((Ty.int IntKind.i64))]⟩ else ⟨[],[]⟩
abbrev Zuf:=Int × List Int × List Int × List Int × Int
abbrev ZmM:=Zuf → Option ((List Int × Int × Unit) × Unit)
def ZMI:Zuf → St
 | (v0,v1,v2,v3,v4) => St.mk (Zy [(7,Zp v0),(1,WM v1),(6,AV.own 8192),(2,AV.bx 8193 0)]) (Zx [(8192,rsA v2 false),(8193,Wh [WM v3,Zp v4])])
def ZbW (k:Nat) (L1:ZmM):ZmM
 | (v0,v1,v2,v3,v4) => bif decide (v0 < Int.ofNat v1.length) then bif decide (0 ≤ v0 ∧ v0 < Int.ofNat v1.length) then (Zpa k ((v3,v4,()),v1,v0,())).bind fun y => bif decide (v2.length + [IntKind.i64.wrap (v1.getD v0.toNat 0 - y.1)].length < 2147483648) then L1 (IntKind.i64.wrap (v0 + 1),v1,v2 ++ [IntKind.i64.wrap (v1.getD v0.toNat 0 - y.1)],v3,v4) else none else none else (Zhy k (v2,())).bind fun y => bif !y.1 then some (([],12,()),()) else some ((v2,0,()),())
def ZmN (k:Nat):ZmM:=Zm (fun L1 => ZbW k L1) k
noncomputable def Zxw (k:Nat) (n:Nat) (v:Zuf) :=
 Zt (ZAA k) ZHS [] [1,1,1,1,1,0,1,0] [] (Q4 Tryz.f121) (Q8 (ZAA k) Tryz.f121 QG QF [] []) n (ZMI v)
def ZfI (k:Nat) (L1:ZmM):(List Int × Int × Unit) × List Int × Unit → Option ((List Int × Int × Unit) × Unit)
 | ((a0,a1,()),a2,()) => (Zo9 k ((a0,a1,()),())).bind fun y => bif !y.1 then some (([],2,()),()) else bif decide (Int.ofNat a2.length < Int.ofNat a0.length) then some (([],1,()),()) else (Zhy k (a2,())).bind fun y => bif !y.1 then some (([],12,()),()) else L1 (Int.ofNat a0.length,a2,[],a0,a1)
def Zhx (k:Nat):=ZfI k (ZmN k)
theorem ZER (k:Nat):∀ n,Zxw k n = Zm (fun L1 => ZbW k L1) n :=
 Zk (fun v => by kernel_rfl) (fun n v => by
  obtain ⟨v0,v1,v2,v3,v4⟩:=v
  kernel_rfl)
theorem ZMJ (k:Nat) (x:Kd.dens QG):ZF (ZAA k) ZHS Tryz.f121 QG QF x = Zhx k x:=by
 show _ = ZfI k (ZmN k) x
 rw [show ZmN k = Zxw k k from (ZER k k).symm]
 obtain ⟨⟨a0,⟨a1,⟨⟩⟩⟩,⟨a2,⟨⟩⟩⟩:=x
 kernel_rfl
theorem Zxx (k:Nat):Ctr Tryz.prog k 121 (mk QG QF Zhx) :=
 ZG (fn:=Tryz.f121) (Zh (Za (Zxz k) (Za (ZIL k) (Za (ZIP k) Zc)))) (by kernel_rfl) (by kernel_rfl) (ZMJ k)
noncomputable abbrev ZHT:Nat × Callee:=(121,mk QG QF Zhx)
def Zgu (k:Nat):Int × Int × Unit → Option (Bool × Unit)
 | (a0,a1,()) => bif decide (1 ≤ a0) then bif decide (a0 ≤ 512) then bif decide (0 ≤ a1) then bif decide (a1 ≤ 8) then some (decide (a1 ≤ a0),()) else some (false,()) else some (false,()) else some (false,()) else some (false,())
def Zph (k:Nat):=Zgu k
theorem ZNY (k:Nat) (x:Kd.dens Qf):ZF (ZJ k) nA Tryz.f174 Qf ZA x = Zph k x:=by
 show _ = Zgu k x
 obtain ⟨a0,⟨a1,⟨⟩⟩⟩:=x
 kernel_rfl
theorem ZJa (k:Nat):Ctr Tryz.prog k 174 (mk Qf ZA Zph) :=
 ZG (fn:=Tryz.f174) (Zh Zc) (by kernel_rfl) (by kernel_rfl) (ZNY k)
noncomputable abbrev ZRE:Nat × Callee:=(174,mk Qf ZA Zph)
noncomputable def ZA3 (k:Nat):=Wc k [ZRE]
def ZIQ:Nat → Ann:=fun id => bif Nat.beq id 4 then ⟨[5,0],[]⟩ else ⟨[],[]⟩
abbrev Znq:=Zaf → Option (Int × Unit)
def ZNA:Zaf → St
 | (v0,v1) => St.mk (Zy [(5,Zp v0),(0,WM v1)]) (Zx [])
def Zch (k:Nat) (L1:Znq):Znq
 | (v0,v1) => bif decide (v0 < Int.ofNat v1.length) then bif decide (0 ≤ v0 ∧ v0 < Int.ofNat v1.length) then bif decide (v1.getD v0.toNat 0 ≤ (-2147483648:Int)) then some (12,()) else bif decide (0 ≤ v0 ∧ v0 < Int.ofNat v1.length) then bif decide (2147483648 ≤ v1.getD v0.toNat 0) then some (12,()) else L1 (IntKind.i64.wrap (v0 + 1),v1) else none else none else some (0,())
def Znr (k:Nat):Znq:=Zm (fun L1 => Zch k L1) k
noncomputable def Zyf (k:Nat) (n:Nat) (v:Zaf) :=
 Zt (ZA3 k) ZIQ [] [1,1,0,1,0] [] (Q4 Tryz.f161) (Q8 (ZA3 k) Tryz.f161 Zz Ze [] []) n (ZNA v)
def Zgi (k:Nat) (L1:Znq):List Int × Int × Unit → Option (Int × Unit)
 | (a0,a1,()) => bif decide (a1 < 0) then some (1,()) else bif decide ((8:Int) < a1) then some (1,()) else (Zph k (IntKind.i64.wrap (Int.ofNat a0.length + a1),a1,())).bind fun y => bif !y.1 then some (1,()) else L1 (0,a0)
def Zpb (k:Nat):=Zgi k (Znr k)
theorem ZFG (k:Nat):∀ n,Zyf k n = Zm (fun L1 => Zch k L1) n :=
 Zk (fun v => by kernel_rfl) (fun n v => by
  obtain ⟨v0,v1⟩:=v
  kernel_rfl)
theorem ZNB (k:Nat) (x:Kd.dens Zz):ZF (ZA3 k) ZIQ Tryz.f161 Zz Ze x = Zpb k x:=by
 show _ = Zgi k (Znr k) x
 rw [show Znr k = Zyf k k from (ZFG k k).symm]
 obtain ⟨a0,⟨a1,⟨⟩⟩⟩:=x
 kernel_rfl
theorem ZIR (k:Nat):Ctr Tryz.prog k 161 (mk Zz Ze Zpb) :=
 ZG (fn:=Tryz.f161) (Zh (Za (ZJa k) Zc)) (by kernel_rfl) (by kernel_rfl) (ZNB k)
noncomputable abbrev ZRr:Nat × Callee:=(161,mk Zz Ze Zpb)
abbrev Znw:Kd:=.ns (.sl (.int .i64))
def ZIT:Nat → Ann:=fun id => bif Nat.beq id 6 then ⟨[9,2,7,1,8,0],[.slot 8 ((Ty.int IntKind.i64).sl)]⟩ else ⟨[],[]⟩
abbrev ZuH:=Int × Int × Int × Int × List Int × List (List Int)
abbrev Znu:=ZuH → Option (List (List Int) × Unit)
def ZNG:ZuH → St
 | (v0,v1,v2,v3,v4,v5) => St.mk (Zy [(9,Zp v0),(2,Zp v1),(7,Zp v2),(1,Zp v3),(8,AV.own 8192),(0,WM v4)]) (Zx [(8192,RS.live (Res.arr (Ty.int IntKind.i64).sl v5 false))])
def Y6 (k:Nat) (L1:Znu):Znu
 | (v0,v1,v2,v3,v4,v5) => bif decide (0 ≤ v1) then bif decide (v0 < IntKind.i64.wrap ((1:Int) * (2:Int) ^ min v1.toNat 64)) then bif decide (0 ≤ v1) then bif v0 == 0 then bif decide ((0:Int) ≤ 0 ∧ (0:Int) ≤ IntKind.i64.wrap (v2.fdiv ((2:Int) ^ min v1.toNat 64) - v3) ∧ IntKind.i64.wrap (v2.fdiv ((2:Int) ^ min v1.toNat 64) - v3) ≤ Int.ofNat v4.length) then bif decide (v5.length + [List.drop 0 (List.take (IntKind.i64.wrap (v2.fdiv ((2:Int) ^ min v1.toNat 64) - v3)).toNat v4)].length < 2147483648) then bif decide (0 ≤ IntKind.i64.wrap (v2.fdiv ((2:Int) ^ min v1.toNat 64) - v3) ∧ IntKind.i64.wrap (v2.fdiv ((2:Int) ^ min v1.toNat 64) - v3) ≤ Int.ofNat v4.length ∧ Int.ofNat v4.length ≤ Int.ofNat v4.length) then L1 (IntKind.i64.wrap (v0 + 1),v1,v2,v3,List.drop (IntKind.i64.wrap (v2.fdiv ((2:Int) ^ min v1.toNat 64) - v3)).toNat (List.take (Int.ofNat v4.length).toNat v4),v5 ++ [List.drop 0 (List.take (IntKind.i64.wrap (v2.fdiv ((2:Int) ^ min v1.toNat 64) - v3)).toNat v4)]) else none else none else none else bif decide ((0:Int) ≤ 0 ∧ (0:Int) ≤ v2.fdiv ((2:Int) ^ min v1.toNat 64) ∧ v2.fdiv ((2:Int) ^ min v1.toNat 64) ≤ Int.ofNat v4.length) then bif decide (v5.length + [List.drop 0 (List.take (v2.fdiv ((2:Int) ^ min v1.toNat 64)).toNat v4)].length < 2147483648) then bif decide (0 ≤ v2.fdiv ((2:Int) ^ min v1.toNat 64) ∧ v2.fdiv ((2:Int) ^ min v1.toNat 64) ≤ Int.ofNat v4.length ∧ Int.ofNat v4.length ≤ Int.ofNat v4.length) then L1 (IntKind.i64.wrap (v0 + 1),v1,v2,v3,List.drop (v2.fdiv ((2:Int) ^ min v1.toNat 64)).toNat (List.take (Int.ofNat v4.length).toNat v4),v5 ++ [List.drop 0 (List.take (v2.fdiv ((2:Int) ^ min v1.toNat 64)).toNat v4)]) else none else none else none else none else bif decide ((0:Nat) < v5.length) then some (v5,()) else none else none
def Znv (k:Nat):Znu:=Zm (fun L1 => Y6 k L1) k
noncomputable def Zyg (k:Nat) (n:Nat) (v:ZuH) :=
 Zt (ZJ k) ZIT [] [1,1,1,1,0,1,0] [] (Q4 Tryz.f163) (Q8 (ZJ k) Tryz.f163 Kl Znw [] []) n (ZNG v)
def Zgl (k:Nat) (L1:Znu):List Int × Int × Int × Unit → Option (List (List Int) × Unit)
 | (a0,a1,a2,()) => bif decide (0 ≤ a2) then bif decide ¬IntKind.i64.wrap ((1:Int) * (2:Int) ^ min a2.toNat 64) = (0:Int) then bif (IntKind.i64.wrap (Int.ofNat a0.length + a1)).tmod (IntKind.i64.wrap ((1:Int) * (2:Int) ^ min a2.toNat 64)) != (0:Int) then some ([],()) else bif decide (0 ≤ a2) then bif decide ((IntKind.i64.wrap (Int.ofNat a0.length + a1)).fdiv ((2:Int) ^ min a2.toNat 64) < a1) then some ([],()) else L1 (0,a2,IntKind.i64.wrap (Int.ofNat a0.length + a1),a1,a0,[]) else none else none else none
def Zk6 (k:Nat):=Zgl k (Znv k)
theorem ZFN (k:Nat):∀ n,Zyg k n = Zm (fun L1 => Y6 k L1) n :=
 Zk (fun v => by kernel_rfl) (fun n v => by
  obtain ⟨v0,v1,v2,v3,v4,v5⟩:=v
  kernel_rfl)
theorem ZNH (k:Nat) (x:Kd.dens Kl):ZF (ZJ k) ZIT Tryz.f163 Kl Znw x = Zk6 k x:=by
 show _ = Zgl k (Znv k) x
 rw [show Znv k = Zyg k k from (ZFN k k).symm]
 obtain ⟨a0,⟨a1,⟨a2,⟨⟩⟩⟩⟩:=x
 kernel_rfl
theorem Zyh (k:Nat):Ctr Tryz.prog k 163 (mk Kl Znw Zk6) :=
 ZG (fn:=Tryz.f163) (Zh Zc) (by kernel_rfl) (by kernel_rfl) (ZNH k)
noncomputable abbrev ZIU:Nat × Callee:=(163,mk Kl Znw Zk6)
def Zgn (k:Nat):Int × Unit → Option (Int × Unit)
 | (a0,()) => bif decide (a0 < 0) then some (IntKind.i64.wrap (IntKind.i64.wrap ((-2:Int) * a0) - 1),()) else some (IntKind.i64.wrap ((2:Int) * a0),())
def Zk8 (k:Nat):=Zgn k
theorem ZNK (k:Nat) (x:Kd.dens Zr):ZF (ZJ k) nA Tryz.f165 Zr Ze x = Zk8 k x:=by
 show _ = Zgn k x
 obtain ⟨a0,⟨⟩⟩:=x
 kernel_rfl
theorem Zyk (k:Nat):Ctr Tryz.prog k 165 (mk Zr Ze Zk8) :=
 ZG (fn:=Tryz.f165) (Zh Zc) (by kernel_rfl) (by kernel_rfl) (ZNK k)
noncomputable abbrev ZIX:Nat × Callee:=(165,mk Zr Ze Zk8)
noncomputable def ZA9 (k:Nat):=Wc k [ZIX]
def ZN5:ZeI → St
 | (v0,v1,v2,v3) => St.mk (Zy [(6,Zp v0),(0,WM v1),(1,Zp v2),(5,Zp v3)]) (Zx [])
def Zcn (k:Nat) (L1:ZeH):ZeH
 | (v0,v1,v2,v3) => bif decide (v0 < Int.ofNat v1.length) then bif decide (0 ≤ v0 ∧ v0 < Int.ofNat v1.length) then (Zk8 k (v1.getD v0.toNat 0,())).bind fun y => bif decide (0 ≤ v2) then bif decide ((65536:Int) < Int.fdiv y.1 ((2:Int) ^ min v2.toNat 64)) then some ((-1:Int),()) else L1 (IntKind.i64.wrap (v0 + 1),v1,v2,IntKind.i64.wrap (IntKind.i64.wrap (IntKind.i64.wrap (v3 + Int.fdiv y.1 ((2:Int) ^ min v2.toNat 64)) + (1:Int)) + v2)) else none else none else some (v3,())
def ZnB (k:Nat):ZeH:=Zm (fun L1 => Zcn k L1) k
noncomputable def Zyt (k:Nat) (n:Nat) (v:ZeI) :=
 Zt (ZA9 k) ZDo [] [1,1,0,1,0] [] (Q4 Tryz.f184) (Q8 (ZA9 k) Tryz.f184 Zz Ze [] []) n (ZN5 v)
def Zgx (k:Nat) (L1:ZeH):List Int × Int × Unit → Option (Int × Unit)
 | (a0,a1,()) => L1 (0,a0,a1,(0:Int))
def Zpl (k:Nat):=Zgx k (ZnB k)
theorem ZF1 (k:Nat):∀ n,Zyt k n = Zm (fun L1 => Zcn k L1) n :=
 Zk (fun v => by kernel_rfl) (fun n v => by
  obtain ⟨v0,v1,v2,v3⟩:=v
  kernel_rfl)
theorem ZN6 (k:Nat) (x:Kd.dens Zz):ZF (ZA9 k) ZDo Tryz.f184 Zz Ze x = Zpl k x:=by
 show _ = Zgx k (ZnB k) x
 rw [show ZnB k = Zyt k k from (ZF1 k k).symm]
 obtain ⟨a0,⟨a1,⟨⟩⟩⟩:=x
 kernel_rfl
theorem ZJh (k:Nat):Ctr Tryz.prog k 184 (mk Zz Ze Zpl) :=
 ZG (fn:=Tryz.f184) (Zh (Za (Zyk k) Zc)) (by kernel_rfl) (by kernel_rfl) (ZN6 k)
noncomputable abbrev ZRO:Nat × Callee:=(184,mk Zz Ze Zpl)
noncomputable def Zpm (k:Nat):=Wc k [ZJx]
def ZBa:Nat → Ann:=fun id => bif Nat.beq id 5 then ⟨[0,4,3],[]⟩ else bif Nat.beq id 3 then ⟨[4,0,3],[]⟩ else ⟨[],[]⟩
abbrev ZuN:=List Int × Int × Int
abbrev ZnC:=ZuN → Option (Int × Unit)
def ZN8:ZuN → St
 | (v0,v1,v2) => St.mk (Zy [(0,WM v0),(4,Zp v1),(3,Zp v2)]) (Zx [])
def Zas (k:Nat) (L1:ZbG) (L2:ZnC):ZnC
 | (v0,v1,v2) => bif decide (0 ≤ v1 ∧ v1 < Int.ofNat v0.length) then (Zpv k (v0.getD v1.toNat 0,v2,())).bind fun y => bif !y.1 then L2 (v0,v1,IntKind.i64.wrap (v2 + 1)) else L1 (IntKind.i64.wrap (v1 + 1),v0,v2) else none
def ZnE (k:Nat) (L1:ZbG):ZnC:=Zm (fun L2 => Zas k L1 L2) k
noncomputable def ZiL (k:Nat) (n1:Nat) (n:Nat) (v:ZuN):Option (Int × Unit) :=
 Zt (Zpm k) ZBa [] [1,1,0,1,0,0,1,0,0,0] [n1] (Q4 Tryz.f185) (Q8 (Zpm k) Tryz.f185 Qy Ze [] []) n (ZN8 v)
def ZN7:YI → St
 | (v0,v1,v2) => St.mk (Zy [(4,Zp v0),(0,WM v1),(3,Zp v2)]) (Zx [])
def Zco (k:Nat) (L2:ZnC) (L1:ZbG):ZbG
 | (v0,v1,v2) => bif decide (v0 < Int.ofNat v1.length) then L2 (v1,v0,v2) else some (v2,())
def ZnD (k:Nat):ZbG:=Zm (fun L1 => Zco k (ZnE k L1) L1) k
noncomputable def Zei (k:Nat) (n:Nat) (v:YI) :=
 Zt (Zpm k) ZBa [] [1,1,0,1,0] [] (Q4 Tryz.f185) (Q8 (Zpm k) Tryz.f185 Qy Ze [] []) n (ZN7 v)
def Zgy (k:Nat) (L1:ZbG):List Int × Unit → Option (Int × Unit)
 | (a0,()) => L1 (0,a0,(0:Int))
def Zpn (k:Nat):=Zgy k (ZnD k)
theorem ZF4 (k:Nat) (n1:Nat):∀ n,ZiL k n1 n = Zm (fun L2 => Zas k (Zei k n1) L2) n :=
 Zk (fun v => by kernel_rfl) (fun n v => by
  show ZiL k n1 (n + 1) v = Zas k (Zei k n1) (ZiL k n1 n) v
  obtain ⟨v0,v1,v2⟩:=v
  kernel_rfl)
theorem ZF3 (k:Nat):∀ n,Zei k n = Zm (fun L1 => Zco k (ZnE k L1) L1) n :=
 Zk (fun v => by kernel_rfl) (fun n v => by
  rw [show (ZnE k (Zei k n)) = ZiL k n k from (ZF4 k n k).symm]
  obtain ⟨v0,v1,v2⟩:=v
  kernel_rfl)
theorem ZN9 (k:Nat) (x:Kd.dens Qy):ZF (Zpm k) ZBa Tryz.f185 Qy Ze x = Zpn k x:=by
 show _ = Zgy k (ZnD k) x
 rw [show ZnD k = Zei k k from (ZF3 k k).symm]
 obtain ⟨a0,⟨⟩⟩:=x
 kernel_rfl
theorem ZJi (k:Nat):Ctr Tryz.prog k 185 (mk Qy Ze Zpn) :=
 ZG (fn:=Tryz.f185) (Zh (Za (ZuV k) Zc)) (by kernel_rfl) (by kernel_rfl) (ZN9 k)
noncomputable abbrev ZRP:Nat × Callee:=(185,mk Qy Ze Zpn)
noncomputable def ZA5 (k:Nat):=Wc k [ZRO,ZRP]
def ZIV:Nat → Ann:=fun id => bif Nat.beq id 4 then ⟨[10,7,0,8,9],[]⟩ else ⟨[],[]⟩
def ZNI:ZaG → St
 | (v0,v1,v2,v3,v4) => St.mk (Zy [(10,Zp v0),(7,Zp v1),(0,WM v2),(8,Zp v3),(9,Zp v4)]) (Zx [])
def Zcj (k:Nat) (L1:Za9):Za9
 | (v0,v1,v2,v3,v4) => bif decide (v0 < v1) then (Zpl k (v2,v0,())).bind fun y => bif decide ((0:Int) ≤ y.1) then bif decide (v3 < 0) then L1 (IntKind.i64.wrap (v0 + 1),v1,v2,v0,y.1) else bif decide (y.1 < v4) then L1 (IntKind.i64.wrap (v0 + 1),v1,v2,v0,y.1) else L1 (IntKind.i64.wrap (v0 + 1),v1,v2,v3,v4) else L1 (IntKind.i64.wrap (v0 + 1),v1,v2,v3,v4) else (Zpn k (v2,())).bind fun y => bif decide (y.1 ≤ 31) then bif decide (v3 < 0) then some ((v1,y.1,IntKind.i64.wrap ((5:Int) + IntKind.i64.wrap (y.1 * Int.ofNat v2.length)),()),()) else bif decide (IntKind.i64.wrap ((5:Int) + IntKind.i64.wrap (y.1 * Int.ofNat v2.length)) < v4) then some ((v1,y.1,IntKind.i64.wrap ((5:Int) + IntKind.i64.wrap (y.1 * Int.ofNat v2.length)),()),()) else some ((v3,0,v4,()),()) else some ((v3,0,v4,()),())
def Znx (k:Nat):Za9:=Zm (fun L1 => Zcj k L1) k
noncomputable def Zyi (k:Nat) (n:Nat) (v:ZaG) :=
 Zt (ZA5 k) ZIV [] [1,1,1,0,1,0] [] (Q4 Tryz.f164) (Q8 (ZA5 k) Tryz.f164 Zz WC [] []) n (ZNI v)
def Zgm (k:Nat) (L1:Za9):List Int × Int × Unit → Option ((Int × Int × Int × Unit) × Unit)
 | (a0,a1,()) => bif decide (0 ≤ a1 ∧ a1 < 2) then bif decide (a1.toNat < (2:Nat)) then L1 (0,[(15:Int),(31:Int)].getD a1.toNat 0,a0,(-1:Int),(0:Int)) else none else none
def Zk7 (k:Nat):=Zgm k (Znx k)
theorem ZFP (k:Nat):∀ n,Zyi k n = Zm (fun L1 => Zcj k L1) n :=
 Zk (fun v => by kernel_rfl) (fun n v => by
  obtain ⟨v0,v1,v2,v3,v4⟩:=v
  kernel_rfl)
theorem ZNJ (k:Nat) (x:Kd.dens Zz):ZF (ZA5 k) ZIV Tryz.f164 Zz WC x = Zk7 k x:=by
 show _ = Zgm k (Znx k) x
 rw [show Znx k = Zyi k k from (ZFP k k).symm]
 obtain ⟨a0,⟨a1,⟨⟩⟩⟩:=x
 kernel_rfl
theorem Zyj (k:Nat):Ctr Tryz.prog k 164 (mk Zz WC Zk7) :=
 ZG (fn:=Tryz.f164) (Zh (Za (ZJh k) (Za (ZJi k) Zc))) (by kernel_rfl) (by kernel_rfl) (ZNJ k)
noncomputable abbrev ZIW:Nat × Callee:=(164,mk Zz WC Zk7)
noncomputable def ZhD (k:Nat):=Wc k [ZIU,ZIW]
def ZuD:Nat → Ann:=fun id => bif Nat.beq id 11 then ⟨[14,11,12,7,9,10,0,1,8,13],[]⟩ else bif Nat.beq id 7 then ⟨[12,11,7,9,10,0,1,8],[]⟩ else bif Nat.beq id 3 then ⟨[10,0,1,7,9,8],[]⟩ else ⟨[],[]⟩
abbrev ZuG:=Int × List (List Int) × Int × Int × Int × Int × List Int × Int × Int × Int
abbrev Zns:=ZuG → Option ((Int × Int × Int × Unit) × Unit)
abbrev ZuF:=Int × List (List Int) × Int × Int × Int × List Int × Int × Int
abbrev Zgj:=ZuF → Option ((Int × Int × Int × Unit) × Unit)
abbrev ZuE:=Int × List Int × Int × Int × Int × Int
abbrev Zbc:=ZuE → Option ((Int × Int × Int × Unit) × Unit)
def ZNE:ZuG → St
 | (v0,v1,v2,v3,v4,v5,v6,v7,v8,v9) => St.mk (Zy [(14,Zp v0),(11,AV.ns (Ty.int IntKind.i64).sl v1),(12,Zp v2),(7,Zp v3),(9,Zp v4),(10,Zp v5),(0,WM v6),(1,Zp v7),(8,Zp v8),(13,Zp v9)]) (Zx [])
def Zar (k:Nat) (L1:Zbc) (L2:Zgj) (L3:Zns):Zns
 | (v0,v1,v2,v3,v4,v5,v6,v7,v8,v9) => bif decide (v0 < Int.ofNat v1.length) then bif decide (0 ≤ v0 ∧ v0 < Int.ofNat v1.length) then (Zk7 k (v1.getD v0.toNat [],v2,())).bind fun y => bif decide (y.1.1 < 0) then L2 (IntKind.i64.wrap (v2 + 1),v1,v3,v4,v5,v6,v7,v8) else L3 (IntKind.i64.wrap (v0 + 1),v1,v2,v3,v4,v5,v6,v7,v8,IntKind.i64.wrap (IntKind.i64.wrap (IntKind.i64.wrap (v9 + 4) + v2) + y.1.2.2.1)) else none else bif decide (0 ≤ v9) then bif decide (v3 < 0) then L2 (IntKind.i64.wrap (v2 + 1),v1,v5,v9,v5,v6,v7,v2) else bif decide (v9 < v4) then L2 (IntKind.i64.wrap (v2 + 1),v1,v5,v9,v5,v6,v7,v2) else L2 (IntKind.i64.wrap (v2 + 1),v1,v3,v4,v5,v6,v7,v8) else L2 (IntKind.i64.wrap (v2 + 1),v1,v3,v4,v5,v6,v7,v8)
def Zag (k:Nat) (L1:Zbc) (L2:Zgj):Zns:=Zm (fun L3 => Zar k L1 L2 L3) k
noncomputable def ZiI (k:Nat) (n1 n2:Nat) (n:Nat) (v:ZuG):Option ((Int × Int × Int × Unit) × Unit) :=
 Zt (ZhD k) ZuD [] [1,1,0,1,0,0,1,0,0,1,1,0,0,1,0,0,1,0,1,0] [n1,n2] (Q4 Tryz.f162) (Q8 (ZhD k) Tryz.f162 Zz WC [] []) n (ZNE v)
def ZND:ZuF → St
 | (v0,v1,v2,v3,v4,v5,v6,v7) => St.mk (Zy [(12,Zp v0),(11,AV.ns (Ty.int IntKind.i64).sl v1),(7,Zp v2),(9,Zp v3),(10,Zp v4),(0,WM v5),(1,Zp v6),(8,Zp v7)]) (Zx [])
def Xl (k:Nat) (L3:Zns) (L1:Zbc) (L2:Zgj):Zgj
 | (v0,v1,v2,v3,v4,v5,v6,v7) => bif decide (v0 < 2) then bif !v1.isEmpty then L3 (0,v1,v0,v2,v3,v4,v5,v6,v7,(6:Int)) else L1 (IntKind.i64.wrap (v4 + 1),v5,v6,v2,v3,v7) else L1 (IntKind.i64.wrap (v4 + 1),v5,v6,v2,v3,v7)
def ZiH (k:Nat) (L1:Zbc):Zgj:=Zm (fun L2 => Xl k (Zag k L1 L2) L1 L2) k
noncomputable def KF (k:Nat) (n1:Nat) (n:Nat) (v:ZuF):Option ((Int × Int × Int × Unit) × Unit) :=
 Zt (ZhD k) ZuD [] [1,1,0,1,0,0,1,0,0,1,1,0] [n1] (Q4 Tryz.f162) (Q8 (ZhD k) Tryz.f162 Zz WC [] []) n (ZND v)
def ZNC:ZuE → St
 | (v0,v1,v2,v3,v4,v5) => St.mk (Zy [(10,Zp v0),(0,WM v1),(1,Zp v2),(7,Zp v3),(9,Zp v4),(8,Zp v5)]) (Zx [])
def Zci (k:Nat) (L2:Zgj) (L1:Zbc):Zbc
 | (v0,v1,v2,v3,v4,v5) => bif decide (v0 ≤ 4) then (Zk6 k (v1,v2,v0,())).bind fun y => L2 (0,y.1,v3,v4,v0,v1,v2,v5) else some ((v3,v5,v4,()),())
def Znt (k:Nat):Zbc:=Zm (fun L1 => Zci k (ZiH k L1) L1) k
noncomputable def X9 (k:Nat) (n:Nat) (v:ZuE) :=
 Zt (ZhD k) ZuD [] [1,1,0,1,0] [] (Q4 Tryz.f162) (Q8 (ZhD k) Tryz.f162 Zz WC [] []) n (ZNC v)
def Zgk (k:Nat) (L1:Zbc):List Int × Int × Unit → Option ((Int × Int × Int × Unit) × Unit)
 | (a0,a1,()) => L1 (0,a0,a1,(-1:Int),(0:Int),(0:Int))
def Zpc (k:Nat):=Zgk k (Znt k)
theorem ZFL (k:Nat) (n1 n2:Nat):∀ n,ZiI k n1 n2 n = Zm (fun L3 => Zar k (X9 k n1) (KF k n1 n2) L3) n :=
 Zk (fun v => by kernel_rfl) (fun n v => by
  show ZiI k n1 n2 (n + 1) v = Zar k (X9 k n1) (KF k n1 n2) (ZiI k n1 n2 n) v
  obtain ⟨v0,v1,v2,v3,v4,v5,v6,v7,v8,v9⟩:=v
  kernel_rfl)
theorem ZFK (k:Nat) (n1:Nat):∀ n,KF k n1 n = Zm (fun L2 => Xl k (Zag k (X9 k n1) L2) (X9 k n1) L2) n :=
 Zk (fun v => by kernel_rfl) (fun n v => by
  show KF k n1 (n + 1) v = Xl k (Zag k (X9 k n1) (KF k n1 n)) (X9 k n1) (KF k n1 n) v
  rw [show (Zag k (X9 k n1) (KF k n1 n)) = ZiI k n1 n k from (ZFL k n1 n k).symm]
  obtain ⟨v0,v1,v2,v3,v4,v5,v6,v7⟩:=v
  kernel_rfl)
theorem ZFJ (k:Nat):∀ n,X9 k n = Zm (fun L1 => Zci k (ZiH k L1) L1) n :=
 Zk (fun v => by kernel_rfl) (fun n v => by
  rw [show (ZiH k (X9 k n)) = KF k n k from (ZFK k n k).symm]
  obtain ⟨v0,v1,v2,v3,v4,v5⟩:=v
  kernel_rfl)
theorem ZNF (k:Nat) (x:Kd.dens Zz):ZF (ZhD k) ZuD Tryz.f162 Zz WC x = Zpc k x:=by
 show _ = Zgk k (Znt k) x
 rw [show Znt k = X9 k k from (ZFJ k k).symm]
 obtain ⟨a0,⟨a1,⟨⟩⟩⟩:=x
 kernel_rfl
theorem ZIS (k:Nat):Ctr Tryz.prog k 162 (mk Zz WC Zpc) :=
 ZG (fn:=Tryz.f162) (Zh (Za (Zyh k) (Za (Zyj k) Zc))) (by kernel_rfl) (by kernel_rfl) (ZNF k)
noncomputable abbrev ZRs:Nat × Callee:=(162,mk Zz WC Zpc)
noncomputable def ZoI (k:Nat):=Wc k [ZpG,ZHR,ZIJ,ZRr,ZRs,ZIU,ZIW,ZIX]
def ZAB:Nat → Ann:=fun id => bif Nat.beq id 16 then ⟨[17,11,12,16,14,10,13,8],[]⟩ else bif Nat.beq id 8 then ⟨[12,11,8,10],[]⟩ else ⟨[],[]⟩
abbrev Zuh:=Int × List (List Int) × Int × Bool × Int × ByteArray × Int × Int
abbrev ZmO:=Zuh → Option ((ByteArray × Int × Unit) × Unit)
abbrev Zug:=Int × List (List Int) × Int × ByteArray
abbrev ZfJ:=Zug → Option ((ByteArray × Int × Unit) × Unit)
def ZML:Zuh → St
 | (v0,v1,v2,v3,v4,v5,v6,v7) => St.mk (Zy [(17,Zp v0),(11,AV.ns (Ty.int IntKind.i64).sl v1),(12,Zp v2),(16,avB v3),(14,Zp v4),(10,AV.val (PV.v (Value.string v5))),(13,Zp v6),(8,Zp v7)]) (Zx [])
def Yv (k:Nat) (L1:ZfJ) (L2:ZmO):ZmO
 | (v0,v1,v2,v3,v4,v5,v6,v7) => bif decide (0 ≤ v2 ∧ v2 < Int.ofNat v1.length) then bif decide (v0 < Int.ofNat (List.length (v1.getD v2.toNat []))) then bif v3 then bif decide (0 ≤ v2 ∧ v2 < Int.ofNat v1.length) then bif decide (0 ≤ v0 ∧ v0 < Int.ofNat (List.length (v1.getD v2.toNat []))) then (ZkM k (List.getD (v1.getD v2.toNat []) v0.toNat 0,v4,())).bind fun y => bif decide (v5.size + ByteArray.size y.1.1 < 1099511627776) then L2 (IntKind.i64.wrap (v0 + 1),v1,v2,v3,v4,v5 ++ y.1.1,v6,v7) else none else none else none else bif decide (0 ≤ v2 ∧ v2 < Int.ofNat v1.length) then bif decide (0 ≤ v0 ∧ v0 < Int.ofNat (List.length (v1.getD v2.toNat []))) then (Zk8 k (List.getD (v1.getD v2.toNat []) v0.toNat 0,())).bind fun y => bif decide (0 ≤ v6) then (Zk5 k (Int.fdiv y.1 ((2:Int) ^ min v6.toNat 64),())).bind fun y_1 => bif decide (0 ≤ v6) then bif decide ¬IntKind.i64.wrap ((1:Int) * (2:Int) ^ min v6.toNat 64) = (0:Int) then (Xh k (Int.tmod y.1 (IntKind.i64.wrap ((1:Int) * (2:Int) ^ min v6.toNat 64)),v6,())).bind fun y => bif decide (ByteArray.size y_1.1.1 + ByteArray.size y.1 < 1099511627776) then bif decide (v5.size + (y_1.1.1 ++ y.1).size < 1099511627776) then L2 (IntKind.i64.wrap (v0 + 1),v1,v2,v3,v4,v5 ++ (y_1.1.1 ++ y.1),v6,v7) else none else none else none else none else none else none else none else L1 (IntKind.i64.wrap (v2 + 1),v1,v7,v5) else none
def ZfK (k:Nat) (L1:ZfJ):ZmO:=Zm (fun L2 => Yv k L1 L2) k
noncomputable def Ziv (k:Nat) (n1:Nat) (n:Nat) (v:Zuh):Option ((ByteArray × Int × Unit) × Unit) :=
 Zt (ZoI k) ZAB [] [1,1,1,1,1,1,0,1,0,0,1,0,0,1,1,1,1,1,0] [n1] (Q4 Tryz.f122) (Q8 (ZoI k) Tryz.f122 Zz W9 [] []) n (ZML v)
def ZMK:Zug → St
 | (v0,v1,v2,v3) => St.mk (Zy [(12,Zp v0),(11,AV.ns (Ty.int IntKind.i64).sl v1),(8,Zp v2),(10,AV.val (PV.v (Value.string v3)))]) (Zx [])
def ZbX (k:Nat) (L2:ZmO) (L1:ZfJ):ZfJ
 | (v0,v1,v2,v3) => bif decide (v0 < Int.ofNat v1.length) then bif decide (0 ≤ v0 ∧ v0 < Int.ofNat v1.length) then (Zk7 k (v1.getD v0.toNat [],v2,())).bind fun y => (Xh k (y.1.1,IntKind.i64.wrap ((4:Int) + v2),())).bind fun y_1 => bif decide (v3.size + ByteArray.size y_1.1 < 1099511627776) then bif decide (0 ≤ v2 ∧ v2 < 2) then bif decide (v2.toNat < (2:Nat)) then bif y.1.1 == [(15:Int),(31:Int)].getD v2.toNat 0 then (Xh k (y.1.2.1,5,())).bind fun y_2 => bif decide ((v3 ++ y_1.1).size + ByteArray.size y_2.1 < 1099511627776) then L2 (0,v1,v0,y.1.1 == [(15:Int),(31:Int)].getD v2.toNat 0,y.1.2.1,v3 ++ y_1.1 ++ y_2.1,y.1.1,v2) else none else L2 (0,v1,v0,y.1.1 == [(15:Int),(31:Int)].getD v2.toNat 0,y.1.2.1,v3 ++ y_1.1,y.1.1,v2) else none else none else none else none else some ((v3,0,()),())
def ZmP (k:Nat):ZfJ:=Zm (fun L1 => ZbX k (ZfK k L1) L1) k
noncomputable def Zd6 (k:Nat) (n:Nat) (v:Zug) :=
 Zt (ZoI k) ZAB [] [1,1,1,1,1,1,0,1,0] [] (Q4 Tryz.f122) (Q8 (ZoI k) Tryz.f122 Zz W9 [] []) n (ZMK v)
def ZfL (k:Nat) (L1:ZfJ):List Int × Int × Unit → Option ((ByteArray × Int × Unit) × Unit)
 | (a0,a1,()) => (Zpb k (a0,a1,())).bind fun y => bif y.1 != 0 then some ((ByteArray.mk #[],y.1,()),()) else (Zpc k (a0,a1,())).bind fun y => (Xh k (y.1.2.1,2,())).bind fun y_1 => (Xh k (y.1.1,4,())).bind fun y_2 => bif decide (ByteArray.size y_1.1 + ByteArray.size y_2.1 < 1099511627776) then (Zk6 k (a0,a1,y.1.1,())).bind fun y_3 => L1 (0,y_3.1,y.1.2.1,y_1.1 ++ y_2.1) else none
def ZkN (k:Nat):=ZfL k (ZmP k)
theorem ZET (k:Nat) (n1:Nat):∀ n,Ziv k n1 n = Zm (fun L2 => Yv k (Zd6 k n1) L2) n :=
 Zk (fun v => by kernel_rfl) (fun n v => by
  show Ziv k n1 (n + 1) v = Yv k (Zd6 k n1) (Ziv k n1 n) v
  obtain ⟨v0,v1,v2,v3,v4,v5,v6,v7⟩:=v
  kernel_rfl)
theorem ZES (k:Nat):∀ n,Zd6 k n = Zm (fun L1 => ZbX k (ZfK k L1) L1) n :=
 Zk (fun v => by kernel_rfl) (fun n v => by
  rw [show (ZfK k (Zd6 k n)) = Ziv k n k from (ZET k n k).symm]
  obtain ⟨v0,v1,v2,v3⟩:=v
  kernel_rfl)
theorem ZMM (k:Nat) (x:Kd.dens Zz):ZF (ZoI k) ZAB Tryz.f122 Zz W9 x = ZkN k x:=by
 show _ = ZfL k (ZmP k) x
 rw [show ZmP k = Zd6 k k from (ZES k k).symm]
 obtain ⟨a0,⟨a1,⟨⟩⟩⟩:=x
 kernel_rfl
theorem ZHU (k:Nat):Ctr Tryz.prog k 122 (mk Zz W9 ZkN) :=
 ZG (fn:=Tryz.f122) (Zh (Za (Zdh k) (Za (Zxv k) (Za (Zyb k) (Za (ZIR k) (Za (ZIS k) (Za (Zyh k) (Za (Zyj k) (Za (Zyk k) Zc))))))))) (by kernel_rfl) (by kernel_rfl) (ZMM k)
noncomputable abbrev ZQV:Nat × Callee:=(122,mk Zz W9 ZkN)
abbrev Zv1:List Kd:=[.view (.sl (.int .i64)),.view (.int .i64),.view Zdo,.view .bool]
abbrev ZBJ:Kd:=.tup [.view .str,.view .bool]
noncomputable def ZU4 (k:Nat):=Wc k [ZpG,ZQc,ZHT,ZQV]
def Zy9 (k:Nat):List Int × Int × (List Int × Int × Unit) × Bool × Unit → Option ((ByteArray × Bool × Unit) × Unit)
 | (a0,a1,(a2,a3,()),a4,()) => (Zhx k ((a2,a3,()),a0,())).bind fun y => bif y.1.2.1 != 0 then some ((ByteArray.mk #[],false,()),()) else (ZkN k (y.1.1,Int.ofNat a2.length,())).bind fun y => bif y.1.2.1 != 0 then some ((ByteArray.mk #[],false,()),()) else bif decide ((0:Int) ≤ 0 ∧ (0:Int) ≤ Int.ofNat a2.length ∧ Int.ofNat a2.length ≤ Int.ofNat a0.length) then (Zg1 k (List.drop 0 (List.take (Int.ofNat a2.length).toNat a0),a1,())).bind fun y_1 => bif a4 then (Xh k (11,4,())).bind fun y_2 => bif decide (ByteArray.size y_1.1 + ByteArray.size y_2.1 < 1099511627776) then (Xh k (a3,5,())).bind fun y_3 => bif decide ((y_1.1 ++ y_2.1).size + ByteArray.size y_3.1 < 1099511627776) then (Zg1 k (a2,12,())).bind fun y_4 => bif decide ((y_1.1 ++ y_2.1 ++ y_3.1).size + ByteArray.size y_4.1 < 1099511627776) then bif decide ((y_1.1 ++ y_2.1 ++ y_3.1 ++ y_4.1).size + ByteArray.size y.1.1 < 1099511627776) then some ((y_1.1 ++ y_2.1 ++ y_3.1 ++ y_4.1 ++ y.1.1,true,()),()) else none else none else none else none else bif decide (ByteArray.size y_1.1 + ByteArray.size y.1.1 < 1099511627776) then some ((y_1.1 ++ y.1.1,true,()),()) else none else none
def Zl4 (k:Nat):=Zy9 k
theorem ZTs (k:Nat) (x:Kd.dens Zv1):ZF (ZU4 k) nA Tryz.f79 Zv1 ZBJ x = Zl4 k x:=by
 show _ = Zy9 k x
 obtain ⟨a0,⟨a1,⟨⟨a2,⟨a3,⟨⟩⟩⟩,⟨a4,⟨⟩⟩⟩⟩⟩:=x
 kernel_rfl
theorem ZOS (k:Nat):Ctr Tryz.prog k 79 (mk Zv1 ZBJ Zl4) :=
 ZG (fn:=Tryz.f79) (Zh (Za (Zdh k) (Za (ZDq k) (Za (Zxx k) (Za (ZHU k) Zc))))) (by kernel_rfl) (by kernel_rfl) (ZTs k)
noncomputable abbrev ZU5:Nat × Callee:=(79,mk Zv1 ZBJ Zl4)
noncomputable def ZAD (k:Nat):=Wc k [ZQd]
def ZHX:Nat → Ann:=fun id => bif Nat.beq id 4 then ⟨[6,3,5,2],[]⟩ else ⟨[],[]⟩
abbrev Zuj:=Int × List Int × Int × Int × List Int × Int
abbrev ZmS:=Zuj → Option ((List Int × Int × Unit) × Unit)
def ZMP:Zuj → St
 | (v0,v1,v2,v3,v4,v5) => St.mk (Zy [(6,Zp v0),(3,AV.bx 8192 0),(5,AV.bx 8193 0),(2,AV.bx 8195 0)]) (Zx [(8192,Wh [WM v1,Zp v2]),(8193,Wh [AV.own 8194,Zp v3]),(8194,rsA v4 false),(8195,Wh [AV.val (PV.v (Value.slice none (0:Nat) (0:Nat))),Zp v5])])
def Zr6 (k:Nat) (L1:ZmS):ZmS
 | (v0,v1,v2,v3,v4,v5) => bif decide (v0 < Int.ofNat v1.length) then bif decide (0 ≤ v0 ∧ v0 < Int.ofNat v1.length) then bif decide (0 ≤ v0 ∧ v0 < Int.ofNat v4.length) then bif decide (v0.toNat < v4.length) then L1 (IntKind.i64.wrap (v0 + 1),v1,v2,v3,v4.set v0.toNat (IntKind.i64.wrap ((16:Int) * v1.getD v0.toNat 0)),v5) else none else none else none else some ((v4,v3,()),())
def Zui (k:Nat):ZmS:=Zm (fun L1 => Zr6 k L1) k
noncomputable def ZxA (k:Nat) (n:Nat) (v:Zuj) :=
 Zt (ZAD k) ZHX [] [1,1,1,0,1,0] [] (Q4 Tryz.f124) (Q8 (ZAD k) Tryz.f124 Zr Zbb [] []) n (ZMP v)
def Zr5 (k:Nat) (L1:ZmS):Int × Unit → Option ((List Int × Int × Unit) × Unit)
 | (a0,()) => (ZsN k (if (4:Int) < a0 then (4:Int) else a0,())).bind fun y => bif decide (0 ≤ a0 ∧ a0 ≤ a0 ∧ a0 < 4294967296) then L1 (0,y.1.1.1,y.1.1.2.1,(4:Int),List.replicate a0.toNat (0:Int),(0:Int)) else none
def ZoJ (k:Nat):=Zr5 k (Zui k)
theorem ZEW (k:Nat):∀ n,ZxA k n = Zm (fun L1 => Zr6 k L1) n :=
 Zk (fun v => by kernel_rfl) (fun n v => by
  obtain ⟨v0,v1,v2,v3,v4,v5⟩:=v
  kernel_rfl)
theorem ZMQ (k:Nat) (x:Kd.dens Zr):ZF (ZAD k) ZHX Tryz.f124 Zr Zbb x = ZoJ k x:=by
 show _ = Zr5 k (Zui k) x
 rw [show Zui k = ZxA k k from (ZEW k k).symm]
 obtain ⟨a0,⟨⟩⟩:=x
 kernel_rfl
theorem ZHY (k:Nat):Ctr Tryz.prog k 124 (mk Zr Zbb ZoJ) :=
 ZG (fn:=Tryz.f124) (Zh (Za (ZDr k) Zc)) (by kernel_rfl) (by kernel_rfl) (ZMQ k)
noncomputable abbrev ZQW:Nat × Callee:=(124,mk Zr Zbb ZoJ)
noncomputable def ZAE (k:Nat):=Wc k [ZHT]
def ZHZ:Nat → Ann:=fun id => bif Nat.beq id 4 then ⟨[9,6,8,7],[]⟩ else ⟨[],[]⟩
abbrev ZmT:=ZeI → Option ((Int × Int × Unit) × Unit)
def ZMR:ZeI → St
 | (v0,v1,v2,v3) => St.mk (Zy [(9,Zp v0),(6,WM v1),(8,Zp v2),(7,Zp v3)]) (Zx [])
def ZbZ (k:Nat) (L1:ZmT):ZmT
 | (v0,v1,v2,v3) => bif decide (v0 < Int.ofNat v1.length) then bif decide (0 ≤ v0 ∧ v0 < Int.ofNat v1.length) then bif decide (0 ≤ v0 ∧ v0 < Int.ofNat v1.length) then L1 (IntKind.i64.wrap (v0 + 1),v1,IntKind.i64.wrap (v2 + if v1.getD v0.toNat 0 < IntKind.i64.wrap ((0:Int) - v1.getD v0.toNat 0) then IntKind.i64.wrap ((0:Int) - v1.getD v0.toNat 0) else v1.getD v0.toNat 0),v3) else none else none else some ((v2,v3,()),())
def ZmU (k:Nat):ZmT:=Zm (fun L1 => ZbZ k L1) k
noncomputable def ZxB (k:Nat) (n:Nat) (v:ZeI) :=
 Zt (ZAE k) ZHZ [] [1,1,1,0,1,0] [] (Q4 Tryz.f125) (Q8 (ZAE k) Tryz.f125 QG ZZ [] []) n (ZMR v)
def ZfN (k:Nat) (L1:ZmT):(List Int × Int × Unit) × List Int × Unit → Option ((Int × Int × Unit) × Unit)
 | ((a0,a1,()),a2,()) => (Zhx k ((a0,a1,()),a2,())).bind fun y => L1 (0,y.1.1,(0:Int),y.1.2.1)
def ZkP (k:Nat):=ZfN k (ZmU k)
theorem ZEY (k:Nat):∀ n,ZxB k n = Zm (fun L1 => ZbZ k L1) n :=
 Zk (fun v => by kernel_rfl) (fun n v => by
  obtain ⟨v0,v1,v2,v3⟩:=v
  kernel_rfl)
theorem ZMS (k:Nat) (x:Kd.dens QG):ZF (ZAE k) ZHZ Tryz.f125 QG ZZ x = ZkP k x:=by
 show _ = ZfN k (ZmU k) x
 rw [show ZmU k = ZxB k k from (ZEY k k).symm]
 obtain ⟨⟨a0,⟨a1,⟨⟩⟩⟩,⟨a2,⟨⟩⟩⟩:=x
 kernel_rfl
theorem ZH0 (k:Nat):Ctr Tryz.prog k 125 (mk QG ZZ ZkP) :=
 ZG (fn:=Tryz.f125) (Zh (Za (Zxx k) Zc)) (by kernel_rfl) (by kernel_rfl) (ZMS k)
noncomputable abbrev ZQX:Nat × Callee:=(125,mk QG ZZ ZkP)
noncomputable def Zp4 (k:Nat):=Wc k [ZHW,ZQW,ZQX]
def ZDs:Nat → Ann:=fun id => bif Nat.beq id 17 then ⟨[12,6,11,9,10,0,7,1,4],[.seen 6 0]⟩ else bif Nat.beq id 14 then ⟨[11,1,6,9,10,0,7,4],[]⟩ else bif Nat.beq id 11 then ⟨[10,1,6,9,0,7,4],[]⟩ else ⟨[],[]⟩
abbrev ZBM:=Int × Int × Int × List Int × Int × Int × List Int × Int × List Int × Int
abbrev Zv2:=ZBM → Option (((List Int × Int × Unit) × Int × Unit) × Unit)
abbrev ZBL:=Int × Int × Int × List Int × Int × List Int × Int × List Int × Int
abbrev Zlp:=ZBL → Option (((List Int × Int × Unit) × Int × Unit) × Unit)
abbrev ZBK:=Int × Int × List Int × Int × List Int × Int × List Int × Int
abbrev ZeN:=ZBK → Option (((List Int × Int × Unit) × Int × Unit) × Unit)
def ZTv:ZBM → St
 | (v0,v1,v2,v3,v4,v5,v6,v7,v8,v9) => St.mk (Zy [(12,Zp v0),(6,AV.bx 8192 0),(11,Zp v1),(9,AV.own 8193),(10,Zp v2),(0,WM v3),(7,Zp v4),(1,Zp v5),(4,AV.bx 8194 0)]) (Zx [(8192,Wh [WM v6,Zp v7]),(8193,rsA v8 false),(8194,Wh [AV.val (PV.v (Value.slice none (0:Nat) (0:Nat))),Zp v9])])
def ZaF (k:Nat) (L1:ZeN) (L2:Zlp) (L3:Zv2):Zv2
 | (v0,v1,v2,v3,v4,v5,v6,v7,v8,v9) => bif decide (v0 < 2) then bif decide ((0:Nat) + v6.length < 2147483648) then bif decide (0 ≤ v1 ∧ v1 < Int.ofNat ([] ++ v6).length) then bif decide (v1.toNat < ([] ++ v6).length) then bif decide (0 ≤ v2 ∧ v2 < Int.ofNat v8.length) then bif decide (v2.toNat < v8.length) then bif decide (0 ≤ v1 ∧ v1 < Int.ofNat ([] ++ v6).length) then bif decide (v1.toNat < ([] ++ v6).length) then (ZkP k ((([] ++ v6).set v1.toNat (IntKind.i64.wrap (([] ++ v6).getD v1.toNat 0 + IntKind.i64.wrap (v8.getD v2.toNat 0 * IntKind.i64.wrap ((1:Int) - IntKind.i64.wrap ((2:Int) * v0))))),(4:Int),()),v3,())).bind fun y => bif y.1.2.1 == 0 then bif decide (y.1.1 < v4) then L3 (IntKind.i64.wrap (v0 + 1),v1,v2,v3,y.1.1,v5,([] ++ v6).set v1.toNat (IntKind.i64.wrap (([] ++ v6).getD v1.toNat 0 + IntKind.i64.wrap (v8.getD v2.toNat 0 * IntKind.i64.wrap ((1:Int) - IntKind.i64.wrap ((2:Int) * v0))))),(4:Int),v8,v9) else L3 (IntKind.i64.wrap (v0 + 1),v1,v2,v3,v4,v5,v6,v7,v8,v9) else L3 (IntKind.i64.wrap (v0 + 1),v1,v2,v3,v4,v5,v6,v7,v8,v9) else none else none else none else none else none else none else none else L2 (IntKind.i64.wrap (v1 + 1),v5,v2,v3,v4,v6,v7,v8,v9)
def Zlq (k:Nat) (L1:ZeN) (L2:Zlp):Zv2:=Zm (fun L3 => ZaF k L1 L2 L3) k
noncomputable def ZnO (k:Nat) (n1 n2:Nat) (n:Nat) (v:ZBM):Option (((List Int × Int × Unit) × Int × Unit) × Unit) :=
 Zt (Zp4 k) ZDs [] [1,1,1,1,1,1,1,0,1,0,0,1,0,0,1,0,0,1,0,0,1,0] [n1,n2] (Q4 Tryz.f80) (Q8 (Zp4 k) Tryz.f80 Zz Q0 [] []) n (ZTv v)
def ZTu:ZBL → St
 | (v0,v1,v2,v3,v4,v5,v6,v7,v8) => St.mk (Zy [(11,Zp v0),(1,Zp v1),(6,AV.bx 8192 0),(9,AV.own 8193),(10,Zp v2),(0,WM v3),(7,Zp v4),(4,AV.bx 8194 0)]) (Zx [(8192,Wh [WM v5,Zp v6]),(8193,rsA v7 false),(8194,Wh [AV.val (PV.v (Value.slice none (0:Nat) (0:Nat))),Zp v8])])
def ZcH (k:Nat) (L3:Zv2) (L1:ZeN) (L2:Zlp):Zlp
 | (v0,v1,v2,v3,v4,v5,v6,v7,v8) => bif decide (v0 < v1) then L3 (0,v0,v2,v3,v4,v1,v5,v6,v7,v8) else L1 (IntKind.i64.wrap (v2 + 1),v1,v3,v4,v5,v6,v7,v8)
def Zp6 (k:Nat) (L1:ZeN):Zlp:=Zm (fun L2 => ZcH k (Zlq k L1 L2) L1 L2) k
noncomputable def Zbh (k:Nat) (n1:Nat) (n:Nat) (v:ZBL):Option (((List Int × Int × Unit) × Int × Unit) × Unit) :=
 Zt (Zp4 k) ZDs [] [1,1,1,1,1,1,1,0,1,0,0,1,0,0,1,0] [n1] (Q4 Tryz.f80) (Q8 (Zp4 k) Tryz.f80 Zz Q0 [] []) n (ZTu v)
def ZTt:ZBK → St
 | (v0,v1,v2,v3,v4,v5,v6,v7) => St.mk (Zy [(10,Zp v0),(1,Zp v1),(6,AV.bx 8192 0),(9,AV.own 8193),(0,WM v2),(7,Zp v3),(4,AV.bx 8194 0)]) (Zx [(8192,Wh [WM v4,Zp v5]),(8193,rsA v6 false),(8194,Wh [AV.val (PV.v (Value.slice none (0:Nat) (0:Nat))),Zp v7])])
def ZcG (k:Nat) (L2:Zlp) (L1:ZeN):ZeN
 | (v0,v1,v2,v3,v4,v5,v6,v7) => bif decide (v0 < 4) then L2 (0,v1,v0,v2,v3,v4,v5,v6,v7) else some (((v4,v5,()),0,()),())
def Zp5 (k:Nat):ZeN:=Zm (fun L1 => ZcG k (Zp6 k L1) L1) k
noncomputable def Km (k:Nat) (n:Nat) (v:ZBK) :=
 Zt (Zp4 k) ZDs [] [1,1,1,1,1,1,1,0,1,0] [] (Q4 Tryz.f80) (Q8 (Zp4 k) Tryz.f80 Zz Q0 [] []) n (ZTt v)
def ZjC (k:Nat) (L1:ZeN):List Int × Int × Unit → Option (((List Int × Int × Unit) × Int × Unit) × Unit)
 | (a0,a1,()) => bif decide (a1 < 0) then some ((([],(0:Int),()),1,()),()) else bif decide ((8:Int) < a1) then some ((([],(0:Int),()),1,()),()) else bif decide (Int.ofNat a0.length < a1) then some ((([],(0:Int),()),1,()),()) else (Zhy k (a0,())).bind fun y => bif !y.1 then some ((([],(0:Int),()),12,()),()) else (ZoJ k (a1,())).bind fun y => (ZkP k ((y.1.1,y.1.2.1,()),a0,())).bind fun y_1 => bif y_1.1.2.1 != 0 then L1 (0,a1,a0,(4611686018427387904:Int),y.1.1,y.1.2.1,[(8:Int),(4:Int),(2:Int),(1:Int)],(0:Int)) else L1 (0,a1,a0,y_1.1.1,y.1.1,y.1.2.1,[(8:Int),(4:Int),(2:Int),(1:Int)],(0:Int))
def Zza (k:Nat):=ZjC k (Zp5 k)
theorem ZKY (k:Nat) (n1 n2:Nat):∀ n,ZnO k n1 n2 n = Zm (fun L3 => ZaF k (Km k n1) (Zbh k n1 n2) L3) n :=
 Zk (fun v => by kernel_rfl) (fun n v => by
  show ZnO k n1 n2 (n + 1) v = ZaF k (Km k n1) (Zbh k n1 n2) (ZnO k n1 n2 n) v
  obtain ⟨v0,v1,v2,v3,v4,v5,v6,v7,v8,v9⟩:=v
  kernel_rfl)
theorem ZKX (k:Nat) (n1:Nat):∀ n,Zbh k n1 n = Zm (fun L2 => ZcH k (Zlq k (Km k n1) L2) (Km k n1) L2) n :=
 Zk (fun v => by kernel_rfl) (fun n v => by
  show Zbh k n1 (n + 1) v = ZcH k (Zlq k (Km k n1) (Zbh k n1 n)) (Km k n1) (Zbh k n1 n) v
  rw [show (Zlq k (Km k n1) (Zbh k n1 n)) = ZnO k n1 n k from (ZKY k n1 n k).symm]
  obtain ⟨v0,v1,v2,v3,v4,v5,v6,v7,v8⟩:=v
  kernel_rfl)
theorem ZKW (k:Nat):∀ n,Km k n = Zm (fun L1 => ZcG k (Zp6 k L1) L1) n :=
 Zk (fun v => by kernel_rfl) (fun n v => by
  rw [show (Zp6 k (Km k n)) = Zbh k n k from (ZKX k n k).symm]
  obtain ⟨v0,v1,v2,v3,v4,v5,v6,v7⟩:=v
  kernel_rfl)
theorem ZTw (k:Nat) (x:Kd.dens Zz):ZF (Zp4 k) ZDs Tryz.f80 Zz Q0 x = Zza k x:=by
 show _ = ZjC k (Zp5 k) x
 rw [show Zp5 k = Km k k from (ZKW k k).symm]
 obtain ⟨a0,⟨a1,⟨⟩⟩⟩:=x
 kernel_rfl
theorem ZOT (k:Nat):Ctr Tryz.prog k 80 (mk Zz Q0 Zza) :=
 ZG (fn:=Tryz.f80) (Zh (Za (Zxz k) (Za (ZHY k) (Za (ZH0 k) Zc)))) (by kernel_rfl) (by kernel_rfl) (ZTw k)
noncomputable abbrev ZU6:Nat × Callee:=(80,mk Zz Q0 Zza)
abbrev Zlf:Kd:=.tup [.view (.int .i64),.view .str]
noncomputable def ZpK (k:Nat):=Wc k [ZU1,ZU3,ZQc,ZQd,ZU5,ZU6]
def ZCT:Nat → Ann:=fun id => bif Nat.beq id 22 then ⟨[17,16,7,1,10],[]⟩ else bif Nat.beq id 14 then ⟨[11,7,1,10],[.«show» 7]⟩ else bif Nat.beq id 5 then ⟨[9,0,7,6,8,1],[.slot 7 ((Ty.int IntKind.i64))]⟩ else ⟨[],[]⟩
abbrev ZBp:=Int × Int × List Int × List Int × Int × ByteArray × Int
abbrev Zvf:=ZBp → Option ((Int × ByteArray × Unit) × Unit)
abbrev ZBo:=Int × Int × List Int × Int × ByteArray × Int
abbrev Zve:=ZBo → Option ((Int × ByteArray × Unit) × Unit)
abbrev ZBn:=Int × List Int × Int × Bool × Int × List Int
abbrev Zvd:=ZBn → Option ((Int × ByteArray × Unit) × Unit)
def ZSz:ZBp → St
 | (v0,v1,v2,v3,v4,v5,v6) => St.mk (Zy [(17,Zp v0),(16,AV.own 8192),(7,AV.own 8193),(1,Zp v1),(10,AV.bx 8194 0)]) (Zx [(8192,rsA v2 false),(8193,rsA v3 true),(8194,Wh [Zp v4,AV.val (PV.v (Value.string v5)),Zp v6])])
def Zcw (k:Nat) (L3:Zvf):Zvf
 | (v0,v1,v2,v3,v4,v5,v6) => bif decide (v0 < 3) then bif decide (0 ≤ v0 ∧ v0 < Int.ofNat v2.length) then bif decide (v0.toNat < v2.length) then bif decide (v2.getD v0.toNat 0 < Int.ofNat v3.length) then (Zza k (v3,v2.getD v0.toNat 0,())).bind fun y => (Zl4 k (v3,v1,(y.1.1.1,y.1.1.2.1,()),true,())).bind fun y => bif y.1.2.1 then (Zg0 k ((v4,v5,v6,()),IntKind.i64.wrap ((31:Int) + v2.getD v0.toNat 0),y.1.1,())).bind fun y => L3 (IntKind.i64.wrap (v0 + 1),v1,v2,v3,y.1.1,y.1.2.1,y.1.2.2.1) else L3 (IntKind.i64.wrap (v0 + 1),v1,v2,v3,v4,v5,v6) else L3 (IntKind.i64.wrap (v0 + 1),v1,v2,v3,v4,v5,v6) else none else none else (Zg1 k (v3,v1,())).bind fun y => (Zg0 k ((v4,v5,v6,()),1,y.1,())).bind fun y => some ((y.1.1,y.1.2.1,()),())
def Zvh (k:Nat):Zvf:=Zm (fun L3 => Zcw k L3) k
noncomputable def ZCW (k:Nat) (n:Nat) (v:ZBp) :=
 Zt (ZpK k) ZCT [] [1,1,1,1,1,1,1,1,1,1,0,1,0] [] (Q4 Tryz.f40) (Q8 (ZpK k) Tryz.f40 Zz Zlf [] []) n (ZSz v)
def ZSy:ZBo → St
 | (v0,v1,v2,v3,v4,v5) => St.mk (Zy [(11,Zp v0),(7,AV.own 8192),(1,Zp v1),(10,AV.bx 8193 0)]) (Zx [(8192,rsA v2 true),(8193,Wh [Zp v3,AV.val (PV.v (Value.string v4)),Zp v5])])
def Zcv (k:Nat) (L3:Zvf) (L2:Zve):Zve
 | (v0,v1,v2,v3,v4,v5) => bif decide (v0 ≤ 4) then bif decide (v0 ≤ Int.ofNat v2.length) then (ZsN k (v0,())).bind fun y => (Zl4 k (v2,v1,(y.1.1.1,y.1.1.2.1,()),false,())).bind fun y => bif y.1.2.1 then (Zg0 k ((v3,v4,v5,()),IntKind.i64.wrap ((8:Int) + v0),y.1.1,())).bind fun y => L2 (IntKind.i64.wrap (v0 + 1),v1,v2,y.1.1,y.1.2.1,y.1.2.2.1) else L2 (IntKind.i64.wrap (v0 + 1),v1,v2,v3,v4,v5) else L3 (0,v1,[(2:Int),(4:Int),(8:Int)],v2,v3,v4,v5) else L3 (0,v1,[(2:Int),(4:Int),(8:Int)],v2,v3,v4,v5)
def Zeu (k:Nat):Zve:=Zm (fun L2 => Zcv k (Zvh k) L2) k
noncomputable def ZCV (k:Nat) (n:Nat) (v:ZBo) :=
 Zt (ZpK k) ZCT [] [1,1,1,1,1,1,1,1,0,1,0] [] (Q4 Tryz.f40) (Q8 (ZpK k) Tryz.f40 Zz Zlf [] []) n (ZSy v)
def ZSx:ZBn → St
 | (v0,v1,v2,v3,v4,v5) => St.mk (Zy [(9,Zp v0),(0,WM v1),(7,AV.own 8192),(6,Zp v2),(8,avB v3),(1,Zp v4)]) (Zx [(8192,rsA v5 false)])
def YN (k:Nat) (L2:Zve) (L1:Zvd):Zvd
 | (v0,v1,v2,v3,v4,v5) => bif decide (v0 < Int.ofNat v1.length) then bif decide (0 ≤ v0 ∧ v0 < Int.ofNat v1.length) then bif decide (0 ≤ v2) then bif decide ¬IntKind.i64.wrap ((1:Int) * (2:Int) ^ min v2.toNat 64) = (0:Int) then bif decide (v5.length + [IntKind.i64.wrap (Int.tdiv (v1.getD v0.toNat 0) (IntKind.i64.wrap ((1:Int) * (2:Int) ^ min v2.toNat 64)))].length < 2147483648) then bif v3 then bif decide (0 ≤ v0 ∧ v0 < Int.ofNat v1.length) then bif decide ((0:Int) ≤ 0 ∧ (0:Int) < Int.ofNat v1.length) then L1 (IntKind.i64.wrap (v0 + 1),v1,v2,v1.getD v0.toNat 0 == v1.getD 0 0,v4,v5 ++ [IntKind.i64.wrap (Int.tdiv (v1.getD v0.toNat 0) (IntKind.i64.wrap ((1:Int) * (2:Int) ^ min v2.toNat 64)))]) else none else none else L1 (IntKind.i64.wrap (v0 + 1),v1,v2,false,v4,v5 ++ [IntKind.i64.wrap (Int.tdiv (v1.getD v0.toNat 0) (IntKind.i64.wrap ((1:Int) * (2:Int) ^ min v2.toNat 64)))]) else none else none else none else none else bif v3 then bif decide ((0:Int) ≤ 0 ∧ (0:Int) ≤ 1 ∧ (1:Int) ≤ Int.ofNat v5.length) then (Zg1 k (List.drop 0 (List.take 1 v5),IntKind.i64.wrap (v4 - v2),())).bind fun y => (Zg0 k (((-1:Int),ByteArray.mk #[],v2,()),0,y.1,())).bind fun y => L2 (0,IntKind.i64.wrap (v4 - v2),v5,y.1.1,y.1.2.1,y.1.2.2.1) else none else L2 (0,IntKind.i64.wrap (v4 - v2),v5,(-1:Int),ByteArray.mk #[],v2)
def Zvg (k:Nat):Zvd:=Zm (fun L1 => YN k (Zeu k) L1) k
noncomputable def ZCU (k:Nat) (n:Nat) (v:ZBn) :=
 Zt (ZpK k) ZCT [] [1,1,1,1,0,1,0] [] (Q4 Tryz.f40) (Q8 (ZpK k) Tryz.f40 Zz Zlf [] []) n (ZSx v)
def Zi8 (k:Nat) (L1:Zvd):List Int × Int × Unit → Option ((Int × ByteArray × Unit) × Unit)
 | (a0,a1,()) => (Zy7 k (a0,())).bind fun y => L1 (0,a0,y.1,true,a1,[])
def Zl2 (k:Nat):=Zi8 k (Zvg k)
theorem ZJ3 (k:Nat):∀ n,ZCW k n = Zm (fun L3 => Zcw k L3) n :=
 Zk (fun v => by kernel_rfl) (fun n v => by
  obtain ⟨v0,v1,v2,v3,v4,v5,v6⟩:=v
  kernel_rfl)
theorem ZJ2 (k:Nat):∀ n,ZCV k n = Zm (fun L2 => Zcv k (Zvh k) L2) n :=
 Zk (fun v => by kernel_rfl) (fun n v => by
  rw [show (Zvh k) = ZCW k k from (ZJ3 k k).symm]
  obtain ⟨v0,v1,v2,v3,v4,v5⟩:=v
  kernel_rfl)
theorem ZJ1 (k:Nat):∀ n,ZCU k n = Zm (fun L1 => YN k (Zeu k) L1) n :=
 Zk (fun v => by kernel_rfl) (fun n v => by
  rw [show (Zeu k) = ZCV k k from (ZJ2 k k).symm]
  obtain ⟨v0,v1,v2,v3,v4,v5⟩:=v
  kernel_rfl)
theorem ZSA (k:Nat) (x:Kd.dens Zz):ZF (ZpK k) ZCT Tryz.f40 Zz Zlf x = Zl2 k x:=by
 show _ = Zi8 k (Zvg k) x
 rw [show Zvg k = ZCU k k from (ZJ1 k k).symm]
 obtain ⟨a0,⟨a1,⟨⟩⟩⟩:=x
 kernel_rfl
theorem ZOv (k:Nat):Ctr Tryz.prog k 40 (mk Zz Zlf Zl2) :=
 ZG (fn:=Tryz.f40) (Zh (Za (ZOQ k) (Za (ZOR k) (Za (ZDq k) (Za (ZDr k) (Za (ZOS k) (Za (ZOT k) Zc))))))) (by kernel_rfl) (by kernel_rfl) (ZSA k)
noncomputable abbrev ZUC:Nat × Callee:=(40,mk Zz Zlf Zl2)
def Zja (k:Nat):Int × Int × Unit → Option ((Int × Int × Unit) × Unit)
 | (a0,a1,()) => bif a1 == 8 then some ((a0,IntKind.i64.wrap (a0 + 1),()),()) else bif a1 == 10 then some ((a0,IntKind.i64.wrap (a0 + 1),()),()) else bif a1 == 9 then some ((IntKind.i64.wrap (a0 + 1),a0,()),()) else some ((a0,a0,()),())
def ZyM (k:Nat):=Zja k
theorem ZSD (k:Nat) (x:Kd.dens Qf):ZF (ZJ k) nA Tryz.f42 Qf ZZ x = ZyM k x:=by
 show _ = Zja k x
 obtain ⟨a0,⟨a1,⟨⟩⟩⟩:=x
 kernel_rfl
theorem ZOx (k:Nat):Ctr Tryz.prog k 42 (mk Qf ZZ ZyM) :=
 ZG (fn:=Tryz.f42) (Zh Zc) (by kernel_rfl) (by kernel_rfl) (ZSD k)
noncomputable abbrev ZUD:Nat × Callee:=(42,mk Qf ZZ ZyM)
def Zjb (k:Nat):ByteArray × Unit → Option (Int × Unit)
 | (a0,()) => (ZsM k (a0,16,32773,())).bind fun y => some (y.1,())
def ZyN (k:Nat):=Zjb k
theorem ZSE (k:Nat) (x:Kd.dens YM):ZF (ZPS k) nA Tryz.f43 YM Ze x = ZyN k x:=by
 show _ = Zjb k x
 obtain ⟨a0,⟨⟩⟩:=x
 kernel_rfl
theorem ZOy (k:Nat):Ctr Tryz.prog k 43 (mk YM Ze ZyN) :=
 ZG (fn:=Tryz.f43) (Zh (Za (ZDl k) Zc)) (by kernel_rfl) (by kernel_rfl) (ZSE k)
noncomputable abbrev ZUE:Nat × Callee:=(43,mk YM Ze ZyN)
noncomputable def ZUk (k:Nat):=Wc k [ZPE,ZUx,ZpG,ZUy,ZUz,ZUA,ZPT,ZUC,ZPV,ZUD,ZUE]
abbrev KT (l:List Int):ByteArray:=ByteArray.mk (List.map (fun n => UInt8.ofNat n.toNat) l).toArray
abbrev T17:=(ByteArray × Int × Unit) × Unit
noncomputable def ZCu (k:Nat) (T:ByteArray):Option T17 :=
 (ZpH k (T,())).bind fun y => (ZyN k (KT y.1,())).bind fun z =>
  bif decide ((KT y.1).size + (KT [IntKind.u8.wrap (IntKind.i64.wrap (Int.tdiv z.1 (256:Int))),IntKind.u8.wrap (Int.tmod z.1 (256:Int))]).size < (1099511627776:Nat)) then
   some ((KT y.1 ++ KT [IntKind.u8.wrap (IntKind.i64.wrap (Int.tdiv z.1 (256:Int))),IntKind.u8.wrap (Int.tmod z.1 (256:Int))],0,()),()) else none
noncomputable def ZtQ (k:Nat) (c d:Int) (ch:List (List Int)) (md:Int) (T:ByteArray):Option T17 :=
 bif c == (1:Int) then bif decide ((0:Int) ≤ (0:Int) ∧ (0:Int) < Int.ofNat ch.length) then (Zl2 k (ch.getD (0:Nat) [],d,())).bind fun y =>
  bif decide (T.size + ByteArray.size y.1.2.1 < (1099511627776:Nat)) then ZCu k (T ++ y.1.2.1) else none else none
 else bif decide ((0:Int) ≤ (0:Int) ∧ (0:Int) < Int.ofNat ch.length) then bif decide ((0:Int) ≤ (1:Int) ∧ (1:Int) < Int.ofNat ch.length) then
  (ZsD k ((ch.getD (0:Nat) [],ch.getD (1:Nat) [],()),md,())).bind fun y_10 => (ZyM k (d,md,())).bind fun y => (Zl2 k (y_10.1.1,y.1.1,())).bind fun y_11 => (Zl2 k (y_10.1.2.1,y.1.2.1,())).bind fun y_12 =>
   bif decide (T.size + ByteArray.size y_11.1.2.1 < (1099511627776:Nat)) then bif decide ((T ++ y_11.1.2.1).size + ByteArray.size y_12.1.2.1 < (1099511627776:Nat)) then ZCu k (T ++ y_11.1.2.1 ++ y_12.1.2.1) else none else none
  else none else none
noncomputable def QR (k:Nat) (kd mc w:Int) (c d n:Int) (ch:List (List Int)) (md:Int):Option T17 :=
 (Xh k (16382,14,())).bind fun y_1 => bif decide (ByteArray.size y_1.1 + (2:Nat) < (1099511627776:Nat)) then
 (Xh k (kd,4,())).bind fun y_2 => bif decide ((y_1.1 ++ ByteArray.mk #[48,48]).size + ByteArray.size y_2.1 < (1099511627776:Nat)) then
 bif decide ((y_1.1 ++ ByteArray.mk #[48,48] ++ y_2.1).size + (4:Nat) < (1099511627776:Nat)) then
 (Xh k (mc,4,())).bind fun y_3 => bif decide ((y_1.1 ++ ByteArray.mk #[48,48] ++ y_2.1 ++ ByteArray.mk #[48,48,48,48]).size + ByteArray.size y_3.1 < (1099511627776:Nat)) then
 bif decide ((y_1.1 ++ ByteArray.mk #[48,48] ++ y_2.1 ++ ByteArray.mk #[48,48,48,48] ++ y_3.1).size + (4:Nat) < (1099511627776:Nat)) then
 (ZyJ k (n,())).bind fun y_4 => (ZyH k (y_4.1,())).bind fun y_5 =>
 bif decide ((y_1.1 ++ ByteArray.mk #[48,48] ++ y_2.1 ++ ByteArray.mk #[48,48,48,48] ++ y_3.1 ++ ByteArray.mk #[48,48,48,48]).size + ByteArray.size y_5.1 < (1099511627776:Nat)) then
 (Xh k (IntKind.i64.wrap (Int.ofNat (List.length (ch.getD (0:Nat) [])) - (1:Int)),w,())).bind fun y_6 =>
 bif decide ((y_1.1 ++ ByteArray.mk #[48,48] ++ y_2.1 ++ ByteArray.mk #[48,48,48,48] ++ y_3.1 ++ ByteArray.mk #[48,48,48,48] ++ y_5.1).size + ByteArray.size y_6.1 < (1099511627776:Nat)) then
 (ZpH k (y_1.1 ++ ByteArray.mk #[48,48] ++ y_2.1 ++ ByteArray.mk #[48,48,48,48] ++ y_3.1 ++ ByteArray.mk #[48,48,48,48] ++ y_5.1 ++ y_6.1,())).bind fun y_7 => (ZyK k (KT y_7.1,())).bind fun y_8 => (Xh k (y_8.1,8,())).bind fun y_9 =>
 bif decide ((y_1.1 ++ ByteArray.mk #[48,48] ++ y_2.1 ++ ByteArray.mk #[48,48,48,48] ++ y_3.1 ++ ByteArray.mk #[48,48,48,48] ++ y_5.1 ++ y_6.1).size + ByteArray.size y_9.1 < (1099511627776:Nat)) then
 ZtQ k c d ch md (y_1.1 ++ ByteArray.mk #[48,48] ++ y_2.1 ++ ByteArray.mk #[48,48,48,48] ++ y_3.1 ++ ByteArray.mk #[48,48,48,48] ++ y_5.1 ++ y_6.1 ++ y_9.1)
 else none else none else none else none else none else none else none else none
noncomputable def Zys (k:Nat):(Int × Int × Int × Unit) × (Int × List (List Int) × Unit) × Unit → Option ((ByteArray × Int × Unit) × Unit)
 | ((c,d,r,()),(n,ch,()),()) =>
  (ZoN k ((c,d,r,()),(n,ch,()),())).bind fun y => bif y.1 != 0 then some ((ByteArray.mk #[],y.1,()),()) else
   bif decide ((0:Int) ≤ 0 ∧ (0:Int) < Int.ofNat ch.length) then
    bif decide ((256:Int) < Int.ofNat (List.length (ch.getD 0 []))) then
     bif c == (2:Int) then bif decide ((0:Int) ≤ 0 ∧ (0:Int) < Int.ofNat ch.length) then bif decide ((0:Int) ≤ 1 ∧ (1:Int) < Int.ofNat ch.length) then
      (Zi0 k ((ch.getD 0 [],ch.getD 1 [],()),())).bind fun y => bif c == (2:Int) then bif y.1 == 0 then QR k 7 1 16 c d n ch y.1 else QR k 7 y.1 16 c d n ch y.1 else QR k 7 y.1 16 c d n ch y.1
      else none else none
     else bif c == (2:Int) then QR k 7 1 16 c d n ch 0 else QR k 7 0 16 c d n ch 0
    else
     bif c == (2:Int) then bif decide ((0:Int) ≤ 0 ∧ (0:Int) < Int.ofNat ch.length) then bif decide ((0:Int) ≤ 1 ∧ (1:Int) < Int.ofNat ch.length) then
      (Zi0 k ((ch.getD 0 [],ch.getD 1 [],()),())).bind fun y => bif c == (2:Int) then bif y.1 == 0 then QR k 6 1 8 c d n ch y.1 else QR k 6 y.1 8 c d n ch y.1 else QR k 6 y.1 8 c d n ch y.1
      else none else none
     else bif c == (2:Int) then QR k 6 1 8 c d n ch 0 else QR k 6 0 8 c d n ch 0
   else none
noncomputable def Zst (k:Nat):=Zys k
theorem ZRH (k:Nat) (x:Kd.dens QY):ZF (ZUk k) nA Tryz.f17 QY W9 x = Zst k x:=by
 show _ = Zys k x
 obtain ⟨⟨a0,⟨a1,⟨a2,⟨⟩⟩⟩⟩,⟨⟨a3,⟨a4,⟨⟩⟩⟩,⟨⟩⟩⟩:=x
 kernel_rfl
theorem ZN0 (k:Nat):Ctr Tryz.prog k 17 (mk QY W9 Zst) :=
 ZG (fn:=Tryz.f17) (Zh (Za (ZCw k) (Za (ZOq k) (Za (Zdh k) (Za (ZOr k) (Za (ZOs k) (Za (ZOt k) (Za (ZCS k) (Za (ZOv k) (Za (ZCZ k) (Za (ZOx k) (Za (ZOy k) Zc)))))))))))) (by kernel_rfl) (by kernel_rfl) (ZRH k)
noncomputable abbrev ZUl:Nat × Callee:=(17,mk QY W9 Zst)
noncomputable def ZVD (k:Nat):=Wc k [ZUh,ZHQ,ZPD,ZPE,ZPF,ZUi,ZUj,ZUl]
noncomputable def ZnJ (k:Nat):(Int × Int × Int × Unit) × (Int × List (List Int) × Unit) × Unit → Option (Bool × Unit)
 | ((a0,a1,a2,()),(a3,a4,()),()) => (Zxo k ()).bind fun y => bif !y.1 then some (false,()) else (ZoG k ((a0,a1,a2,()),())).bind fun y => (Zr8 k ((a0,a1,a2,()),())).bind fun y_1 => bif !(y.1 == 0) == y_1.1 then some (false,()) else (ZoN k ((a0,a1,a2,()),(a3,a4,()),())).bind fun y => (Zyd k ((a3,a4,()),())).bind fun y_2 => (Zsc k ((a0,a1,a2,()),(y_2.1.1,y_2.1.2.1,()),())).bind fun y_3 => bif y_3.1.2.1 != y.1 then some (false,()) else bif y.1 != 0 then some (Int.ofNat (List.length y_3.1.1) == 0,()) else (Zyl k ((a3,a4,()),())).bind fun y => bif !y.1 then some (true,()) else (Zst k ((a0,a1,a2,()),(a3,a4,()),())).bind fun y => some ((ByteArray.mk (List.map (fun n => UInt8.ofNat n.toNat) y_3.1.1).toArray).toList == ByteArray.toList y.1.1,())
noncomputable def f3_F (k:Nat):=ZnJ k
theorem ZUB (k:Nat) (x:Kd.dens QY):ZF (ZVD k) nA Tryz.f3 QY ZA x = f3_F k x:=by
 show _ = ZnJ k x
 obtain ⟨⟨a0,⟨a1,⟨a2,⟨⟩⟩⟩⟩,⟨⟨a3,⟨a4,⟨⟩⟩⟩,⟨⟩⟩⟩:=x
 kernel_rfl
theorem f3_ctr (k:Nat):Ctr Tryz.prog k 3 (mk QY ZA f3_F) :=
 ZG (fn:=Tryz.f3) (Zh (Za (ZMp k) (Za (Zue k) (Za (ZCv k) (Za (ZCw k) (Za (ZCz k) (Za (ZNx k) (Za (ZNP k) (Za (ZN0 k) Zc))))))))) (by kernel_rfl) (by kernel_rfl) (ZUB k)
noncomputable abbrev ZVM:Nat × Callee:=(3,mk QY ZA f3_F)
end Go.Sh
