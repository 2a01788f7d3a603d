/-
  What the row needs, part 9.
-/
import Derived.Test.YtmeahimfdhdggaaGreatDoorXFrameReads8
set_option linter.unusedSimpArgs false
set_option linter.unusedVariables false
set_option linter.unusedSectionVars false
namespace Go.Sh
open Go Go.Proofs
def Zjm (k:Nat) (L2:Zu7) (L1:Zu6):Zu6
 | (v0,v1) => bif decide (v0 < 8) then bif decide ((0:Int) ≤ 0 ∧ (0:Int) < Int.ofNat v1.size) then bif decide (0 ≤ IntKind.i64.wrap ((7:Int) - v0)) then bif IntKind.i64.wrap (Int.ofNat (BitVec.ofInt 64 ((IntKind.i64.wrap (Int.ofNat (v1.data.toList.getD 0 0).toNat)).fdiv ((2:Int) ^ min (IntKind.i64.wrap ((7:Int) - v0)).toNat 64)) &&& BitVec.ofInt 64 (1:Int)).toNat) == 1 then L1 (IntKind.i64.wrap (v0 + 1),v1) else bif v0 == 0 then bif decide ((0:Int) ≤ 0 ∧ (0:Int) < Int.ofNat v1.size) then some ((IntKind.i64.wrap (Int.ofNat (v1.data.toList.getD 0 0).toNat),1,0,()),()) else none else bif v0 == 1 then some ((0,0,2,()),()) else bif v0 == 8 then some ((0,0,2,()),()) else bif decide ((0:Int) ≤ 0 ∧ (0:Int) < Int.ofNat v1.size) then (ZiA k (IntKind.i64.wrap (Int.ofNat (v1.data.toList.getD 0 0).toNat),8,())).bind fun y => bif decide (((0:Int) ≤ if (8:Int) < IntKind.i64.wrap (v0 + 1) then (8:Int) else IntKind.i64.wrap (v0 + 1)) ∧ (if (8:Int) < IntKind.i64.wrap (v0 + 1) then (8:Int) else IntKind.i64.wrap (v0 + 1)) ≤ Int.ofNat (ByteArray.size y.1) ∧ Int.ofNat (ByteArray.size y.1) ≤ Int.ofNat (ByteArray.size y.1)) then L2 (1,v0,v1,ByteArray.extract y.1 (if (8:Int) < IntKind.i64.wrap (v0 + 1) then (8:Int) else IntKind.i64.wrap (v0 + 1)).toNat (Int.ofNat (ByteArray.size y.1)).toNat) else none else none else none else none else bif v0 == 0 then bif decide ((0:Int) ≤ 0 ∧ (0:Int) < Int.ofNat v1.size) then some ((IntKind.i64.wrap (Int.ofNat (v1.data.toList.getD 0 0).toNat),1,0,()),()) else none else bif v0 == 1 then some ((0,0,2,()),()) else bif v0 == 8 then some ((0,0,2,()),()) else bif decide ((0:Int) ≤ 0 ∧ (0:Int) < Int.ofNat v1.size) then (ZiA k (IntKind.i64.wrap (Int.ofNat (v1.data.toList.getD 0 0).toNat),8,())).bind fun y => bif decide (((0:Int) ≤ if (8:Int) < IntKind.i64.wrap (v0 + 1) then (8:Int) else IntKind.i64.wrap (v0 + 1)) ∧ (if (8:Int) < IntKind.i64.wrap (v0 + 1) then (8:Int) else IntKind.i64.wrap (v0 + 1)) ≤ Int.ofNat (ByteArray.size y.1) ∧ Int.ofNat (ByteArray.size y.1) ≤ Int.ofNat (ByteArray.size y.1)) then L2 (1,v0,v1,ByteArray.extract y.1 (if (8:Int) < IntKind.i64.wrap (v0 + 1) then (8:Int) else IntKind.i64.wrap (v0 + 1)).toNat (Int.ofNat (ByteArray.size y.1)).toNat) else none else none
def Zu9 (k:Nat):Zu6:=Zp (fun L1 => Zjm k (Zpv k) L1) k
noncomputable def ZCu (k:Nat) (n:Nat) (v:ZAK) :=
 Zy (Zjj k) Zym [] [1,1,1,0,0] [] (Wh Tryz.f92) (Wp (Zjj k) Tryz.f92 XS Xi [] []) n (ZSc v)
def Zjl (k:Nat) (L1:Zu6):ByteArray × Unit → Option ((Int × Int × Int × Unit) × Unit)
 | (a0,()) => bif a0.toList == (ByteArray.mk #[]).toList then some ((0,0,10,()),()) else L1 (0,a0)
def Ku (k:Nat):=Zjl k (Zu9 k)
theorem Zyn (k:Nat):∀ n,Zvb k n = Zp (fun L4 => Zar k L4) n :=
 Zl (fun v => by kernel_rfl) (fun n v => by
  obtain ⟨v0,v1,v2,v3,v4⟩:=v
  kernel_rfl)
theorem ZJI (k:Nat):∀ n,ZCw k n = Zp (fun L3 => Zet k (ZcU k) L3) n :=
 Zl (fun v => by kernel_rfl) (fun n v => by
  rw [show (ZcU k) = Zvb k k from (Zyn k k).symm]
  obtain ⟨v0,v1,v2⟩:=v
  kernel_rfl)
theorem ZJH (k:Nat):∀ n,ZCv k n = Zp (fun L2 => Zes k (Zva k) (ZcU k) L2) n :=
 Zl (fun v => by kernel_rfl) (fun n v => by
  rw [show (Zva k) = ZCw k k from (ZJI k k).symm,show (ZcU k) = Zvb k k from (Zyn k k).symm]
  obtain ⟨v0,v1,v2,v3⟩:=v
  kernel_rfl)
theorem ZJG (k:Nat):∀ n,ZCu k n = Zp (fun L1 => Zjm k (Zpv k) L1) n :=
 Zl (fun v => by kernel_rfl) (fun n v => by
  rw [show (Zpv k) = ZCv k k from (ZJH k k).symm]
  obtain ⟨v0,v1⟩:=v
  kernel_rfl)
theorem ZSg (k:Nat) (x:Kd.dens XS):ZF (Zjj k) Zym Tryz.f92 XS Xi x = Ku k x:=by
 show _ = Zjl k (Zu9 k) x
 rw [show Zu9 k = ZCu k k from (ZJG k k).symm]
 obtain ⟨a0,⟨⟩⟩:=x
 kernel_rfl
theorem ZNA (k:Nat):Ctr Tryz.prog k 92 (mk XS Xi Ku) :=
 ZG (fn:=Tryz.f92) (Zh (Za (ZBV k) (Za (ZNt k) Zd))) (by kernel_rfl) (by kernel_rfl) (ZSg k)
noncomputable abbrev ZTT:Nat × Callee:=(92,mk XS Xi Ku)
abbrev Zuq:List Kd:=[.view shapeT,.box [.view .str,.view (.int .i64)],.view .str]
abbrev ZAr:Kd:=.tup [.view (.int .i64),.view Zhl,.view (.int .i64),.view (.int .i64)]
noncomputable def ZTu (k:Nat):=Wd k [Zpa,ZTT,ZTf]
def Zx0 (k:Nat):(Int × Int × Int × Unit) × (ByteArray × Int × Unit) × ByteArray × Unit → Option ((Int × (Int × List (List Int) × Unit) × Int × Int × Unit) × (ByteArray × Int × Unit) × Unit)
 | ((a0,a1,a2,()),(a3,a4,()),a5,()) => (ZR k ((a3,a4,()),15,())).bind fun y => bif y.1.2.1 != 0 then some ((0,((0:Int),[],()),0,y.1.2.1,()),(y.2.1.1,y.2.1.2.1,()),()) else bif y.1.1 != 32764 then some ((0,((0:Int),[],()),0,11,()),(y.2.1.1,y.2.1.2.1,()),()) else (ZR k ((y.2.1.1,y.2.1.2.1,()),1,())).bind fun y => bif y.1.2.1 != 0 then some ((0,((0:Int),[],()),0,y.1.2.1,()),(y.2.1.1,y.2.1.2.1,()),()) else bif y.1.1 != 0 then some ((0,((0:Int),[],()),0,2,()),(y.2.1.1,y.2.1.2.1,()),()) else (ZR k ((y.2.1.1,y.2.1.2.1,()),4,())).bind fun y => bif y.1.2.1 != 0 then some ((0,((0:Int),[],()),0,y.1.2.1,()),(y.2.1.1,y.2.1.2.1,()),()) else bif y.1.1 != 6 then bif y.1.1 != 7 then some ((0,((0:Int),[],()),0,2,()),(y.2.1.1,y.2.1.2.1,()),()) else (ZR k ((y.2.1.1,y.2.1.2.1,()),4,())).bind fun y_1 => bif y_1.1.2.1 != 0 then some ((0,((0:Int),[],()),0,y_1.1.2.1,()),(y_1.2.1.1,y_1.2.1.2.1,()),()) else bif y_1.1.1 != 0 then some ((0,((0:Int),[],()),0,2,()),(y_1.2.1.1,y_1.2.1.2.1,()),()) else (ZR k ((y_1.2.1.1,y_1.2.1.2.1,()),4,())).bind fun y_2 => bif y_2.1.2.1 != 0 then some ((0,((0:Int),[],()),0,y_2.1.2.1,()),(y_2.2.1.1,y_2.2.1.2.1,()),()) else bif a0 == 1 then bif y_2.1.1 != 0 then some ((0,((0:Int),[],()),0,2,()),(y_2.2.1.1,y_2.2.1.2.1,()),()) else bif a0 == 2 then bif y_2.1.1 != 1 then bif decide (y_2.1.1 < 8) then some ((0,((0:Int),[],()),0,2,()),(y_2.2.1.1,y_2.2.1.2.1,()),()) else bif decide ((10:Int) < y_2.1.1) then some ((0,((0:Int),[],()),0,2,()),(y_2.2.1.1,y_2.2.1.2.1,()),()) else (ZR k ((y_2.2.1.1,y_2.2.1.2.1,()),4,())).bind fun y_3 => bif y_3.1.2.1 != 0 then some ((0,((0:Int),[],()),0,y_3.1.2.1,()),(y_3.2.1.1,y_3.2.1.2.1,()),()) else bif y_3.1.1 != 0 then some ((0,((0:Int),[],()),0,2,()),(y_3.2.1.1,y_3.2.1.2.1,()),()) else bif decide ((0:Int) ≤ 4 ∧ (4:Int) ≤ Int.ofNat a5.size ∧ Int.ofNat a5.size ≤ Int.ofNat a5.size) then (Ku k (a5.extract (4:Nat) (Int.ofNat a5.size).toNat,())).bind fun y_4 => bif y_4.1.2.2.1 != 0 then some ((0,((0:Int),[],()),0,y_4.1.2.2.1,()),(y_3.2.1.1,y_3.2.1.2.1,()),()) else bif decide ((2147483647:Int) < y_4.1.1) then some ((0,((0:Int),[],()),0,2,()),(y_3.2.1.1,y_3.2.1.2.1,()),()) else (ZR k ((y_3.2.1.1,IntKind.i64.wrap (y_3.2.1.2.1 + IntKind.i64.wrap ((8:Int) * y_4.1.2.1)),()),IntKind.i64.wrap ((8:Int) * IntKind.i64.wrap (y.1.1 - 5)),())).bind fun y => bif y.1.2.1 != 0 then some ((0,((0:Int),[],()),0,y.1.2.1,()),(y.2.1.1,y.2.1.2.1,()),()) else bif decide ((512:Int) < IntKind.i64.wrap (y.1.1 + 1)) then some ((0,((0:Int),[],()),0,1,()),(y.2.1.1,y.2.1.2.1,()),()) else (ZR k ((y.2.1.1,y.2.1.2.1,()),8,())).bind fun y_5 => bif y_5.1.2.1 != 0 then some ((0,((0:Int),[],()),0,y_5.1.2.1,()),(y_5.2.1.1,y_5.2.1.2.1,()),()) else bif decide ((0:Int) ≤ 0 ∧ (0:Int) ≤ IntKind.i64.wrap (Int.tdiv y.2.1.2.1 (8:Int)) ∧ IntKind.i64.wrap (Int.tdiv y.2.1.2.1 (8:Int)) ≤ Int.ofNat a5.size) then (Kq k (a5.extract (0:Nat) (IntKind.i64.wrap (Int.tdiv y.2.1.2.1 (8:Int))).toNat,())).bind fun y_6 => bif y_5.1.1 != y_6.1 then some ((0,((0:Int),[],()),0,16,()),(y_5.2.1.1,y_5.2.1.2.1,()),()) else bif y_2.1.1 == 1 then some ((0,(y_4.1.1,[],()),IntKind.i64.wrap (y.1.1 + 1),0,()),(y_5.2.1.1,y_5.2.1.2.1,()),()) else some ((y_2.1.1,(y_4.1.1,[],()),IntKind.i64.wrap (y.1.1 + 1),0,()),(y_5.2.1.1,y_5.2.1.2.1,()),()) else none else none else (ZR k ((y_2.2.1.1,y_2.2.1.2.1,()),4,())).bind fun y_3 => bif y_3.1.2.1 != 0 then some ((0,((0:Int),[],()),0,y_3.1.2.1,()),(y_3.2.1.1,y_3.2.1.2.1,()),()) else bif y_3.1.1 != 0 then some ((0,((0:Int),[],()),0,2,()),(y_3.2.1.1,y_3.2.1.2.1,()),()) else bif decide ((0:Int) ≤ 4 ∧ (4:Int) ≤ Int.ofNat a5.size ∧ Int.ofNat a5.size ≤ Int.ofNat a5.size) then (Ku k (a5.extract (4:Nat) (Int.ofNat a5.size).toNat,())).bind fun y_4 => bif y_4.1.2.2.1 != 0 then some ((0,((0:Int),[],()),0,y_4.1.2.2.1,()),(y_3.2.1.1,y_3.2.1.2.1,()),()) else bif decide ((2147483647:Int) < y_4.1.1) then some ((0,((0:Int),[],()),0,2,()),(y_3.2.1.1,y_3.2.1.2.1,()),()) else (ZR k ((y_3.2.1.1,IntKind.i64.wrap (y_3.2.1.2.1 + IntKind.i64.wrap ((8:Int) * y_4.1.2.1)),()),IntKind.i64.wrap ((8:Int) * IntKind.i64.wrap (y.1.1 - 5)),())).bind fun y => bif y.1.2.1 != 0 then some ((0,((0:Int),[],()),0,y.1.2.1,()),(y.2.1.1,y.2.1.2.1,()),()) else bif decide ((512:Int) < IntKind.i64.wrap (y.1.1 + 1)) then some ((0,((0:Int),[],()),0,1,()),(y.2.1.1,y.2.1.2.1,()),()) else (ZR k ((y.2.1.1,y.2.1.2.1,()),8,())).bind fun y_5 => bif y_5.1.2.1 != 0 then some ((0,((0:Int),[],()),0,y_5.1.2.1,()),(y_5.2.1.1,y_5.2.1.2.1,()),()) else bif decide ((0:Int) ≤ 0 ∧ (0:Int) ≤ IntKind.i64.wrap (Int.tdiv y.2.1.2.1 (8:Int)) ∧ IntKind.i64.wrap (Int.tdiv y.2.1.2.1 (8:Int)) ≤ Int.ofNat a5.size) then (Kq k (a5.extract (0:Nat) (IntKind.i64.wrap (Int.tdiv y.2.1.2.1 (8:Int))).toNat,())).bind fun y_6 => bif y_5.1.1 != y_6.1 then some ((0,((0:Int),[],()),0,16,()),(y_5.2.1.1,y_5.2.1.2.1,()),()) else bif y_2.1.1 == 1 then some ((0,(y_4.1.1,[],()),IntKind.i64.wrap (y.1.1 + 1),0,()),(y_5.2.1.1,y_5.2.1.2.1,()),()) else some ((y_2.1.1,(y_4.1.1,[],()),IntKind.i64.wrap (y.1.1 + 1),0,()),(y_5.2.1.1,y_5.2.1.2.1,()),()) else none else none else (ZR k ((y_2.2.1.1,y_2.2.1.2.1,()),4,())).bind fun y_3 => bif y_3.1.2.1 != 0 then some ((0,((0:Int),[],()),0,y_3.1.2.1,()),(y_3.2.1.1,y_3.2.1.2.1,()),()) else bif y_3.1.1 != 0 then some ((0,((0:Int),[],()),0,2,()),(y_3.2.1.1,y_3.2.1.2.1,()),()) else bif decide ((0:Int) ≤ 4 ∧ (4:Int) ≤ Int.ofNat a5.size ∧ Int.ofNat a5.size ≤ Int.ofNat a5.size) then (Ku k (a5.extract (4:Nat) (Int.ofNat a5.size).toNat,())).bind fun y_4 => bif y_4.1.2.2.1 != 0 then some ((0,((0:Int),[],()),0,y_4.1.2.2.1,()),(y_3.2.1.1,y_3.2.1.2.1,()),()) else bif decide ((2147483647:Int) < y_4.1.1) then some ((0,((0:Int),[],()),0,2,()),(y_3.2.1.1,y_3.2.1.2.1,()),()) else (ZR k ((y_3.2.1.1,IntKind.i64.wrap (y_3.2.1.2.1 + IntKind.i64.wrap ((8:Int) * y_4.1.2.1)),()),IntKind.i64.wrap ((8:Int) * IntKind.i64.wrap (y.1.1 - 5)),())).bind fun y => bif y.1.2.1 != 0 then some ((0,((0:Int),[],()),0,y.1.2.1,()),(y.2.1.1,y.2.1.2.1,()),()) else bif decide ((512:Int) < IntKind.i64.wrap (y.1.1 + 1)) then some ((0,((0:Int),[],()),0,1,()),(y.2.1.1,y.2.1.2.1,()),()) else (ZR k ((y.2.1.1,y.2.1.2.1,()),8,())).bind fun y_5 => bif y_5.1.2.1 != 0 then some ((0,((0:Int),[],()),0,y_5.1.2.1,()),(y_5.2.1.1,y_5.2.1.2.1,()),()) else bif decide ((0:Int) ≤ 0 ∧ (0:Int) ≤ IntKind.i64.wrap (Int.tdiv y.2.1.2.1 (8:Int)) ∧ IntKind.i64.wrap (Int.tdiv y.2.1.2.1 (8:Int)) ≤ Int.ofNat a5.size) then (Kq k (a5.extract (0:Nat) (IntKind.i64.wrap (Int.tdiv y.2.1.2.1 (8:Int))).toNat,())).bind fun y_6 => bif y_5.1.1 != y_6.1 then some ((0,((0:Int),[],()),0,16,()),(y_5.2.1.1,y_5.2.1.2.1,()),()) else bif y_2.1.1 == 1 then some ((0,(y_4.1.1,[],()),IntKind.i64.wrap (y.1.1 + 1),0,()),(y_5.2.1.1,y_5.2.1.2.1,()),()) else some ((y_2.1.1,(y_4.1.1,[],()),IntKind.i64.wrap (y.1.1 + 1),0,()),(y_5.2.1.1,y_5.2.1.2.1,()),()) else none else none else bif a0 == 2 then bif y_2.1.1 != 1 then bif decide (y_2.1.1 < 8) then some ((0,((0:Int),[],()),0,2,()),(y_2.2.1.1,y_2.2.1.2.1,()),()) else bif decide ((10:Int) < y_2.1.1) then some ((0,((0:Int),[],()),0,2,()),(y_2.2.1.1,y_2.2.1.2.1,()),()) else (ZR k ((y_2.2.1.1,y_2.2.1.2.1,()),4,())).bind fun y_3 => bif y_3.1.2.1 != 0 then some ((0,((0:Int),[],()),0,y_3.1.2.1,()),(y_3.2.1.1,y_3.2.1.2.1,()),()) else bif y_3.1.1 != 0 then some ((0,((0:Int),[],()),0,2,()),(y_3.2.1.1,y_3.2.1.2.1,()),()) else bif decide ((0:Int) ≤ 4 ∧ (4:Int) ≤ Int.ofNat a5.size ∧ Int.ofNat a5.size ≤ Int.ofNat a5.size) then (Ku k (a5.extract (4:Nat) (Int.ofNat a5.size).toNat,())).bind fun y_4 => bif y_4.1.2.2.1 != 0 then some ((0,((0:Int),[],()),0,y_4.1.2.2.1,()),(y_3.2.1.1,y_3.2.1.2.1,()),()) else bif decide ((2147483647:Int) < y_4.1.1) then some ((0,((0:Int),[],()),0,2,()),(y_3.2.1.1,y_3.2.1.2.1,()),()) else (ZR k ((y_3.2.1.1,IntKind.i64.wrap (y_3.2.1.2.1 + IntKind.i64.wrap ((8:Int) * y_4.1.2.1)),()),IntKind.i64.wrap ((8:Int) * IntKind.i64.wrap (y.1.1 - 5)),())).bind fun y => bif y.1.2.1 != 0 then some ((0,((0:Int),[],()),0,y.1.2.1,()),(y.2.1.1,y.2.1.2.1,()),()) else bif decide ((512:Int) < IntKind.i64.wrap (y.1.1 + 1)) then some ((0,((0:Int),[],()),0,1,()),(y.2.1.1,y.2.1.2.1,()),()) else (ZR k ((y.2.1.1,y.2.1.2.1,()),8,())).bind fun y_5 => bif y_5.1.2.1 != 0 then some ((0,((0:Int),[],()),0,y_5.1.2.1,()),(y_5.2.1.1,y_5.2.1.2.1,()),()) else bif decide ((0:Int) ≤ 0 ∧ (0:Int) ≤ IntKind.i64.wrap (Int.tdiv y.2.1.2.1 (8:Int)) ∧ IntKind.i64.wrap (Int.tdiv y.2.1.2.1 (8:Int)) ≤ Int.ofNat a5.size) then (Kq k (a5.extract (0:Nat) (IntKind.i64.wrap (Int.tdiv y.2.1.2.1 (8:Int))).toNat,())).bind fun y_6 => bif y_5.1.1 != y_6.1 then some ((0,((0:Int),[],()),0,16,()),(y_5.2.1.1,y_5.2.1.2.1,()),()) else bif y_2.1.1 == 1 then some ((0,(y_4.1.1,[],()),IntKind.i64.wrap (y.1.1 + 1),0,()),(y_5.2.1.1,y_5.2.1.2.1,()),()) else some ((y_2.1.1,(y_4.1.1,[],()),IntKind.i64.wrap (y.1.1 + 1),0,()),(y_5.2.1.1,y_5.2.1.2.1,()),()) else none else none else (ZR k ((y_2.2.1.1,y_2.2.1.2.1,()),4,())).bind fun y_3 => bif y_3.1.2.1 != 0 then some ((0,((0:Int),[],()),0,y_3.1.2.1,()),(y_3.2.1.1,y_3.2.1.2.1,()),()) else bif y_3.1.1 != 0 then some ((0,((0:Int),[],()),0,2,()),(y_3.2.1.1,y_3.2.1.2.1,()),()) else bif decide ((0:Int) ≤ 4 ∧ (4:Int) ≤ Int.ofNat a5.size ∧ Int.ofNat a5.size ≤ Int.ofNat a5.size) then (Ku k (a5.extract (4:Nat) (Int.ofNat a5.size).toNat,())).bind fun y_4 => bif y_4.1.2.2.1 != 0 then some ((0,((0:Int),[],()),0,y_4.1.2.2.1,()),(y_3.2.1.1,y_3.2.1.2.1,()),()) else bif decide ((2147483647:Int) < y_4.1.1) then some ((0,((0:Int),[],()),0,2,()),(y_3.2.1.1,y_3.2.1.2.1,()),()) else (ZR k ((y_3.2.1.1,IntKind.i64.wrap (y_3.2.1.2.1 + IntKind.i64.wrap ((8:Int) * y_4.1.2.1)),()),IntKind.i64.wrap ((8:Int) * IntKind.i64.wrap (y.1.1 - 5)),())).bind fun y => bif y.1.2.1 != 0 then some ((0,((0:Int),[],()),0,y.1.2.1,()),(y.2.1.1,y.2.1.2.1,()),()) else bif decide ((512:Int) < IntKind.i64.wrap (y.1.1 + 1)) then some ((0,((0:Int),[],()),0,1,()),(y.2.1.1,y.2.1.2.1,()),()) else (ZR k ((y.2.1.1,y.2.1.2.1,()),8,())).bind fun y_5 => bif y_5.1.2.1 != 0 then some ((0,((0:Int),[],()),0,y_5.1.2.1,()),(y_5.2.1.1,y_5.2.1.2.1,()),()) else bif decide ((0:Int) ≤ 0 ∧ (0:Int) ≤ IntKind.i64.wrap (Int.tdiv y.2.1.2.1 (8:Int)) ∧ IntKind.i64.wrap (Int.tdiv y.2.1.2.1 (8:Int)) ≤ Int.ofNat a5.size) then (Kq k (a5.extract (0:Nat) (IntKind.i64.wrap (Int.tdiv y.2.1.2.1 (8:Int))).toNat,())).bind fun y_6 => bif y_5.1.1 != y_6.1 then some ((0,((0:Int),[],()),0,16,()),(y_5.2.1.1,y_5.2.1.2.1,()),()) else bif y_2.1.1 == 1 then some ((0,(y_4.1.1,[],()),IntKind.i64.wrap (y.1.1 + 1),0,()),(y_5.2.1.1,y_5.2.1.2.1,()),()) else some ((y_2.1.1,(y_4.1.1,[],()),IntKind.i64.wrap (y.1.1 + 1),0,()),(y_5.2.1.1,y_5.2.1.2.1,()),()) else none else none else (ZR k ((y_2.2.1.1,y_2.2.1.2.1,()),4,())).bind fun y_3 => bif y_3.1.2.1 != 0 then some ((0,((0:Int),[],()),0,y_3.1.2.1,()),(y_3.2.1.1,y_3.2.1.2.1,()),()) else bif y_3.1.1 != 0 then some ((0,((0:Int),[],()),0,2,()),(y_3.2.1.1,y_3.2.1.2.1,()),()) else bif decide ((0:Int) ≤ 4 ∧ (4:Int) ≤ Int.ofNat a5.size ∧ Int.ofNat a5.size ≤ Int.ofNat a5.size) then (Ku k (a5.extract (4:Nat) (Int.ofNat a5.size).toNat,())).bind fun y_4 => bif y_4.1.2.2.1 != 0 then some ((0,((0:Int),[],()),0,y_4.1.2.2.1,()),(y_3.2.1.1,y_3.2.1.2.1,()),()) else bif decide ((2147483647:Int) < y_4.1.1) then some ((0,((0:Int),[],()),0,2,()),(y_3.2.1.1,y_3.2.1.2.1,()),()) else (ZR k ((y_3.2.1.1,IntKind.i64.wrap (y_3.2.1.2.1 + IntKind.i64.wrap ((8:Int) * y_4.1.2.1)),()),IntKind.i64.wrap ((8:Int) * IntKind.i64.wrap (y.1.1 - 5)),())).bind fun y => bif y.1.2.1 != 0 then some ((0,((0:Int),[],()),0,y.1.2.1,()),(y.2.1.1,y.2.1.2.1,()),()) else bif decide ((512:Int) < IntKind.i64.wrap (y.1.1 + 1)) then some ((0,((0:Int),[],()),0,1,()),(y.2.1.1,y.2.1.2.1,()),()) else (ZR k ((y.2.1.1,y.2.1.2.1,()),8,())).bind fun y_5 => bif y_5.1.2.1 != 0 then some ((0,((0:Int),[],()),0,y_5.1.2.1,()),(y_5.2.1.1,y_5.2.1.2.1,()),()) else bif decide ((0:Int) ≤ 0 ∧ (0:Int) ≤ IntKind.i64.wrap (Int.tdiv y.2.1.2.1 (8:Int)) ∧ IntKind.i64.wrap (Int.tdiv y.2.1.2.1 (8:Int)) ≤ Int.ofNat a5.size) then (Kq k (a5.extract (0:Nat) (IntKind.i64.wrap (Int.tdiv y.2.1.2.1 (8:Int))).toNat,())).bind fun y_6 => bif y_5.1.1 != y_6.1 then some ((0,((0:Int),[],()),0,16,()),(y_5.2.1.1,y_5.2.1.2.1,()),()) else bif y_2.1.1 == 1 then some ((0,(y_4.1.1,[],()),IntKind.i64.wrap (y.1.1 + 1),0,()),(y_5.2.1.1,y_5.2.1.2.1,()),()) else some ((y_2.1.1,(y_4.1.1,[],()),IntKind.i64.wrap (y.1.1 + 1),0,()),(y_5.2.1.1,y_5.2.1.2.1,()),()) else none else none else (ZR k ((y.2.1.1,y.2.1.2.1,()),4,())).bind fun y_1 => bif y_1.1.2.1 != 0 then some ((0,((0:Int),[],()),0,y_1.1.2.1,()),(y_1.2.1.1,y_1.2.1.2.1,()),()) else bif y_1.1.1 != 0 then some ((0,((0:Int),[],()),0,2,()),(y_1.2.1.1,y_1.2.1.2.1,()),()) else (ZR k ((y_1.2.1.1,y_1.2.1.2.1,()),4,())).bind fun y_2 => bif y_2.1.2.1 != 0 then some ((0,((0:Int),[],()),0,y_2.1.2.1,()),(y_2.2.1.1,y_2.2.1.2.1,()),()) else bif a0 == 1 then bif y_2.1.1 != 0 then some ((0,((0:Int),[],()),0,2,()),(y_2.2.1.1,y_2.2.1.2.1,()),()) else bif a0 == 2 then bif y_2.1.1 != 1 then bif decide (y_2.1.1 < 8) then some ((0,((0:Int),[],()),0,2,()),(y_2.2.1.1,y_2.2.1.2.1,()),()) else bif decide ((10:Int) < y_2.1.1) then some ((0,((0:Int),[],()),0,2,()),(y_2.2.1.1,y_2.2.1.2.1,()),()) else (ZR k ((y_2.2.1.1,y_2.2.1.2.1,()),4,())).bind fun y_3 => bif y_3.1.2.1 != 0 then some ((0,((0:Int),[],()),0,y_3.1.2.1,()),(y_3.2.1.1,y_3.2.1.2.1,()),()) else bif y_3.1.1 != 0 then some ((0,((0:Int),[],()),0,2,()),(y_3.2.1.1,y_3.2.1.2.1,()),()) else bif decide ((0:Int) ≤ 4 ∧ (4:Int) ≤ Int.ofNat a5.size ∧ Int.ofNat a5.size ≤ Int.ofNat a5.size) then (Ku k (a5.extract (4:Nat) (Int.ofNat a5.size).toNat,())).bind fun y_4 => bif y_4.1.2.2.1 != 0 then some ((0,((0:Int),[],()),0,y_4.1.2.2.1,()),(y_3.2.1.1,y_3.2.1.2.1,()),()) else bif decide ((2147483647:Int) < y_4.1.1) then some ((0,((0:Int),[],()),0,2,()),(y_3.2.1.1,y_3.2.1.2.1,()),()) else (ZR k ((y_3.2.1.1,IntKind.i64.wrap (y_3.2.1.2.1 + IntKind.i64.wrap ((8:Int) * y_4.1.2.1)),()),IntKind.i64.wrap ((8:Int) * IntKind.i64.wrap (y.1.1 - 5)),())).bind fun y => bif y.1.2.1 != 0 then some ((0,((0:Int),[],()),0,y.1.2.1,()),(y.2.1.1,y.2.1.2.1,()),()) else bif decide ((512:Int) < IntKind.i64.wrap (y.1.1 + 1)) then some ((0,((0:Int),[],()),0,1,()),(y.2.1.1,y.2.1.2.1,()),()) else (ZR k ((y.2.1.1,y.2.1.2.1,()),8,())).bind fun y_5 => bif y_5.1.2.1 != 0 then some ((0,((0:Int),[],()),0,y_5.1.2.1,()),(y_5.2.1.1,y_5.2.1.2.1,()),()) else bif decide ((0:Int) ≤ 0 ∧ (0:Int) ≤ IntKind.i64.wrap (Int.tdiv y.2.1.2.1 (8:Int)) ∧ IntKind.i64.wrap (Int.tdiv y.2.1.2.1 (8:Int)) ≤ Int.ofNat a5.size) then (Kq k (a5.extract (0:Nat) (IntKind.i64.wrap (Int.tdiv y.2.1.2.1 (8:Int))).toNat,())).bind fun y_6 => bif y_5.1.1 != y_6.1 then some ((0,((0:Int),[],()),0,16,()),(y_5.2.1.1,y_5.2.1.2.1,()),()) else bif y_2.1.1 == 1 then some ((0,(y_4.1.1,[],()),IntKind.i64.wrap (y.1.1 + 1),0,()),(y_5.2.1.1,y_5.2.1.2.1,()),()) else some ((y_2.1.1,(y_4.1.1,[],()),IntKind.i64.wrap (y.1.1 + 1),0,()),(y_5.2.1.1,y_5.2.1.2.1,()),()) else none else none else (ZR k ((y_2.2.1.1,y_2.2.1.2.1,()),4,())).bind fun y_3 => bif y_3.1.2.1 != 0 then some ((0,((0:Int),[],()),0,y_3.1.2.1,()),(y_3.2.1.1,y_3.2.1.2.1,()),()) else bif y_3.1.1 != 0 then some ((0,((0:Int),[],()),0,2,()),(y_3.2.1.1,y_3.2.1.2.1,()),()) else bif decide ((0:Int) ≤ 4 ∧ (4:Int) ≤ Int.ofNat a5.size ∧ Int.ofNat a5.size ≤ Int.ofNat a5.size) then (Ku k (a5.extract (4:Nat) (Int.ofNat a5.size).toNat,())).bind fun y_4 => bif y_4.1.2.2.1 != 0 then some ((0,((0:Int),[],()),0,y_4.1.2.2.1,()),(y_3.2.1.1,y_3.2.1.2.1,()),()) else bif decide ((2147483647:Int) < y_4.1.1) then some ((0,((0:Int),[],()),0,2,()),(y_3.2.1.1,y_3.2.1.2.1,()),()) else (ZR k ((y_3.2.1.1,IntKind.i64.wrap (y_3.2.1.2.1 + IntKind.i64.wrap ((8:Int) * y_4.1.2.1)),()),IntKind.i64.wrap ((8:Int) * IntKind.i64.wrap (y.1.1 - 5)),())).bind fun y => bif y.1.2.1 != 0 then some ((0,((0:Int),[],()),0,y.1.2.1,()),(y.2.1.1,y.2.1.2.1,()),()) else bif decide ((512:Int) < IntKind.i64.wrap (y.1.1 + 1)) then some ((0,((0:Int),[],()),0,1,()),(y.2.1.1,y.2.1.2.1,()),()) else (ZR k ((y.2.1.1,y.2.1.2.1,()),8,())).bind fun y_5 => bif y_5.1.2.1 != 0 then some ((0,((0:Int),[],()),0,y_5.1.2.1,()),(y_5.2.1.1,y_5.2.1.2.1,()),()) else bif decide ((0:Int) ≤ 0 ∧ (0:Int) ≤ IntKind.i64.wrap (Int.tdiv y.2.1.2.1 (8:Int)) ∧ IntKind.i64.wrap (Int.tdiv y.2.1.2.1 (8:Int)) ≤ Int.ofNat a5.size) then (Kq k (a5.extract (0:Nat) (IntKind.i64.wrap (Int.tdiv y.2.1.2.1 (8:Int))).toNat,())).bind fun y_6 => bif y_5.1.1 != y_6.1 then some ((0,((0:Int),[],()),0,16,()),(y_5.2.1.1,y_5.2.1.2.1,()),()) else bif y_2.1.1 == 1 then some ((0,(y_4.1.1,[],()),IntKind.i64.wrap (y.1.1 + 1),0,()),(y_5.2.1.1,y_5.2.1.2.1,()),()) else some ((y_2.1.1,(y_4.1.1,[],()),IntKind.i64.wrap (y.1.1 + 1),0,()),(y_5.2.1.1,y_5.2.1.2.1,()),()) else none else none else (ZR k ((y_2.2.1.1,y_2.2.1.2.1,()),4,())).bind fun y_3 => bif y_3.1.2.1 != 0 then some ((0,((0:Int),[],()),0,y_3.1.2.1,()),(y_3.2.1.1,y_3.2.1.2.1,()),()) else bif y_3.1.1 != 0 then some ((0,((0:Int),[],()),0,2,()),(y_3.2.1.1,y_3.2.1.2.1,()),()) else bif decide ((0:Int) ≤ 4 ∧ (4:Int) ≤ Int.ofNat a5.size ∧ Int.ofNat a5.size ≤ Int.ofNat a5.size) then (Ku k (a5.extract (4:Nat) (Int.ofNat a5.size).toNat,())).bind fun y_4 => bif y_4.1.2.2.1 != 0 then some ((0,((0:Int),[],()),0,y_4.1.2.2.1,()),(y_3.2.1.1,y_3.2.1.2.1,()),()) else bif decide ((2147483647:Int) < y_4.1.1) then some ((0,((0:Int),[],()),0,2,()),(y_3.2.1.1,y_3.2.1.2.1,()),()) else (ZR k ((y_3.2.1.1,IntKind.i64.wrap (y_3.2.1.2.1 + IntKind.i64.wrap ((8:Int) * y_4.1.2.1)),()),IntKind.i64.wrap ((8:Int) * IntKind.i64.wrap (y.1.1 - 5)),())).bind fun y => bif y.1.2.1 != 0 then some ((0,((0:Int),[],()),0,y.1.2.1,()),(y.2.1.1,y.2.1.2.1,()),()) else bif decide ((512:Int) < IntKind.i64.wrap (y.1.1 + 1)) then some ((0,((0:Int),[],()),0,1,()),(y.2.1.1,y.2.1.2.1,()),()) else (ZR k ((y.2.1.1,y.2.1.2.1,()),8,())).bind fun y_5 => bif y_5.1.2.1 != 0 then some ((0,((0:Int),[],()),0,y_5.1.2.1,()),(y_5.2.1.1,y_5.2.1.2.1,()),()) else bif decide ((0:Int) ≤ 0 ∧ (0:Int) ≤ IntKind.i64.wrap (Int.tdiv y.2.1.2.1 (8:Int)) ∧ IntKind.i64.wrap (Int.tdiv y.2.1.2.1 (8:Int)) ≤ Int.ofNat a5.size) then (Kq k (a5.extract (0:Nat) (IntKind.i64.wrap (Int.tdiv y.2.1.2.1 (8:Int))).toNat,())).bind fun y_6 => bif y_5.1.1 != y_6.1 then some ((0,((0:Int),[],()),0,16,()),(y_5.2.1.1,y_5.2.1.2.1,()),()) else bif y_2.1.1 == 1 then some ((0,(y_4.1.1,[],()),IntKind.i64.wrap (y.1.1 + 1),0,()),(y_5.2.1.1,y_5.2.1.2.1,()),()) else some ((y_2.1.1,(y_4.1.1,[],()),IntKind.i64.wrap (y.1.1 + 1),0,()),(y_5.2.1.1,y_5.2.1.2.1,()),()) else none else none else bif a0 == 2 then bif y_2.1.1 != 1 then bif decide (y_2.1.1 < 8) then some ((0,((0:Int),[],()),0,2,()),(y_2.2.1.1,y_2.2.1.2.1,()),()) else bif decide ((10:Int) < y_2.1.1) then some ((0,((0:Int),[],()),0,2,()),(y_2.2.1.1,y_2.2.1.2.1,()),()) else (ZR k ((y_2.2.1.1,y_2.2.1.2.1,()),4,())).bind fun y_3 => bif y_3.1.2.1 != 0 then some ((0,((0:Int),[],()),0,y_3.1.2.1,()),(y_3.2.1.1,y_3.2.1.2.1,()),()) else bif y_3.1.1 != 0 then some ((0,((0:Int),[],()),0,2,()),(y_3.2.1.1,y_3.2.1.2.1,()),()) else bif decide ((0:Int) ≤ 4 ∧ (4:Int) ≤ Int.ofNat a5.size ∧ Int.ofNat a5.size ≤ Int.ofNat a5.size) then (Ku k (a5.extract (4:Nat) (Int.ofNat a5.size).toNat,())).bind fun y_4 => bif y_4.1.2.2.1 != 0 then some ((0,((0:Int),[],()),0,y_4.1.2.2.1,()),(y_3.2.1.1,y_3.2.1.2.1,()),()) else bif decide ((2147483647:Int) < y_4.1.1) then some ((0,((0:Int),[],()),0,2,()),(y_3.2.1.1,y_3.2.1.2.1,()),()) else (ZR k ((y_3.2.1.1,IntKind.i64.wrap (y_3.2.1.2.1 + IntKind.i64.wrap ((8:Int) * y_4.1.2.1)),()),IntKind.i64.wrap ((8:Int) * IntKind.i64.wrap (y.1.1 - 5)),())).bind fun y => bif y.1.2.1 != 0 then some ((0,((0:Int),[],()),0,y.1.2.1,()),(y.2.1.1,y.2.1.2.1,()),()) else bif decide ((512:Int) < IntKind.i64.wrap (y.1.1 + 1)) then some ((0,((0:Int),[],()),0,1,()),(y.2.1.1,y.2.1.2.1,()),()) else (ZR k ((y.2.1.1,y.2.1.2.1,()),8,())).bind fun y_5 => bif y_5.1.2.1 != 0 then some ((0,((0:Int),[],()),0,y_5.1.2.1,()),(y_5.2.1.1,y_5.2.1.2.1,()),()) else bif decide ((0:Int) ≤ 0 ∧ (0:Int) ≤ IntKind.i64.wrap (Int.tdiv y.2.1.2.1 (8:Int)) ∧ IntKind.i64.wrap (Int.tdiv y.2.1.2.1 (8:Int)) ≤ Int.ofNat a5.size) then (Kq k (a5.extract (0:Nat) (IntKind.i64.wrap (Int.tdiv y.2.1.2.1 (8:Int))).toNat,())).bind fun y_6 => bif y_5.1.1 != y_6.1 then some ((0,((0:Int),[],()),0,16,()),(y_5.2.1.1,y_5.2.1.2.1,()),()) else bif y_2.1.1 == 1 then some ((0,(y_4.1.1,[],()),IntKind.i64.wrap (y.1.1 + 1),0,()),(y_5.2.1.1,y_5.2.1.2.1,()),()) else some ((y_2.1.1,(y_4.1.1,[],()),IntKind.i64.wrap (y.1.1 + 1),0,()),(y_5.2.1.1,y_5.2.1.2.1,()),()) else none else none else (ZR k ((y_2.2.1.1,y_2.2.1.2.1,()),4,())).bind fun y_3 => bif y_3.1.2.1 != 0 then some ((0,((0:Int),[],()),0,y_3.1.2.1,()),(y_3.2.1.1,y_3.2.1.2.1,()),()) else bif y_3.1.1 != 0 then some ((0,((0:Int),[],()),0,2,()),(y_3.2.1.1,y_3.2.1.2.1,()),()) else bif decide ((0:Int) ≤ 4 ∧ (4:Int) ≤ Int.ofNat a5.size ∧ Int.ofNat a5.size ≤ Int.ofNat a5.size) then (Ku k (a5.extract (4:Nat) (Int.ofNat a5.size).toNat,())).bind fun y_4 => bif y_4.1.2.2.1 != 0 then some ((0,((0:Int),[],()),0,y_4.1.2.2.1,()),(y_3.2.1.1,y_3.2.1.2.1,()),()) else bif decide ((2147483647:Int) < y_4.1.1) then some ((0,((0:Int),[],()),0,2,()),(y_3.2.1.1,y_3.2.1.2.1,()),()) else (ZR k ((y_3.2.1.1,IntKind.i64.wrap (y_3.2.1.2.1 + IntKind.i64.wrap ((8:Int) * y_4.1.2.1)),()),IntKind.i64.wrap ((8:Int) * IntKind.i64.wrap (y.1.1 - 5)),())).bind fun y => bif y.1.2.1 != 0 then some ((0,((0:Int),[],()),0,y.1.2.1,()),(y.2.1.1,y.2.1.2.1,()),()) else bif decide ((512:Int) < IntKind.i64.wrap (y.1.1 + 1)) then some ((0,((0:Int),[],()),0,1,()),(y.2.1.1,y.2.1.2.1,()),()) else (ZR k ((y.2.1.1,y.2.1.2.1,()),8,())).bind fun y_5 => bif y_5.1.2.1 != 0 then some ((0,((0:Int),[],()),0,y_5.1.2.1,()),(y_5.2.1.1,y_5.2.1.2.1,()),()) else bif decide ((0:Int) ≤ 0 ∧ (0:Int) ≤ IntKind.i64.wrap (Int.tdiv y.2.1.2.1 (8:Int)) ∧ IntKind.i64.wrap (Int.tdiv y.2.1.2.1 (8:Int)) ≤ Int.ofNat a5.size) then (Kq k (a5.extract (0:Nat) (IntKind.i64.wrap (Int.tdiv y.2.1.2.1 (8:Int))).toNat,())).bind fun y_6 => bif y_5.1.1 != y_6.1 then some ((0,((0:Int),[],()),0,16,()),(y_5.2.1.1,y_5.2.1.2.1,()),()) else bif y_2.1.1 == 1 then some ((0,(y_4.1.1,[],()),IntKind.i64.wrap (y.1.1 + 1),0,()),(y_5.2.1.1,y_5.2.1.2.1,()),()) else some ((y_2.1.1,(y_4.1.1,[],()),IntKind.i64.wrap (y.1.1 + 1),0,()),(y_5.2.1.1,y_5.2.1.2.1,()),()) else none else none else (ZR k ((y_2.2.1.1,y_2.2.1.2.1,()),4,())).bind fun y_3 => bif y_3.1.2.1 != 0 then some ((0,((0:Int),[],()),0,y_3.1.2.1,()),(y_3.2.1.1,y_3.2.1.2.1,()),()) else bif y_3.1.1 != 0 then some ((0,((0:Int),[],()),0,2,()),(y_3.2.1.1,y_3.2.1.2.1,()),()) else bif decide ((0:Int) ≤ 4 ∧ (4:Int) ≤ Int.ofNat a5.size ∧ Int.ofNat a5.size ≤ Int.ofNat a5.size) then (Ku k (a5.extract (4:Nat) (Int.ofNat a5.size).toNat,())).bind fun y_4 => bif y_4.1.2.2.1 != 0 then some ((0,((0:Int),[],()),0,y_4.1.2.2.1,()),(y_3.2.1.1,y_3.2.1.2.1,()),()) else bif decide ((2147483647:Int) < y_4.1.1) then some ((0,((0:Int),[],()),0,2,()),(y_3.2.1.1,y_3.2.1.2.1,()),()) else (ZR k ((y_3.2.1.1,IntKind.i64.wrap (y_3.2.1.2.1 + IntKind.i64.wrap ((8:Int) * y_4.1.2.1)),()),IntKind.i64.wrap ((8:Int) * IntKind.i64.wrap (y.1.1 - 5)),())).bind fun y => bif y.1.2.1 != 0 then some ((0,((0:Int),[],()),0,y.1.2.1,()),(y.2.1.1,y.2.1.2.1,()),()) else bif decide ((512:Int) < IntKind.i64.wrap (y.1.1 + 1)) then some ((0,((0:Int),[],()),0,1,()),(y.2.1.1,y.2.1.2.1,()),()) else (ZR k ((y.2.1.1,y.2.1.2.1,()),8,())).bind fun y_5 => bif y_5.1.2.1 != 0 then some ((0,((0:Int),[],()),0,y_5.1.2.1,()),(y_5.2.1.1,y_5.2.1.2.1,()),()) else bif decide ((0:Int) ≤ 0 ∧ (0:Int) ≤ IntKind.i64.wrap (Int.tdiv y.2.1.2.1 (8:Int)) ∧ IntKind.i64.wrap (Int.tdiv y.2.1.2.1 (8:Int)) ≤ Int.ofNat a5.size) then (Kq k (a5.extract (0:Nat) (IntKind.i64.wrap (Int.tdiv y.2.1.2.1 (8:Int))).toNat,())).bind fun y_6 => bif y_5.1.1 != y_6.1 then some ((0,((0:Int),[],()),0,16,()),(y_5.2.1.1,y_5.2.1.2.1,()),()) else bif y_2.1.1 == 1 then some ((0,(y_4.1.1,[],()),IntKind.i64.wrap (y.1.1 + 1),0,()),(y_5.2.1.1,y_5.2.1.2.1,()),()) else some ((y_2.1.1,(y_4.1.1,[],()),IntKind.i64.wrap (y.1.1 + 1),0,()),(y_5.2.1.1,y_5.2.1.2.1,()),()) else none else none
def ZlK (k:Nat):=Zx0 k
theorem ZRj (k:Nat) (x:Kd.dens Zuq):ZF (ZTu k) nA Tryz.f52 Zuq ZAr x = ZlK k x:=by
 show _ = Zx0 k x
 obtain ⟨⟨a0,⟨a1,⟨a2,⟨⟩⟩⟩⟩,⟨⟨a3,⟨a4,⟨⟩⟩⟩,⟨a5,⟨⟩⟩⟩⟩:=x
 kernel_rfl
theorem ZNe (k:Nat):Ctr Tryz.prog k 52 (mk Zuq ZAr ZlK) :=
 ZG (fn:=Tryz.f52) (Zh (Za (ZcR k) (Za (ZNA k) (Za (ZM3 k) Zd)))) (by kernel_rfl) (by kernel_rfl) (ZRj k)
noncomputable abbrev ZTv:Nat × Callee:=(52,mk Zuq ZAr ZlK)
abbrev Zbo:List Kd:=[.box [.view .str,.view (.int .i64)]]
def ZO0:Nat → Ann:=fun id => bif Nat.beq id 2 then ⟨[4,0],[]⟩ else ⟨[],[]⟩
abbrev ZAO:=Int × ByteArray × Int
abbrev Zvc:=ZAO → Option ((Int × Int × Unit) × (ByteArray × Int × Unit) × Unit)
def ZSh:ZAO → St
 | (v0,v1,v2) => St.mk (ZC [(4,Zq v0),(0,AV.bx 0 0)]) (ZA [(0,Wb [AV.val (PV.v (Value.string v1)),Zq v2])])
def Zeu (k:Nat) (L1:Zvc):Zvc
 | (v0,v1,v2) => bif decide (v0 < Int.ofNat v1.size) then bif decide (0 ≤ v0 ∧ v0 < Int.ofNat v1.size) then bif Int.ofNat (v1.data.toList.getD v0.toNat 0).toNat == (49:Int) then some ((IntKind.i64.wrap (v0 - v2),0,()),(v1,IntKind.i64.wrap (v0 + 1),()),()) else L1 (IntKind.i64.wrap (v0 + 1),v1,v2) else none else some ((0,10,()),(v1,v2,()),())
def Zvd (k:Nat):Zvc:=Zp (fun L1 => Zeu k L1) k
noncomputable def ZCx (k:Nat) (n:Nat) (v:ZAO) :=
 Zy (ZH k) ZO0 [0] [1,0,1,0] [] (Wh Tryz.f93) (Wp (ZH k) Tryz.f93 Zbo ZQ [AV.bx (nat_lit 0) (nat_lit 0)] [[]]) n (ZSh v)
def Zjn (k:Nat) (L1:Zvc):(ByteArray × Int × Unit) × Unit → Option ((Int × Int × Unit) × (ByteArray × Int × Unit) × Unit)
 | ((a0,a1,()),()) => L1 (a1,a0,a1)
def ZgH (k:Nat):=Zjn k (Zvd k)
theorem ZJK (k:Nat):∀ n,ZCx k n = Zp (fun L1 => Zeu k L1) n :=
 Zl (fun v => by kernel_rfl) (fun n v => by
  obtain ⟨v0,v1,v2⟩:=v
  kernel_rfl)
theorem ZSi (k:Nat) (x:Kd.dens Zbo):ZF (ZH k) ZO0 Tryz.f93 Zbo ZQ x = ZgH k x:=by
 show _ = Zjn k (Zvd k) x
 rw [show Zvd k = ZCx k k from (ZJK k k).symm]
 obtain ⟨⟨a0,⟨a1,⟨⟩⟩⟩,⟨⟩⟩:=x
 kernel_rfl
theorem ZCy (k:Nat):Ctr Tryz.prog k 93 (mk Zbo ZQ ZgH) :=
 ZG (fn:=Tryz.f93) (Zh Zd) (by kernel_rfl) (by kernel_rfl) (ZSi k)
noncomputable abbrev ZO1:Nat × Callee:=(93,mk Zbo ZQ ZgH)
noncomputable def ZPK (k:Nat):=Wd k [Zpa]
def ZfB (k:Nat):(ByteArray × Int × Unit) × Int × Unit → Option ((Int × Int × Unit) × (ByteArray × Int × Unit) × Unit)
 | ((a0,a1,()),a2,()) => (ZR k ((a0,a1,()),a2,())).bind fun y => bif y.1.2.1 == 0 then bif decide ((0:Int) < a2) then bif decide (0 ≤ IntKind.i64.wrap (a2 - 1)) then bif decide (IntKind.i64.wrap ((1:Int) * (2:Int) ^ min (IntKind.i64.wrap (a2 - 1)).toNat 64) ≤ y.1.1) then bif decide (0 ≤ a2) then some ((IntKind.i64.wrap (y.1.1 - IntKind.i64.wrap ((1:Int) * (2:Int) ^ min a2.toNat 64)),y.1.2.1,()),(y.2.1.1,y.2.1.2.1,()),()) else none else some ((y.1.1,y.1.2.1,()),(y.2.1.1,y.2.1.2.1,()),()) else none else some ((y.1.1,y.1.2.1,()),(y.2.1.1,y.2.1.2.1,()),()) else some ((y.1.1,y.1.2.1,()),(y.2.1.1,y.2.1.2.1,()),())
def ZdK (k:Nat):=ZfB k
theorem ZLQ (k:Nat) (x:Kd.dens ZcS):ZF (ZPK k) nA Tryz.f136 ZcS ZQ x = ZdK k x:=by
 show _ = ZfB k x
 obtain ⟨⟨a0,⟨a1,⟨⟩⟩⟩,⟨a2,⟨⟩⟩⟩:=x
 kernel_rfl
theorem Zoh (k:Nat):Ctr Tryz.prog k 136 (mk ZcS ZQ ZdK) :=
 ZG (fn:=Tryz.f136) (Zh (Za (ZcR k) Zd)) (by kernel_rfl) (by kernel_rfl) (ZLQ k)
noncomputable abbrev ZzQ:Nat × Callee:=(136,mk ZcS ZQ ZdK)
abbrev WG:List Kd:=[.box [.view .str,.view (.int .i64)],.view (.int .i64),.view (.int .i64)]
abbrev X9:Kd:=.tup [.own (.int .i64) false,.view (.int .i64)]
noncomputable def ZzR (k:Nat):=Wd k [ZzQ]
def ZG8:Nat → Ann:=fun id => bif Nat.beq id 3 then ⟨[9,1,0,2,8],[.slot 8 ((Ty.int IntKind.i64))]⟩ else ⟨[],[]⟩
abbrev ZcL:=Int × Int × Int × ByteArray × Int × List Int
abbrev X8:=ZcL → Option ((List Int × Int × Unit) × (ByteArray × Int × Unit) × Unit)
def ZLR:ZcL → St
 | (v0,v1,v2,v3,v4,v5) => St.mk (ZC [(9,Zq v0),(1,Zq v1),(0,AV.bx 0 0),(2,Zq v2),(8,AV.own 8192)]) (ZA [(0,Wb [AV.val (PV.v (Value.string v3)),Zq v4]),(8192,rsA v5 false)])
def ZbU (k:Nat) (L1:X8):X8
 | (v0,v1,v2,v3,v4,v5) => bif decide (v0 < v1) then (ZdK k ((v3,v4,()),v2,())).bind fun y => bif y.1.2.1 != 0 then some (([],y.1.2.1,()),(y.2.1.1,y.2.1.2.1,()),()) else bif decide (v5.length + [y.1.1].length < 2147483648) then L1 (IntKind.i64.wrap (v0 + 1),v1,v2,y.2.1.1,y.2.1.2.1,v5 ++ [y.1.1]) else none else some ((v5,0,()),(v3,v4,()),())
def ZmO (k:Nat):X8:=Zp (fun L1 => ZbU k L1) k
noncomputable def Zw2 (k:Nat) (n:Nat) (v:ZcL) :=
 Zy (ZzR k) ZG8 [0] [1,1,0,1,0] [] (Wh Tryz.f137) (Wp (ZzR k) Tryz.f137 WG X9 [AV.bx (nat_lit 0) (nat_lit 0)] [[]]) n (ZLR v)
def ZfC (k:Nat) (L1:X8):(ByteArray × Int × Unit) × Int × Int × Unit → Option ((List Int × Int × Unit) × (ByteArray × Int × Unit) × Unit)
 | ((a0,a1,()),a2,a3,()) => L1 (0,a2,a3,a0,a1,[])
def Yy (k:Nat):=ZfC k (ZmO k)
theorem ZEf (k:Nat):∀ n,Zw2 k n = Zp (fun L1 => ZbU k L1) n :=
 Zl (fun v => by kernel_rfl) (fun n v => by
  obtain ⟨v0,v1,v2,v3,v4,v5⟩:=v
  kernel_rfl)
theorem ZLS (k:Nat) (x:Kd.dens WG):ZF (ZzR k) ZG8 Tryz.f137 WG X9 x = Yy k x:=by
 show _ = ZfC k (ZmO k) x
 rw [show ZmO k = Zw2 k k from (ZEf k k).symm]
 obtain ⟨⟨a0,⟨a1,⟨⟩⟩⟩,⟨a2,⟨a3,⟨⟩⟩⟩⟩:=x
 kernel_rfl
theorem ZG9 (k:Nat):Ctr Tryz.prog k 137 (mk WG X9 Yy) :=
 ZG (fn:=Tryz.f137) (Zh (Za (Zoh k) Zd)) (by kernel_rfl) (by kernel_rfl) (ZLS k)
noncomputable abbrev ZPL:Nat × Callee:=(137,mk WG X9 Yy)
abbrev Znd:List Kd:=[.box [.view .str,.view (.int .i64)],.view (.int .i64),.view .bool,.view (.int .i64)]
noncomputable def ZQj (k:Nat):=Wd k [Zpa,ZO1,ZzQ]
def Zae (k:Nat):(ByteArray × Int × Unit) × Int × Bool × Int × Unit → Option ((Int × Int × Unit) × (ByteArray × Int × Unit) × Unit)
 | ((a0,a1,()),a2,a3,a4,()) => bif a3 then (ZdK k ((a0,a1,()),a4,())).bind fun y => some ((y.1.1,y.1.2.1,()),(y.2.1.1,y.2.1.2.1,()),()) else (ZgH k ((a0,a1,()),())).bind fun y => bif y.1.2.1 != 0 then some ((0,y.1.2.1,()),(y.2.1.1,y.2.1.2.1,()),()) else (ZR k ((y.2.1.1,y.2.1.2.1,()),a2,())).bind fun y_1 => bif y_1.1.2.1 != 0 then some ((0,y_1.1.2.1,()),(y_1.2.1.1,y_1.2.1.2.1,()),()) else bif decide (0 ≤ a2) then bif decide (4294967295 ≤ IntKind.i64.wrap (IntKind.i64.wrap (y.1.1 * (2:Int) ^ min a2.toNat 64) + y_1.1.1)) then some ((0,12,()),(y_1.2.1.1,y_1.2.1.2.1,()),()) else bif (IntKind.i64.wrap (IntKind.i64.wrap (y.1.1 * (2:Int) ^ min a2.toNat 64) + y_1.1.1)).tmod (2:Int) == 1 then some ((IntKind.i64.wrap ((IntKind.i64.wrap ((0:Int) - IntKind.i64.wrap (IntKind.i64.wrap (IntKind.i64.wrap (y.1.1 * (2:Int) ^ min a2.toNat 64) + y_1.1.1) + 1))).tdiv (2:Int)),0,()),(y_1.2.1.1,y_1.2.1.2.1,()),()) else some ((IntKind.i64.wrap ((IntKind.i64.wrap (IntKind.i64.wrap (y.1.1 * (2:Int) ^ min a2.toNat 64) + y_1.1.1)).tdiv (2:Int)),0,()),(y_1.2.1.1,y_1.2.1.2.1,()),()) else none
def ZdV (k:Nat):=Zae k
theorem ZMD (k:Nat) (x:Kd.dens Znd):ZF (ZQj k) nA Tryz.f175 Znd ZQ x = ZdV k x:=by
 show _ = Zae k x
 obtain ⟨⟨a0,⟨a1,⟨⟩⟩⟩,⟨a2,⟨a3,⟨a4,⟨⟩⟩⟩⟩⟩:=x
 kernel_rfl
theorem ZHX (k:Nat):Ctr Tryz.prog k 175 (mk Znd ZQ ZdV) :=
 ZG (fn:=Tryz.f175) (Zh (Za (ZcR k) (Za (ZCy k) (Za (Zoh k) Zd)))) (by kernel_rfl) (by kernel_rfl) (ZMD k)
noncomputable abbrev ZQk:Nat × Callee:=(175,mk Znd ZQ ZdV)
noncomputable def Zoi (k:Nat):=Wd k [Zpa,ZP9,ZQi,ZQk]
def ZzS:Nat → Ann:=fun id => bif Nat.beq id 26 then ⟨[18,11,13,0,14,17,16,12,8],[.slot 12 ((Ty.int IntKind.i64))]⟩ else bif Nat.beq id 16 then ⟨[13,11,0,8,12],[.slot 12 ((Ty.int IntKind.i64))]⟩ else ⟨[],[]⟩
abbrev ZtI:=Int × List (List Int) × Int × Int × Bool × Int × Int × ByteArray × Int × List Int
abbrev ZmP:=ZtI → Option ((List Int × Int × Unit) × (ByteArray × Int × Unit) × Unit)
abbrev ZtH:=Int × List (List Int) × Int × ByteArray × Int × List Int
abbrev ZfD:=ZtH → Option ((List Int × Int × Unit) × (ByteArray × Int × Unit) × Unit)
def ZLU:ZtI → St
 | (v0,v1,v2,v3,v4,v5,v6,v7,v8,v9) => St.mk (ZC [(18,Zq v0),(11,AV.ns (Ty.int IntKind.i64).sl v1),(13,Zq v2),(0,AV.bx 0 0),(14,Zq v3),(17,avB v4),(16,Zq v5),(12,AV.own 8192),(8,Zq v6)]) (ZA [(0,Wb [AV.val (PV.v (Value.string v7)),Zq v8]),(8192,rsA v9 false)])
def Zac (k:Nat) (L1:ZfD) (L2:ZmP):ZmP
 | (v0,v1,v2,v3,v4,v5,v6,v7,v8,v9) => bif decide (0 ≤ v2 ∧ v2 < Int.ofNat v1.length) then bif decide (v0 < Int.ofNat (List.length (v1.getD v2.toNat []))) then (ZdV k ((v7,v8,()),v3,v4,v5,())).bind fun y => bif y.1.2.1 != 0 then some (([],y.1.2.1,()),(y.2.1.1,y.2.1.2.1,()),()) else bif decide (v9.length + [y.1.1].length < 2147483648) then L2 (IntKind.i64.wrap (v0 + 1),v1,v2,v3,v4,v5,v6,y.2.1.1,y.2.1.2.1,v9 ++ [y.1.1]) else none else L1 (IntKind.i64.wrap (v2 + 1),v1,v6,v7,v8,v9) else none
def ZcN (k:Nat) (L1:ZfD):ZmP:=Zp (fun L2 => Zac k L1 L2) k
noncomputable def Zib (k:Nat) (n1:Nat) (n:Nat) (v:ZtI):Option ((List Int × Int × Unit) × (ByteArray × Int × Unit) × Unit) :=
 Zy (Zoi k) ZzS [0] [1,1,1,1,1,1,1,1,1,1,0,1,0,0,1,0,0,1,1,1,1,1,1,0] [n1] (Wh Tryz.f138) (Wp (Zoi k) Tryz.f138 WG Ql [AV.bx (nat_lit 0) (nat_lit 0)] [[]]) n (ZLU v)
def ZLT:ZtH → St
 | (v0,v1,v2,v3,v4,v5) => St.mk (ZC [(13,Zq v0),(11,AV.ns (Ty.int IntKind.i64).sl v1),(0,AV.bx 0 0),(8,Zq v2),(12,AV.own 8192)]) (ZA [(0,Wb [AV.val (PV.v (Value.string v3)),Zq v4]),(8192,rsA v5 false)])
def YX (k:Nat) (L2:ZmP) (L1:ZfD):ZfD
 | (v0,v1,v2,v3,v4,v5) => bif decide (v0 < Int.ofNat v1.length) then (ZR k ((v3,v4,()),IntKind.i64.wrap ((4:Int) + v2),())).bind fun y => bif decide (0 ≤ v2 ∧ v2 < 2) then bif decide (v2.toNat < (2:Nat)) then bif y.1.2.1 == 0 then bif y.1.1 == [(15:Int),(31:Int)].getD v2.toNat 0 then (ZR k ((y.2.1.1,y.2.1.2.1,()),5,())).bind fun y_1 => bif y_1.1.2.1 != 0 then some (([],y_1.1.2.1,()),(y_1.2.1.1,y_1.2.1.2.1,()),()) else L2 (0,v1,v0,y.1.1,y.1.1 == [(15:Int),(31:Int)].getD v2.toNat 0,y_1.1.1,v2,y_1.2.1.1,y_1.2.1.2.1,v5) else bif y.1.2.1 != 0 then some (([],y.1.2.1,()),(y.2.1.1,y.2.1.2.1,()),()) else L2 (0,v1,v0,y.1.1,y.1.1 == [(15:Int),(31:Int)].getD v2.toNat 0,(0:Int),v2,y.2.1.1,y.2.1.2.1,v5) else bif y.1.2.1 != 0 then some (([],y.1.2.1,()),(y.2.1.1,y.2.1.2.1,()),()) else L2 (0,v1,v0,y.1.1,y.1.1 == [(15:Int),(31:Int)].getD v2.toNat 0,(0:Int),v2,y.2.1.1,y.2.1.2.1,v5) else none else none else some ((v5,0,()),(v3,v4,()),())
def ZmQ (k:Nat):ZfD:=Zp (fun L1 => YX k (ZcN k L1) L1) k
noncomputable def ZdL (k:Nat) (n:Nat) (v:ZtH) :=
 Zy (Zoi k) ZzS [0] [1,1,1,1,1,1,1,1,1,1,0,1,0] [] (Wh Tryz.f138) (Wp (Zoi k) Tryz.f138 WG Ql [AV.bx (nat_lit 0) (nat_lit 0)] [[]]) n (ZLT v)
def ZfE (k:Nat) (L1:ZfD):(ByteArray × Int × Unit) × Int × Int × Unit → Option ((List Int × Int × Unit) × (ByteArray × Int × Unit) × Unit)
 | ((a0,a1,()),a2,a3,()) => (ZoK k (a2,a3,())).bind fun y => bif !y.1 then some (([],1,()),(a0,a1,()),()) else (ZR k ((a0,a1,()),2,())).bind fun y => bif y.1.2.1 != 0 then some (([],y.1.2.1,()),(y.2.1.1,y.2.1.2.1,()),()) else bif decide ((1:Int) < y.1.1) then some (([],2,()),(y.2.1.1,y.2.1.2.1,()),()) else (ZR k ((y.2.1.1,y.2.1.2.1,()),4,())).bind fun y_1 => bif y_1.1.2.1 != 0 then some (([],y_1.1.2.1,()),(y_1.2.1.1,y_1.2.1.2.1,()),()) else bif decide (0 ≤ IntKind.i64.wrap (a2 - a3) ∧ IntKind.i64.wrap (a2 - a3) ≤ IntKind.i64.wrap (a2 - a3) ∧ IntKind.i64.wrap (a2 - a3) < 4294967296) then (ZoG k (List.replicate (IntKind.i64.wrap (a2 - a3)).toNat (0:Int),a3,y_1.1.1,())).bind fun y_2 => bif List.isEmpty y_2.1 then some (([],2,()),(y_1.2.1.1,y_1.2.1.2.1,()),()) else L1 (0,y_2.1,y.1.1,y_1.2.1.1,y_1.2.1.2.1,[]) else none
def ZcM (k:Nat):=ZfE k (ZmQ k)
theorem ZEh (k:Nat) (n1:Nat):∀ n,Zib k n1 n = Zp (fun L2 => Zac k (ZdL k n1) L2) n :=
 Zl (fun v => by kernel_rfl) (fun n v => by
  show Zib k n1 (n + 1) v = Zac k (ZdL k n1) (Zib k n1 n) v
  obtain ⟨v0,v1,v2,v3,v4,v5,v6,v7,v8,v9⟩:=v
  kernel_rfl)
theorem ZEg (k:Nat):∀ n,ZdL k n = Zp (fun L1 => YX k (ZcN k L1) L1) n :=
 Zl (fun v => by kernel_rfl) (fun n v => by
  rw [show (ZcN k (ZdL k n)) = Zib k n k from (ZEh k n k).symm]
  obtain ⟨v0,v1,v2,v3,v4,v5⟩:=v
  kernel_rfl)
theorem ZLV (k:Nat) (x:Kd.dens WG):ZF (Zoi k) ZzS Tryz.f138 WG Ql x = ZcM k x:=by
 show _ = ZfE k (ZmQ k) x
 rw [show ZmQ k = ZdL k k from (ZEg k k).symm]
 obtain ⟨⟨a0,⟨a1,⟨⟩⟩⟩,⟨a2,⟨a3,⟨⟩⟩⟩⟩:=x
 kernel_rfl
theorem ZHa (k:Nat):Ctr Tryz.prog k 138 (mk WG Ql ZcM) :=
 ZG (fn:=Tryz.f138) (Zh (Za (ZcR k) (Za (ZHL k) (Za (ZHW k) (Za (ZHX k) Zd))))) (by kernel_rfl) (by kernel_rfl) (ZLV k)
noncomputable abbrev ZPM:Nat × Callee:=(138,mk WG Ql ZcM)
noncomputable def ZzT (k:Nat):=Wd k [ZPC,ZP7,ZP8,ZHM] (fun r => bif Nat.beq r 999998 then [160] else [])
def ZHb:Nat → Ann:=fun id => bif Nat.beq id 9 then ⟨[9,2,3,8],[]⟩ else ⟨[],[]⟩
def ZLW:Zif → St
 | (v0,v1,v2,v3,v4) => St.mk (ZC [(9,Zq v0),(2,Xn v1),(3,AV.bx 8192 0),(8,AV.own 8193)]) (ZA [(8192,Wb [Xn v2,Zq v3]),(8193,rsA v4 false)])
def ZbV (k:Nat) (L1:ZaY):ZaY
 | (v0,v1,v2,v3,v4) => bif decide (v0 < Int.ofNat v1.length) then bif decide (0 ≤ v0 ∧ v0 < Int.ofNat v1.length) then (ZoF k ((v2,v3,()),v4,Int.ofNat v4.length,())).bind fun y => (ZkL k (IntKind.i64.wrap (v1.getD v0.toNat 0 + y.1),())).bind fun y_1 => bif !y_1.1 then some (([],12,()),()) else bif decide (v4.length + [IntKind.i64.wrap (v1.getD v0.toNat 0 + y.1)].length < 2147483648) then L1 (IntKind.i64.wrap (v0 + 1),v1,v2,v3,v4 ++ [IntKind.i64.wrap (v1.getD v0.toNat 0 + y.1)]) else none else none else some ((v4,0,()),())
def ZmR (k:Nat):ZaY:=Zp (fun L1 => ZbV k L1) k
noncomputable def Zw3 (k:Nat) (n:Nat) (v:Zif) :=
 Zy (ZzT k) ZHb [] [1,1,1,1,1,0,1,0] [] (Wh Tryz.f139) (Wp (ZzT k) Tryz.f139 Ke X9 [] []) n (ZLW v)
def ZfF (k:Nat) (L1:ZaY):(List Int × Int × Unit) × List Int × List Int × Unit → Option ((List Int × Int × Unit) × Unit)
 | ((a0,a1,()),a2,a3,()) => (ZoE k ((a0,a1,()),())).bind fun y => bif !y.1 then some (([],2,()),()) else bif Int.ofNat a2.length != Int.ofNat a0.length then some (([],1,()),()) else (Zks k (a2,())).bind fun y => bif !y.1 then some (([],12,()),()) else (Zks k (a3,())).bind fun y => bif !y.1 then some (([],12,()),()) else bif decide ((0:Nat) + a2.length < 2147483648) then L1 (0,a3,a0,a1,[] ++ a2) else none
def ZcO (k:Nat):=ZfF k (ZmR k)
theorem ZEl (k:Nat):∀ n,Zw3 k n = Zp (fun L1 => ZbV k L1) n :=
 Zl (fun v => by kernel_rfl) (fun n v => by
  obtain ⟨v0,v1,v2,v3,v4⟩:=v
  kernel_rfl)
theorem ZLX (k:Nat) (x:Kd.dens Ke):ZF (ZzT k) ZHb Tryz.f139 Ke X9 x = ZcO k x:=by
 show _ = ZfF k (ZmR k) x
 rw [show ZmR k = Zw3 k k from (ZEl k k).symm]
 obtain ⟨⟨a0,⟨a1,⟨⟩⟩⟩,⟨a2,⟨a3,⟨⟩⟩⟩⟩:=x
 kernel_rfl
theorem ZHc (k:Nat):Ctr Tryz.prog k 139 (mk Ke X9 ZcO) :=
 ZG (fn:=Tryz.f139) (Zh (Za (ZGR k) (Za (ZHH k) (Za (ZHJ k) (Za (Zxt k) Zd))))) (by kernel_rfl) (by kernel_rfl) (ZLX k)
noncomputable abbrev ZPN:Nat × Callee:=(139,mk Ke X9 ZcO)
abbrev Zpw:List Kd:=[.box [.view .str,.view (.int .i64)],.view (.int .i64),.view (.int .i64),.view (.int .i64)]
noncomputable def ZJM (k:Nat):=Wd k [Zpa,ZTL,ZzQ,ZPL,ZPM,ZPN]
def ZO2:Nat → Ann:=fun id => bif Nat.beq id 7 then ⟨[13,1,12,10],[.slot 12 ((Ty.int IntKind.i64))]⟩ else ⟨[],[]⟩
def ZSj:ZcL → St
 | (v0,v1,v2,v3,v4,v5) => St.mk (ZC [(13,Zq v0),(1,Zq v1),(12,AV.own 8192),(10,Zq v2)]) (ZA [(0,Wb [AV.val (PV.v (Value.string v3)),Zq v4]),(8192,rsA v5 false)])
def Zev (k:Nat) (L1:X8):X8
 | (v0,v1,v2,v3,v4,v5) => bif decide (v0 < v1) then bif decide (v5.length + [v2].length < 2147483648) then L1 (IntKind.i64.wrap (v0 + 1),v1,v2,v3,v4,v5 ++ [v2]) else none else some ((v5,0,()),(v3,v4,()),())
def Zve (k:Nat):X8:=Zp (fun L1 => Zev k L1) k
noncomputable def ZCz (k:Nat) (n:Nat) (v:ZcL) :=
 Zy (ZJM k) ZO2 [0] [1,0,1,0,1,1,1,0,1,0] [] (Wh Tryz.f94) (Wp (ZJM k) Tryz.f94 Zpw X9 [AV.bx (nat_lit 0) (nat_lit 0)] [[]]) n (ZSj v)
def Zyp (k:Nat) (L1:X8):(ByteArray × Int × Unit) × Int × Int × Int × Unit → Option ((List Int × Int × Unit) × (ByteArray × Int × Unit) × Unit)
 | ((a0,a1,()),a2,a3,a4,()) => bif a4 == 0 then (ZdK k ((a0,a1,()),a3,())).bind fun y => bif y.1.2.1 != 0 then some (([],y.1.2.1,()),(y.2.1.1,y.2.1.2.1,()),()) else L1 (0,a2,y.1.1,y.2.1.1,y.2.1.2.1,[]) else bif a4 == 1 then (Yy k ((a0,a1,()),a2,a3,())).bind fun y => some ((y.1.1,y.1.2.1,()),(y.2.1.1,y.2.1.2.1,()),()) else bif decide (32 ≤ a4) then bif decide (a2 < IntKind.i64.wrap (a4 - 31)) then some (([],2,()),(a0,a1,()),()) else (Yy k ((a0,a1,()),IntKind.i64.wrap (a4 - 31),a3,())).bind fun y => bif y.1.2.1 != 0 then some (([],y.1.2.1,()),(y.2.1.1,y.2.1.2.1,()),()) else (Zpp k (if (4:Int) < IntKind.i64.wrap (a4 - 31) then (4:Int) else IntKind.i64.wrap (a4 - 31),())).bind fun y_1 => bif decide (32 ≤ a4) then (ZR k ((y.2.1.1,y.2.1.2.1,()),4,())).bind fun y_2 => bif y_2.1.2.1 != 0 then some (([],y_2.1.2.1,()),(y_2.2.1.1,y_2.2.1.2.1,()),()) else bif y_2.1.1 != 11 then some (([],2,()),(y_2.2.1.1,y_2.2.1.2.1,()),()) else (ZR k ((y_2.2.1.1,y_2.2.1.2.1,()),5,())).bind fun y_3 => bif y_3.1.2.1 != 0 then some (([],y_3.1.2.1,()),(y_3.2.1.1,y_3.2.1.2.1,()),()) else bif decide ((15:Int) < y_3.1.1) then some (([],2,()),(y_3.2.1.1,y_3.2.1.2.1,()),()) else (Yy k ((y_3.2.1.1,y_3.2.1.2.1,()),IntKind.i64.wrap (a4 - 31),12,())).bind fun y_4 => bif y_4.1.2.1 != 0 then some (([],y_4.1.2.1,()),(y_4.2.1.1,y_4.2.1.2.1,()),()) else (ZcM k ((y_4.2.1.1,y_4.2.1.2.1,()),a2,IntKind.i64.wrap (a4 - 31),())).bind fun y_5 => bif y_5.1.2.1 != 0 then some (([],y_5.1.2.1,()),(y_5.2.1.1,y_5.2.1.2.1,()),()) else (ZcO k ((y_4.1.1,y_3.1.1,()),y.1.1,y_5.1.1,())).bind fun y => some ((y.1.1,y.1.2.1,()),(y_5.2.1.1,y_5.2.1.2.1,()),()) else (ZcM k ((y.2.1.1,y.2.1.2.1,()),a2,IntKind.i64.wrap (a4 - 31),())).bind fun y_2 => bif y_2.1.2.1 != 0 then some (([],y_2.1.2.1,()),(y_2.2.1.1,y_2.2.1.2.1,()),()) else (ZcO k ((y_1.1.1.1,y_1.1.1.2.1,()),y.1.1,y_2.1.1,())).bind fun y => some ((y.1.1,y.1.2.1,()),(y_2.2.1.1,y_2.2.1.2.1,()),()) else bif decide (a2 < IntKind.i64.wrap (a4 - 8)) then some (([],2,()),(a0,a1,()),()) else (Yy k ((a0,a1,()),IntKind.i64.wrap (a4 - 8),a3,())).bind fun y => bif y.1.2.1 != 0 then some (([],y.1.2.1,()),(y.2.1.1,y.2.1.2.1,()),()) else (Zpp k (if (4:Int) < IntKind.i64.wrap (a4 - 8) then (4:Int) else IntKind.i64.wrap (a4 - 8),())).bind fun y_1 => bif decide (32 ≤ a4) then (ZR k ((y.2.1.1,y.2.1.2.1,()),4,())).bind fun y_2 => bif y_2.1.2.1 != 0 then some (([],y_2.1.2.1,()),(y_2.2.1.1,y_2.2.1.2.1,()),()) else bif y_2.1.1 != 11 then some (([],2,()),(y_2.2.1.1,y_2.2.1.2.1,()),()) else (ZR k ((y_2.2.1.1,y_2.2.1.2.1,()),5,())).bind fun y_3 => bif y_3.1.2.1 != 0 then some (([],y_3.1.2.1,()),(y_3.2.1.1,y_3.2.1.2.1,()),()) else bif decide ((15:Int) < y_3.1.1) then some (([],2,()),(y_3.2.1.1,y_3.2.1.2.1,()),()) else (Yy k ((y_3.2.1.1,y_3.2.1.2.1,()),IntKind.i64.wrap (a4 - 8),12,())).bind fun y_4 => bif y_4.1.2.1 != 0 then some (([],y_4.1.2.1,()),(y_4.2.1.1,y_4.2.1.2.1,()),()) else (ZcM k ((y_4.2.1.1,y_4.2.1.2.1,()),a2,IntKind.i64.wrap (a4 - 8),())).bind fun y_5 => bif y_5.1.2.1 != 0 then some (([],y_5.1.2.1,()),(y_5.2.1.1,y_5.2.1.2.1,()),()) else (ZcO k ((y_4.1.1,y_3.1.1,()),y.1.1,y_5.1.1,())).bind fun y => some ((y.1.1,y.1.2.1,()),(y_5.2.1.1,y_5.2.1.2.1,()),()) else (ZcM k ((y.2.1.1,y.2.1.2.1,()),a2,IntKind.i64.wrap (a4 - 8),())).bind fun y_2 => bif y_2.1.2.1 != 0 then some (([],y_2.1.2.1,()),(y_2.2.1.1,y_2.2.1.2.1,()),()) else (ZcO k ((y_1.1.1.1,y_1.1.1.2.1,()),y.1.1,y_2.1.1,())).bind fun y => some ((y.1.1,y.1.2.1,()),(y_2.2.1.1,y_2.2.1.2.1,()),())
def Yp (k:Nat):=Zyp k (Zve k)
theorem ZJN (k:Nat):∀ n,ZCz k n = Zp (fun L1 => Zev k L1) n :=
 Zl (fun v => by kernel_rfl) (fun n v => by
  obtain ⟨v0,v1,v2,v3,v4,v5⟩:=v
  kernel_rfl)
theorem ZSk (k:Nat) (x:Kd.dens Zpw):ZF (ZJM k) ZO2 Tryz.f94 Zpw X9 x = Yp k x:=by
 show _ = Zyp k (Zve k) x
 rw [show Zve k = ZCz k k from (ZJN k k).symm]
 obtain ⟨⟨a0,⟨a1,⟨⟩⟩⟩,⟨a2,⟨a3,⟨a4,⟨⟩⟩⟩⟩⟩:=x
 kernel_rfl
theorem ZNC (k:Nat):Ctr Tryz.prog k 94 (mk Zpw X9 Yp) :=
 ZG (fn:=Tryz.f94) (Zh (Za (ZcR k) (Za (ZNu k) (Za (Zoh k) (Za (ZG9 k) (Za (ZHa k) (Za (ZHc k) Zd))))))) (by kernel_rfl) (by kernel_rfl) (ZSk k)
noncomputable abbrev ZTU:Nat × Callee:=(94,mk Zpw X9 Yp)
noncomputable def ZIS (k:Nat):=Wd k [ZOo,Zpa,ZO1,ZTU]
def ZOC:Nat → Ann:=fun id => bif Nat.beq id 26 then ⟨[14,13,2,12],[]⟩ else ⟨[],[]⟩
def ZRk:ZcL → St
 | (v0,v1,v2,v3,v4,v5) => St.mk (ZC [(14,Zq v0),(13,AV.own 8192),(2,Zq v1),(12,Zq v2)]) (ZA [(0,Wb [AV.val (PV.v (Value.string v3)),Zq v4]),(8192,rsA v5 false)])
def Zeb (k:Nat) (L1:X8):X8
 | (v0,v1,v2,v3,v4,v5) => bif decide (v0 < Int.ofNat v5.length) then bif decide (0 ≤ v0 ∧ v0 < Int.ofNat v5.length) then bif decide (v0.toNat < v5.length) then (ZrU k (v5.getD v0.toNat 0,IntKind.i64.wrap (v1 - v2),())).bind fun y => bif !y.1 then some (([],12,()),(v3,v4,()),()) else bif decide (0 ≤ v0 ∧ v0 < Int.ofNat v5.length) then bif decide (v0.toNat < v5.length) then bif decide (0 ≤ v2) then bif decide (0 ≤ v0 ∧ v0 < Int.ofNat v5.length) then bif decide (v0.toNat < v5.length) then L1 (IntKind.i64.wrap (v0 + 1),v1,v2,v3,v4,v5.set v0.toNat (IntKind.i64.wrap (v5.getD v0.toNat 0 * IntKind.i64.wrap ((1:Int) * (2:Int) ^ min v2.toNat 64)))) else none else none else none else none else none else none else none else some ((v5,0,()),(v3,v4,()),())
def Zo8 (k:Nat):X8:=Zp (fun L1 => Zeb k L1) k
noncomputable def ZB1 (k:Nat) (n:Nat) (v:ZcL) :=
 Zy (ZIS k) ZOC [0] [1,1,1,1,1,1,1,1,1,1,1,1,1,1,1,0,1,0] [] (Wh Tryz.f53) (Wp (ZIS k) Tryz.f53 WG Ql [AV.bx (nat_lit 0) (nat_lit 0)] [[]]) n (ZRk v)
def Zx1 (k:Nat) (L1:X8):(ByteArray × Int × Unit) × Int × Int × Unit → Option ((List Int × Int × Unit) × (ByteArray × Int × Unit) × Unit)
 | ((a0,a1,()),a2,a3,()) => bif decide (a2 < 1) then some (([],1,()),(a0,a1,()),()) else bif decide ((512:Int) < a2) then some (([],1,()),(a0,a1,()),()) else bif decide (a3 < 4) then some (([],1,()),(a0,a1,()),()) else bif decide ((25:Int) < a3) then some (([],1,()),(a0,a1,()),()) else (ZR k ((a0,a1,()),1,())).bind fun y => bif y.1.2.1 != 0 then some (([],y.1.2.1,()),(y.2.1.1,y.2.1.2.1,()),()) else bif y.1.1 == 1 then some (([],2,()),(y.2.1.1,y.2.1.2.1,()),()) else (ZR k ((y.2.1.1,y.2.1.2.1,()),6,())).bind fun y => bif y.1.2.1 != 0 then some (([],y.1.2.1,()),(y.2.1.1,y.2.1.2.1,()),()) else bif decide ((1:Int) < y.1.1) then bif decide (y.1.1 < 8) then bif decide (y.1.1 < 32) then some (([],2,()),(y.2.1.1,y.2.1.2.1,()),()) else bif decide ((39:Int) < y.1.1) then some (([],2,()),(y.2.1.1,y.2.1.2.1,()),()) else (ZR k ((y.2.1.1,y.2.1.2.1,()),1,())).bind fun y_1 => bif y_1.1.2.1 == 0 then bif y_1.1.1 == 1 then (ZgH k ((y_1.2.1.1,y_1.2.1.2.1,()),())).bind fun y_2 => bif y_2.1.2.1 != 0 then some (([],y_2.1.2.1,()),(y_2.2.1.1,y_2.2.1.2.1,()),()) else bif decide (a3 ≤ IntKind.i64.wrap (y_2.1.1 + 1)) then some (([],2,()),(y_2.2.1.1,y_2.2.1.2.1,()),()) else (Yp k ((y_2.2.1.1,y_2.2.1.2.1,()),a2,IntKind.i64.wrap (a3 - IntKind.i64.wrap (y_2.1.1 + 1)),y.1.1,())).bind fun y => bif y.1.2.1 != 0 then some (([],y.1.2.1,()),(y.2.1.1,y.2.1.2.1,()),()) else L1 (0,a3,IntKind.i64.wrap (y_2.1.1 + 1),y.2.1.1,y.2.1.2.1,y.1.1) else bif y_1.1.2.1 != 0 then some (([],y_1.1.2.1,()),(y_1.2.1.1,y_1.2.1.2.1,()),()) else bif decide (a3 ≤ 0) then some (([],2,()),(y_1.2.1.1,y_1.2.1.2.1,()),()) else (Yp k ((y_1.2.1.1,y_1.2.1.2.1,()),a2,IntKind.i64.wrap (a3 - 0),y.1.1,())).bind fun y => bif y.1.2.1 != 0 then some (([],y.1.2.1,()),(y.2.1.1,y.2.1.2.1,()),()) else L1 (0,a3,(0:Int),y.2.1.1,y.2.1.2.1,y.1.1) else bif y_1.1.2.1 != 0 then some (([],y_1.1.2.1,()),(y_1.2.1.1,y_1.2.1.2.1,()),()) else bif decide (a3 ≤ 0) then some (([],2,()),(y_1.2.1.1,y_1.2.1.2.1,()),()) else (Yp k ((y_1.2.1.1,y_1.2.1.2.1,()),a2,IntKind.i64.wrap (a3 - 0),y.1.1,())).bind fun y => bif y.1.2.1 != 0 then some (([],y.1.2.1,()),(y.2.1.1,y.2.1.2.1,()),()) else L1 (0,a3,(0:Int),y.2.1.1,y.2.1.2.1,y.1.1) else bif decide ((12:Int) < y.1.1) then bif decide (y.1.1 < 32) then some (([],2,()),(y.2.1.1,y.2.1.2.1,()),()) else bif decide ((39:Int) < y.1.1) then some (([],2,()),(y.2.1.1,y.2.1.2.1,()),()) else (ZR k ((y.2.1.1,y.2.1.2.1,()),1,())).bind fun y_1 => bif y_1.1.2.1 == 0 then bif y_1.1.1 == 1 then (ZgH k ((y_1.2.1.1,y_1.2.1.2.1,()),())).bind fun y_2 => bif y_2.1.2.1 != 0 then some (([],y_2.1.2.1,()),(y_2.2.1.1,y_2.2.1.2.1,()),()) else bif decide (a3 ≤ IntKind.i64.wrap (y_2.1.1 + 1)) then some (([],2,()),(y_2.2.1.1,y_2.2.1.2.1,()),()) else (Yp k ((y_2.2.1.1,y_2.2.1.2.1,()),a2,IntKind.i64.wrap (a3 - IntKind.i64.wrap (y_2.1.1 + 1)),y.1.1,())).bind fun y => bif y.1.2.1 != 0 then some (([],y.1.2.1,()),(y.2.1.1,y.2.1.2.1,()),()) else L1 (0,a3,IntKind.i64.wrap (y_2.1.1 + 1),y.2.1.1,y.2.1.2.1,y.1.1) else bif y_1.1.2.1 != 0 then some (([],y_1.1.2.1,()),(y_1.2.1.1,y_1.2.1.2.1,()),()) else bif decide (a3 ≤ 0) then some (([],2,()),(y_1.2.1.1,y_1.2.1.2.1,()),()) else (Yp k ((y_1.2.1.1,y_1.2.1.2.1,()),a2,IntKind.i64.wrap (a3 - 0),y.1.1,())).bind fun y => bif y.1.2.1 != 0 then some (([],y.1.2.1,()),(y.2.1.1,y.2.1.2.1,()),()) else L1 (0,a3,(0:Int),y.2.1.1,y.2.1.2.1,y.1.1) else bif y_1.1.2.1 != 0 then some (([],y_1.1.2.1,()),(y_1.2.1.1,y_1.2.1.2.1,()),()) else bif decide (a3 ≤ 0) then some (([],2,()),(y_1.2.1.1,y_1.2.1.2.1,()),()) else (Yp k ((y_1.2.1.1,y_1.2.1.2.1,()),a2,IntKind.i64.wrap (a3 - 0),y.1.1,())).bind fun y => bif y.1.2.1 != 0 then some (([],y.1.2.1,()),(y.2.1.1,y.2.1.2.1,()),()) else L1 (0,a3,(0:Int),y.2.1.1,y.2.1.2.1,y.1.1) else (ZR k ((y.2.1.1,y.2.1.2.1,()),1,())).bind fun y_1 => bif y_1.1.2.1 == 0 then bif y_1.1.1 == 1 then (ZgH k ((y_1.2.1.1,y_1.2.1.2.1,()),())).bind fun y_2 => bif y_2.1.2.1 != 0 then some (([],y_2.1.2.1,()),(y_2.2.1.1,y_2.2.1.2.1,()),()) else bif decide (a3 ≤ IntKind.i64.wrap (y_2.1.1 + 1)) then some (([],2,()),(y_2.2.1.1,y_2.2.1.2.1,()),()) else (Yp k ((y_2.2.1.1,y_2.2.1.2.1,()),a2,IntKind.i64.wrap (a3 - IntKind.i64.wrap (y_2.1.1 + 1)),y.1.1,())).bind fun y => bif y.1.2.1 != 0 then some (([],y.1.2.1,()),(y.2.1.1,y.2.1.2.1,()),()) else L1 (0,a3,IntKind.i64.wrap (y_2.1.1 + 1),y.2.1.1,y.2.1.2.1,y.1.1) else bif y_1.1.2.1 != 0 then some (([],y_1.1.2.1,()),(y_1.2.1.1,y_1.2.1.2.1,()),()) else bif decide (a3 ≤ 0) then some (([],2,()),(y_1.2.1.1,y_1.2.1.2.1,()),()) else (Yp k ((y_1.2.1.1,y_1.2.1.2.1,()),a2,IntKind.i64.wrap (a3 - 0),y.1.1,())).bind fun y => bif y.1.2.1 != 0 then some (([],y.1.2.1,()),(y.2.1.1,y.2.1.2.1,()),()) else L1 (0,a3,(0:Int),y.2.1.1,y.2.1.2.1,y.1.1) else bif y_1.1.2.1 != 0 then some (([],y_1.1.2.1,()),(y_1.2.1.1,y_1.2.1.2.1,()),()) else bif decide (a3 ≤ 0) then some (([],2,()),(y_1.2.1.1,y_1.2.1.2.1,()),()) else (Yp k ((y_1.2.1.1,y_1.2.1.2.1,()),a2,IntKind.i64.wrap (a3 - 0),y.1.1,())).bind fun y => bif y.1.2.1 != 0 then some (([],y.1.2.1,()),(y.2.1.1,y.2.1.2.1,()),()) else L1 (0,a3,(0:Int),y.2.1.1,y.2.1.2.1,y.1.1) else (ZR k ((y.2.1.1,y.2.1.2.1,()),1,())).bind fun y_1 => bif y_1.1.2.1 == 0 then bif y_1.1.1 == 1 then (ZgH k ((y_1.2.1.1,y_1.2.1.2.1,()),())).bind fun y_2 => bif y_2.1.2.1 != 0 then some (([],y_2.1.2.1,()),(y_2.2.1.1,y_2.2.1.2.1,()),()) else bif decide (a3 ≤ IntKind.i64.wrap (y_2.1.1 + 1)) then some (([],2,()),(y_2.2.1.1,y_2.2.1.2.1,()),()) else (Yp k ((y_2.2.1.1,y_2.2.1.2.1,()),a2,IntKind.i64.wrap (a3 - IntKind.i64.wrap (y_2.1.1 + 1)),y.1.1,())).bind fun y => bif y.1.2.1 != 0 then some (([],y.1.2.1,()),(y.2.1.1,y.2.1.2.1,()),()) else L1 (0,a3,IntKind.i64.wrap (y_2.1.1 + 1),y.2.1.1,y.2.1.2.1,y.1.1) else bif y_1.1.2.1 != 0 then some (([],y_1.1.2.1,()),(y_1.2.1.1,y_1.2.1.2.1,()),()) else bif decide (a3 ≤ 0) then some (([],2,()),(y_1.2.1.1,y_1.2.1.2.1,()),()) else (Yp k ((y_1.2.1.1,y_1.2.1.2.1,()),a2,IntKind.i64.wrap (a3 - 0),y.1.1,())).bind fun y => bif y.1.2.1 != 0 then some (([],y.1.2.1,()),(y.2.1.1,y.2.1.2.1,()),()) else L1 (0,a3,(0:Int),y.2.1.1,y.2.1.2.1,y.1.1) else bif y_1.1.2.1 != 0 then some (([],y_1.1.2.1,()),(y_1.2.1.1,y_1.2.1.2.1,()),()) else bif decide (a3 ≤ 0) then some (([],2,()),(y_1.2.1.1,y_1.2.1.2.1,()),()) else (Yp k ((y_1.2.1.1,y_1.2.1.2.1,()),a2,IntKind.i64.wrap (a3 - 0),y.1.1,())).bind fun y => bif y.1.2.1 != 0 then some (([],y.1.2.1,()),(y.2.1.1,y.2.1.2.1,()),()) else L1 (0,a3,(0:Int),y.2.1.1,y.2.1.2.1,y.1.1)
def ZiM (k:Nat):=Zx1 k (Zo8 k)
theorem ZIT (k:Nat):∀ n,ZB1 k n = Zp (fun L1 => Zeb k L1) n :=
 Zl (fun v => by kernel_rfl) (fun n v => by
  obtain ⟨v0,v1,v2,v3,v4,v5⟩:=v
  kernel_rfl)
theorem ZRl (k:Nat) (x:Kd.dens WG):ZF (ZIS k) ZOC Tryz.f53 WG Ql x = ZiM k x:=by
 show _ = Zx1 k (Zo8 k) x
 rw [show Zo8 k = ZB1 k k from (ZIT k k).symm]
 obtain ⟨⟨a0,⟨a1,⟨⟩⟩⟩,⟨a2,⟨a3,⟨⟩⟩⟩⟩:=x
 kernel_rfl
theorem ZNf (k:Nat):Ctr Tryz.prog k 53 (mk WG Ql ZiM) :=
 ZG (fn:=Tryz.f53) (Zh (Za (ZBL k) (Za (ZcR k) (Za (ZCy k) (Za (ZNC k) Zd))))) (by kernel_rfl) (by kernel_rfl) (ZRl k)
noncomputable abbrev ZTw:Nat × Callee:=(53,mk WG Ql ZiM)
def ZOD:Nat → Ann:=fun id => bif Nat.beq id 3 then ⟨[4,3,0],[]⟩ else ⟨[],[]⟩
abbrev ZAs:=Int × Int × ByteArray × Int
abbrev Zur:=ZAs → Option (Int × (ByteArray × Int × Unit) × Unit)
def ZRm:ZAs → St
 | (v0,v1,v2,v3) => St.mk (ZC [(4,Zq v0),(3,Zq v1),(0,AV.bx 0 0)]) (ZA [(0,Wb [AV.val (PV.v (Value.string v2)),Zq v3])])
def Zec (k:Nat) (L1:Zur):Zur
 | (v0,v1,v2,v3) => bif decide (v0 < v1) then bif decide (0 ≤ v0 ∧ v0 < Int.ofNat v2.size) then bif Int.ofNat (v2.data.toList.getD v0.toNat 0).toNat == (49:Int) then some (2,(v2,v3,()),()) else L1 (IntKind.i64.wrap (v0 + 1),v1,v2,v3) else none else some (0,(v2,v1,()),())
def Zus (k:Nat):Zur:=Zp (fun L1 => Zec k L1) k
noncomputable def ZB2 (k:Nat) (n:Nat) (v:ZAs) :=
 Zy (ZH k) ZOD [0] [1,1,0,1,0] [] (Wh Tryz.f54) (Wp (ZH k) Tryz.f54 Zbo Zf [AV.bx (nat_lit 0) (nat_lit 0)] [[]]) n (ZRm v)
def ZiN (k:Nat) (L1:Zur):(ByteArray × Int × Unit) × Unit → Option (Int × (ByteArray × Int × Unit) × Unit)
 | ((a0,a1,()),()) => L1 (a1,IntKind.i64.wrap (IntKind.i64.wrap ((IntKind.i64.wrap (a1 + 7)).tdiv (8:Int)) * (8:Int)),a0,a1)
def Zo9 (k:Nat):=ZiN k (Zus k)
theorem ZIU (k:Nat):∀ n,ZB2 k n = Zp (fun L1 => Zec k L1) n :=
 Zl (fun v => by kernel_rfl) (fun n v => by
  obtain ⟨v0,v1,v2,v3⟩:=v
  kernel_rfl)
theorem ZRn (k:Nat) (x:Kd.dens Zbo):ZF (ZH k) ZOD Tryz.f54 Zbo Zf x = Zo9 k x:=by
 show _ = ZiN k (Zus k) x
 rw [show Zus k = ZB2 k k from (ZIU k k).symm]
 obtain ⟨⟨a0,⟨a1,⟨⟩⟩⟩,⟨⟩⟩:=x
 kernel_rfl
theorem ZNh (k:Nat):Ctr Tryz.prog k 54 (mk Zbo Zf Zo9) :=
 ZG (fn:=Tryz.f54) (Zh Zd) (by kernel_rfl) (by kernel_rfl) (ZRn k)
noncomputable abbrev ZTx:Nat × Callee:=(54,mk Zbo Zf Zo9)
def Zyr (k:Nat):Int × Unit → Option (Bool × Unit)
 | (a0,()) => bif a0 == 0 then some (true,()) else bif a0 == 8 then some (true,()) else bif a0 == 9 then some (true,()) else some (a0 == 10,())
def Zyq (k:Nat):=Zyr k
theorem ZSl (k:Nat) (x:Kd.dens Zt):ZF (ZH k) nA Tryz.f95 Zt Zs x = Zyq k x:=by
 show _ = Zyr k x
 obtain ⟨a0,⟨⟩⟩:=x
 kernel_rfl
theorem ZND (k:Nat):Ctr Tryz.prog k 95 (mk Zt Zs Zyq) :=
 ZG (fn:=Tryz.f95) (Zh Zd) (by kernel_rfl) (by kernel_rfl) (ZSl k)
noncomputable abbrev ZTV:Nat × Callee:=(95,mk Zt Zs Zyq)
def ZfG (k:Nat):Int × Unit → Option (Bool × Unit)
 | (a0,()) => bif decide ((-16777216:Int) ≤ a0) then some (decide (a0 ≤ 16777216),()) else some (false,())
def Zkx (k:Nat):=ZfG k
theorem ZLZ (k:Nat) (x:Kd.dens Zt):ZF (ZH k) nA Tryz.f140 Zt Zs x = Zkx k x:=by
 show _ = ZfG k x
 obtain ⟨a0,⟨⟩⟩:=x
 kernel_rfl
theorem ZHh (k:Nat):Ctr Tryz.prog k 140 (mk Zt Zs Zkx) :=
 ZG (fn:=Tryz.f140) (Zh Zd) (by kernel_rfl) (by kernel_rfl) (ZLZ k)
noncomputable abbrev ZPR:Nat × Callee:=(140,mk Zt Zs Zkx)
abbrev Zbp:List Kd:=[.view ZO9]
noncomputable def ZJQ (k:Nat):=Wd k [ZPR]
abbrev Zvf:=ZcQ → Option (Int × Unit)
def ZSm:ZcQ → St
 | (v0,v1,v2) => St.mk (ZC [(3,Zq v0),(1,AV.bx 8192 0)]) (ZA [(8192,Wb [Xn v1,Xn v2])])
def Zew (k:Nat) (L1:Zvf):Zvf
 | (v0,v1,v2) => bif decide (v0 < Int.ofNat v1.length) then bif decide (0 ≤ v0 ∧ v0 < Int.ofNat v1.length) then (Zkx k (v1.getD v0.toNat 0,())).bind fun y => bif !y.1 then some (12,()) else bif decide (0 ≤ v0 ∧ v0 < Int.ofNat v2.length) then (Zkx k (v2.getD v0.toNat 0,())).bind fun y => bif !y.1 then some (12,()) else L1 (IntKind.i64.wrap (v0 + 1),v1,v2) else none else none else some (0,())
def Zvg (k:Nat):Zvf:=Zp (fun L1 => Zew k L1) k
noncomputable def ZCA (k:Nat) (n:Nat) (v:ZcQ) :=
 Zy (ZJQ k) ZtS [] [1,1,0,1,0] [] (Wh Tryz.f96) (Wp (ZJQ k) Tryz.f96 Zbp Zf [] []) n (ZSm v)
def Zjo (k:Nat) (L1:Zvf):(List Int × List Int × Unit) × Unit → Option (Int × Unit)
 | ((a0,a1,()),()) => bif decide ((8192:Int) < Int.ofNat a0.length) then some (14,()) else L1 (0,a0,a1)
def Zsd (k:Nat):=Zjo k (Zvg k)
theorem ZJR (k:Nat):∀ n,ZCA k n = Zp (fun L1 => Zew k L1) n :=
 Zl (fun v => by kernel_rfl) (fun n v => by
  obtain ⟨v0,v1,v2⟩:=v
  kernel_rfl)
theorem ZSn (k:Nat) (x:Kd.dens Zbp):ZF (ZJQ k) ZtS Tryz.f96 Zbp Zf x = Zsd k x:=by
 show _ = Zjo k (Zvg k) x
 rw [show Zvg k = ZCA k k from (ZJR k k).symm]
 obtain ⟨⟨a0,⟨a1,⟨⟩⟩⟩,⟨⟩⟩:=x
 kernel_rfl
theorem ZCB (k:Nat):Ctr Tryz.prog k 96 (mk Zbp Zf Zsd) :=
 ZG (fn:=Tryz.f96) (Zh (Za (ZHh k) Zd)) (by kernel_rfl) (by kernel_rfl) (ZSn k)
noncomputable abbrev ZO3:Nat × Callee:=(96,mk Zbp Zf Zsd)
abbrev Zvj:Kd:=.view (.sl (.cx .f64))
def ZO4:Nat → Ann:=fun id => bif Nat.beq id 3 then ⟨[4,1,3],[.slot 3 ((Ty.cx FloatKind.f64))]⟩ else ⟨[],[]⟩
abbrev ZAP:=Int × List Int × List Int × List (Nat × Nat)
abbrev Zvh:=ZAP → Option (List (Nat × Nat) × Unit)
def ZSo:ZAP → St
 | (v0,v1,v2,v3) => St.mk (ZC [(4,Zq v0),(1,AV.bx 8192 0),(3,AV.own 8193)]) (ZA [(8192,Wb [Xn v1,Xn v2]),(8193,RS.live (Res.arr (Ty.cx FloatKind.f64) v3 false))])
def Zex (k:Nat) (L1:Zvh):Zvh
 | (v0,v1,v2,v3) => bif decide (v0 < Int.ofNat v1.length) then bif decide (0 ≤ v0 ∧ v0 < Int.ofNat v1.length) then bif decide (0 ≤ v0 ∧ v0 < Int.ofNat v2.length) then bif decide (v3.length + [(FloatKind.f64.nearest (v1.getD v0.toNat 0),FloatKind.f64.nearest (v2.getD v0.toNat 0))].length < 2147483648) then L1 (IntKind.i64.wrap (v0 + 1),v1,v2,v3 ++ [(FloatKind.f64.nearest (v1.getD v0.toNat 0),FloatKind.f64.nearest (v2.getD v0.toNat 0))]) else none else none else none else some (v3,())
def Zvi (k:Nat):Zvh:=Zp (fun L1 => Zex k L1) k
noncomputable def ZCC (k:Nat) (n:Nat) (v:ZAP) :=
 Zy (ZH k) ZO4 [] [1,1,0,1,0] [] (Wh Tryz.f97) (Wp (ZH k) Tryz.f97 Zbp Zvj [] []) n (ZSo v)
def Zjp (k:Nat) (L1:Zvh):(List Int × List Int × Unit) × Unit → Option (List (Nat × Nat) × Unit)
 | ((a0,a1,()),()) => L1 (0,a0,a1,[])
def Zyt (k:Nat):=Zjp k (Zvi k)
theorem ZJS (k:Nat):∀ n,ZCC k n = Zp (fun L1 => Zex k L1) n :=
 Zl (fun v => by kernel_rfl) (fun n v => by
  obtain ⟨v0,v1,v2,v3⟩:=v
  kernel_rfl)
theorem ZSp (k:Nat) (x:Kd.dens Zbp):ZF (ZH k) ZO4 Tryz.f97 Zbp Zvj x = Zyt k x:=by
 show _ = Zjp k (Zvi k) x
 rw [show Zvi k = ZCC k k from (ZJS k k).symm]
 obtain ⟨⟨a0,⟨a1,⟨⟩⟩⟩,⟨⟩⟩:=x
 kernel_rfl
theorem ZNE (k:Nat):Ctr Tryz.prog k 97 (mk Zbp Zvj Zyt) :=
 ZG (fn:=Tryz.f97) (Zh Zd) (by kernel_rfl) (by kernel_rfl) (ZSp k)
noncomputable abbrev ZTW:Nat × Callee:=(97,mk Zbp Zvj Zyt)
noncomputable def ZIZ (k:Nat):=Wd k [ZTM,ZTV,ZO3,ZTW]
def ZOF:Nat → Ann:=fun id => bif Nat.beq id 7 then ⟨[9,0,1,2,8],[.cell 8 0 ((Ty.int IntKind.i64)),.cell 8 1 ((Ty.int IntKind.i64))]⟩ else ⟨[],[]⟩
abbrev ZAu:=Int × List Int × List Int × Int × List Int × List Int
abbrev Zuv:=ZAu → Option ((List (Nat × Nat) × Int × Unit) × Unit)
def ZRq:ZAu → St
 | (v0,v1,v2,v3,v4,v5) => St.mk (ZC [(9,Zq v0),(0,Xn v1),(1,Xn v2),(2,Zq v3),(8,AV.bx 8192 0)]) (ZA [(8192,Wb [AV.own 8193,AV.own 8194]),(8193,rsA v4 false),(8194,rsA v5 false)])
def YA (k:Nat) (L1:Zuv):Zuv
 | (v0,v1,v2,v3,v4,v5) => bif decide (v0 < Int.ofNat v1.length) then bif decide (0 ≤ v0 ∧ v0 < Int.ofNat v1.length) then bif decide (0 ≤ v0 ∧ v0 < Int.ofNat v2.length) then bif decide (v1.getD v0.toNat 0 < (-67108864:Int)) then some (([],12,()),()) else bif decide ((67108864:Int) < v1.getD v0.toNat 0) then some (([],12,()),()) else bif decide (v2.getD v0.toNat 0 < (-67108864:Int)) then some (([],12,()),()) else bif decide ((67108864:Int) < v2.getD v0.toNat 0) then some (([],12,()),()) else bif v3 == 8 then bif decide (v4.length + [v1.getD v0.toNat 0].length < 2147483648) then bif decide (v5.length + [IntKind.i64.wrap (v1.getD v0.toNat 0 - v2.getD v0.toNat 0)].length < 2147483648) then L1 (IntKind.i64.wrap (v0 + 1),v1,v2,v3,v4 ++ [v1.getD v0.toNat 0],v5 ++ [IntKind.i64.wrap (v1.getD v0.toNat 0 - v2.getD v0.toNat 0)]) else none else none else bif v3 == 9 then bif decide (v4.length + [IntKind.i64.wrap (v1.getD v0.toNat 0 + v2.getD v0.toNat 0)].length < 2147483648) then bif decide (v5.length + [v2.getD v0.toNat 0].length < 2147483648) then L1 (IntKind.i64.wrap (v0 + 1),v1,v2,v3,v4 ++ [IntKind.i64.wrap (v1.getD v0.toNat 0 + v2.getD v0.toNat 0)],v5 ++ [v2.getD v0.toNat 0]) else none else none else bif v3 == 10 then (Zr9 k (IntKind.i64.wrap (IntKind.i64.wrap (IntKind.i64.wrap ((2:Int) * v1.getD v0.toNat 0) + (IntKind.i64.wrap (Int.tmod (v2.getD v0.toNat 0) (2:Int) + 2)).tmod (2:Int)) + v2.getD v0.toNat 0),())).bind fun y => (Zr9 k (IntKind.i64.wrap (IntKind.i64.wrap (IntKind.i64.wrap ((2:Int) * v1.getD v0.toNat 0) + (IntKind.i64.wrap (Int.tmod (v2.getD v0.toNat 0) (2:Int) + 2)).tmod (2:Int)) - v2.getD v0.toNat 0),())).bind fun y_1 => bif decide (v4.length + [y.1].length < 2147483648) then bif decide (v5.length + [y_1.1].length < 2147483648) then L1 (IntKind.i64.wrap (v0 + 1),v1,v2,v3,v4 ++ [y.1],v5 ++ [y_1.1]) else none else none else bif decide (v4.length + [v1.getD v0.toNat 0].length < 2147483648) then bif decide (v5.length + [v2.getD v0.toNat 0].length < 2147483648) then L1 (IntKind.i64.wrap (v0 + 1),v1,v2,v3,v4 ++ [v1.getD v0.toNat 0],v5 ++ [v2.getD v0.toNat 0]) else none else none else none else none else (Zsd k ((v4,v5,()),())).bind fun y => bif y.1 != 0 then some (([],y.1,()),()) else (Zyt k ((v4,v5,()),())).bind fun y => some ((y.1,0,()),())
def Zuw (k:Nat):Zuv:=Zp (fun L1 => YA k L1) k
noncomputable def ZB4 (k:Nat) (n:Nat) (v:ZAu) :=
 Zy (ZIZ k) ZOF [] [1,1,1,1,0,1,0] [] (Wh Tryz.f56) (Wp (ZIZ k) Tryz.f56 Zbm KK [] []) n (ZRq v)
def ZiP (k:Nat) (L1:Zuv):List Int × List Int × Int × Unit → Option ((List (Nat × Nat) × Int × Unit) × Unit)
 | (a0,a1,a2,()) => (Zyq k (a2,())).bind fun y => bif !y.1 then some (([],1,()),()) else bif Int.ofNat a0.length != Int.ofNat a1.length then some (([],1,()),()) else bif decide ((8192:Int) < Int.ofNat a0.length) then some (([],14,()),()) else L1 (0,a0,a1,a2,[],[])
def Zpb (k:Nat):=ZiP k (Zuw k)
theorem ZI0 (k:Nat):∀ n,ZB4 k n = Zp (fun L1 => YA k L1) n :=
 Zl (fun v => by kernel_rfl) (fun n v => by
  obtain ⟨v0,v1,v2,v3,v4,v5⟩:=v
  kernel_rfl)
theorem ZRr (k:Nat) (x:Kd.dens Zbm):ZF (ZIZ k) ZOF Tryz.f56 Zbm KK x = Zpb k x:=by
 show _ = ZiP k (Zuw k) x
 rw [show Zuw k = ZB4 k k from (ZI0 k k).symm]
 obtain ⟨a0,⟨a1,⟨a2,⟨⟩⟩⟩⟩:=x
 kernel_rfl
theorem ZNi (k:Nat):Ctr Tryz.prog k 56 (mk Zbm KK Zpb) :=
 ZG (fn:=Tryz.f56) (Zh (Za (ZNv k) (Za (ZND k) (Za (ZCB k) (Za (ZNE k) Zd))))) (by kernel_rfl) (by kernel_rfl) (ZRr k)
noncomputable abbrev ZTy:Nat × Callee:=(56,mk Zbm KK Zpb)
abbrev ZAQ:Kd:=.tup [.view (.int .i64),.view .bool]
def Zjq (k:Nat):Nat × Unit → Option ((Int × Bool × Unit) × Unit)
 | (a0,()) => bif FloatKind.f64.format.order a0 a0 != some Ordering.eq then some ((0,false,()),()) else bif FloatKind.f64.format.order a0 (4845873199050653696:Nat) == some Ordering.gt then (floatBits BinOp.sub FloatKind.f64 a0 a0).bind fun y => bif FloatKind.f64.format.order y (0:Nat) != some Ordering.eq then some ((0,false,()),()) else some ((16777217,true,()),()) else bif FloatKind.f64.format.order a0 (14069245235905429504:Nat) == some Ordering.lt then (floatBits BinOp.sub FloatKind.f64 a0 a0).bind fun y => bif FloatKind.f64.format.order y (0:Nat) != some Ordering.eq then some ((0,false,()),()) else some ((16777217,true,()),()) else (floatToIntVal FloatKind.f64 a0 IntKind.i64).bind fun y => some ((y,FloatKind.f64.format.order (FloatKind.f64.nearest y) a0 == some Ordering.eq,()),())
def Zse (k:Nat):=Zjq k
theorem ZSq (k:Nat) (x:Kd.dens Qb):ZF (ZH k) nA Tryz.f98 Qb ZAQ x = Zse k x:=by
 show _ = Zjq k x
 obtain ⟨a0,⟨⟩⟩:=x
 kernel_rfl
theorem ZNF (k:Nat):Ctr Tryz.prog k 98 (mk Qb ZAQ Zse) :=
 ZG (fn:=Tryz.f98) (Zh Zd) (by kernel_rfl) (by kernel_rfl) (ZSq k)
noncomputable abbrev ZTX:Nat × Callee:=(98,mk Qb ZAQ Zse)
abbrev Zuz:Kd:=.tup [.view ZO9,.view (.int .i64)]
noncomputable def ZI2 (k:Nat):=Wd k [ZO3,ZTX]
def ZOG:Nat → Ann:=fun id => bif Nat.beq id 5 then ⟨[5,0,2,4],[.cell 4 0 ((Ty.int IntKind.i64)),.cell 4 1 ((Ty.int IntKind.i64))]⟩ else ⟨[],[]⟩
abbrev ZAv:=Int × List (Nat × Nat) × List Int × List Int
abbrev Zux:=ZAv → Option (((List Int × List Int × Unit) × Int × Unit) × Unit)
def ZRs:ZAv → St
 | (v0,v1,v2,v3) => St.mk (ZC [(5,Zq v0),(0,AV.val (PV.sl (Ty.cx FloatKind.f64) v1)),(2,AV.bx 8192 0),(4,AV.bx 8193 0)]) (ZA [(8192,Wb [AV.val (PV.v (Value.slice none (0:Nat) (0:Nat))),AV.val (PV.v (Value.slice none (0:Nat) (0:Nat)))]),(8193,Wb [AV.own 8194,AV.own 8195]),(8194,rsA v2 false),(8195,rsA v3 false)])
def Zee (k:Nat) (L1:Zux):Zux
 | (v0,v1,v2,v3) => bif decide (v0 < Int.ofNat v1.length) then bif decide (0 ≤ v0 ∧ v0 < Int.ofNat v1.length) then (Zse k ((v1.getD v0.toNat ((0:Nat),(0:Nat))).1,())).bind fun y => bif decide (0 ≤ v0 ∧ v0 < Int.ofNat v1.length) then (Zse k ((v1.getD v0.toNat ((0:Nat),(0:Nat))).2,())).bind fun y_1 => bif !y.1.2.1 then some ((([],[],()),2,()),()) else bif !y_1.1.2.1 then some ((([],[],()),2,()),()) else bif decide (v2.length + [y.1.1].length < 2147483648) then bif decide (v3.length + [y_1.1.1].length < 2147483648) then L1 (IntKind.i64.wrap (v0 + 1),v1,v2 ++ [y.1.1],v3 ++ [y_1.1.1]) else none else none else none else none else (Zsd k ((v2,v3,()),())).bind fun y => bif y.1 != 0 then some ((([],[],()),y.1,()),()) else some (((v2,v3,()),0,()),())
def Zuy (k:Nat):Zux:=Zp (fun L1 => Zee k L1) k
noncomputable def ZB5 (k:Nat) (n:Nat) (v:ZAv) :=
 Zy (ZI2 k) ZOG [] [1,1,1,0,1,0] [] (Wh Tryz.f57) (Wp (ZI2 k) Tryz.f57 QU Zuz [] []) n (ZRs v)
def ZiQ (k:Nat) (L1:Zux):List (Nat × Nat) × Unit → Option (((List Int × List Int × Unit) × Int × Unit) × Unit)
 | (a0,()) => bif decide ((8192:Int) < Int.ofNat a0.length) then some ((([],[],()),14,()),()) else L1 (0,a0,[],[])
def Zpc (k:Nat):=ZiQ k (Zuy k)
theorem ZI3 (k:Nat):∀ n,ZB5 k n = Zp (fun L1 => Zee k L1) n :=
 Zl (fun v => by kernel_rfl) (fun n v => by
  obtain ⟨v0,v1,v2,v3⟩:=v
  kernel_rfl)
theorem ZRt (k:Nat) (x:Kd.dens QU):ZF (ZI2 k) ZOG Tryz.f57 QU Zuz x = Zpc k x:=by
 show _ = ZiQ k (Zuy k) x
 rw [show Zuy k = ZB5 k k from (ZI3 k k).symm]
 obtain ⟨a0,⟨⟩⟩:=x
 kernel_rfl
theorem ZNj (k:Nat):Ctr Tryz.prog k 57 (mk QU Zuz Zpc) :=
 ZG (fn:=Tryz.f57) (Zh (Za (ZCB k) (Za (ZNF k) Zd))) (by kernel_rfl) (by kernel_rfl) (ZRt k)
noncomputable abbrev ZTz:Nat × Callee:=(57,mk QU Zuz Zpc)
abbrev Zt3:List Kd:=[.view shapeT,.view .str]
noncomputable def ZS0 (k:Nat):=Wd k [ZOk,ZSY,ZTe,ZTg,ZTh,ZTv,ZTw,ZTx,Zpa,ZTy,ZTz]
def ZxD (k:Nat):(Int × Int × Int × Unit) × ByteArray × Unit → Option (((Int × List (List Int) × Unit) × Int × Int × Unit) × Unit)
 | ((a0,a1,a2,()),a3,()) => (Zoe k ((a0,a1,a2,()),())).bind fun y => bif !y.1 then some ((((0:Int),[],()),0,2,()),()) else bif decide (a3.size < 1099511627776) then (ZrZ k (List.map (fun b => Int.ofNat b.toNat) a3.data.toList,())).bind fun y => (ZlK k ((a0,a1,a2,()),(y.1,0,()),a3,())).bind fun y => bif y.1.2.2.2.1 != 0 then some ((((0:Int),[],()),0,y.1.2.2.2.1,()),()) else (Zr0 k (a1,y.1.1,())).bind fun y_1 => (ZiM k ((y.2.1.1,y.2.1.2.1,()),y.1.2.2.1,y_1.1.1,())).bind fun y_2 => bif y_2.1.2.1 != 0 then some ((((0:Int),[],()),0,y_2.1.2.1,()),()) else bif a0 == 2 then (ZiM k ((y_2.2.1.1,y_2.2.1.2.1,()),y.1.2.2.1,y_1.1.2.1,())).bind fun y_3 => bif y_3.1.2.1 != 0 then some ((((0:Int),[],()),0,y_3.1.2.1,()),()) else (Zo9 k ((y_3.2.1.1,y_3.2.1.2.1,()),())).bind fun y_4 => bif y_4.1 != 0 then some ((((0:Int),[],()),0,y_4.1,()),()) else (ZR k ((y_4.2.1.1,y_4.2.1.2.1,()),16,())).bind fun y_5 => bif y_5.1.2.1 != 0 then some ((((0:Int),[],()),0,y_5.1.2.1,()),()) else bif decide ((0:Int) ≤ 0 ∧ (0:Int) ≤ IntKind.i64.wrap (Int.tdiv y_4.2.1.2.1 (8:Int)) ∧ IntKind.i64.wrap (Int.tdiv y_4.2.1.2.1 (8:Int)) ≤ Int.ofNat a3.size) then (Zo5 k (a3.extract (0:Nat) (IntKind.i64.wrap (Int.tdiv y_4.2.1.2.1 (8:Int))).toNat,())).bind fun y_6 => bif y_5.1.1 != y_6.1 then some ((((0:Int),[],()),0,16,()),()) else bif a0 == 2 then (Zpb k (y_2.1.1,y_3.1.1,y.1.1,())).bind fun y_7 => bif y_7.1.2.1 != 0 then some ((((0:Int),[],()),0,y_7.1.2.1,()),()) else (Zpc k (y_7.1.1,())).bind fun y_8 => (Zic k ((a0,a1,a2,()),(y.1.2.1.1,[y_8.1.1.1,y_8.1.1.2.1],()),())).bind fun y_9 => bif y_9.1 != 0 then some ((((0:Int),[],()),0,y_9.1,()),()) else some (((y.1.2.1.1,[y_8.1.1.1,y_8.1.1.2.1],()),IntKind.i64.wrap (IntKind.i64.wrap (Int.tdiv y_4.2.1.2.1 (8:Int)) + (2:Int)),0,()),()) else (Zic k ((a0,a1,a2,()),(y.1.2.1.1,[y_2.1.1],()),())).bind fun y_7 => bif y_7.1 != 0 then some ((((0:Int),[],()),0,y_7.1,()),()) else some (((y.1.2.1.1,[y_2.1.1],()),IntKind.i64.wrap (IntKind.i64.wrap (Int.tdiv y_4.2.1.2.1 (8:Int)) + (2:Int)),0,()),()) else none else (Zo9 k ((y_2.2.1.1,y_2.2.1.2.1,()),())).bind fun y_3 => bif y_3.1 != 0 then some ((((0:Int),[],()),0,y_3.1,()),()) else (ZR k ((y_3.2.1.1,y_3.2.1.2.1,()),16,())).bind fun y_4 => bif y_4.1.2.1 != 0 then some ((((0:Int),[],()),0,y_4.1.2.1,()),()) else bif decide ((0:Int) ≤ 0 ∧ (0:Int) ≤ IntKind.i64.wrap (Int.tdiv y_3.2.1.2.1 (8:Int)) ∧ IntKind.i64.wrap (Int.tdiv y_3.2.1.2.1 (8:Int)) ≤ Int.ofNat a3.size) then (Zo5 k (a3.extract (0:Nat) (IntKind.i64.wrap (Int.tdiv y_3.2.1.2.1 (8:Int))).toNat,())).bind fun y_5 => bif y_4.1.1 != y_5.1 then some ((((0:Int),[],()),0,16,()),()) else bif a0 == 2 then (Zpb k (y_2.1.1,[],y.1.1,())).bind fun y_6 => bif y_6.1.2.1 != 0 then some ((((0:Int),[],()),0,y_6.1.2.1,()),()) else (Zpc k (y_6.1.1,())).bind fun y_7 => (Zic k ((a0,a1,a2,()),(y.1.2.1.1,[y_7.1.1.1,y_7.1.1.2.1],()),())).bind fun y_8 => bif y_8.1 != 0 then some ((((0:Int),[],()),0,y_8.1,()),()) else some (((y.1.2.1.1,[y_7.1.1.1,y_7.1.1.2.1],()),IntKind.i64.wrap (IntKind.i64.wrap (Int.tdiv y_3.2.1.2.1 (8:Int)) + (2:Int)),0,()),()) else (Zic k ((a0,a1,a2,()),(y.1.2.1.1,[y_2.1.1],()),())).bind fun y_6 => bif y_6.1 != 0 then some ((((0:Int),[],()),0,y_6.1,()),()) else some (((y.1.2.1.1,[y_2.1.1],()),IntKind.i64.wrap (IntKind.i64.wrap (Int.tdiv y_3.2.1.2.1 (8:Int)) + (2:Int)),0,()),()) else none else none
def ZrT (k:Nat):=ZxD k
theorem ZQG (k:Nat) (x:Kd.dens Zt3):ZF (ZS0 k) nA Tryz.f19 Zt3 Zhj x = ZrT k x:=by
 show _ = ZxD k x
 obtain ⟨⟨a0,⟨a1,⟨a2,⟨⟩⟩⟩⟩,⟨a3,⟨⟩⟩⟩:=x
 kernel_rfl
theorem ZMT (k:Nat):Ctr Tryz.prog k 19 (mk Zt3 Zhj ZrT) :=
 ZG (fn:=Tryz.f19) (Zh (Za (ZBD k) (Za (ZLY k) (Za (ZM2 k) (Za (ZM4 k) (Za (ZM5 k) (Za (ZNe k) (Za (ZNf k) (Za (ZNh k) (Za (ZcR k) (Za (ZNi k) (Za (ZNj k) Zd)))))))))))) (by kernel_rfl) (by kernel_rfl) (ZQG k)
noncomputable abbrev ZS1:Nat × Callee:=(19,mk Zt3 Zhj ZrT)
def ZOH:Nat → Ann:=fun id => bif Nat.beq id 4 then ⟨[5,0,1],[]⟩ else ⟨[],[]⟩
abbrev ZuA:=ZcQ → Option (Bool × Unit)
def ZRu:ZcQ → St
 | (v0,v1,v2) => St.mk (ZC [(5,Zq v0),(0,Xn v1),(1,Xn v2)]) (ZA [])
def Zef (k:Nat) (L1:ZuA):ZuA
 | (v0,v1,v2) => bif decide (v0 < Int.ofNat v1.length) then bif decide (0 ≤ v0 ∧ v0 < Int.ofNat v1.length) then bif decide (0 ≤ v0 ∧ v0 < Int.ofNat v2.length) then bif v1.getD v0.toNat 0 != v2.getD v0.toNat 0 then some (false,()) else L1 (IntKind.i64.wrap (v0 + 1),v1,v2) else none else none else some (true,())
def ZuB (k:Nat):ZuA:=Zp (fun L1 => Zef k L1) k
noncomputable def ZB6 (k:Nat) (n:Nat) (v:ZcQ) :=
 Zy (ZH k) ZOH [] [1,1,0,1,0] [] (Wh Tryz.f58) (Wp (ZH k) Tryz.f58 Zbn Zs [] []) n (ZRu v)
def ZiR (k:Nat) (L1:ZuA):List Int × List Int × Unit → Option (Bool × Unit)
 | (a0,a1,()) => bif Int.ofNat a0.length != Int.ofNat a1.length then some (false,()) else L1 (0,a0,a1)
def Zx3 (k:Nat):=ZiR k (ZuB k)
theorem ZI5 (k:Nat):∀ n,ZB6 k n = Zp (fun L1 => Zef k L1) n :=
 Zl (fun v => by kernel_rfl) (fun n v => by
  obtain ⟨v0,v1,v2⟩:=v
  kernel_rfl)
theorem ZRv (k:Nat) (x:Kd.dens Zbn):ZF (ZH k) ZOH Tryz.f58 Zbn Zs x = Zx3 k x:=by
 show _ = ZiR k (ZuB k) x
 rw [show ZuB k = ZB6 k k from (ZI5 k k).symm]
 obtain ⟨a0,⟨a1,⟨⟩⟩⟩:=x
 kernel_rfl
theorem ZNk (k:Nat):Ctr Tryz.prog k 58 (mk Zbn Zs Zx3) :=
 ZG (fn:=Tryz.f58) (Zh Zd) (by kernel_rfl) (by kernel_rfl) (ZRv k)
noncomputable abbrev ZTA:Nat × Callee:=(58,mk Zbn Zs Zx3)
abbrev ZoU:List Kd:=[.view Zhl,.view Zhl]
noncomputable def ZIi (k:Nat):=Wd k [ZTA]
def ZOn:Nat → Ann:=fun id => bif Nat.beq id 4 then ⟨[5,2,3],[]⟩ else ⟨[],[]⟩
abbrev ZAg:=Int × Int × List (List Int) × Int × List (List Int)
abbrev Zt4:=ZAg → Option (Bool × Unit)
def ZQH:ZAg → St
 | (v0,v1,v2,v3,v4) => St.mk (ZC [(5,Zq v0),(2,AV.bx 8192 0),(3,AV.bx 8193 0)]) (ZA [(8192,Wb [Zq v1,AV.val (PV.sl (Ty.int IntKind.i64).sl v2)]),(8193,Wb [Zq v3,AV.val (PV.sl (Ty.int IntKind.i64).sl v4)])])
def ZdX (k:Nat) (L1:Zt4):Zt4
 | (v0,v1,v2,v3,v4) => bif decide (v0 < Int.ofNat v2.length) then bif decide (0 ≤ v0 ∧ v0 < Int.ofNat v2.length) then bif decide (0 ≤ v0 ∧ v0 < Int.ofNat v4.length) then (Zx3 k (v2.getD v0.toNat [],v4.getD v0.toNat [],())).bind fun y => bif !y.1 then some (false,()) else L1 (IntKind.i64.wrap (v0 + 1),v1,v2,v3,v4) else none else none else some (true,())
def Zt5 (k:Nat):Zt4:=Zp (fun L1 => ZdX k L1) k
noncomputable def ZBK (k:Nat) (n:Nat) (v:ZAg) :=
 Zy (ZIi k) ZOn [] [1,1,0,1,0] [] (Wh Tryz.f20) (Wp (ZIi k) Tryz.f20 ZoU Zs [] []) n (ZQH v)
def Zin (k:Nat) (L1:Zt4):(Int × List (List Int) × Unit) × (Int × List (List Int) × Unit) × Unit → Option (Bool × Unit)
 | ((a0,a1,()),(a2,a3,()),()) => bif a0 != a2 then some (false,()) else bif Int.ofNat a1.length != Int.ofNat a3.length then some (false,()) else L1 (0,a0,a1,a2,a3)
def ZxE (k:Nat):=Zin k (Zt5 k)
theorem ZIj (k:Nat):∀ n,ZBK k n = Zp (fun L1 => ZdX k L1) n :=
 Zl (fun v => by kernel_rfl) (fun n v => by
  obtain ⟨v0,v1,v2,v3,v4⟩:=v
  kernel_rfl)
theorem ZQI (k:Nat) (x:Kd.dens ZoU):ZF (ZIi k) ZOn Tryz.f20 ZoU Zs x = ZxE k x:=by
 show _ = Zin k (Zt5 k) x
 rw [show Zt5 k = ZBK k k from (ZIj k k).symm]
 obtain ⟨⟨a0,⟨a1,⟨⟩⟩⟩,⟨⟨a2,⟨a3,⟨⟩⟩⟩,⟨⟩⟩⟩:=x
 kernel_rfl
theorem ZMU (k:Nat):Ctr Tryz.prog k 20 (mk ZoU Zs ZxE) :=
 ZG (fn:=Tryz.f20) (Zh (Za (ZNk k) Zd)) (by kernel_rfl) (by kernel_rfl) (ZQI k)
noncomputable abbrev ZS2:Nat × Callee:=(20,mk ZoU Zs ZxE)
abbrev ZAh:Kd:=.view Zhl
def ZxG (k:Nat):(Int × List (List Int) × Unit) × Unit → Option ((Int × List (List Int) × Unit) × Unit)
 | ((a0,a1,()),()) => some ((a0,a1,()),())
def ZxF (k:Nat):=ZxG k
theorem ZQJ (k:Nat) (x:Kd.dens ZdZ):ZF (ZH k) nA Tryz.f21 ZdZ ZAh x = ZxF k x:=by
 show _ = ZxG k x
 obtain ⟨⟨a0,⟨a1,⟨⟩⟩⟩,⟨⟩⟩:=x
 kernel_rfl
theorem ZMV (k:Nat):Ctr Tryz.prog k 21 (mk ZdZ ZAh ZxF) :=
 ZG (fn:=Tryz.f21) (Zh Zd) (by kernel_rfl) (by kernel_rfl) (ZQJ k)
noncomputable abbrev ZS3:Nat × Callee:=(21,mk ZdZ ZAh ZxF)
noncomputable def ZUi (k:Nat):=Wd k [ZSX,ZOm,ZS1,ZS2,ZS3]
noncomputable def Zgg (k:Nat):(Int × Int × Int × Unit) × List Int × Unit → Option (Bool × Unit)
 | ((a0,a1,a2,()),a3,()) => (Zob k ()).bind fun y => bif !y.1 then (Zob k ()).bind fun y => some (y.1,()) else bif decide ((600:Int) < Int.ofNat a3.length) then (Zob k ()).bind fun y => some (y.1,()) else (ZrR k ((a0,a1,a2,()),a3,())).bind fun y => (ZrT k ((a0,a1,a2,()),ByteArray.mk (List.map (fun n => UInt8.ofNat n.toNat) a3).toArray,())).bind fun y_1 => (ZxF k ((y.1.1.1,y.1.1.2.1,()),())).bind fun y_2 => (ZxE k ((y_2.1.1,y_2.1.2.1,()),(y_1.1.1.1,y_1.1.1.2.1,()),())).bind fun y_3 => bif y_3.1 then bif y.1.2.1 == y_1.1.2.1 then some (y.1.2.2.1 == y_1.1.2.2.1,()) else some (false,()) else some (false,())
noncomputable def f4_F (k:Nat):=Zgg k
theorem ZTr (k:Nat) (x:Kd.dens ZcP):ZF (ZUi k) nA Tryz.f4 ZcP Zs x = f4_F k x:=by
 show _ = Zgg k x
 obtain ⟨⟨a0,⟨a1,⟨a2,⟨⟩⟩⟩⟩,⟨a3,⟨⟩⟩⟩:=x
 kernel_rfl
theorem f4_ctr (k:Nat):Ctr Tryz.prog k 4 (mk ZcP Zs f4_F) :=
 ZG (fn:=Tryz.f4) (Zh (Za (ZLg k) (Za (ZBI k) (Za (ZMT k) (Za (ZMU k) (Za (ZMV k) Zd)))))) (by kernel_rfl) (by kernel_rfl) (ZTr k)
noncomputable abbrev ZUo:Nat × Callee:=(4,mk ZcP Zs f4_F)
end Go.Sh
