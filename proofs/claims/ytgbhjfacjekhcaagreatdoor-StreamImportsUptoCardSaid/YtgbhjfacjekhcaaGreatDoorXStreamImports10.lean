/-
  What the row needs, part 10.
-/
import Derived.Test.YtgbhjfacjekhcaaGreatDoorXStreamImports9
import Derived.Test.YtgbhjfacjekhcaaGreatDoorProg
set_option linter.unusedSimpArgs false
set_option linter.unusedVariables false
set_option linter.unusedSectionVars false
open BitVec renaming ofInt→UH,toNat_and→U8,allOnes→Hg,allOnes_xor→Hh,toNat_not→Hi,toNat_or→Hj,toNat_xor→Hk
open Bool renaming false_eq_true→JJ,eq_iff_iff→U9,and_eq_true→Jh,true_and→UC
open ByteArray renaming mk→UR,size→UQ,toList→U3
open Eq renaming trans→U4
open Int renaming ofNat→UD,fdiv→UP,toNat→US,tdiv→UJ,cast_ofNat_Int→Hl,lt_trichotomy→Hm,mul_le_mul_of_nonneg_left→Hn
open Go.IntKind renaming i64→Jx,u32→UW,u8→UK,u64→UI
open List renaming map→UT,length→UO,replicate→Jd,range→Jc,take→UL,drop_zero→U5,drop→UM,getD→U6,length_range→U7,getD_eq_getElem?_getD→VR,getElem_mem→Ha,length_cons→JF,append_assoc→Ju,dropWhile_cons→Hc,length_replicate→Uq,length_singleton→Ur,mem_map→VF,mem_of_getElem?→Vw,mem_of_mem_drop→JS,mem_of_mem_take→JT,all_cons→UA,all_eq_true→Ve,append_nil→Vf,flatMap_cons→Ho,length_drop→Vh,length_set→JQ,mem_cons_self→Jl,range_succ→Hp
open Nat renaming beq→Ja,mod_lt→UY,blt→UZ,ble_eq_true_of_le→U0,lt_irrefl→U1,not_lt_zero→U2,ble→Jb,ble_eq→Hb,le_of_ble_eq_true→Jt,lt_of_le_of_lt→He,lt_or_ge→VM,pow_le_pow_right→Hf,and_two_pow_sub_one_eq_mod→Hq,mul_le_mul→J3
open UInt8 renaming ofNat→UX
open Go.Value renaming int→Jv,slice→V4,string→UN
namespace Go.Sh
open Go Go.Proofs
abbrev ZdX:Ty:=.pair ZfR (.pair (.sl .str) (.pair (.sl (.sl (.int .i64))) .unit))
abbrev QE:List Kd:=[.view ZdX]
abbrev Z2:Kd:=.view (.int .i64)
def Zhv (k:Nat):((Int × Int × Int × Unit) × List ByteArray × List (List Int) × Unit) × Unit → Option (Int × Unit)
 | (((a0,a1,a2,()),a3,a4,()),()) => bif UD a4.length == (0:Int) then some (0,()) else bif decide ((0:Int) ≤ 0 ∧ (0:Int) < UD a4.length) then some (UD (UO (a4.getD 0 [])),()) else none
def Zdp (k:Nat):=Zhv k
noncomputable def ZnS (k:Nat):ZE k:=Zy 34 Tryz.f34 [] QE Z2 Zdp
def ZY3:Go.Shelf.Ren:=⟨fun n => match n with | 219 => 131 | 217 => 177 | 225 => 178 | 224 => 179 | 267 => 180 | 266 => 228 | 314 => 229 | _ => 0,fun n => match n with | 9 => 9 | 3 => 3 | 4 => 4 | 5 => 5 | 46 => 62 | 146 => 270 | 51 => 125 | _ => 0,fun n => match n with | 1 => 0 | _ => 0⟩
abbrev Zcu:List Kd:=[.view .str,.view .str]
def Zn1 (k:Nat):ByteArray × ByteArray × Unit → Option (Int × Unit):=fun x => ZDd x
theorem ZQi:Go.Proofs.Lays.n219 Tryz.prog ZY3:=by
 constructor <;> first | kernel_rfl | (intro w; kernel_rfl)
theorem ZIu (k:Nat):Ctr Tryz.prog k 131 (mk Zcu Z2 Zn1):=ZIR ZQi rfl (fn:=Tryz.f131) (by kernel_rfl) (by kernel_rfl) (by kernel_rfl)
noncomputable def ZSD (k:Nat):ZE k:=⟨(131,mk Zcu Z2 Zn1),ZIu k⟩
abbrev ZyW:Kd:=.tup [.view .str,.view .str,.view .bool]
def Zhx (k:Nat):ByteArray × ByteArray × Unit → Option ((ByteArray × ByteArray × Bool × Unit) × Unit)
 | (a0,a1,()) => (Zn1 k (a0,a1,())).bind fun y => bif decide ((0:Int) ≤ y.1) then bif decide ((0:Int) ≤ 0 ∧ (0:Int) ≤ y.1 ∧ y.1 ≤ UD a0.size) then bif decide (0 ≤ Jx.wrap (y.1 + UD a1.size) ∧ Jx.wrap (y.1 + UD a1.size) ≤ UD a0.size ∧ UD a0.size ≤ UD a0.size) then some ((a0.extract (0:Nat) (US y.1),a0.extract (Jx.wrap (y.1 + UD a1.size)).toNat (UD a0.size).toNat,true,()),()) else none else none else some ((a0,UR #[],false,()),())
def ZnZ (k:Nat):=Zhx k
set_option maxHeartbeats 1000000 in
noncomputable def ZSl (k:Nat):ZE k:=Zy 65 Tryz.f65 [ZSD k] Zcu ZyW ZnZ
def ZCa (k:Nat):ByteArray × ByteArray × Unit → Option ((ByteArray × ByteArray × Bool × Unit) × Unit)
 | (a0,a1,()) => (ZnZ k (a0,a1,())).bind fun y => some ((y.1.1,y.1.2.1,y.1.2.2.1,()),())
def Zvq (k:Nat):=ZCa k
noncomputable def ZRS (k:Nat):ZE k:=Zy 28 Tryz.f28 [ZSl k] Zcu ZyW Zvq
def ZY4:Go.Shelf.Ren:=⟨fun n => match n with | 160 => 30 | 232 => 67 | 231 => 66 | 227 => 68 | 234 => 70 | 233 => 69 | 236 => 72 | 235 => 71 | 228 => 132 | 271 => 135 | 151 => 134 | 197 => 133 | 120 => 183 | 152 => 182 | 260 => 181 | 137 => 230 | 119 => 231 | 224 => 179 | 225 => 178 | 217 => 177 | 266 => 228 | _ => 0,fun n => match n with | 9 => 9 | 4 => 4 | 3 => 3 | 5 => 5 | 117 => 118 | 116 => 117 | 0 => 0 | 124 => 121 | 21 => 21 | 105 => 189 | 46 => 62 | 119 => 272 | 139 => 275 | 138 => 274 | _ => 0,fun n => match n with | 3 => 2 | 4 => 3 | _ => 0⟩
abbrev Qf:Kd:=.view .str
def ZnR (k:Nat):ByteArray × ByteArray × Unit → Option (ByteArray × Unit):=fun x => ZAt x
theorem ZQj:Go.Proofs.Lays.n160 Tryz.prog ZY4:=by
 constructor <;> first | kernel_rfl | (intro w; kernel_rfl)
theorem ZIo (k:Nat):Ctr Tryz.prog k 30 (mk Zcu Qf ZnR):=ZQb ZQj (by kernel_rfl) rfl (fn:=Tryz.f30) (by kernel_rfl) (by kernel_rfl) (by kernel_rfl)
noncomputable def ZRU (k:Nat):ZE k:=⟨(30,mk Zcu Qf ZnR),ZIo k⟩
abbrev Zyx:List Kd:=[.view (.int .i32)]
abbrev Wd:Kd:=.view .bool
def ZCb (k:Nat):Int × Unit → Option (Bool × Unit)
 | (a0,()) => bif decide (a0 < 33) then some (true,()) else some (decide ((126:Int) < a0),())
def Zvr (k:Nat):=ZCb k
noncomputable def ZRT (k:Nat):ZE k:=Zy 29 Tryz.f29 [] Zyx Wd Zvr
theorem ZIn (k:Nat):Ctr Tryz.prog k 29 (mk Zyx Wd Zvr):=(ZRT k).2
def ZY1:Go.Shelf.Ren:=⟨fun n => match n with | 15 => 31 | 20 => 73 | _ => 0,fun n => match n with | 9 => 9 | 23 => 65 | 3 => 3 | 4 => 4 | 0 => 0 | 21 => 21 | _ => 0,fun n => n⟩
abbrev Zyy:List Kd:=[.view .str,.fn 29]
def Kh (n:Nat):Bool:=UZ n 33 || UZ 126 n
def Zvs (k:Nat):ByteArray × Unit × Unit → Option (Int × Unit):=fun x => ZSR Kh x
theorem ZQg:Go.Proofs.LaysGw.n15 Tryz.prog ZY1:=by
 constructor <;> first | kernel_rfl | (intro w; kernel_rfl)
theorem ZIq (k n:Nat):Zvr k ((n:Int),()) = some (Kh n,()):=by
 show (bif decide ((n:Int) < 33) then some (true,()) else some (decide ((126:Int) < (n:Int)),())) = some (Kh n,())
 unfold Kh
 cases h:UZ n 33 with
 | true =>
  have:n < 33:=Jt h
  rw [decide_eq_true (by omega)]; rfl
 | false =>
  have:¬ n < 33:=fun h' => by rw [U0 (show n + 1 ≤ 33 from h') |> (fun e => (show UZ n 33 = true from e))] at h; cases h
  rw [decide_eq_false (by omega)]
  cases h2:UZ 126 n with
  | true =>
   have:126 < n:=Jt h2
   rw [decide_eq_true (by omega)]; rfl
  | false =>
   have:¬ 126 < n:=fun h' => by rw [show UZ 126 n = true from U0 h'] at h2; cases h2
   rw [decide_eq_false (by omega)]; rfl
theorem ZIp (k:Nat):Ctr Tryz.prog k 31 (mk Zyy Z2 Zvs):=ZSS ZQg (ZIn k) (ZIq k) rfl (fn:=Tryz.f31) (by kernel_rfl) (by kernel_rfl) (by kernel_rfl)
noncomputable def ZRV (k:Nat):ZE k:=⟨(31,mk Zyy Z2 Zvs),ZIp k⟩
abbrev QD:List Kd:=[.view .str]
def Zht (k:Nat):ByteArray × Unit → Option (Bool × Unit)
 | (a0,()) => (Zvq k (a0,UR #[61],())).bind fun y => bif y.1.2.2.1 then bif !U3 y.1.1 == (UR #[]).toList then bif !U3 y.1.2.1 == (UR #[]).toList then bif decide (UD a0.size ≤ (12:Int)) then (ZnR k (y.1.1,UR #[97,98,99,100,101,102,103,104,105,106,107,108,109,110,111,112,113,114,115,116,117,118,119,120,121,122],())).bind fun y_1 => bif U3 y_1.1 == (UR #[]).toList then (Zvs k (y.1.2.1,(),())).bind fun y => some (decide (y.1 < 0),()) else some (false,()) else some (false,()) else some (false,()) else some (false,()) else some (false,())
def ZnJ (k:Nat):=Zht k
set_option maxHeartbeats 1000000 in
noncomputable def ZRy (k:Nat):ZE k:=Zy 11 Tryz.f11 [ZRS k,ZRU k,ZRV k] QD Wd ZnJ
def ZCh (k:Nat):ByteArray × Unit → Option (Bool × Unit)
 | (a0,()) => (ZnJ k (a0,())).bind fun y => some (!y.1,())
def Zvu (k:Nat):=ZCh k
noncomputable def ZR0 (k:Nat):ZE k:=Zy 38 Tryz.f38 [ZRy k] QD Wd Zvu
abbrev ZpC:List Kd:=[.view (.sl .str),.fn 38]
noncomputable def ZE0 (k:Nat):List (ZE k):=[ZR0 k]
def ZEZ:Nat → Ann:=fun id => bif Ja id 2 then ⟨[7,8,1,0],[]⟩ else ⟨[],[]⟩
abbrev Zy0:=Int × Int × List ByteArray
abbrev Zjh:=Zy0 → Option (Int × Unit)
def ZMr:Zy0 → St
 | (v0,v1,v2) => St.mk (Zq [(7,Zl v0),(8,Zl v1),(1,AV.fn 38),(0,AV.val (PV.sl Ty.str v2))]) (Zp [])
def ZaG (k:Nat) (L1:Zjh):Zjh
 | (v0,v1,v2) => bif decide (v1 < v0) then bif decide (0 ≤ v1 ∧ v1 < UD v2.length) then (Zvu k (v2.getD v1.toNat (UR #[]),())).bind fun y => bif y.1 then some (v1,()) else L1 (v0,Jx.wrap (v1 + 1),v2) else none else some ((-1:Int),())
def Zji (k:Nat):Zjh:=Zg (fun L1 => ZaG k L1) k
noncomputable def Ztk (k:Nat) (n:Nat):=QI (ZE0 k) Tryz.f77 ZpC Z2 [1,0,1,0] [] n ZMr (A:=ZEZ)
def Zdw (k:Nat) (L1:Zjh):List ByteArray × Unit × Unit → Option (Int × Unit)
 | (a0,(),()) => L1 (UD a0.length,(0:Int),a0)
def ZvF (k:Nat):=Zdw k (Zji k)
theorem ZCH (k:Nat):∀ n,Ztk k n = Zg (fun L1 => ZaG k L1) n:=ZO
noncomputable def ZSp (k:Nat):ZE k:=Zy 77 Tryz.f77 (ZE0 k) ZpC Z2 ZvF (A:=ZEZ) (h:=fun x => by show _ = Zdw k (Zji k) x; rw [show Zji k = Ztk k k from (ZCH k k).symm]; kernel_rfl)
def Zhw (k:Nat):List ByteArray × Unit × Unit → Option (Bool × Unit)
 | (a0,(),()) => (ZvF k (a0,(),())).bind fun y => some (decide ((0:Int) ≤ y.1),())
def Zvt (k:Nat):=Zhw k
noncomputable def ZRZ (k:Nat):ZE k:=Zy 37 Tryz.f37 [ZSp k] ZpC Wd Zvt
noncomputable def ZnO (k:Nat):List (ZE k):=[ZnS k,ZEd k,ZRZ k]
def ZnM:Nat → Ann:=fun id => bif Ja id 16 then ⟨[61,62,60,1,56,55,54],[]⟩ else bif Ja id 13 then ⟨[55,56,54,1],[]⟩ else bif Ja id 7 then ⟨[37,38,36,1],[]⟩ else ⟨[],[]⟩
abbrev Zyn:=Int × Int × List Int × Int × Int × List (List Int) × Int × Int × Int × List ByteArray × List (List Int)
abbrev ZiH:=Zyn → Option (Int × Unit)
abbrev Zpl:=Int × Int × List (List Int) × Int × Int × Int × List ByteArray × List (List Int)
abbrev XM:=Zpl → Option (Int × Unit)
def ZLM:Zyn → St
 | (v0,v1,v2,v3,v4,v5,v6,v7,v8,v9,v10) => St.mk (Zq [(61,Zl v0),(62,Zl v1),(60,avL v2),(1,AV.bx 8192 0),(56,Zl v3),(55,Zl v4),(54,AV.val (PV.sl (Ty.int Jx).sl v5))]) (Zp [(8192,QQ [Zl v6,Zl v7,Zl v8,AV.val (PV.sl Ty.str v9),AV.val (PV.sl (Ty.int Jx).sl v10)])])
def Zdj (k:Nat) (L2:XM) (L3:ZiH):ZiH
 | (v0,v1,v2,v3,v4,v5,v6,v7,v8,v9,v10) => bif decide (v1 < v0) then bif decide (0 ≤ v1 ∧ v1 < UD v2.length) then bif decide (0 ≤ Jx.wrap (v7 - 1)) then bif UP (v2.getD v1.toNat 0) ((2:Int) ^ min (Jx.wrap (v7 - 1)).toNat 64) != (0:Int) then bif UP (v2.getD v1.toNat 0) ((2:Int) ^ min (Jx.wrap (v7 - 1)).toNat 64) != (-1:Int) then some (12,()) else L3 (v0,Jx.wrap (v1 + 1),v2,v3,v4,v5,v6,v7,v8,v9,v10) else L3 (v0,Jx.wrap (v1 + 1),v2,v3,v4,v5,v6,v7,v8,v9,v10) else none else none else L2 (v4,Jx.wrap (v3 + 1),v5,v6,v7,v8,v9,v10)
def ZiI (k:Nat) (L2:XM):ZiH:=Zg (fun L3 => Zdj k L2 L3) k
noncomputable def ZsX (k:Nat) (n2:Nat) (n:Nat):=QI (ZnO k) Tryz.f16 QE Z2 [1,1,1,1,0,1,0,0,1,1,0,0,1,1,0] [n2] n ZLM (A:=ZnM)
def ZLL:Zpl → St
 | (v0,v1,v2,v3,v4,v5,v6,v7) => St.mk (Zq [(55,Zl v0),(56,Zl v1),(54,AV.val (PV.sl (Ty.int Jx).sl v2)),(1,AV.bx 8192 0)]) (Zp [(8192,QQ [Zl v3,Zl v4,Zl v5,AV.val (PV.sl Ty.str v6),AV.val (PV.sl (Ty.int Jx).sl v7)])])
def Zdi (k:Nat) (L3:ZiH) (L2:XM):XM
 | (v0,v1,v2,v3,v4,v5,v6,v7) => bif decide (v1 < v0) then bif decide (0 ≤ v1 ∧ v1 < UD v2.length) then L3 (UD (UO (v2.getD v1.toNat [])),(0:Int),v2.getD v1.toNat [],v1,v0,v2,v3,v4,v5,v6,v7) else none else some (0,())
def ZeL (k:Nat):XM:=Zg (fun L2 => Zdi k (ZiI k L2) L2) k
noncomputable def Zgx (k:Nat) (n:Nat):=QI (ZnO k) Tryz.f16 QE Z2 [1,1,1,1,0,1,0] [] n ZLL (A:=ZnM)
def ZLK:Zpl → St
 | (v0,v1,v2,v3,v4,v5,v6,v7) => St.mk (Zq [(37,Zl v0),(38,Zl v1),(36,AV.val (PV.sl (Ty.int Jx).sl v2)),(1,AV.bx 8192 0)]) (Zp [(8192,QQ [Zl v3,Zl v4,Zl v5,AV.val (PV.sl Ty.str v6),AV.val (PV.sl (Ty.int Jx).sl v7)])])
def Zdh (k:Nat) (L2:XM) (L1:XM):XM
 | (v0,v1,v2,v3,v4,v5,v6,v7) => bif decide (v1 < v0) then bif decide (0 ≤ v1 ∧ v1 < UD v2.length) then bif decide ((4096:Int) < UD (UO (v2.getD v1.toNat []))) then some (1,()) else (Zdp k (((v3,v4,v5,()),v6,v7,()),())).bind fun y => bif UD (UO (v2.getD v1.toNat [])) != y.1 then some (1,()) else L1 (v0,Jx.wrap (v1 + 1),v2,v3,v4,v5,v6,v7) else none else L2 (UD v7.length,(0:Int),v7,v3,v4,v5,v6,v7)
def ZeK (k:Nat):XM:=Zg (fun L1 => Zdh k (ZeL k) L1) k
noncomputable def ZsW (k:Nat) (n:Nat):=QI (ZnO k) Tryz.f16 QE Z2 [1,1,1,0,1,0] [] n ZLK (A:=ZnM)
def Zdg (k:Nat) (L1:XM):((Int × Int × Int × Unit) × List ByteArray × List (List Int) × Unit) × Unit → Option (Int × Unit)
 | (((a0,a1,a2,()),a3,a4,()),()) => (Zo5 k ((a0,a1,a2,()),())).bind fun y => bif y.1 != 0 then some (y.1,()) else bif decide ((8:Int) < UD a3.length) then some (1,()) else bif UD a4.length != a0 then some (1,()) else (Zvt k (a3,(),())).bind fun y => bif y.1 then some (1,()) else L1 (UD a4.length,(0:Int),a4,a0,a1,a2,a3,a4)
def ZnN (k:Nat):=Zdg k (ZeK k)
theorem ZBU (k:Nat) (n2:Nat):∀ n,ZsX k n2 n = Zg (fun L3 => Zdj k (Zgx k n2) L3) n:=ZO
theorem ZBT (k:Nat):∀ n,Zgx k n = Zg (fun L2 => Zdi k (ZiI k L2) L2) n:=ZO (fun n v => by rw [show (ZiI k (Zgx k n)) = ZsX k n k from (ZBU k n k).symm]; kernel_rfl)
theorem ZBS (k:Nat):∀ n,ZsW k n = Zg (fun L1 => Zdh k (ZeL k) L1) n:=ZO (fun n v => by rw [show (ZeL k) = Zgx k k from (ZBT k k).symm]; kernel_rfl)
set_option maxHeartbeats 1000000 in
noncomputable def Zvc (k:Nat):ZE k:=Zy 16 Tryz.f16 (ZnO k) QE Z2 ZnN (A:=ZnM) (h:=fun x => by show _ = Zdg k (ZeK k) x; rw [show ZeK k = ZsW k k from (ZBS k k).symm]; kernel_rfl)
abbrev ZMa:List Kd:=[.view ZdX,.view (.int .i64),.view (.int .i64)]
abbrev ZMb:Kd:=.view ZhH
def ZR5:Nat → Ann:=fun id => bif Ja id 3 then ⟨[14,15,13,7,1,2,6],[.cell 7 1 ((Ty.int Jx).sl)]⟩ else ⟨[],[]⟩
noncomputable def ZR6 (k:Nat):ZE k:=Xx 44 Tryz.f44 (fun k => []) ZMa ZMb (A:=ZR5)
abbrev Zyq:List Kd:=[.view ZdX,.view (.int .i64)]
abbrev ZLQ:Kd:=.tup [.view (.sl (.sl (.int .u8))),.view (.int .i64)]
def ZRO:Nat → Ann:=fun id => bif Ja id 8 then ⟨[8,1,2,7],[.slot 7 ((Ty.int UK).sl)]⟩ else ⟨[],[]⟩
noncomputable def ZRP (k:Nat):ZE k:=Xx 20 Tryz.f20 (fun k => [Zvc k,ZnS k,ZXC k,ZR6 k]) Zyq ZLQ (A:=ZRO)
def ZY2:Go.Shelf.Ren:=⟨fun n => match n with | 4 => 101 | _ => 0,fun n => match n with | 22 => 46 | 25 => 5 | 3 => 3 | 4 => 4 | 9 => 9 | 20 => 20 | 0 => 0 | _ => 0,fun n => n⟩
abbrev Zy1:List Kd:=[.view .raw,.view (.int .i64)]
abbrev ZaH:Kd:=.own (.int .u8) false
def ZE2 (k:Nat):Value × Int × Unit → Option (List Int × Unit):=fun x => ZPe x
theorem ZQh:Go.Proofs.Lays8.n4 Tryz.prog ZY2:=by
 constructor <;> first | kernel_rfl | (intro w; kernel_rfl) | exact ⟨"slices.Grow[[]byte,byte]",by kernel_rfl,by kernel_rfl⟩
theorem ZIt (k:Nat):Ctr Tryz.prog k 101 (mk Zy1 ZaH ZE2):=ZPf ZQh Tryz.t5 (by kernel_rfl) (by kernel_rfl) (by kernel_rfl) (by kernel_rfl) rfl rfl (fn:=Tryz.f101) (by kernel_rfl) (by kernel_rfl) (by kernel_rfl)
noncomputable def ZSu (k:Nat):ZE k:=⟨(101,mk Zy1 ZaH ZE2),ZIt k⟩
abbrev ZMf:List Kd:=[.view (.sl (.sl (.int .u8)))]
def ZSb:Nat → Ann:=fun id => bif Ja id 11 then ⟨[26,27,25,6],[]⟩ else bif Ja id 3 then ⟨[10,11,9,3,0],[]⟩ else ⟨[],[]⟩
noncomputable def ZSc (k:Nat):ZE k:=Xx 46 Tryz.f46 (fun k => [ZSu k]) ZMf ZaH (A:=ZSb)
abbrev Zjd:List Kd:=[]
abbrev ZMo:Kd:=.agg [.view (.int .u32),.view (.int .u32),.view (.int .u32),.view (.int .u32),.view (.int .u32),.view (.int .u32),.view (.int .u32),.view (.int .u32),.view (.int .u32),.view (.int .u32),.view (.int .u32),.view (.int .u32),.view (.int .u32),.view (.int .u32),.view (.int .u32),.view (.int .u32),.view (.int .u32),.view (.int .u32),.view (.int .u32),.view (.int .u32),.view (.int .u32),.view (.int .u32),.view (.int .u32),.view (.int .u32),.view (.int .u32),.view (.int .u32),.view (.int .u32),.view (.int .u32),.view (.int .u32),.view (.int .u32),.view (.int .u32),.view (.int .u32),.view (.int .u32),.view (.int .u32),.view (.int .u32),.view (.int .u32),.view (.int .u32),.view (.int .u32),.view (.int .u32),.view (.int .u32),.view (.int .u32),.view (.int .u32),.view (.int .u32),.view (.int .u32),.view (.int .u32),.view (.int .u32),.view (.int .u32),.view (.int .u32),.view (.int .u32),.view (.int .u32),.view (.int .u32),.view (.int .u32),.view (.int .u32),.view (.int .u32),.view (.int .u32),.view (.int .u32),.view (.int .u32),.view (.int .u32),.view (.int .u32),.view (.int .u32),.view (.int .u32),.view (.int .u32),.view (.int .u32),.view (.int .u32)]
def ZCD (k:Nat):Unit → Option ((Int × Int × Int × Int × Int × Int × Int × Int × Int × Int × Int × Int × Int × Int × Int × Int × Int × Int × Int × Int × Int × Int × Int × Int × Int × Int × Int × Int × Int × Int × Int × Int × Int × Int × Int × Int × Int × Int × Int × Int × Int × Int × Int × Int × Int × Int × Int × Int × Int × Int × Int × Int × Int × Int × Int × Int × Int × Int × Int × Int × Int × Int × Int × Int × Unit) × Unit)
 | () => some ((3614090360,3905402710,606105819,3250441966,4118548399,1200080426,2821735955,4249261313,1770035416,2336552879,4294925233,2304563134,1804603682,4254626195,2792965006,1236535329,4129170786,3225465664,643717713,3921069994,3593408605,38016083,3634488961,3889429448,568446438,3275163606,4107603335,1163531501,2850285829,4243563512,1735328473,2368359562,4294588738,2272392833,1839030562,4259657740,2763975236,1272893353,4139469664,3200236656,681279174,3936430074,3572445317,76029189,3654602809,3873151461,530742520,3299628645,4096336452,1126891415,2878612391,4237533241,1700485571,2399980690,4293915773,2240044497,1873313359,4264355552,2734768916,1309151649,4149444226,3174756917,718787259,3951481745,()),())
def ZSm (k:Nat):=ZCD k
set_option maxHeartbeats 1000000 in
noncomputable def ZSn (k:Nat):ZE k:=Zy 75 Tryz.f75 [] Zjd ZMo ZSm
abbrev ZMF:List Kd:=[.view (.int .u32),.view (.int .i64)]
abbrev ZMG:Kd:=.view (.int .u32)
def ZhF (k:Nat):Int × Int × Unit → Option (Int × Unit)
 | (a0,a1,()) => bif decide (0 ≤ UI.wrap ((32:Int) - UI.wrap (UD (UH 64 (UI.wrap a1) &&& UH 64 (31:Int)).toNat))) then some (UW.wrap (UD (UH 32 (UW.wrap (a0 * (2:Int) ^ min (UI.wrap (UD (UH 64 (UI.wrap a1) &&& UH 64 (31:Int)).toNat)).toNat 32)) ||| UH 32 (a0.fdiv ((2:Int) ^ min (UI.wrap ((32:Int) - UI.wrap (UD (UH 64 (UI.wrap a1) &&& UH 64 (31:Int)).toNat))).toNat 32))).toNat),()) else none
def ZdC (k:Nat):=ZhF k
set_option maxHeartbeats 1000000 in
noncomputable def ZSE (k:Nat):ZE k:=Zy 136 Tryz.f136 [] ZMF ZMG ZdC
abbrev ZpA:List Kd:=[.box [.view (.int .u32),.view (.int .u32),.view (.int .u32),.view (.int .u32)],.view (.sl (.int .u8)),.vp (.int .u32)]
abbrev XO:Kd:=.tup []
noncomputable def ZvD (k:Nat):List (ZE k):=[ZSE k]
def ZvE:Nat → List Nat:=fun r => bif Ja r 999997 then [193,195] else []
def ZvB:Nat → Ann:=fun id => bif Ja id 9 then ⟨[76,10,11,12,9,2,6,8,0],[]⟩ else bif Ja id 2 then ⟨[16,1,6,0,2],[]⟩ else ⟨[],[]⟩
abbrev ZyY:=Int × Int × Int × Int × Int × List Int × Int × Int × Int × Int × List Int × List Int
abbrev Zjf:=ZyY → Option (Unit × (Int × Int × Int × Int × Unit) × Unit)
abbrev ZyX:=Int × List Int × List Int × Int × Int × Int × Int × List Int
abbrev Zje:=ZyX → Option (Unit × (Int × Int × Int × Int × Unit) × Unit)
def ZMq:ZyY → St
 | (v0,v1,v2,v3,v4,v5,v6,v7,v8,v9,v10,v11) => St.mk (Zq [(76,Zl v0),(10,AV.val (PV.v (Jv UW v1))),(11,AV.val (PV.v (Jv UW v2))),(12,AV.val (PV.v (Jv UW v3))),(9,AV.val (PV.v (Jv UW v4))),(2,AV.vp (Ty.int UW) v5),(6,AV.el 8192 (Ty.int UW) 0 0),(8,AV.el 8193 (Ty.int Jx) 0 0),(0,AV.bx 0 0)]) (Zp [(0,QQ [AV.val (PV.v (Jv UW v6)),AV.val (PV.v (Jv UW v7)),AV.val (PV.v (Jv UW v8)),AV.val (PV.v (Jv UW v9))]),(8192,RS.live (Res.arr (Ty.int UW) v10 false)),(8193,rsA v11 true)])
def YZ (k:Nat) (L2:Zjf):Zjf
 | (v0,v1,v2,v3,v4,v5,v6,v7,v8,v9,v10,v11) => bif decide (v0 < 64) then bif Jx.wrap (v0.tdiv (16:Int)) == (0:Int) then bif decide (0 ≤ v0 ∧ v0 < 64 ∧ v0.toNat < v5.length) then bif decide (0 ≤ v0.tmod (16:Int) ∧ v0.tmod (16:Int) < 16) then bif decide ((v0.tmod (16:Int)).toNat + (0:Nat) < v10.length) then bif decide (0 ≤ Jx.wrap (v0.tdiv (16:Int)) ∧ Jx.wrap (v0.tdiv (16:Int)) < (4:Int)) then bif decide (0 ≤ v0.tmod (4:Int) ∧ v0.tmod (4:Int) < 4) then bif decide ((v0.tmod (4:Int)).toNat + ((Jx.wrap (v0.tdiv (16:Int))).toNat * (4:Nat) + (0:Nat)) < v11.length) then (ZdC k (UW.wrap (UW.wrap (UW.wrap (v4 + UW.wrap (UD (UH 32 (UW.wrap (UD (UH 32 v1 &&& UH 32 v2).toNat)) ||| UH 32 (UW.wrap (UD (UH 32 (UW.wrap (UD (UH 32 (4294967295:Int) ^^^ UH 32 v1).toNat)) &&& UH 32 v3).toNat))).toNat)) + v5.getD v0.toNat 0) + v10.getD ((v0.tmod (16:Int)).toNat + (0:Nat)) 0),v11.getD ((v0.tmod (4:Int)).toNat + ((Jx.wrap (v0.tdiv (16:Int))).toNat * (4:Nat) + (0:Nat))) 0,())).bind fun y => L2 (Jx.wrap (v0 + 1),UW.wrap (v1 + y.1),v1,v2,v3,v5,v6,v7,v8,v9,v10,v11) else none else none else none else none else none else none else bif Jx.wrap (v0.tdiv (16:Int)) == (1:Int) then bif decide (0 ≤ v0 ∧ v0 < 64 ∧ v0.toNat < v5.length) then bif decide ((0:Int) ≤ (Jx.wrap (Jx.wrap ((5:Int) * v0) + 1)).tmod (16:Int) ∧ (Jx.wrap (Jx.wrap ((5:Int) * v0) + 1)).tmod (16:Int) < 16) then bif decide (((Jx.wrap (Jx.wrap ((5:Int) * v0) + 1)).tmod (16:Int)).toNat + (0:Nat) < v10.length) then bif decide (0 ≤ Jx.wrap (v0.tdiv (16:Int)) ∧ Jx.wrap (v0.tdiv (16:Int)) < (4:Int)) then bif decide (0 ≤ v0.tmod (4:Int) ∧ v0.tmod (4:Int) < 4) then bif decide ((v0.tmod (4:Int)).toNat + ((Jx.wrap (v0.tdiv (16:Int))).toNat * (4:Nat) + (0:Nat)) < v11.length) then (ZdC k (UW.wrap (UW.wrap (UW.wrap (v4 + UW.wrap (UD (UH 32 (UW.wrap (UD (UH 32 v3 &&& UH 32 v1).toNat)) ||| UH 32 (UW.wrap (UD (UH 32 (UW.wrap (UD (UH 32 (4294967295:Int) ^^^ UH 32 v3).toNat)) &&& UH 32 v2).toNat))).toNat)) + v5.getD v0.toNat 0) + v10.getD (((Jx.wrap (Jx.wrap ((5:Int) * v0) + 1)).tmod (16:Int)).toNat + (0:Nat)) 0),v11.getD ((v0.tmod (4:Int)).toNat + ((Jx.wrap (v0.tdiv (16:Int))).toNat * (4:Nat) + (0:Nat))) 0,())).bind fun y => L2 (Jx.wrap (v0 + 1),UW.wrap (v1 + y.1),v1,v2,v3,v5,v6,v7,v8,v9,v10,v11) else none else none else none else none else none else none else bif Jx.wrap (v0.tdiv (16:Int)) == (2:Int) then bif decide (0 ≤ v0 ∧ v0 < 64 ∧ v0.toNat < v5.length) then bif decide ((0:Int) ≤ (Jx.wrap (Jx.wrap ((3:Int) * v0) + 5)).tmod (16:Int) ∧ (Jx.wrap (Jx.wrap ((3:Int) * v0) + 5)).tmod (16:Int) < 16) then bif decide (((Jx.wrap (Jx.wrap ((3:Int) * v0) + 5)).tmod (16:Int)).toNat + (0:Nat) < v10.length) then bif decide (0 ≤ Jx.wrap (v0.tdiv (16:Int)) ∧ Jx.wrap (v0.tdiv (16:Int)) < (4:Int)) then bif decide (0 ≤ v0.tmod (4:Int) ∧ v0.tmod (4:Int) < 4) then bif decide ((v0.tmod (4:Int)).toNat + ((Jx.wrap (v0.tdiv (16:Int))).toNat * (4:Nat) + (0:Nat)) < v11.length) then (ZdC k (UW.wrap (UW.wrap (UW.wrap (v4 + UW.wrap (UD (UH 32 (UW.wrap (UD (UH 32 v1 ^^^ UH 32 v2).toNat)) ^^^ UH 32 v3).toNat)) + v5.getD v0.toNat 0) + v10.getD (((Jx.wrap (Jx.wrap ((3:Int) * v0) + 5)).tmod (16:Int)).toNat + (0:Nat)) 0),v11.getD ((v0.tmod (4:Int)).toNat + ((Jx.wrap (v0.tdiv (16:Int))).toNat * (4:Nat) + (0:Nat))) 0,())).bind fun y => L2 (Jx.wrap (v0 + 1),UW.wrap (v1 + y.1),v1,v2,v3,v5,v6,v7,v8,v9,v10,v11) else none else none else none else none else none else none else bif decide (0 ≤ v0 ∧ v0 < 64 ∧ v0.toNat < v5.length) then bif decide ((0:Int) ≤ (Jx.wrap ((7:Int) * v0)).tmod (16:Int) ∧ (Jx.wrap ((7:Int) * v0)).tmod (16:Int) < 16) then bif decide (((Jx.wrap ((7:Int) * v0)).tmod (16:Int)).toNat + (0:Nat) < v10.length) then bif decide (0 ≤ Jx.wrap (v0.tdiv (16:Int)) ∧ Jx.wrap (v0.tdiv (16:Int)) < (4:Int)) then bif decide (0 ≤ v0.tmod (4:Int) ∧ v0.tmod (4:Int) < 4) then bif decide ((v0.tmod (4:Int)).toNat + ((Jx.wrap (v0.tdiv (16:Int))).toNat * (4:Nat) + (0:Nat)) < v11.length) then (ZdC k (UW.wrap (UW.wrap (UW.wrap (v4 + UW.wrap (UD (UH 32 v2 ^^^ UH 32 (UW.wrap (UD (UH 32 v1 ||| UH 32 (UW.wrap (UD (UH 32 (4294967295:Int) ^^^ UH 32 v3).toNat))).toNat))).toNat)) + v5.getD v0.toNat 0) + v10.getD (((Jx.wrap ((7:Int) * v0)).tmod (16:Int)).toNat + (0:Nat)) 0),v11.getD ((v0.tmod (4:Int)).toNat + ((Jx.wrap (v0.tdiv (16:Int))).toNat * (4:Nat) + (0:Nat))) 0,())).bind fun y => L2 (Jx.wrap (v0 + 1),UW.wrap (v1 + y.1),v1,v2,v3,v5,v6,v7,v8,v9,v10,v11) else none else none else none else none else none else none else some ((),(UW.wrap (v6 + v4),UW.wrap (v7 + v1),UW.wrap (v8 + v2),UW.wrap (v9 + v3),()),())
def Zjg (k:Nat):Zjf:=Zg (fun L2 => YZ k L2) k
noncomputable def Ztj (k:Nat) (n:Nat):=QI (ZvD k) Tryz.f76 ZpA XO [1,1,1,1,0,1,0] [] n ZMq (A:=ZvB) (live:=ZvE) (a:=[AV.bx (nat_lit 0) (nat_lit 0)]) (b:=[[]]) (q:=[0])
def ZMp:ZyX → St
 | (v0,v1,v2,v3,v4,v5,v6,v7) => St.mk (Zq [(16,Zl v0),(1,AV.val (PV.sl (Ty.int UK) v1)),(6,AV.el 8192 (Ty.int UW) 0 0),(0,AV.bx 0 0),(2,AV.vp (Ty.int UW) v2)]) (Zp [(0,QQ [AV.val (PV.v (Jv UW v3)),AV.val (PV.v (Jv UW v4)),AV.val (PV.v (Jv UW v5)),AV.val (PV.v (Jv UW v6))]),(8192,RS.live (Res.arr (Ty.int UW) v7 false))])
def ZaF (k:Nat) (L2:Zjf) (L1:Zje):Zje
 | (v0,v1,v2,v3,v4,v5,v6,v7) => bif decide (v0 < 16) then bif decide (0 ≤ Jx.wrap ((4:Int) * v0) ∧ Jx.wrap ((4:Int) * v0) < UD v1.length) then bif decide (0 ≤ Jx.wrap (Jx.wrap ((4:Int) * v0) + 1) ∧ Jx.wrap (Jx.wrap ((4:Int) * v0) + 1) < UD v1.length) then bif decide (0 ≤ Jx.wrap (Jx.wrap ((4:Int) * v0) + 2) ∧ Jx.wrap (Jx.wrap ((4:Int) * v0) + 2) < UD v1.length) then bif decide (0 ≤ Jx.wrap (Jx.wrap ((4:Int) * v0) + 3) ∧ Jx.wrap (Jx.wrap ((4:Int) * v0) + 3) < UD v1.length) then bif decide (0 ≤ v0 ∧ v0 < 16) then bif decide (v0.toNat + (0:Nat) < v7.length) then L1 (Jx.wrap (v0 + 1),v1,v2,v3,v4,v5,v6,v7.set (v0.toNat + (0:Nat)) (UW.wrap (UD (UH 32 (UW.wrap (UD (UH 32 (UW.wrap (UD (UH 32 (UW.wrap (v1.getD (Jx.wrap ((4:Int) * v0)).toNat 0)) ||| UH 32 (UW.wrap (UW.wrap (v1.getD (Jx.wrap (Jx.wrap ((4:Int) * v0) + 1)).toNat 0) * (256:Int)))).toNat)) ||| UH 32 (UW.wrap (UW.wrap (v1.getD (Jx.wrap (Jx.wrap ((4:Int) * v0) + 2)).toNat 0) * (65536:Int)))).toNat)) ||| UH 32 (UW.wrap (UW.wrap (v1.getD (Jx.wrap (Jx.wrap ((4:Int) * v0) + 3)).toNat 0) * (16777216:Int)))).toNat))) else none else none else none else none else none else none else L2 (0,v4,v5,v6,v3,v2,v3,v4,v5,v6,v7,[(7:Int),(12:Int),(17:Int),(22:Int),(5:Int),(9:Int),(14:Int),(20:Int),(4:Int),(11:Int),(16:Int),(23:Int),(6:Int),(10:Int),(15:Int),(21:Int)])
def Zpz (k:Nat):Zje:=Zg (fun L1 => ZaF k (Zjg k) L1) k
noncomputable def Zti (k:Nat) (n:Nat):=QI (ZvD k) Tryz.f76 ZpA XO [1,0,1,0] [] n ZMp (A:=ZvB) (live:=ZvE) (a:=[AV.bx (nat_lit 0) (nat_lit 0)]) (b:=[[]]) (q:=[0])
def ZpB (k:Nat) (L1:Zje):(Int × Int × Int × Int × Unit) × List Int × List Int × Unit → Option (Unit × (Int × Int × Int × Int × Unit) × Unit)
 | ((a0,a1,a2,a3,()),a4,a5,()) => L1 (0,a4,a5,a0,a1,a2,a3,[(0:Int),(0:Int),(0:Int),(0:Int),(0:Int),(0:Int),(0:Int),(0:Int),(0:Int),(0:Int),(0:Int),(0:Int),(0:Int),(0:Int),(0:Int),(0:Int)])
def ZvC (k:Nat):=ZpB k (Zpz k)
theorem ZCF (k:Nat):∀ n,Ztj k n = Zg (fun L2 => YZ k L2) n:=ZO
theorem ZCE (k:Nat):∀ n,Zti k n = Zg (fun L1 => ZaF k (Zjg k) L1) n:=ZO (fun n v => by rw [show (Zjg k) = Ztj k k from (ZCF k k).symm]; kernel_rfl)
noncomputable def ZSo (k:Nat):ZE k:=Zy 76 Tryz.f76 (ZvD k) ZpA XO ZvC (A:=ZvB) (live:=ZvE) (h:=fun x => by show _ = ZpB k (Zpz k) x; rw [show Zpz k = Zti k k from (ZCE k k).symm]; kernel_rfl)
abbrev XN:List Kd:=[.view (.sl (.int .u8))]
noncomputable def ZiV (k:Nat):List (ZE k):=[ZOf k,ZSn k,ZSo k]
def ZiW:Nat → List Nat:=fun r => bif Ja r 999997 then [128] else []
def ZiQ:Nat → Ann:=fun id => bif Ja id 15 then ⟨[48,47,8],[.slot 8 ((Ty.int UK))]⟩ else bif Ja id 10 then ⟨[3,7,6],[.see 3]⟩ else bif Ja id 6 then ⟨[5,3,4],[]⟩ else bif Ja id 2 then ⟨[3,0],[]⟩ else ⟨[],[]⟩
abbrev ZyB:=Int × Int × Int × Int × Int × List Int
abbrev ZiT:=ZyB → Option (ByteArray × Unit)
abbrev ZyA:=List Int × List Int × Int × Int × Int × Int
abbrev ZiS:=ZyA → Option (ByteArray × Unit)
abbrev Zpq:=Int × Int × List Int
abbrev Kt:=Zpq → Option (ByteArray × Unit)
abbrev Zyz:=List Int × List Int
abbrev ZiR:=Zyz → Option (ByteArray × Unit)
def ZL2:ZyB → St
 | (v0,v1,v2,v3,v4,v5) => St.mk (Zq [(48,Zl v0),(47,AV.agg [AV.val (PV.v (Jv UW v1)),AV.val (PV.v (Jv UW v2)),AV.val (PV.v (Jv UW v3)),AV.val (PV.v (Jv UW v4))]),(8,AV.own 8192)]) (Zp [(8192,RS.live (Res.arr (Ty.int UK) v5 false))])
def Zat (k:Nat) (L4:ZiT):ZiT
 | (v0,v1,v2,v3,v4,v5) => bif decide (v0 < 4) then bif decide (0 ≤ v0 ∧ v0 < 4) then bif decide (v5.length + [UK.wrap ([v1,v2,v3,v4].getD v0.toNat (0:Int)),UK.wrap (([v1,v2,v3,v4].getD v0.toNat (0:Int)).fdiv (256:Int)),UK.wrap (([v1,v2,v3,v4].getD v0.toNat (0:Int)).fdiv (65536:Int)),UK.wrap (([v1,v2,v3,v4].getD v0.toNat (0:Int)).fdiv (16777216:Int))].length < 2147483648) then L4 (Jx.wrap (v0 + 1),v1,v2,v3,v4,v5 ++ [UK.wrap ([v1,v2,v3,v4].getD v0.toNat (0:Int)),UK.wrap (([v1,v2,v3,v4].getD v0.toNat (0:Int)).fdiv (256:Int)),UK.wrap (([v1,v2,v3,v4].getD v0.toNat (0:Int)).fdiv (65536:Int)),UK.wrap (([v1,v2,v3,v4].getD v0.toNat (0:Int)).fdiv (16777216:Int))]) else none else none else some (UR (UT (fun n => UX n.toNat) v5).toArray,())
def Zcq (k:Nat):ZiT:=Zg (fun L4 => Zat k L4) k
noncomputable def Zs5 (k:Nat) (n:Nat):=QI (ZiV k) Tryz.f35 XN Qf [1,1,1,1,1,1,1,1,0,1,0] [] n ZL2 (A:=ZiQ) (live:=ZiW)
def ZL1:ZyA → St
 | (v0,v1,v2,v3,v4,v5) => St.mk (Zq [(3,AV.val (PV.sl (Ty.int UK) v0)),(7,AV.el 8192 (Ty.int UW) 0 0),(6,AV.bx 8193 0)]) (Zp [(8192,RS.live (Res.arr (Ty.int UW) v1 true)),(8193,QQ [AV.val (PV.v (Jv UW v2)),AV.val (PV.v (Jv UW v3)),AV.val (PV.v (Jv UW v4)),AV.val (PV.v (Jv UW v5))])])
def Zas (k:Nat) (L4:ZiT) (L3:ZiS):ZiS
 | (v0,v1,v2,v3,v4,v5) => bif decide ((0:Int) < UD v0.length) then bif decide ((0:Int) ≤ 0 ∧ (0:Int) ≤ 64 ∧ (64:Int) ≤ UD v0.length) then bif decide ((0:Nat) < v1.length) then (ZvC k ((v2,v3,v4,v5,()),UM 0 (UL 64 v0),v1,())).bind fun y => bif decide ((0:Int) ≤ 64 ∧ (64:Int) ≤ UD v0.length ∧ UD v0.length ≤ UD v0.length) then L3 (UM 64 (UL (UD v0.length).toNat v0),v1,y.2.1.1,y.2.1.2.1,y.2.1.2.2.1,y.2.1.2.2.2.1) else none else none else none else L4 (0,v2,v3,v4,v5,[])
def ZiU (k:Nat):ZiS:=Zg (fun L3 => Zas k (Zcq k) L3) k
noncomputable def Zs4 (k:Nat) (n:Nat):=QI (ZiV k) Tryz.f35 XN Qf [1,1,1,1,1,1,0,0] [] n ZL1 (A:=ZiQ) (live:=ZiW)
def ZL0:Zpq → St
 | (v0,v1,v2) => St.mk (Zq [(5,Zl v0),(3,AV.own 8192),(4,AV.val (PV.v (Jv UI v1)))]) (Zp [(8192,RS.live (Res.arr (Ty.int UK) v2 false))])
def Zar (k:Nat) (L3:ZiS) (L2:Kt):Kt
 | (v0,v1,v2) => bif decide (v0 < 64) then bif decide (0 ≤ v0) then bif decide (v2.length + [UK.wrap (v1.fdiv ((2:Int) ^ min v0.toNat 64))].length < 2147483648) then L2 (Jx.wrap (v0 + 8),v1,v2 ++ [UK.wrap (v1.fdiv ((2:Int) ^ min v0.toNat 64))]) else none else none else L3 (v2,[3614090360,3905402710,606105819,3250441966,4118548399,1200080426,2821735955,4249261313,1770035416,2336552879,4294925233,2304563134,1804603682,4254626195,2792965006,1236535329,4129170786,3225465664,643717713,3921069994,3593408605,38016083,3634488961,3889429448,568446438,3275163606,4107603335,1163531501,2850285829,4243563512,1735328473,2368359562,4294588738,2272392833,1839030562,4259657740,2763975236,1272893353,4139469664,3200236656,681279174,3936430074,3572445317,76029189,3654602809,3873151461,530742520,3299628645,4096336452,1126891415,2878612391,4237533241,1700485571,2399980690,4293915773,2240044497,1873313359,4264355552,2734768916,1309151649,4149444226,3174756917,718787259,3951481745],(1732584193:Int),(4023233417:Int),(2562383102:Int),(271733878:Int))
def Zpp (k:Nat):Kt:=Zg (fun L2 => Zar k (ZiU k) L2) k
noncomputable def Zs3 (k:Nat) (n:Nat):=QI (ZiV k) Tryz.f35 XN Qf [1,1,1,1,0,1,0] [] n ZL0 (A:=ZiQ) (live:=ZiW)
def ZLZ:Zyz → St
 | (v0,v1) => St.mk (Zq [(3,AV.own 8192),(0,AV.val (PV.sl (Ty.int UK) v0))]) (Zp [(8192,RS.live (Res.arr (Ty.int UK) v1 false))])
def Xr (k:Nat) (L2:Kt) (L1:ZiR):ZiR
 | (v0,v1) => bif (UD v1.length).tmod (64:Int) != 56 then bif decide (v1.length + (1:Nat) < (2147483648:Nat)) then L1 (v0,v1 ++ [(0:Int)]) else none else L2 (0,UI.wrap (UI.wrap (UD v0.length) * (8:Int)),v1)
def Zpo (k:Nat):ZiR:=Zg (fun L1 => Xr k (Zpp k) L1) k
noncomputable def Zs2 (k:Nat) (n:Nat):=QI (ZiV k) Tryz.f35 XN Qf [1,1,0,0] [] n ZLZ (A:=ZiQ) (live:=ZiW)
def Zdq (k:Nat) (L1:ZiR):List Int × Unit → Option (ByteArray × Unit)
 | (a0,()) => (ZjJ k (a0,())).bind fun y => bif decide (UO y.1 + (1:Nat) < 2147483648) then L1 (a0,y.1 ++ [(128:Int)]) else none
def ZnT (k:Nat):=Zdq k (Zpo k)
theorem ZCf (k:Nat):∀ n,Zs5 k n = Zg (fun L4 => Zat k L4) n:=ZO
theorem ZCe (k:Nat):∀ n,Zs4 k n = Zg (fun L3 => Zas k (Zcq k) L3) n:=ZO (fun n v => by rw [show (Zcq k) = Zs5 k k from (ZCf k k).symm]; kernel_rfl)
theorem ZCd (k:Nat):∀ n,Zs3 k n = Zg (fun L2 => Zar k (ZiU k) L2) n:=ZO (fun n v => by rw [show (ZiU k) = Zs4 k k from (ZCe k k).symm]; kernel_rfl)
theorem ZCc (k:Nat):∀ n,Zs2 k n = Zg (fun L1 => Xr k (Zpp k) L1) n:=ZO (fun n v => by rw [show (Zpp k) = Zs3 k k from (ZCd k k).symm]; kernel_rfl)
noncomputable def ZRY (k:Nat):ZE k:=Zy 35 Tryz.f35 (ZiV k) XN Qf ZnT (A:=ZiQ) (live:=ZiW) (h:=fun x => by show _ = Zdq k (Zpo k) x; rw [show Zpo k = Zs2 k k from (ZCc k k).symm]; kernel_rfl)
abbrev ZiG:Kd:=.tup [.view .str,.view (.int .i64)]
noncomputable def ZnL (k:Nat):List (ZE k):=[Zvc k,ZnS k,ZRY k]
def ZnK:Nat → Ann:=fun id => bif Ja id 12 then ⟨[9,1,5,8,6,23,22,21,17,16],[.slot 5 ((Ty.int UK))]⟩ else bif Ja id 9 then ⟨[22,23,21,1,5,6,17,16],[.slot 5 ((Ty.int UK))]⟩ else bif Ja id 6 then ⟨[16,17,1,5],[.slot 5 ((Ty.int UK))]⟩ else ⟨[],[]⟩
abbrev Zym:=Int × List Int × Int × Int × Int × List (List Int) × Int × Int × Int × Int × Int × List ByteArray × List (List Int) × List Int
abbrev ZiD:=Zym → Option ((ByteArray × Int × Unit) × Unit)
abbrev Zyl:=Int × Int × List (List Int) × Int × Int × Int × Int × Int × Int × List ByteArray × List (List Int) × List Int
abbrev Zcj:=Zyl → Option ((ByteArray × Int × Unit) × Unit)
abbrev ZiF:=Int × Int × Int × Int × Int × List ByteArray × List (List Int) × List Int
abbrev Kq:=ZiF → Option ((ByteArray × Int × Unit) × Unit)
def ZLJ:Zym → St
 | (v0,v1,v2,v3,v4,v5,v6,v7,v8,v9,v10,v11,v12,v13) => St.mk (Zq [(9,Zl v0),(1,AV.bx 8192 0),(5,AV.own 8193),(8,avL v1),(6,Zl v2),(23,Zl v3),(22,Zl v4),(21,AV.val (PV.sl (Ty.int Jx).sl v5)),(17,Zl v6),(16,Zl v7)]) (Zp [(8192,QQ [Zl v8,Zl v9,Zl v10,AV.val (PV.sl Ty.str v11),AV.val (PV.sl (Ty.int Jx).sl v12)]),(8193,RS.live (Res.arr (Ty.int UK) v13 false))])
def Zaj (k:Nat) (L1:Kq) (L2:Zcj) (L3:ZiD):ZiD
 | (v0,v1,v2,v3,v4,v5,v6,v7,v8,v9,v10,v11,v12,v13) => bif decide (v0 < v9) then bif decide (0 ≤ v2 ∧ v2 < UD v1.length) then bif decide (0 ≤ v0) then bif decide (v13.length + [UK.wrap (UP (v1.getD v2.toNat 0) ((2:Int) ^ min v0.toNat 64))].length < 2147483648) then L3 (Jx.wrap (v0 + 8),v1,v2,v3,v4,v5,v6,v7,v8,v9,v10,v11,v12,v13 ++ [UK.wrap (UP (v1.getD v2.toNat 0) ((2:Int) ^ min v0.toNat 64))]) else none else none else none else L2 (v4,Jx.wrap (v3 + 1),v5,v2,v6,v7,v8,v9,v10,v11,v12,v13)
def ZiE (k:Nat) (L1:Kq) (L2:Zcj):ZiD:=Zg (fun L3 => Zaj k L1 L2 L3) k
noncomputable def ZsV (k:Nat) (n1 n2:Nat) (n:Nat):=QI (ZnL k) Tryz.f14 QE ZiG [1,1,1,0,1,0,0,1,1,0,0,1,1,0,0,1,1,0,0,1,1,0] [n1,n2] n ZLJ (A:=ZnK)
def ZLI:Zyl → St
 | (v0,v1,v2,v3,v4,v5,v6,v7,v8,v9,v10,v11) => St.mk (Zq [(22,Zl v0),(23,Zl v1),(21,AV.val (PV.sl (Ty.int Jx).sl v2)),(1,AV.bx 8192 0),(5,AV.own 8193),(6,Zl v3),(17,Zl v4),(16,Zl v5)]) (Zp [(8192,QQ [Zl v6,Zl v7,Zl v8,AV.val (PV.sl Ty.str v9),AV.val (PV.sl (Ty.int Jx).sl v10)]),(8193,RS.live (Res.arr (Ty.int UK) v11 false))])
def Zai (k:Nat) (L3:ZiD) (L1:Kq) (L2:Zcj):Zcj
 | (v0,v1,v2,v3,v4,v5,v6,v7,v8,v9,v10,v11) => bif decide (v1 < v0) then bif decide (0 ≤ v1 ∧ v1 < UD v2.length) then L3 (0,v2.getD v1.toNat [],v3,v1,v0,v2,v4,v5,v6,v7,v8,v9,v10,v11) else none else L1 (v5,Jx.wrap (v4 + 1),v6,v7,v8,v9,v10,v11)
def ZeJ (k:Nat) (L1:Kq):Zcj:=Zg (fun L2 => Zai k (ZiE k L1 L2) L1 L2) k
noncomputable def Zgw (k:Nat) (n1:Nat) (n:Nat):=QI (ZnL k) Tryz.f14 QE ZiG [1,1,1,0,1,0,0,1,1,0,0,1,1,0] [n1] n ZLI (A:=ZnK)
def ZLH:ZiF → St
 | (v0,v1,v2,v3,v4,v5,v6,v7) => St.mk (Zq [(16,Zl v0),(17,Zl v1),(1,AV.bx 8192 0),(5,AV.own 8193)]) (Zp [(8192,QQ [Zl v2,Zl v3,Zl v4,AV.val (PV.sl Ty.str v5),AV.val (PV.sl (Ty.int Jx).sl v6)]),(8193,RS.live (Res.arr (Ty.int UK) v7 false))])
def Zah (k:Nat) (L2:Zcj) (L1:Kq):Kq
 | (v0,v1,v2,v3,v4,v5,v6,v7) => bif decide (v1 < v0) then L2 (UD v6.length,(0:Int),v6,v1,v1,v0,v2,v3,v4,v5,v6,v7) else (ZnT k (v7,())).bind fun y => some ((y.1,0,()),())
def Zpk (k:Nat):Kq:=Zg (fun L1 => Zah k (ZeJ k L1) L1) k
noncomputable def YO (k:Nat) (n:Nat):=QI (ZnL k) Tryz.f14 QE ZiG [1,1,1,0,1,0] [] n ZLH (A:=ZnK)
def Zdf (k:Nat) (L1:Kq):((Int × Int × Int × Unit) × List ByteArray × List (List Int) × Unit) × Unit → Option ((ByteArray × Int × Unit) × Unit)
 | (((a0,a1,a2,()),a3,a4,()),()) => (ZnN k (((a0,a1,a2,()),a3,a4,()),())).bind fun y => bif y.1 != 0 then some ((UR #[],y.1,()),()) else (Zdp k (((a0,a1,a2,()),a3,a4,()),())).bind fun y => L1 (y.1,(0:Int),a0,a1,a2,a3,a4,[])
def ZiC (k:Nat):=Zdf k (Zpk k)
theorem ZBQ (k:Nat) (n1 n2:Nat):∀ n,ZsV k n1 n2 n = Zg (fun L3 => Zaj k (YO k n1) (Zgw k n1 n2) L3) n:=ZO
theorem ZBP (k:Nat) (n1:Nat):∀ n,Zgw k n1 n = Zg (fun L2 => Zai k (ZiE k (YO k n1) L2) (YO k n1) L2) n:=ZO (fun n v => by rw [show (ZiE k (YO k n1) (Zgw k n1 n)) = ZsV k n1 n k from (ZBQ k n1 n k).symm]; kernel_rfl)
theorem ZBO (k:Nat):∀ n,YO k n = Zg (fun L1 => Zah k (ZeJ k L1) L1) n:=ZO (fun n v => by rw [show (ZeJ k (YO k n)) = Zgw k n k from (ZBP k n k).symm]; kernel_rfl)
noncomputable def ZRI (k:Nat):ZE k:=Zy 14 Tryz.f14 (ZnL k) QE ZiG ZiC (A:=ZnK) (h:=fun x => by show _ = Zdf k (Zpk k) x; rw [show Zpk k = YO k k from (ZBO k k).symm]; kernel_rfl)
abbrev Zy3:List Kd:=[.box [.own (.int .u8) false,.view (.int .i64)],.view .str]
noncomputable def ZE4 (k:Nat):List (ZE k):=[ZpS k]
def ZE3:Nat → Ann:=fun id => bif Ja id 1 then ⟨[6,7,0,1],[]⟩ else ⟨[],[]⟩
abbrev Zy2:=Int × Int × ByteArray × Int × List Int
abbrev Zjk:=Zy2 → Option (Unit × (List Int × Int × Unit) × Unit)
def ZMy:Zy2 → St
 | (v0,v1,v2,v3,v4) => St.mk (Zq [(6,Zl v0),(7,Zl v1),(0,AV.bx 0 0),(1,AV.val (PV.v (UN v2)))]) (Zp [(0,QQ [AV.own 8192,Zl v3]),(8192,RS.live (Res.arr (Ty.int UK) v4 false))])
def ZaI (k:Nat) (L1:Zjk):Zjk
 | (v0,v1,v2,v3,v4) => bif decide (v1 < v0) then bif decide (0 ≤ v1 ∧ v1 < UD v2.size) then (QB k ((v4,v3,()),Jx.wrap (UD (v2.data.toList.getD v1.toNat 0).toNat),8,())).bind fun y => L1 (v0,Jx.wrap (v1 + 1),v2,y.2.1.2.1,y.2.1.1) else none else some ((),(v4,v3,()),())
def ZpE (k:Nat):Zjk:=Zg (fun L1 => ZaI k L1) k
noncomputable def Ztl (k:Nat) (n:Nat):=QI (ZE4 k) Tryz.f102 Zy3 XO [1,0] [] n ZMy (A:=ZE3) (a:=[AV.bx (nat_lit 0) (nat_lit 0)]) (b:=[[]]) (q:=[0])
def ZpF (k:Nat) (L1:Zjk):(List Int × Int × Unit) × ByteArray × Unit → Option (Unit × (List Int × Int × Unit) × Unit)
 | ((a0,a1,()),a2,()) => L1 (UD a2.size,(0:Int),a2,a1,a0)
def Zbt (k:Nat):=ZpF k (ZpE k)
theorem ZCO (k:Nat):∀ n,Ztl k n = Zg (fun L1 => ZaI k L1) n:=ZO
noncomputable def ZSv (k:Nat):ZE k:=Zy 102 Tryz.f102 (ZE4 k) Zy3 XO Zbt (A:=ZE3) (h:=fun x => by show _ = ZpF k (ZpE k) x; rw [show ZpE k = Ztl k k from (ZCO k k).symm]; kernel_rfl)
abbrev ZMz:List Kd:=[.box [.own (.int .u8) false,.view (.int .i64)],.view (.int .i64),.view (.int .i64),.view (.int .i64)]
def ZhA (k:Nat):(List Int × Int × Unit) × Int × Int × Int × Unit → Option (Unit × (List Int × Int × Unit) × Unit)
 | ((a0,a1,()),a2,a3,a4,()) => (QB k ((a0,a1,()),a2,1,())).bind fun y => (QB k ((y.2.1.1,y.2.1.2.1,()),a3,7,())).bind fun y => (QB k ((y.2.1.1,y.2.1.2.1,()),a4,24,())).bind fun y => some ((),(y.2.1.1,y.2.1.2.1,()),())
def Zdy (k:Nat):=ZhA k
noncomputable def ZSw (k:Nat):ZE k:=Zy 103 Tryz.f103 [ZpS k] ZMz XO Zdy
abbrev Zjm:List Kd:=[.view (.sl (.int .i64))]
noncomputable def ZE5 (k:Nat):List (ZE k):=[]
def Zn0:Nat → Ann:=fun id => bif Ja id 5 then ⟨[4,0,3],[]⟩ else ⟨[],[]⟩
abbrev ZpG:=Int × List Int × Int
abbrev Kx:=ZpG → Option (Int × Unit)
def ZMA:ZpG → St
 | (v0,v1,v2) => St.mk (Zq [(4,Zl v0),(0,avL v1),(3,Zl v2)]) (Zp [])
def ZaJ (k:Nat) (L1:Kx):Kx
 | (v0,v1,v2) => bif decide (v0 < UD v1.length) then bif decide (0 ≤ v0 ∧ v0 < UD v1.length) then L1 (Jx.wrap (v0 + 1),v1,if v1.getD v0.toNat 0 < v2 then v1.getD v0.toNat 0 else v2) else none else some (v2,())
def Zjl (k:Nat):Kx:=Zg (fun L1 => ZaJ k L1) k
noncomputable def Ztm (k:Nat) (n:Nat):=QI (ZE5 k) Tryz.f104 Zjm Z2 [1,1,1,0,1,0] [] n ZMA (A:=Zn0)
def Zdz (k:Nat) (L1:Kx):List Int × Unit → Option (Int × Unit)
 | (a0,()) => bif decide (UD a0.length < (1:Int)) then none else bif decide ((0:Int) ≤ 0 ∧ (0:Int) < UD a0.length) then L1 (1,a0,a0.getD 0 0) else none
def ZvJ (k:Nat):=Zdz k (Zjl k)
theorem ZCP (k:Nat):∀ n,Ztm k n = Zg (fun L1 => ZaJ k L1) n:=ZO
noncomputable def ZSx (k:Nat):ZE k:=Zy 104 Tryz.f104 (ZE5 k) Zjm Z2 ZvJ (A:=Zn0) (h:=fun x => by show _ = Zdz k (Zjl k) x; rw [show Zjl k = Ztm k k from (ZCP k k).symm]; kernel_rfl)
noncomputable def ZE6 (k:Nat):List (ZE k):=[]
def ZMB:ZpG → St
 | (v0,v1,v2) => St.mk (Zq [(4,Zl v0),(0,avL v1),(3,Zl v2)]) (Zp [])
def ZaK (k:Nat) (L1:Kx):Kx
 | (v0,v1,v2) => bif decide (v0 < UD v1.length) then bif decide (0 ≤ v0 ∧ v0 < UD v1.length) then L1 (Jx.wrap (v0 + 1),v1,if v2 < v1.getD v0.toNat 0 then v1.getD v0.toNat 0 else v2) else none else some (v2,())
def Zjn (k:Nat):Kx:=Zg (fun L1 => ZaK k L1) k
noncomputable def Ztn (k:Nat) (n:Nat):=QI (ZE6 k) Tryz.f105 Zjm Z2 [1,1,1,0,1,0] [] n ZMB (A:=Zn0)
def ZdA (k:Nat) (L1:Kx):List Int × Unit → Option (Int × Unit)
 | (a0,()) => bif decide (UD a0.length < (1:Int)) then none else bif decide ((0:Int) ≤ 0 ∧ (0:Int) < UD a0.length) then L1 (1,a0,a0.getD 0 0) else none
def ZvK (k:Nat):=ZdA k (Zjn k)
theorem ZCR (k:Nat):∀ n,Ztn k n = Zg (fun L1 => ZaK k L1) n:=ZO
noncomputable def ZSy (k:Nat):ZE k:=Zy 105 Tryz.f105 (ZE6 k) Zjm Z2 ZvK (A:=Zn0) (h:=fun x => by show _ = ZdA k (Zjn k) x; rw [show Zjn k = Ztn k k from (ZCR k k).symm]; kernel_rfl)
abbrev Zy5:List Kd:=[.box [.own (.int .u8) false,.view (.int .i64)],.view (.int .i64)]
noncomputable def ZE9 (k:Nat):List (ZE k):=[ZpS k]
def ZE8:Nat → Ann:=fun id => bif Ja id 1 then ⟨[4,0,1],[]⟩ else ⟨[],[]⟩
abbrev Zy4:=Int × Int × Int × List Int
abbrev Zjp:=Zy4 → Option (Unit × (List Int × Int × Unit) × Unit)
def ZMC:Zy4 → St
 | (v0,v1,v2,v3) => St.mk (Zq [(4,Zl v0),(0,AV.bx 0 0),(1,Zl v1)]) (Zp [(0,QQ [AV.own 8192,Zl v2]),(8192,RS.live (Res.arr (Ty.int UK) v3 false))])
def ZdB (k:Nat) (L1:Zjp):Zjp
 | (v0,v1,v2,v3) => bif decide (v0 < 32) then bif decide (0 ≤ v0) then (QB k ((v3,v2,()),Jx.wrap (UD (UH 64 (v1.fdiv ((2:Int) ^ min v0.toNat 64)) &&& UH 64 (255:Int)).toNat),8,())).bind fun y => L1 (Jx.wrap (v0 + 8),v1,y.2.1.2.1,y.2.1.1) else none else some ((),(v3,v2,()),())
def ZpH (k:Nat):Zjp:=Zg (fun L1 => ZdB k L1) k
noncomputable def Zto (k:Nat) (n:Nat):=QI (ZE9 k) Tryz.f106 Zy5 XO [1,0] [] n ZMC (A:=ZE8) (a:=[AV.bx (nat_lit 0) (nat_lit 0)]) (b:=[[]]) (q:=[0])
def ZpI (k:Nat) (L1:Zjp):(List Int × Int × Unit) × Int × Unit → Option (Unit × (List Int × Int × Unit) × Unit)
 | ((a0,a1,()),a2,()) => L1 (0,a2,a1,a0)
def Zjo (k:Nat):=ZpI k (ZpH k)
theorem ZCT (k:Nat):∀ n,Zto k n = Zg (fun L1 => ZdB k L1) n:=ZO
noncomputable def ZSz (k:Nat):ZE k:=Zy 106 Tryz.f106 (ZE9 k) Zy5 XO Zjo (A:=ZE8) (h:=fun x => by show _ = ZpI k (ZpH k) x; rw [show ZpH k = Zto k k from (ZCT k k).symm]; kernel_rfl)
abbrev Kw:List Kd:=[.view ZdX,.view (.int .i64),.view (.sl (.int .i64))]
noncomputable def ZnY (k:Nat):List (ZE k):=[ZRI k,ZnS k,ZTx k,ZpS k,ZTz k,ZSv k,ZSw k,ZSx k,ZSy k,ZSz k]
def ZnX:Nat → Ann:=fun id => bif Ja id 42 then ⟨[143,144,142,7],[]⟩ else bif Ja id 33 then ⟨[118,119,117,15,7,3],[]⟩ else bif Ja id 22 then ⟨[84,85,83,7,1,12,3],[]⟩ else ⟨[],[]⟩
abbrev ZyP:=Int × Int × List ByteArray × Int × List Int
abbrev Zi7:=ZyP → Option (List Int × Unit)
abbrev ZyO:=Int × Int × List ByteArray × Int × Int × List Int × Int × Int × Int × List ByteArray × List (List Int)
abbrev ZeQ:=ZyO → Option (List Int × Unit)
abbrev ZyN:=Int × Int × List Int × Int × Int × Int × List Int × Int × Int × Int × List ByteArray × List (List Int)
abbrev Zi6:=ZyN → Option (List Int × Unit)
def ZMi:ZyP → St
 | (v0,v1,v2,v3,v4) => St.mk (Zq [(143,Zl v0),(144,Zl v1),(142,AV.val (PV.sl Ty.str v2)),(7,AV.bx 8192 0)]) (Zp [(8192,QQ [AV.own 8193,Zl v3]),(8193,RS.live (Res.arr (Ty.int UK) v4 false))])
def ZaA (k:Nat) (L3:Zi7):Zi7
 | (v0,v1,v2,v3,v4) => bif decide (v1 < v0) then bif decide (0 ≤ v1 ∧ v1 < UD v2.length) then (Zjo k ((v4,v3,()),UD (UQ (v2.getD v1.toNat (UR #[]))),())).bind fun y => (Zbt k ((y.2.1.1,y.2.1.2.1,()),v2.getD v1.toNat (UR #[]),())).bind fun y => L3 (v0,Jx.wrap (v1 + 1),v2,y.2.1.2.1,y.2.1.1) else none else (ZMW k ((v4,v3,()),())).bind fun y => some (y.1,())
def ZeS (k:Nat):Zi7:=Zg (fun L3 => ZaA k L3) k
noncomputable def Zte (k:Nat) (n:Nat):=QI (ZnY k) Tryz.f47 Kw ZaH [1,1,1,1,1,1,1,1,1,1,1,1,1,1,1,1,1,1,1,1,1,1,1,1,0,1,0] [] n ZMi (A:=ZnX)
def ZMh:ZyO → St
 | (v0,v1,v2,v3,v4,v5,v6,v7,v8,v9,v10) => St.mk (Zq [(118,Zl v0),(119,Zl v1),(117,AV.val (PV.sl Ty.str v2)),(15,Zl v3),(7,AV.bx 8192 0),(3,AV.bx 8194 0)]) (Zp [(8192,QQ [AV.own 8193,Zl v4]),(8193,RS.live (Res.arr (Ty.int UK) v5 false)),(8194,QQ [Zl v6,Zl v7,Zl v8,AV.val (PV.sl Ty.str v9),AV.val (PV.sl (Ty.int Jx).sl v10)])])
def Zaz (k:Nat) (L3:Zi7) (L2:ZeQ):ZeQ
 | (v0,v1,v2,v3,v4,v5,v6,v7,v8,v9,v10) => bif decide (v1 < v0) then bif decide (0 ≤ v1 ∧ v1 < UD v2.length) then L2 (v0,Jx.wrap (v1 + 1),v2,Jx.wrap (v3 + Jx.wrap ((4:Int) + UD (UQ (v2.getD v1.toNat (UR #[]))))),v4,v5,v6,v7,v8,v9,v10) else none else (Zdy k ((v5,v4,()),1,4,v3,())).bind fun y => (Zjo k ((y.2.1.1,y.2.1.2.1,()),7,())).bind fun y => (Zbt k ((y.2.1.1,y.2.1.2.1,()),UR #[115,104,101,108,108,97,99],())).bind fun y => (Zjo k ((y.2.1.1,y.2.1.2.1,()),UD v9.length,())).bind fun y => L3 (UD v9.length,(0:Int),v9,y.2.1.2.1,y.2.1.1)
def Ym (k:Nat):ZeQ:=Zg (fun L2 => Zaz k (ZeS k) L2) k
noncomputable def Zlo (k:Nat) (n:Nat):=QI (ZnY k) Tryz.f47 Kw ZaH [1,1,1,1,1,1,1,1,1,1,1,1,1,1,1,1,1,1,1,0,1,0] [] n ZMh (A:=ZnX)
def ZMg:ZyN → St
 | (v0,v1,v2,v3,v4,v5,v6,v7,v8,v9,v10,v11) => St.mk (Zq [(84,Zl v0),(85,Zl v1),(83,avL v2),(7,AV.bx 8192 0),(1,Zl v3),(12,Zl v4),(3,AV.bx 8194 0)]) (Zp [(8192,QQ [AV.own 8193,Zl v5]),(8193,RS.live (Res.arr (Ty.int UK) v6 false)),(8194,QQ [Zl v7,Zl v8,Zl v9,AV.val (PV.sl Ty.str v10),AV.val (PV.sl (Ty.int Jx).sl v11)])])
def Zay (k:Nat) (L2:ZeQ) (L1:Zi6):Zi6
 | (v0,v1,v2,v3,v4,v5,v6,v7,v8,v9,v10,v11) => bif decide (v1 < v0) then bif decide (0 ≤ v1 ∧ v1 < UD v2.length) then (QB k ((v6,v5,()),0,32,())).bind fun y => (QB k ((y.2.1.1,y.2.1.2.1,()),Jx.wrap (v1 * v3),32,())).bind fun y => (QB k ((y.2.1.1,y.2.1.2.1,()),0,32,())).bind fun y => (QB k ((y.2.1.1,y.2.1.2.1,()),v4,32,())).bind fun y => (Zdp k (((v7,v8,v9,()),v10,v11,()),())).bind fun y_1 => (QB k ((y.2.1.1,y.2.1.2.1,()),if Jx.wrap (y_1.1 - Jx.wrap (v1 * v3)) < v3 then Jx.wrap (y_1.1 - Jx.wrap (v1 * v3)) else v3,16,())).bind fun y => L1 (v0,Jx.wrap (v1 + 1),v2,v3,Jx.wrap (v4 + v2.getD v1.toNat 0),y.2.1.2.1,y.2.1.1,v7,v8,v9,v10,v11) else none else L2 (UD v10.length,(0:Int),v10,(15:Int),v5,v6,v7,v8,v9,v10,v11)
def ZeR (k:Nat):Zi6:=Zg (fun L1 => Zay k (Ym k) L1) k
noncomputable def Ztd (k:Nat) (n:Nat):=QI (ZnY k) Tryz.f47 Kw ZaH [1,1,1,1,1,1,1,1,1,1,1,1,1,1,1,1,1,0,1,0,1,1,1,0] [] n ZMg (A:=ZnX)
def Zdt (k:Nat) (L1:Zi6) (L2:ZeQ):((Int × Int × Int × Unit) × List ByteArray × List (List Int) × Unit) × Int × List Int × Unit → Option (List Int × Unit)
 | (((a0,a1,a2,()),a3,a4,()),a5,a6,()) => (ZMP k ()).bind fun y => (Zbt k ((y.1.1,y.1.2.1,()),UR #[102,76,97,67],())).bind fun y => (Zdy k ((y.2.1.1,y.2.1.2.1,()),0,0,34,())).bind fun y => bif decide ((0:Int) < UD a6.length) then (ZvJ k (a6,())).bind fun y_1 => (ZvK k (a6,())).bind fun y_2 => (QB k ((y.2.1.1,y.2.1.2.1,()),a5,16,())).bind fun y => (QB k ((y.2.1.1,y.2.1.2.1,()),a5,16,())).bind fun y => (QB k ((y.2.1.1,y.2.1.2.1,()),y_1.1,24,())).bind fun y => (QB k ((y.2.1.1,y.2.1.2.1,()),y_2.1,24,())).bind fun y => (QB k ((y.2.1.1,y.2.1.2.1,()),a2,20,())).bind fun y => (QB k ((y.2.1.1,y.2.1.2.1,()),Jx.wrap (a0 - 1),3,())).bind fun y => (QB k ((y.2.1.1,y.2.1.2.1,()),Jx.wrap (a1 - 1),5,())).bind fun y => (QB k ((y.2.1.1,y.2.1.2.1,()),0,4,())).bind fun y => (Zdp k (((a0,a1,a2,()),a3,a4,()),())).bind fun y_3 => (QB k ((y.2.1.1,y.2.1.2.1,()),y_3.1,32,())).bind fun y => (ZiC k (((a0,a1,a2,()),a3,a4,()),())).bind fun y_4 => (Zbt k ((y.2.1.1,y.2.1.2.1,()),y_4.1.1,())).bind fun y => bif decide ((1:Int) < UD a6.length) then (Zdy k ((y.2.1.1,y.2.1.2.1,()),0,3,Jx.wrap ((18:Int) * UD a6.length),())).bind fun y => L1 (UD a6.length,(0:Int),a6,a5,(0:Int),y.2.1.2.1,y.2.1.1,a0,a1,a2,a3,a4) else L2 (UD a3.length,(0:Int),a3,(15:Int),y.2.1.2.1,y.2.1.1,a0,a1,a2,a3,a4) else (QB k ((y.2.1.1,y.2.1.2.1,()),a5,16,())).bind fun y => (QB k ((y.2.1.1,y.2.1.2.1,()),a5,16,())).bind fun y => (QB k ((y.2.1.1,y.2.1.2.1,()),0,24,())).bind fun y => (QB k ((y.2.1.1,y.2.1.2.1,()),0,24,())).bind fun y => (QB k ((y.2.1.1,y.2.1.2.1,()),a2,20,())).bind fun y => (QB k ((y.2.1.1,y.2.1.2.1,()),Jx.wrap (a0 - 1),3,())).bind fun y => (QB k ((y.2.1.1,y.2.1.2.1,()),Jx.wrap (a1 - 1),5,())).bind fun y => (QB k ((y.2.1.1,y.2.1.2.1,()),0,4,())).bind fun y => (Zdp k (((a0,a1,a2,()),a3,a4,()),())).bind fun y_1 => (QB k ((y.2.1.1,y.2.1.2.1,()),y_1.1,32,())).bind fun y => (ZiC k (((a0,a1,a2,()),a3,a4,()),())).bind fun y_2 => (Zbt k ((y.2.1.1,y.2.1.2.1,()),y_2.1.1,())).bind fun y => bif decide ((1:Int) < UD a6.length) then (Zdy k ((y.2.1.1,y.2.1.2.1,()),0,3,Jx.wrap ((18:Int) * UD a6.length),())).bind fun y => L1 (UD a6.length,(0:Int),a6,a5,(0:Int),y.2.1.2.1,y.2.1.1,a0,a1,a2,a3,a4) else L2 (UD a3.length,(0:Int),a3,(15:Int),y.2.1.2.1,y.2.1.1,a0,a1,a2,a3,a4)
def Zvw (k:Nat):=Zdt k (ZeR k) (Ym k)
theorem ZCu (k:Nat):∀ n,Zte k n = Zg (fun L3 => ZaA k L3) n:=ZO
theorem Zpu (k:Nat):∀ n,Zlo k n = Zg (fun L2 => Zaz k (ZeS k) L2) n:=ZO (fun n v => by rw [show (ZeS k) = Zte k k from (ZCu k k).symm]; kernel_rfl)
theorem ZCt (k:Nat):∀ n,Ztd k n = Zg (fun L1 => Zay k (Ym k) L1) n:=ZO (fun n v => by rw [show (Ym k) = Zlo k k from (Zpu k k).symm]; kernel_rfl)
set_option maxHeartbeats 1000000 in
noncomputable def ZEQ (k:Nat):ZE k:=Zy 47 Tryz.f47 (ZnY k) Kw ZaH Zvw (A:=ZnX) (h:=fun x => by show _ = Zdt k (ZeR k) (Ym k) x; rw [show ZeR k = Ztd k k from (ZCt k k).symm,show Ym k = Zlo k k from (Zpu k k).symm]; kernel_rfl)
abbrev ZLR:Kd:=.tup [.view (.sl (.int .u8)),.view (.int .i64)]
def ZRQ:Nat → Ann:=fun id => bif Ja id 6 then ⟨[21,22,20,8,2,1,6],[.slot 8 ((Ty.int Jx))]⟩ else ⟨[],[]⟩
noncomputable def ZEG (k:Nat):ZE k:=Xx 22 Tryz.f22 (fun k => [ZRP k,ZSc k,ZEQ k]) Zyq ZLR (A:=ZRQ)
abbrev ZeV:List Kd:=[.box [.ref [.view (.sl (.int .u8)),.view (.int .i64)],.view .bool],.view (.int .i64)]
def ZhD (k:Nat):((List Int × Int × Unit) × Bool × Unit) × Int × Unit → Option (Int × ((List Int × Int × Unit) × Bool × Unit) × Unit)
 | (((a0,a1,()),a2,()),a3,()) => (YL k ((a0,a1,()),a3,())).bind fun y => bif a2 then some (y.1.1,((y.2.1.1,y.2.1.2.1,()),true,()),()) else some (y.1.1,((y.2.1.1,y.2.1.2.1,()),y.1.2.1 != 0,()),())
def Wr (k:Nat):=ZhD k
noncomputable def ZvL (k:Nat):ZE k:=Zy 108 Tryz.f108 [Zho k] ZeV Z2 Wr
noncomputable def ZFc (k:Nat):List (ZE k):=[ZvL k]
def ZFb:Nat → Ann:=fun id => bif Ja id 1 then ⟨[4,5,0],[]⟩ else ⟨[],[]⟩
abbrev Zy6:=Int × Int × Bool × List Int × Int
abbrev Zjq:=Zy6 → Option (Unit × ((List Int × Int × Unit) × Bool × Unit) × Unit)
def ZMD:Zy6 → St
 | (v0,v1,v2,v3,v4) => St.mk (Zq [(4,Zl v0),(5,Zl v1),(0,AV.bx 0 0)]) (Zp [(0,QQ [AV.bx 1 0,avB v2]),(1,QQ [AV.val (PV.sl (Ty.int UK) v3),Zl v4])])
def ZaL (k:Nat) (L1:Zjq):Zjq
 | (v0,v1,v2,v3,v4) => bif decide (v1 < v0) then (Wr k (((v3,v4,()),v2,()),8,())).bind fun y => L1 (v0,Jx.wrap (v1 + 1),y.2.1.2.1,y.2.1.1.1,y.2.1.1.2.1) else some ((),((v3,v4,()),v2,()),())
def ZpJ (k:Nat):Zjq:=Zg (fun L1 => ZaL k L1) k
noncomputable def Ztp (k:Nat) (n:Nat):=QI (ZFc k) Tryz.f107 ZeV XO [1,0] [] n ZMD (A:=ZFb) (a:=[AV.bx (nat_lit 0) (nat_lit 0)]) (b:=[[1]]) (q:=[0,1])
def ZpK (k:Nat) (L1:Zjq):((List Int × Int × Unit) × Bool × Unit) × Int × Unit → Option (Unit × ((List Int × Int × Unit) × Bool × Unit) × Unit)
 | (((a0,a1,()),a2,()),a3,()) => L1 (a3,(0:Int),a2,a0,a1)
def XF (k:Nat):=ZpK k (ZpJ k)
theorem ZCU (k:Nat):∀ n,Ztp k n = Zg (fun L1 => ZaL k L1) n:=ZO
noncomputable def ZSA (k:Nat):ZE k:=Zy 107 Tryz.f107 (ZFc k) ZeV XO XF (A:=ZFb) (h:=fun x => by show _ = ZpK k (ZpJ k) x; rw [show ZpJ k = Ztp k k from (ZCU k k).symm]; kernel_rfl)
noncomputable def ZFf (k:Nat):List (ZE k):=[ZvL k]
def ZFe:Nat → Ann:=fun id => bif Ja id 3 then ⟨[6,5,0,1],[]⟩ else ⟨[],[]⟩
abbrev Zy7:=Int × Int × Int × Bool × List Int × Int
abbrev Zjr:=Zy7 → Option (Int × ((List Int × Int × Unit) × Bool × Unit) × Unit)
def ZME:Zy7 → St
 | (v0,v1,v2,v3,v4,v5) => St.mk (Zq [(6,Zl v0),(5,Zl v1),(0,AV.bx 0 0),(1,Zl v2)]) (Zp [(0,QQ [AV.bx 1 0,avB v3]),(1,QQ [AV.val (PV.sl (Ty.int UK) v4),Zl v5])])
def ZaN (k:Nat) (L1:Zjr):Zjr
 | (v0,v1,v2,v3,v4,v5) => bif decide (v0 < 32) then (Wr k (((v4,v5,()),v3,()),8,())).bind fun y => bif decide (0 ≤ v0) then L1 (Jx.wrap (v0 + 8),Jx.wrap (UD (UH 64 v1 ||| UH 64 (Jx.wrap (y.1 * (2:Int) ^ min v0.toNat 64))).toNat),v2,y.2.1.2.1,y.2.1.1.1,y.2.1.1.2.1) else none else bif decide (v2 < v1) then some (0,((v4,v5,()),true,()),()) else some (v1,((v4,v5,()),v3,()),())
def ZpL (k:Nat):Zjr:=Zg (fun L1 => ZaN k L1) k
noncomputable def Ztq (k:Nat) (n:Nat):=QI (ZFf k) Tryz.f109 ZeV Z2 [1,1,0,1,0] [] n ZME (A:=ZFe) (a:=[AV.bx (nat_lit 0) (nat_lit 0)]) (b:=[[1]]) (q:=[0,1])
def ZpM (k:Nat) (L1:Zjr):((List Int × Int × Unit) × Bool × Unit) × Int × Unit → Option (Int × ((List Int × Int × Unit) × Bool × Unit) × Unit)
 | (((a0,a1,()),a2,()),a3,()) => L1 (0,(0:Int),a3,a2,a0,a1)
def ZgE (k:Nat):=ZpM k (ZpL k)
theorem ZCV (k:Nat):∀ n,Ztq k n = Zg (fun L1 => ZaN k L1) n:=ZO
noncomputable def ZSB (k:Nat):ZE k:=Zy 109 Tryz.f109 (ZFf k) ZeV Z2 ZgE (A:=ZFe) (h:=fun x => by show _ = ZpM k (ZpL k) x; rw [show ZpL k = Ztq k k from (ZCV k k).symm]; kernel_rfl)
abbrev Zpv:List Kd:=[.box [.ref [.view (.sl (.int .u8)),.view (.int .i64)],.view .bool]]
abbrev Zpw:Kd:=.tup [.view ZdX,.view (.int .i64),.view (.int .i64)]
noncomputable def Zvz (k:Nat):List (ZE k):=[ZEd k,ZSA k,ZvL k,ZSB k]
def Zvx:Nat → Ann:=fun id => bif Ja id 21 then ⟨[91,92,10,0,5,88,87,6,8,2],[.slot 10 ((Ty.int UK))]⟩ else bif Ja id 18 then ⟨[87,88,0,5,6,8,2],[.cell 5 3 (Ty.str)]⟩ else ⟨[],[]⟩
abbrev ZyR:=Int × Int × Int × Int × Int × Int × Bool × List Int × Int × List Int × Int × Int × Int × List ByteArray × Int × Int × Int
abbrev Zi8:=ZyR → Option ((((Int × Int × Int × Unit) × List ByteArray × List (List Int) × Unit) × Int × Int × Unit) × ((List Int × Int × Unit) × Bool × Unit) × Unit)
abbrev ZyQ:=Int × Int × Int × Int × Bool × List Int × Int × Int × Int × Int × List ByteArray × Int × Int × Int
abbrev Zct:=ZyQ → Option ((((Int × Int × Int × Unit) × List ByteArray × List (List Int) × Unit) × Int × Int × Unit) × ((List Int × Int × Unit) × Bool × Unit) × Unit)
def ZMk:ZyR → St
 | (v0,v1,v2,v3,v4,v5,v6,v7,v8,v9,v10,v11,v12,v13,v14,v15,v16) => St.mk (Zq [(91,Zl v0),(92,Zl v1),(10,AV.own 8192),(0,AV.bx 0 0),(5,AV.bx 8193 0),(88,Zl v2),(87,Zl v3),(6,Zl v4),(8,Zl v5),(2,AV.bx 8195 0)]) (Zp [(0,QQ [AV.bx 1 0,avB v6]),(1,QQ [AV.val (PV.sl (Ty.int UK) v7),Zl v8]),(8192,RS.live (Res.arr (Ty.int UK) v9 false)),(8193,QQ [Zl v10,Zl v11,Zl v12,AV.own 8194,AV.val (PV.v (V4 none (0:Nat) (0:Nat)))]),(8194,RS.live (Res.arr Ty.str v13 false)),(8195,QQ [Zl v14,Zl v15,Zl v16,AV.val (PV.v (V4 none (0:Nat) (0:Nat))),AV.val (PV.v (V4 none (0:Nat) (0:Nat)))])])
def ZaB (k:Nat) (L1:Zct) (L2:Zi8):Zi8
 | (v0,v1,v2,v3,v4,v5,v6,v7,v8,v9,v10,v11,v12,v13,v14,v15,v16) => bif decide (v1 < v0) then (Wr k (((v7,v8,()),v6,()),8,())).bind fun y => bif decide (v9.length + [UK.wrap y.1].length < 2147483648) then L2 (v0,Jx.wrap (v1 + 1),v2,v3,v4,v5,y.2.1.2.1,y.2.1.1.1,y.2.1.1.2.1,v9 ++ [UK.wrap y.1],v10,v11,v12,v13,v14,v15,v16) else none else bif decide (v13.length + [UR (UT (fun n => UX n.toNat) v9).toArray].length < 2147483648) then L1 (v3,Jx.wrap (v2 + 1),v4,v5,v6,v7,v8,v10,v11,v12,v13 ++ [UR (UT (fun n => UX n.toNat) v9).toArray],v14,v15,v16) else none
def ZeT (k:Nat) (L1:Zct):Zi8:=Zg (fun L2 => ZaB k L1 L2) k
noncomputable def Ztf (k:Nat) (n1:Nat) (n:Nat):=QI (Zvz k) Tryz.f49 Zpv Zpw [1,1,1,1,1,1,1,1,1,1,1,1,1,1,0,1,0,0,1,1,0,0,1,0,1,0] [n1] n ZMk (A:=Zvx) (a:=[AV.bx (nat_lit 0) (nat_lit 0)]) (b:=[[1]]) (q:=[0,1])
def ZMj:ZyQ → St
 | (v0,v1,v2,v3,v4,v5,v6,v7,v8,v9,v10,v11,v12,v13) => St.mk (Zq [(87,Zl v0),(88,Zl v1),(0,AV.bx 0 0),(5,AV.bx 8192 0),(6,Zl v2),(8,Zl v3),(2,AV.bx 8194 0)]) (Zp [(0,QQ [AV.bx 1 0,avB v4]),(1,QQ [AV.val (PV.sl (Ty.int UK) v5),Zl v6]),(8192,QQ [Zl v7,Zl v8,Zl v9,AV.own 8193,AV.val (PV.v (V4 none (0:Nat) (0:Nat)))]),(8193,RS.live (Res.arr Ty.str v10 false)),(8194,QQ [Zl v11,Zl v12,Zl v13,AV.val (PV.v (V4 none (0:Nat) (0:Nat))),AV.val (PV.v (V4 none (0:Nat) (0:Nat)))])])
def YY (k:Nat) (L2:Zi8) (L1:Zct):Zct
 | (v0,v1,v2,v3,v4,v5,v6,v7,v8,v9,v10,v11,v12,v13) => bif decide (v1 < v0) then (ZgE k (((v5,v6,()),v4,()),12,())).bind fun y => L2 (y.1,(0:Int),v1,v0,v2,v3,y.2.1.2.1,y.2.1.1.1,y.2.1.1.2.1,[],v7,v8,v9,v10,v11,v12,v13) else some ((((v7,v8,v9,()),v10,[],()),v2,v3,()),((v5,v6,()),v4,()),())
def Zi9 (k:Nat):Zct:=Zg (fun L1 => YY k (ZeT k L1) L1) k
noncomputable def ZgC (k:Nat) (n:Nat):=QI (Zvz k) Tryz.f49 Zpv Zpw [1,1,1,1,1,1,1,1,1,1,1,1,1,1,0,1,0] [] n ZMj (A:=Zvx) (a:=[AV.bx (nat_lit 0) (nat_lit 0)]) (b:=[[1]]) (q:=[0,1])
def Zdu (k:Nat) (L1:Zct):((List Int × Int × Unit) × Bool × Unit) × Unit → Option ((((Int × Int × Int × Unit) × List ByteArray × List (List Int) × Unit) × Int × Int × Unit) × ((List Int × Int × Unit) × Bool × Unit) × Unit)
 | (((a0,a1,()),a2,()),()) => (XF k (((a0,a1,()),a2,()),8,())).bind fun y => (Wr k (((y.2.1.1.1,y.2.1.1.2.1,()),y.2.1.2.1,()),16,())).bind fun y => (XF k (((y.2.1.1.1,y.2.1.1.2.1,()),y.2.1.2.1,()),8,())).bind fun y_1 => (Wr k (((y_1.2.1.1.1,y_1.2.1.1.2.1,()),y_1.2.1.2.1,()),20,())).bind fun y_2 => (Wr k (((y_2.2.1.1.1,y_2.2.1.1.2.1,()),y_2.2.1.2.1,()),3,())).bind fun y_3 => (Wr k (((y_3.2.1.1.1,y_3.2.1.1.2.1,()),y_3.2.1.2.1,()),5,())).bind fun y_4 => (Wr k (((y_4.2.1.1.1,y_4.2.1.1.2.1,()),y_4.2.1.2.1,()),4,())).bind fun y_5 => (Wr k (((y_5.2.1.1.1,y_5.2.1.1.2.1,()),y_5.2.1.2.1,()),32,())).bind fun y_6 => (XF k (((y_6.2.1.1.1,y_6.2.1.1.2.1,()),y_6.2.1.2.1,()),16,())).bind fun y_7 => bif y_7.2.1.2.1 then some ((((Jx.wrap (y_3.1 + 1),Jx.wrap (y_4.1 + 1),y_2.1,()),[],[],()),0,0,()),((y_7.2.1.1.1,y_7.2.1.1.2.1,()),true,()),()) else (Zo5 k ((Jx.wrap (y_3.1 + 1),Jx.wrap (y_4.1 + 1),y_2.1,()),())).bind fun y_8 => bif y_8.1 != 0 then some ((((Jx.wrap (y_3.1 + 1),Jx.wrap (y_4.1 + 1),y_2.1,()),[],[],()),0,0,()),((y_7.2.1.1.1,y_7.2.1.1.2.1,()),true,()),()) else bif decide (y.1 < 16) then some ((((Jx.wrap (y_3.1 + 1),Jx.wrap (y_4.1 + 1),y_2.1,()),[],[],()),0,0,()),((y_7.2.1.1.1,y_7.2.1.1.2.1,()),true,()),()) else bif decide ((512:Int) < y.1) then some ((((Jx.wrap (y_3.1 + 1),Jx.wrap (y_4.1 + 1),y_2.1,()),[],[],()),0,0,()),((y_7.2.1.1.1,y_7.2.1.1.2.1,()),true,()),()) else bif y_5.1 != 0 then some ((((Jx.wrap (y_3.1 + 1),Jx.wrap (y_4.1 + 1),y_2.1,()),[],[],()),0,0,()),((y_7.2.1.1.1,y_7.2.1.1.2.1,()),true,()),()) else bif decide ((4096:Int) < y_6.1) then some ((((Jx.wrap (y_3.1 + 1),Jx.wrap (y_4.1 + 1),y_2.1,()),[],[],()),0,0,()),((y_7.2.1.1.1,y_7.2.1.1.2.1,()),decide ((4096:Int) < y_6.1),()),()) else bif decide ¬y.1 = (0:Int) then bif decide ((1:Int) < Jx.wrap ((Jx.wrap (Jx.wrap (y_6.1 + y.1) - 1)).tdiv y.1)) then (XF k (((y_7.2.1.1.1,y_7.2.1.1.2.1,()),decide ((4096:Int) < y_6.1),()),Jx.wrap ((4:Int) + Jx.wrap ((18:Int) * Jx.wrap ((Jx.wrap (Jx.wrap (y_6.1 + y.1) - 1)).tdiv y.1))),())).bind fun y_9 => (XF k (((y_9.2.1.1.1,y_9.2.1.1.2.1,()),y_9.2.1.2.1,()),15,())).bind fun y_10 => (ZgE k (((y_10.2.1.1.1,y_10.2.1.1.2.1,()),y_10.2.1.2.1,()),8,())).bind fun y_11 => L1 (y_11.1,(0:Int),y.1,y_6.1,y_11.2.1.2.1,y_11.2.1.1.1,y_11.2.1.1.2.1,Jx.wrap (y_3.1 + 1),Jx.wrap (y_4.1 + 1),y_2.1,[],(0:Int),(0:Int),(0:Int)) else (XF k (((y_7.2.1.1.1,y_7.2.1.1.2.1,()),decide ((4096:Int) < y_6.1),()),15,())).bind fun y_9 => (ZgE k (((y_9.2.1.1.1,y_9.2.1.1.2.1,()),y_9.2.1.2.1,()),8,())).bind fun y_10 => L1 (y_10.1,(0:Int),y.1,y_6.1,y_10.2.1.2.1,y_10.2.1.1.1,y_10.2.1.1.2.1,Jx.wrap (y_3.1 + 1),Jx.wrap (y_4.1 + 1),y_2.1,[],(0:Int),(0:Int),(0:Int)) else none
def Zvy (k:Nat):=Zdu k (Zi9 k)
theorem ZCx (k:Nat) (n1:Nat):∀ n,Ztf k n1 n = Zg (fun L2 => ZaB k (ZgC k n1) L2) n:=ZO
theorem ZCw (k:Nat):∀ n,ZgC k n = Zg (fun L1 => YY k (ZeT k L1) L1) n:=ZO (fun n v => by rw [show (ZeT k (ZgC k n)) = Ztf k n k from (ZCx k n k).symm]; kernel_rfl)
set_option maxHeartbeats 1000000 in
noncomputable def ZSg (k:Nat):ZE k:=Zy 49 Tryz.f49 (Zvz k) Zpv Zpw Zvy (A:=Zvx) (h:=fun x => by show _ = Zdu k (Zi9 k) x; rw [show Zi9 k = ZgC k k from (ZCw k k).symm]; kernel_rfl)
abbrev ZMl:List Kd:=[.view (.sl (.int .u8)),.view (.sl (.int .u8))]
def ZCy (k:Nat):List Int × List Int × Unit → Option (Bool × Unit)
 | (a0,a1,()) => some ((UR (UT (fun n => UX n.toNat) a0).toArray).toList == (UR (UT (fun n => UX n.toNat) a1).toArray).toList,())
def ZvA (k:Nat):=ZCy k
noncomputable def ZSh (k:Nat):ZE k:=Zy 51 Tryz.f51 [] ZMl Wd ZvA
abbrev Zcn:Kd:=.tup [.view ZdX,.view (.int .i64)]
noncomputable def Zvh (k:Nat):List (ZE k):=[Zvc k,ZXE k,ZEQ k,ZTG k,ZSg k,Zzh k,ZSh k]
def Zvi:Nat → List Nat:=fun n => bif Ja n 1 then [25] else bif Ja n 26 then [5,4] else []
def Zve:Nat → Ann:=fun id => bif Ja id 18 then ⟨[91,92,90,5,10,13,9,11,6,7,2,0,8],[]⟩ else bif Ja id 12 then ⟨[11,6,7,5,9,2,10,0,8],[.slot 10 ((Ty.int Jx))]⟩ else ⟨[],[]⟩
abbrev Zys:=Int × Int × List (List Int) × Int × List Int × Int × Int × Int × List Int × Int × Int × Int × Int × List ByteArray × List (List Int) × List Int × Int × Int × Int
abbrev ZiL:=Zys → Option ((((Int × Int × Int × Unit) × List ByteArray × List (List Int) × Unit) × Int × Unit) × Unit)
abbrev Zyr:=Int × Int × Int × List Int × List Int × Int × Int × Int × Int × List ByteArray × List (List Int) × Int × Int × Int × List Int
abbrev Zcl:=Zyr → Option ((((Int × Int × Int × Unit) × List ByteArray × List (List Int) × Unit) × Int × Unit) × Unit)
def ZLT:Zys → St
 | (v0,v1,v2,v3,v4,v5,v6,v7,v8,v9,v10,v11,v12,v13,v14,v15,v16,v17,v18) => St.mk (Zq [(91,Zl v0),(92,Zl v1),(90,AV.val (PV.sl (Ty.int Jx).sl v2)),(5,AV.bx 8192 0),(10,AV.own 8194),(13,Zl v3),(9,AV.val (PV.sl (Ty.int UK) v4)),(11,Zl v5),(6,Zl v6),(7,Zl v7),(2,AV.bx 8195 0),(0,AV.val (PV.sl (Ty.int UK) v8)),(8,Zl v9)]) (Zp [(8192,QQ [Zl v10,Zl v11,Zl v12,AV.val (PV.sl Ty.str v13),AV.own 8193]),(8193,RS.live (Res.nest (Ty.int Jx) v14 none)),(8194,rsA v15 false),(8195,QQ [Zl v16,Zl v17,Zl v18,AV.val (PV.v (V4 none (0:Nat) (0:Nat))),AV.val (PV.v (V4 none (0:Nat) (0:Nat)))])])
def Zan (k:Nat) (L1:Zcl) (L2:ZiL):ZiL
 | (v0,v1,v2,v3,v4,v5,v6,v7,v8,v9,v10,v11,v12,v13,v14,v15,v16,v17,v18) => bif decide (v1 < v0) then bif decide (0 ≤ v1 ∧ v1 < UD v2.length) then bif decide (0 ≤ v1 ∧ v1 < UD v14.length) then bif decide (v1.toNat < v14.length) then bif decide ((v14.getD v1.toNat []).length + UO (v2.getD v1.toNat []) < 2147483648) then bif decide (0 ≤ v1 ∧ v1 < UD v14.length) then bif decide (v1.toNat = v1.toNat) then bif decide (v1.toNat < v14.length) then L2 (v0,Jx.wrap (v1 + 1),v2,v3,v4,v5,v6,v7,v8,v9,v10,v11,v12,v13,v14.set v1.toNat (v14.getD v1.toNat [] ++ v2.getD v1.toNat []),v15,v16,v17,v18) else none else none else none else none else none else none else none else bif decide (v15.length + [v3].length < 2147483648) then bif decide (0 ≤ v3 ∧ v3 ≤ UD v4.length ∧ UD v4.length ≤ UD v4.length) then L1 (Jx.wrap (v5 + 1),v6,v7,UM v3.toNat (UL (UD v4.length).toNat v4),v8,v9,v10,v11,v12,v13,v14,v16,v17,v18,v15 ++ [v3]) else none else none
def Zcm (k:Nat) (L1:Zcl):ZiL:=Zg (fun L2 => Zan k L1 L2) k
noncomputable def ZsZ (k:Nat) (n1:Nat) (n:Nat):=QI (Zvh k) Tryz.f23 XN Zcn [1,1,1,1,1,1,1,1,1,0,1,0,0,1,0,0,1,1,0,1,0] [n1] n ZLT (A:=Zve) (live:=Zvi)
def ZLS:Zyr → St
 | (v0,v1,v2,v3,v4,v5,v6,v7,v8,v9,v10,v11,v12,v13,v14) => St.mk (Zq [(11,Zl v0),(6,Zl v1),(7,Zl v2),(5,AV.bx 8192 0),(9,AV.val (PV.sl (Ty.int UK) v3)),(2,AV.bx 8194 0),(10,AV.own 8195),(0,AV.val (PV.sl (Ty.int UK) v4)),(8,Zl v5)]) (Zp [(8192,QQ [Zl v6,Zl v7,Zl v8,AV.val (PV.sl Ty.str v9),AV.own 8193]),(8193,RS.live (Res.nest (Ty.int Jx) v10 none)),(8194,QQ [Zl v11,Zl v12,Zl v13,AV.val (PV.v (V4 none (0:Nat) (0:Nat))),AV.val (PV.v (V4 none (0:Nat) (0:Nat)))]),(8195,rsA v14 false)])
noncomputable def YQ (k:Nat) (L2:ZiL) (L1:Zcl):Zcl
 | (v0,v1,v2,v3,v4,v5,v6,v7,v8,v9,v10,v11,v12,v13,v14) => bif decide (Jx.wrap (v0 * v1) < v2) then (ZLr k ((v6,v7,v8,()),v3,())).bind fun y => bif y.1.2.2.1 != 0 then some (((((0:Int),(0:Int),(0:Int),()),[],[],()),2,()),()) else bif y.1.1.1 != v0 then some (((((0:Int),(0:Int),(0:Int),()),[],[],()),2,()),()) else bif decide ((0:Int) ≤ 0 ∧ (0:Int) < UD (UO y.1.1.2.1)) then bif UD (UO (U6 y.1.1.2.1 (0:Nat) [])) != if Jx.wrap (v2 - Jx.wrap (v0 * v1)) < v1 then Jx.wrap (v2 - Jx.wrap (v0 * v1)) else v1 then some (((((0:Int),(0:Int),(0:Int),()),[],[],()),2,()),()) else L2 (UD (UO y.1.1.2.1),(0:Int),y.1.1.2.1,y.1.2.1,v3,v0,v1,v2,v4,v5,v6,v7,v8,v9,v10,v14,v11,v12,v13) else none else bif decide ((0:Int) < UD v3.length) then some (((((0:Int),(0:Int),(0:Int),()),[],[],()),2,()),()) else (ZnN k (((v6,v7,v8,()),v9,v10,()),())).bind fun y => bif y.1 != 0 then some (((((0:Int),(0:Int),(0:Int),()),[],[],()),2,()),()) else (Zvw k (((v6,v7,v8,()),v9,v10,()),v1,v14,())).bind fun y => bif decide ((0:Int) ≤ 0 ∧ (0:Int) ≤ v5 ∧ v5 ≤ UD v4.length) then (ZvA k (y.1,UM 0 (UL v5.toNat v4),())).bind fun y => bif !y.1 then some (((((0:Int),(0:Int),(0:Int),()),[],[],()),2,()),()) else some ((((v6,v7,v8,()),v9,v10,()),0,()),()) else none
noncomputable def ZiM (k:Nat):Zcl:=Zg (fun L1 => YQ k (Zcm k L1) L1) k
noncomputable def Zgz (k:Nat) (n:Nat):=QI (Zvh k) Tryz.f23 XN Zcn [1,1,1,1,1,1,1,1,1,0,1,0] [] n ZLS (A:=Zve) (live:=Zvi)
def Zdl (k:Nat) (L1:Zcl):List Int × Unit → Option ((((Int × Int × Int × Unit) × List ByteArray × List (List Int) × Unit) × Int × Unit) × Unit)
 | (a0,()) => bif decide ((60000:Int) < UD a0.length) then some (((((0:Int),(0:Int),(0:Int),()),[],[],()),2,()),()) else (Zzb k (a0,())).bind fun y => (Zvy k (((y.1.1,y.1.2.1,()),false,()),())).bind fun y => bif y.2.1.2.1 then some (((((0:Int),(0:Int),(0:Int),()),[],[],()),2,()),()) else (ZaP k ((y.2.1.1.1,y.2.1.1.2.1,()),())).bind fun y_1 => bif decide (0 ≤ Jx.wrap (UJ y_1.1 (8:Int)) ∧ Jx.wrap (UJ y_1.1 (8:Int)) ≤ UD a0.length ∧ UD a0.length ≤ UD a0.length) then bif decide ((0:Int) ≤ y.1.1.1.1 ∧ y.1.1.1.1 ≤ y.1.1.1.1 ∧ y.1.1.1.1 < 4294967296) then L1 (0,y.1.2.1,y.1.2.2.1,UM (Jx.wrap (UJ y_1.1 (8:Int))).toNat (UL (UD a0.length).toNat a0),a0,Jx.wrap (UJ y_1.1 (8:Int)),y.1.1.1.1,y.1.1.1.2.1,y.1.1.1.2.2.1,y.1.1.2.1,Jd (US y.1.1.1.1) [],(0:Int),(0:Int),(0:Int),[]) else none else none
noncomputable def Zvf (k:Nat):=Zdl k (ZiM k)
theorem ZB1 (k:Nat) (n1:Nat):∀ n,ZsZ k n1 n = Zg (fun L2 => Zan k (Zgz k n1) L2) n:=ZO
theorem ZB0 (k:Nat):∀ n,Zgz k n = Zg (fun L1 => YQ k (Zcm k L1) L1) n:=ZO (fun n v => by rw [show (Zcm k (Zgz k n)) = ZsZ k n k from (ZB1 k n k).symm]; kernel_rfl)
set_option maxHeartbeats 1000000 in
noncomputable def Zvg (k:Nat):ZE k:=Zy 23 Tryz.f23 (Zvh k) XN Zcn Zvf (A:=Zve) (live:=Zvi) (h:=fun x => by show _ = Zdl k (ZiM k) x; rw [show ZiM k = Zgz k k from (ZB0 k k).symm]; kernel_rfl)
abbrev Zyw:List Kd:=[.view ZdX,.view ZdX]
noncomputable def ZEI (k:Nat):List (ZE k):=[ZXG k]
def ZEH:Nat → Ann:=fun id => bif Ja id 4 then ⟨[5,2,3],[]⟩ else ⟨[],[]⟩
abbrev Zyv:=Int × Int × Int × Int × List ByteArray × List (List Int) × Int × Int × Int × List ByteArray × List (List Int)
abbrev ZiO:=Zyv → Option (Bool × Unit)
def ZLW:Zyv → St
 | (v0,v1,v2,v3,v4,v5,v6,v7,v8,v9,v10) => St.mk (Zq [(5,Zl v0),(2,AV.bx 8192 0),(3,AV.bx 8193 0)]) (Zp [(8192,QQ [Zl v1,Zl v2,Zl v3,AV.val (PV.sl Ty.str v4),AV.val (PV.sl (Ty.int Jx).sl v5)]),(8193,QQ [Zl v6,Zl v7,Zl v8,AV.val (PV.sl Ty.str v9),AV.val (PV.sl (Ty.int Jx).sl v10)])])
def Zap (k:Nat) (L1:ZiO):ZiO
 | (v0,v1,v2,v3,v4,v5,v6,v7,v8,v9,v10) => bif decide (v0 < UD v4.length) then bif decide (0 ≤ v0 ∧ v0 < UD v4.length) then bif decide (0 ≤ v0 ∧ v0 < UD v9.length) then bif !U3 (v4.getD v0.toNat (UR #[])) == U3 (v9.getD v0.toNat (UR #[])) then some (false,()) else L1 (Jx.wrap (v0 + 1),v1,v2,v3,v4,v5,v6,v7,v8,v9,v10) else none else none else some (true,())
def ZiP (k:Nat):ZiO:=Zg (fun L1 => Zap k L1) k
noncomputable def Zs1 (k:Nat) (n:Nat):=QI (ZEI k) Tryz.f25 Zyw Wd [1,1,0,1,0] [] n ZLW (A:=ZEH)
def Zdo (k:Nat) (L1:ZiO):((Int × Int × Int × Unit) × List ByteArray × List (List Int) × Unit) × ((Int × Int × Int × Unit) × List ByteArray × List (List Int) × Unit) × Unit → Option (Bool × Unit)
 | (((a0,a1,a2,()),a3,a4,()),((a5,a6,a7,()),a8,a9,()),()) => bif !(decide (a0 = a5) && (decide (a1 = a6) && (decide (a2 = a7) && true))) then some (false,()) else bif UD a3.length != UD a8.length then some (false,()) else (ZMt k (((0:Int),a4,()),((0:Int),a9,()),())).bind fun y => bif !y.1 then some (false,()) else L1 (0,a0,a1,a2,a3,a4,a5,a6,a7,a8,a9)
def Zvm (k:Nat):=Zdo k (ZiP k)
theorem ZB7 (k:Nat):∀ n,Zs1 k n = Zg (fun L1 => Zap k L1) n:=ZO
set_option maxHeartbeats 1000000 in
noncomputable def Zvn (k:Nat):ZE k:=Zy 25 Tryz.f25 (ZEI k) Zyw Wd Zvm (A:=ZEH) (h:=fun x => by show _ = Zdo k (ZiP k) x; rw [show ZiP k = Zs1 k k from (ZB7 k k).symm]; kernel_rfl)
abbrev ZLX:Kd:=.view ZdX
def ZB9 (k:Nat):((Int × Int × Int × Unit) × List ByteArray × List (List Int) × Unit) × Unit → Option (((Int × Int × Int × Unit) × List ByteArray × List (List Int) × Unit) × Unit)
 | (((a0,a1,a2,()),a3,a4,()),()) => some (((a0,a1,a2,()),a3,a4,()),())
def Zvo (k:Nat):=ZB9 k
noncomputable def Zvp (k:Nat):ZE k:=Zy 26 Tryz.f26 [] QE ZLX Zvo
noncomputable def Ziw (k:Nat):Unit → Option (Bool × Unit):=ZzR k fun k => ZDB (cxP k [ZEG k,Zvg k,Zvn k,Zvp k] nL) nA Tryz.f10 Zjd Wd
noncomputable def ZRx (k:Nat):ZE k:=Xx 10 Tryz.f10 (fun k => [ZEG k,Zvg k,Zvn k,Zvp k]) Zjd Wd
noncomputable def Zva (k:Nat):List (ZE k):=[]
def Zu8:Nat → Ann:=fun id => bif Ja id 9 then ⟨[3,0],[]⟩ else bif Ja id 4 then ⟨[3,0],[]⟩ else ⟨[],[]⟩
abbrev Zpj:=Int × ByteArray
abbrev Kp:=Zpj → Option (Bool × Unit)
def ZLC:Zpj → St
 | (v0,v1) => St.mk (Zq [(3,Zl v0),(0,AV.val (PV.v (UN v1)))]) (Zp [])
def Zc9 (k:Nat) (L2:Kp):Kp
 | (v0,v1) => bif decide (v0 < UD v1.size) then bif decide (0 ≤ v0 ∧ v0 < UD v1.size) then bif decide (UD (v1.data.toList.getD v0.toNat 0).toNat < (33:Int)) then some (false,()) else bif decide (0 ≤ v0 ∧ v0 < UD v1.size) then bif decide ((126:Int) < UD (v1.data.toList.getD v0.toNat 0).toNat) then some (false,()) else L2 (Jx.wrap (v0 + 1),v1) else none else none else some (true,())
def Zci (k:Nat):Kp:=Zg (fun L2 => Zc9 k L2) k
noncomputable def ZsR (k:Nat) (n:Nat):=QI (Zva k) Tryz.f12 QD Wd [1,1,1,1,1,0,1,0] [] n ZLC (A:=Zu8)
def ZLB:Zpj → St
 | (v0,v1) => St.mk (Zq [(3,Zl v0),(0,AV.val (PV.v (UN v1)))]) (Zp [])
def Zag (k:Nat) (L2:Kp) (L1:Kp):Kp
 | (v0,v1) => bif decide (v0 < UD v1.size) then bif decide (0 ≤ v0 ∧ v0 < UD v1.size) then bif decide ((97:Int) ≤ UD (v1.data.toList.getD v0.toNat 0).toNat) then bif decide (0 ≤ v0 ∧ v0 < UD v1.size) then bif decide (UD (v1.data.toList.getD v0.toNat 0).toNat ≤ (122:Int)) then L1 (Jx.wrap (v0 + 1),v1) else bif v0 == 0 then some (false,()) else bif decide (UD v1.size ≤ Jx.wrap (v0 + 1)) then some (false,()) else bif decide (0 ≤ v0 ∧ v0 < UD v1.size) then bif UD (v1.data.toList.getD v0.toNat 0).toNat != (61:Int) then some (false,()) else L2 (Jx.wrap (v0 + 1),v1) else none else none else bif v0 == 0 then some (false,()) else bif decide (UD v1.size ≤ Jx.wrap (v0 + 1)) then some (false,()) else bif decide (0 ≤ v0 ∧ v0 < UD v1.size) then bif UD (v1.data.toList.getD v0.toNat 0).toNat != (61:Int) then some (false,()) else L2 (Jx.wrap (v0 + 1),v1) else none else none else bif v0 == 0 then some (false,()) else bif decide (UD v1.size ≤ Jx.wrap (v0 + 1)) then some (false,()) else bif decide (0 ≤ v0 ∧ v0 < UD v1.size) then bif UD (v1.data.toList.getD v0.toNat 0).toNat != (61:Int) then some (false,()) else L2 (Jx.wrap (v0 + 1),v1) else none
def ZeF (k:Nat):Kp:=Zg (fun L1 => Zag k (Zci k) L1) k
noncomputable def ZsQ (k:Nat) (n:Nat):=QI (Zva k) Tryz.f12 QD Wd [1,1,1,0,0] [] n ZLB (A:=Zu8)
def Zc8 (k:Nat) (L1:Kp):ByteArray × Unit → Option (Bool × Unit)
 | (a0,()) => bif decide (UD a0.size < (3:Int)) then some (false,()) else bif decide ((12:Int) < UD a0.size) then some (false,()) else L1 (0,a0)
def Zu9 (k:Nat):=Zc8 k (ZeF k)
theorem ZBH (k:Nat):∀ n,ZsR k n = Zg (fun L2 => Zc9 k L2) n:=ZO
theorem ZBG (k:Nat):∀ n,ZsQ k n = Zg (fun L1 => Zag k (Zci k) L1) n:=ZO (fun n v => by rw [show (Zci k) = ZsR k k from (ZBH k k).symm]; kernel_rfl)
noncomputable def ZRB (k:Nat):ZE k:=Zy 12 Tryz.f12 (Zva k) QD Wd Zu9 (A:=Zu8) (h:=fun x => by show _ = Zc8 k (ZeF k) x; rw [show ZeF k = ZsQ k k from (ZBG k k).symm]; kernel_rfl)
noncomputable def ZiB (k:Nat):List (ZE k):=[ZRB k,ZEg k,ZMH k]
def Zix:Nat → Ann:=fun id => bif Ja id 19 then ⟨[6,1,5],[]⟩ else bif Ja id 16 then ⟨[5,1],[]⟩ else bif Ja id 11 then ⟨[4,1],[]⟩ else bif Ja id 6 then ⟨[3,1],[]⟩ else ⟨[],[]⟩
abbrev Zyk:=Int × Int × Int × Int × Int × List ByteArray × List (List Int)
abbrev Ziy:=Zyk → Option (Int × Unit)
abbrev ZiA:=Int × Int × Int × Int × List ByteArray × List (List Int)
abbrev Wq:=ZiA → Option (Int × Unit)
def ZLG:Zyk → St
 | (v0,v1,v2,v3,v4,v5,v6) => St.mk (Zq [(6,Zl v0),(1,AV.bx 8192 0),(5,Zl v1)]) (Zp [(8192,QQ [Zl v2,Zl v3,Zl v4,AV.val (PV.sl Ty.str v5),AV.val (PV.sl (Ty.int Jx).sl v6)])])
def Zde (k:Nat) (L3:Wq) (L4:Ziy):Ziy
 | (v0,v1,v2,v3,v4,v5,v6) => bif decide (0 ≤ v1 ∧ v1 < UD v6.length) then bif decide (v0 < UD (UO (v6.getD v1.toNat []))) then bif decide (0 ≤ v1 ∧ v1 < UD v6.length) then bif decide (0 ≤ v0 ∧ v0 < UD (UO (v6.getD v1.toNat []))) then (Ztr k (U6 (v6.getD v1.toNat []) v0.toNat 0,v3,())).bind fun y => bif !y.1 then some (12,()) else L4 (Jx.wrap (v0 + 1),v1,v2,v3,v4,v5,v6) else none else none else L3 (Jx.wrap (v1 + 1),v2,v3,v4,v5,v6) else none
def Ziz (k:Nat) (L3:Wq):Ziy:=Zg (fun L4 => Zde k L3 L4) k
noncomputable def ZsU (k:Nat) (n3:Nat) (n:Nat):=QI (ZiB k) Tryz.f13 QE Z2 [1,1,1,1,1,0,1,0,0,1,0,0,1,0] [n3] n ZLG (A:=Zix)
def ZLF:ZiA → St
 | (v0,v1,v2,v3,v4,v5) => St.mk (Zq [(5,Zl v0),(1,AV.bx 8192 0)]) (Zp [(8192,QQ [Zl v1,Zl v2,Zl v3,AV.val (PV.sl Ty.str v4),AV.val (PV.sl (Ty.int Jx).sl v5)])])
def Zdd (k:Nat) (L4:Ziy) (L3:Wq):Wq
 | (v0,v1,v2,v3,v4,v5) => bif decide (v0 < UD v5.length) then L4 (0,v0,v1,v2,v3,v4,v5) else some (0,())
def ZeI (k:Nat):Wq:=Zg (fun L3 => Zdd k (Ziz k L3) L3) k
noncomputable def Zgv (k:Nat) (n:Nat):=QI (ZiB k) Tryz.f13 QE Z2 [1,1,1,1,1,0,1,0] [] n ZLF (A:=Zix)
def ZLE:ZiA → St
 | (v0,v1,v2,v3,v4,v5) => St.mk (Zq [(4,Zl v0),(1,AV.bx 8192 0)]) (Zp [(8192,QQ [Zl v1,Zl v2,Zl v3,AV.val (PV.sl Ty.str v4),AV.val (PV.sl (Ty.int Jx).sl v5)])])
def Zdc (k:Nat) (L3:Wq) (L2:Wq):Wq
 | (v0,v1,v2,v3,v4,v5) => bif decide (v0 < UD v5.length) then bif decide (0 ≤ v0 ∧ v0 < UD v5.length) then bif decide ((4096:Int) < UD (UO (v5.getD v0.toNat []))) then some (1,()) else bif decide (0 ≤ v0 ∧ v0 < UD v5.length) then bif decide ((0:Int) ≤ 0 ∧ (0:Int) < UD v5.length) then bif UD (UO (v5.getD v0.toNat [])) != UD (UO (v5.getD 0 [])) then some (1,()) else L2 (Jx.wrap (v0 + 1),v1,v2,v3,v4,v5) else none else none else none else L3 (0,v1,v2,v3,v4,v5)
def ZeH (k:Nat):Wq:=Zg (fun L2 => Zdc k (ZeI k) L2) k
noncomputable def ZsT (k:Nat) (n:Nat):=QI (ZiB k) Tryz.f13 QE Z2 [1,1,1,1,0,1,0] [] n ZLE (A:=Zix)
def ZLD:ZiA → St
 | (v0,v1,v2,v3,v4,v5) => St.mk (Zq [(3,Zl v0),(1,AV.bx 8192 0)]) (Zp [(8192,QQ [Zl v1,Zl v2,Zl v3,AV.val (PV.sl Ty.str v4),AV.val (PV.sl (Ty.int Jx).sl v5)])])
def Zdb (k:Nat) (L2:Wq) (L1:Wq):Wq
 | (v0,v1,v2,v3,v4,v5) => bif decide (v0 < UD v4.length) then bif decide (0 ≤ v0 ∧ v0 < UD v4.length) then (Zu9 k (v4.getD v0.toNat (UR #[]),())).bind fun y => bif !y.1 then some (1,()) else L1 (Jx.wrap (v0 + 1),v1,v2,v3,v4,v5) else none else L2 (0,v1,v2,v3,v4,v5)
def ZeG (k:Nat):Wq:=Zg (fun L1 => Zdb k (ZeH k) L1) k
noncomputable def ZsS (k:Nat) (n:Nat):=QI (ZiB k) Tryz.f13 QE Z2 [1,1,1,0,1,0] [] n ZLD (A:=Zix)
def Zda (k:Nat) (L1:Wq):((Int × Int × Int × Unit) × List ByteArray × List (List Int) × Unit) × Unit → Option (Int × Unit)
 | (((a0,a1,a2,()),a3,a4,()),()) => (Zmn k ((a0,a1,a2,()),())).bind fun y => bif !y.1 then some (2,()) else bif decide ((8:Int) < UD a3.length) then some (1,()) else bif UD a4.length != a0 then some (1,()) else L1 (0,a0,a1,a2,a3,a4)
def Zvb (k:Nat):=Zda k (ZeG k)
theorem ZBM (k:Nat) (n3:Nat):∀ n,ZsU k n3 n = Zg (fun L4 => Zde k (Zgv k n3) L4) n:=ZO
theorem ZBL (k:Nat):∀ n,Zgv k n = Zg (fun L3 => Zdd k (Ziz k L3) L3) n:=ZO (fun n v => by rw [show (Ziz k (Zgv k n)) = ZsU k n k from (ZBM k n k).symm]; kernel_rfl)
theorem ZBK (k:Nat):∀ n,ZsT k n = Zg (fun L2 => Zdc k (ZeI k) L2) n:=ZO (fun n v => by rw [show (ZeI k) = Zgv k k from (ZBL k k).symm]; kernel_rfl)
theorem ZBJ (k:Nat):∀ n,ZsS k n = Zg (fun L1 => Zdb k (ZeH k) L1) n:=ZO (fun n v => by rw [show (ZeH k) = ZsT k k from (ZBK k k).symm]; kernel_rfl)
noncomputable def ZRG (k:Nat):ZE k:=Zy 13 Tryz.f13 (ZiB k) QE Z2 Zvb (A:=Zix) (h:=fun x => by show _ = Zda k (ZeG k) x; rw [show ZeG k = ZsS k k from (ZBJ k k).symm]; kernel_rfl)
abbrev ZMs:Kd:=.view (.sl (.int .i64))
def Zhy (k:Nat):Unit → Option (List Int × Unit)
 | () => some ([(3614090360:Int),(3905402710:Int),(606105819:Int),(3250441966:Int),(4118548399:Int),(1200080426:Int),(2821735955:Int),(4249261313:Int),(1770035416:Int),(2336552879:Int),(4294925233:Int),(2304563134:Int),(1804603682:Int),(4254626195:Int),(2792965006:Int),(1236535329:Int),(4129170786:Int),(3225465664:Int),(643717713:Int),(3921069994:Int),(3593408605:Int),(38016083:Int),(3634488961:Int),(3889429448:Int),(568446438:Int),(3275163606:Int),(4107603335:Int),(1163531501:Int),(2850285829:Int),(4243563512:Int),(1735328473:Int),(2368359562:Int),(4294588738:Int),(2272392833:Int),(1839030562:Int),(4259657740:Int),(2763975236:Int),(1272893353:Int),(4139469664:Int),(3200236656:Int),(681279174:Int),(3936430074:Int),(3572445317:Int),(76029189:Int),(3654602809:Int),(3873151461:Int),(530742520:Int),(3299628645:Int),(4096336452:Int),(1126891415:Int),(2878612391:Int),(4237533241:Int),(1700485571:Int),(2399980690:Int),(4293915773:Int),(2240044497:Int),(1873313359:Int),(4264355552:Int),(2734768916:Int),(1309151649:Int),(4149444226:Int),(3174756917:Int),(718787259:Int),(3951481745:Int)],())
def ZvG (k:Nat):=Zhy k
set_option maxHeartbeats 1000000 in
noncomputable def ZSq (k:Nat):ZE k:=Zy 78 Tryz.f78 [] Zjd ZMs ZvG
abbrev ZpD:List Kd:=[.view (.int .i64)]
def ZCK (k:Nat):Int × Unit → Option (Int × Unit)
 | (a0,()) => some (Jx.wrap (UD (UH 64 a0 &&& UH 64 (4294967295:Int)).toNat),())
def Qu (k:Nat):=ZCK k
noncomputable def ZSr (k:Nat):ZE k:=Zy 79 Tryz.f79 [] ZpD Z2 Qu
def ZCL (k:Nat):Int × Unit → Option (Int × Unit)
 | (a0,()) => bif decide (0 ≤ Jx.wrap (a0.tdiv (16:Int)) ∧ Jx.wrap (a0.tdiv (16:Int)) < (4:Int)) then bif decide ((Jx.wrap (a0.tdiv (16:Int))).toNat < (4:Nat)) then bif decide (0 ≤ a0.tmod (4:Int) ∧ a0.tmod (4:Int) < UD (UO ([[(7:Int),(12:Int),(17:Int),(22:Int)],[(5:Int),(9:Int),(14:Int),(20:Int)],[(4:Int),(11:Int),(16:Int),(23:Int)],[(6:Int),(10:Int),(15:Int),(21:Int)]].getD (Jx.wrap (a0.tdiv (16:Int))).toNat []))) then some (U6 ([[(7:Int),(12:Int),(17:Int),(22:Int)],[(5:Int),(9:Int),(14:Int),(20:Int)],[(4:Int),(11:Int),(16:Int),(23:Int)],[(6:Int),(10:Int),(15:Int),(21:Int)]].getD (Jx.wrap (a0.tdiv (16:Int))).toNat []) (a0.tmod (4:Int)).toNat 0,()) else none else none else none
def Zbs (k:Nat):=ZCL k
set_option maxHeartbeats 1000000 in
noncomputable def ZSs (k:Nat):ZE k:=Zy 80 Tryz.f80 [] ZpD Z2 Zbs
noncomputable def Zbr (k:Nat):List (ZE k):=[ZSq k,ZSr k,ZSs k]
def Zbq:Nat → Ann:=fun id => bif Ja id 41 then ⟨[22,20,7,21],[.slot 20 ((Ty.int UK))]⟩ else bif Ja id 38 then ⟨[21,20,7],[.slot 20 ((Ty.int UK))]⟩ else bif Ja id 21 then ⟨[15,12,13,14,11,6,9,7,8,3],[]⟩ else bif Ja id 16 then ⟨[10,8,9,3,7,6],[.slot 9 ((Ty.int Jx))]⟩ else bif Ja id 12 then ⟨[8,3,7,6],[]⟩ else bif Ja id 6 then ⟨[5,3,4],[]⟩ else bif Ja id 2 then ⟨[3,0],[]⟩ else ⟨[],[]⟩
abbrev ZyG:=Int × Int × Int × Int × Int × List Int × Int × List Int × List Int × List Int
abbrev ZiZ:=ZyG → Option (ByteArray × Unit)
abbrev ZyE:=Int × Int × List Int × List Int × List Int × List Int
abbrev ZiY:=ZyE → Option (ByteArray × Unit)
abbrev ZyH:=Int × Int × List Int × List Int
abbrev Zi0:=ZyH → Option (ByteArray × Unit)
abbrev ZyF:=Int × List Int × List Int
abbrev Zcr:=ZyF → Option (ByteArray × Unit)
abbrev ZyD:=Int × List Int × List Int × List Int
abbrev Ku:=ZyD → Option (ByteArray × Unit)
abbrev ZyC:=ByteArray × List Int
abbrev ZiX:=ZyC → Option (ByteArray × Unit)
def ZL8:ZyG → St
 | (v0,v1,v2,v3,v4,v5,v6,v7,v8,v9) => St.mk (Zq [(15,Zl v0),(12,Zl v1),(13,Zl v2),(14,Zl v3),(11,Zl v4),(6,avL v5),(9,AV.own 8192),(7,AV.own 8193),(8,Zl v6),(3,AV.own 8194)]) (Zp [(8192,rsA v7 false),(8193,rsA v8 false),(8194,RS.live (Res.arr (Ty.int UK) v9 false))])
def YV (k:Nat) (L3:Ku) (L6:ZiZ):ZiZ
 | (v0,v1,v2,v3,v4,v5,v6,v7,v8,v9) => bif decide (v0 < 64) then bif Jx.wrap (v0.tdiv (16:Int)) == (0:Int) then (Qu k (Jx.wrap (UD (UH 64 (-1:Int) ^^^ UH 64 v1).toNat),())).bind fun y => bif decide (0 ≤ v0 ∧ v0 < UD v5.length) then bif decide (0 ≤ v0.tmod (16:Int) ∧ v0.tmod (16:Int) < UD v7.length) then bif decide ((v0.tmod (16:Int)).toNat < v7.length) then (Qu k (Jx.wrap (Jx.wrap (Jx.wrap (v4 + Jx.wrap (UD (UH 64 (Jx.wrap (UD (UH 64 v1 &&& UH 64 v2).toNat)) ||| UH 64 (Jx.wrap (UD (UH 64 y.1 &&& UH 64 v3).toNat))).toNat)) + v5.getD v0.toNat 0) + v7.getD (v0.tmod (16:Int)).toNat 0),())).bind fun y => (Zbs k (v0,())).bind fun y_1 => bif decide ((0:Int) ≤ y_1.1) then (Qu k (Jx.wrap (y.1 * (2:Int) ^ min (US y_1.1) (64:Nat)),())).bind fun y_2 => bif decide (0 ≤ Jx.wrap ((32:Int) - y_1.1)) then (Qu k (Jx.wrap (Jx.wrap (v1 + y_2.1) + UP y.1 ((2:Int) ^ min (Jx.wrap ((32:Int) - y_1.1)).toNat 64)),())).bind fun y => L6 (Jx.wrap (v0 + 1),y.1,v1,v2,v3,v5,v6,v7,v8,v9) else none else none else none else none else none else bif Jx.wrap (v0.tdiv (16:Int)) == (1:Int) then (Qu k (Jx.wrap (UD (UH 64 (-1:Int) ^^^ UH 64 v3).toNat),())).bind fun y => bif decide (0 ≤ v0 ∧ v0 < UD v5.length) then bif decide ((0:Int) ≤ (Jx.wrap (Jx.wrap ((5:Int) * v0) + 1)).tmod (16:Int) ∧ (Jx.wrap (Jx.wrap ((5:Int) * v0) + 1)).tmod (16:Int) < UD v7.length) then bif decide (((Jx.wrap (Jx.wrap ((5:Int) * v0) + 1)).tmod (16:Int)).toNat < v7.length) then (Qu k (Jx.wrap (Jx.wrap (Jx.wrap (v4 + Jx.wrap (UD (UH 64 (Jx.wrap (UD (UH 64 v3 &&& UH 64 v1).toNat)) ||| UH 64 (Jx.wrap (UD (UH 64 y.1 &&& UH 64 v2).toNat))).toNat)) + v5.getD v0.toNat 0) + v7.getD ((Jx.wrap (Jx.wrap ((5:Int) * v0) + 1)).tmod (16:Int)).toNat 0),())).bind fun y => (Zbs k (v0,())).bind fun y_1 => bif decide ((0:Int) ≤ y_1.1) then (Qu k (Jx.wrap (y.1 * (2:Int) ^ min (US y_1.1) (64:Nat)),())).bind fun y_2 => bif decide (0 ≤ Jx.wrap ((32:Int) - y_1.1)) then (Qu k (Jx.wrap (Jx.wrap (v1 + y_2.1) + UP y.1 ((2:Int) ^ min (Jx.wrap ((32:Int) - y_1.1)).toNat 64)),())).bind fun y => L6 (Jx.wrap (v0 + 1),y.1,v1,v2,v3,v5,v6,v7,v8,v9) else none else none else none else none else none else bif Jx.wrap (v0.tdiv (16:Int)) == (2:Int) then bif decide (0 ≤ v0 ∧ v0 < UD v5.length) then bif decide ((0:Int) ≤ (Jx.wrap (Jx.wrap ((3:Int) * v0) + 5)).tmod (16:Int) ∧ (Jx.wrap (Jx.wrap ((3:Int) * v0) + 5)).tmod (16:Int) < UD v7.length) then bif decide (((Jx.wrap (Jx.wrap ((3:Int) * v0) + 5)).tmod (16:Int)).toNat < v7.length) then (Qu k (Jx.wrap (Jx.wrap (Jx.wrap (v4 + Jx.wrap (UD (UH 64 (Jx.wrap (UD (UH 64 v1 ^^^ UH 64 v2).toNat)) ^^^ UH 64 v3).toNat)) + v5.getD v0.toNat 0) + v7.getD ((Jx.wrap (Jx.wrap ((3:Int) * v0) + 5)).tmod (16:Int)).toNat 0),())).bind fun y => (Zbs k (v0,())).bind fun y_1 => bif decide ((0:Int) ≤ y_1.1) then (Qu k (Jx.wrap (y.1 * (2:Int) ^ min (US y_1.1) (64:Nat)),())).bind fun y_2 => bif decide (0 ≤ Jx.wrap ((32:Int) - y_1.1)) then (Qu k (Jx.wrap (Jx.wrap (v1 + y_2.1) + UP y.1 ((2:Int) ^ min (Jx.wrap ((32:Int) - y_1.1)).toNat 64)),())).bind fun y => L6 (Jx.wrap (v0 + 1),y.1,v1,v2,v3,v5,v6,v7,v8,v9) else none else none else none else none else none else (Qu k (Jx.wrap (UD (UH 64 (-1:Int) ^^^ UH 64 v3).toNat),())).bind fun y => bif decide (0 ≤ v0 ∧ v0 < UD v5.length) then bif decide ((0:Int) ≤ (Jx.wrap ((7:Int) * v0)).tmod (16:Int) ∧ (Jx.wrap ((7:Int) * v0)).tmod (16:Int) < UD v7.length) then bif decide (((Jx.wrap ((7:Int) * v0)).tmod (16:Int)).toNat < v7.length) then (Qu k (Jx.wrap (Jx.wrap (Jx.wrap (v4 + Jx.wrap (UD (UH 64 v2 ^^^ UH 64 (Jx.wrap (UD (UH 64 v1 ||| UH 64 y.1).toNat))).toNat)) + v5.getD v0.toNat 0) + v7.getD ((Jx.wrap ((7:Int) * v0)).tmod (16:Int)).toNat 0),())).bind fun y => (Zbs k (v0,())).bind fun y_1 => bif decide ((0:Int) ≤ y_1.1) then (Qu k (Jx.wrap (y.1 * (2:Int) ^ min (US y_1.1) (64:Nat)),())).bind fun y_2 => bif decide (0 ≤ Jx.wrap ((32:Int) - y_1.1)) then (Qu k (Jx.wrap (Jx.wrap (v1 + y_2.1) + UP y.1 ((2:Int) ^ min (Jx.wrap ((32:Int) - y_1.1)).toNat 64)),())).bind fun y => L6 (Jx.wrap (v0 + 1),y.1,v1,v2,v3,v5,v6,v7,v8,v9) else none else none else none else none else none else bif decide ((0:Int) ≤ 0 ∧ (0:Int) < UD v8.length) then bif decide ((0:Nat) < v8.length) then (Qu k (Jx.wrap (v8.getD 0 0 + v4),())).bind fun y => bif decide ((0:Int) ≤ 1 ∧ (1:Int) < UD v8.length) then bif decide ((1:Nat) < v8.length) then (Qu k (Jx.wrap (v8.getD 1 0 + v1),())).bind fun y_1 => bif decide ((0:Int) ≤ 2 ∧ (2:Int) < UD v8.length) then bif decide ((2:Nat) < v8.length) then (Qu k (Jx.wrap (v8.getD 2 0 + v2),())).bind fun y_2 => bif decide ((0:Int) ≤ 3 ∧ (3:Int) < UD v8.length) then bif decide ((3:Nat) < v8.length) then (Qu k (Jx.wrap (v8.getD 3 0 + v3),())).bind fun y_3 => bif decide ((0:Int) ≤ 0 ∧ (0:Int) < UD v8.length) then bif decide ((0:Nat) < v8.length) then bif decide ((0:Int) ≤ 1 ∧ (1:Int) < UD (v8.set (0:Nat) y.1).length) then bif decide ((1:Nat) < (v8.set (0:Nat) y.1).length) then bif decide ((0:Int) ≤ 2 ∧ (2:Int) < UD ((v8.set (0:Nat) y.1).set (1:Nat) y_1.1).length) then bif decide ((2:Nat) < ((v8.set (0:Nat) y.1).set (1:Nat) y_1.1).length) then bif decide ((0:Int) ≤ 3 ∧ (3:Int) < UD (((v8.set (0:Nat) y.1).set (1:Nat) y_1.1).set (2:Nat) y_2.1).length) then bif decide ((3:Nat) < (((v8.set (0:Nat) y.1).set (1:Nat) y_1.1).set (2:Nat) y_2.1).length) then L3 (Jx.wrap (v6 + 64),v5,v9,(((v8.set (0:Nat) y.1).set (1:Nat) y_1.1).set (2:Nat) y_2.1).set (3:Nat) y_3.1) else none else none else none else none else none else none else none else none else none else none else none else none else none else none else none else none
def Zi2 (k:Nat) (L3:Ku):ZiZ:=Zg (fun L6 => YV k L3 L6) k
noncomputable def Zs9 (k:Nat) (n3:Nat) (n:Nat):=QI (Zbr k) Tryz.f39 QD Qf [1,1,1,1,1,1,1,0,1,0,0,1,0,0,1,1,1,0,1,0] [n3] n ZL8 (A:=Zbq)
def ZL6:ZyE → St
 | (v0,v1,v2,v3,v4,v5) => St.mk (Zq [(10,Zl v0),(8,Zl v1),(9,AV.own 8192),(3,AV.own 8193),(7,AV.own 8194),(6,avL v2)]) (Zp [(8192,rsA v3 false),(8193,RS.live (Res.arr (Ty.int UK) v4 false)),(8194,rsA v5 false)])
def Zav (k:Nat) (L6:ZiZ) (L3:Ku) (L4:ZiY):ZiY
 | (v0,v1,v2,v3,v4,v5) => bif decide (v0 < Jx.wrap (v1 + 64)) then bif decide (0 ≤ v0 ∧ v0 < UD v4.length) then bif decide (v0.toNat < v4.length) then bif decide (0 ≤ Jx.wrap (v0 + 1) ∧ Jx.wrap (v0 + 1) < UD v4.length) then bif decide ((Jx.wrap (v0 + 1)).toNat < v4.length) then bif decide (0 ≤ Jx.wrap (v0 + 2) ∧ Jx.wrap (v0 + 2) < UD v4.length) then bif decide ((Jx.wrap (v0 + 2)).toNat < v4.length) then bif decide (0 ≤ Jx.wrap (v0 + 3) ∧ Jx.wrap (v0 + 3) < UD v4.length) then bif decide ((Jx.wrap (v0 + 3)).toNat < v4.length) then bif decide (v3.length + [Jx.wrap (Jx.wrap (Jx.wrap (Jx.wrap (v4.getD v0.toNat 0) + Jx.wrap (Jx.wrap (v4.getD (Jx.wrap (v0 + 1)).toNat 0) * (256:Int))) + Jx.wrap (Jx.wrap (v4.getD (Jx.wrap (v0 + 2)).toNat 0) * (65536:Int))) + Jx.wrap (Jx.wrap (v4.getD (Jx.wrap (v0 + 3)).toNat 0) * (16777216:Int)))].length < 2147483648) then L4 (Jx.wrap (v0 + 4),v1,v2,v3 ++ [Jx.wrap (Jx.wrap (Jx.wrap (Jx.wrap (v4.getD v0.toNat 0) + Jx.wrap (Jx.wrap (v4.getD (Jx.wrap (v0 + 1)).toNat 0) * (256:Int))) + Jx.wrap (Jx.wrap (v4.getD (Jx.wrap (v0 + 2)).toNat 0) * (65536:Int))) + Jx.wrap (Jx.wrap (v4.getD (Jx.wrap (v0 + 3)).toNat 0) * (16777216:Int)))],v4,v5) else none else none else none else none else none else none else none else none else none else bif decide ((0:Int) ≤ 0 ∧ (0:Int) < UD v5.length) then bif decide ((0:Nat) < v5.length) then bif decide ((0:Int) ≤ 1 ∧ (1:Int) < UD v5.length) then bif decide ((1:Nat) < v5.length) then bif decide ((0:Int) ≤ 2 ∧ (2:Int) < UD v5.length) then bif decide ((2:Nat) < v5.length) then bif decide ((0:Int) ≤ 3 ∧ (3:Int) < UD v5.length) then bif decide ((3:Nat) < v5.length) then L6 (0,v5.getD 1 0,v5.getD 2 0,v5.getD 3 0,v5.getD 0 0,v2,v1,v3,v5,v4) else none else none else none else none else none else none else none else none
def ZeN (k:Nat) (L3:Ku):ZiY:=Zg (fun L4 => Zav k (Zi2 k L3) L3 L4) k
noncomputable def Zs8 (k:Nat) (n3:Nat) (n:Nat):=QI (Zbr k) Tryz.f39 QD Qf [1,1,1,1,1,1,1,0,1,0,0,1,0,0,1,0,1,0] [n3] n ZL6 (A:=Zbq)
def ZL9:ZyH → St
 | (v0,v1,v2,v3) => St.mk (Zq [(22,Zl v0),(20,AV.own 8192),(7,AV.own 8193),(21,Zl v1)]) (Zp [(8192,RS.live (Res.arr (Ty.int UK) v2 false)),(8193,rsA v3 false)])
def YW (k:Nat) (L5:Zcr) (L7:Zi0):Zi0
 | (v0,v1,v2,v3) => bif decide (v0 < 4) then bif decide (0 ≤ v1 ∧ v1 < UD v3.length) then bif decide (v1.toNat < v3.length) then bif decide (0 ≤ Jx.wrap ((8:Int) * v0)) then bif decide (v2.length + [UK.wrap (UP (v3.getD v1.toNat 0) ((2:Int) ^ min (Jx.wrap ((8:Int) * v0)).toNat 64))].length < 2147483648) then L7 (Jx.wrap (v0 + 1),v1,v2 ++ [UK.wrap (UP (v3.getD v1.toNat 0) ((2:Int) ^ min (Jx.wrap ((8:Int) * v0)).toNat 64))],v3) else none else none else none else none else L5 (Jx.wrap (v1 + 1),v2,v3)
def Kv (k:Nat) (L5:Zcr):Zi0:=Zg (fun L7 => YW k L5 L7) k
noncomputable def Zta (k:Nat) (n5:Nat) (n:Nat):=QI (Zbr k) Tryz.f39 QD Qf [1,1,1,1,1,1,1,1,1,0,1,0,0,1,0,0,1,0] [n5] n ZL9 (A:=Zbq)
def ZL7:ZyF → St
 | (v0,v1,v2) => St.mk (Zq [(21,Zl v0),(20,AV.own 8192),(7,AV.own 8193)]) (Zp [(8192,RS.live (Res.arr (Ty.int UK) v1 false)),(8193,rsA v2 false)])
def YU (k:Nat) (L7:Zi0) (L5:Zcr):Zcr
 | (v0,v1,v2) => bif decide (v0 < 4) then L7 (0,v0,v1,v2) else some (UR (UT (fun n => UX n.toNat) v1).toArray,())
def ZeO (k:Nat):Zcr:=Zg (fun L5 => YU k (Kv k L5) L5) k
noncomputable def ZgB (k:Nat) (n:Nat):=QI (Zbr k) Tryz.f39 QD Qf [1,1,1,1,1,1,1,1,1,0,1,0] [] n ZL7 (A:=Zbq)
def ZL5:ZyD → St
 | (v0,v1,v2,v3) => St.mk (Zq [(8,Zl v0),(3,AV.own 8192),(7,AV.own 8193),(6,avL v1)]) (Zp [(8192,RS.live (Res.arr (Ty.int UK) v2 false)),(8193,rsA v3 false)])
def YT (k:Nat) (L4:ZiY) (L5:Zcr) (L3:Ku):Ku
 | (v0,v1,v2,v3) => bif decide (v0 < UD v2.length) then L4 (v0,v0,v1,[],v2,v3) else L5 (0,[],v3)
def Zi1 (k:Nat):Ku:=Zg (fun L3 => YT k (ZeN k L3) (ZeO k) L3) k
noncomputable def YS (k:Nat) (n:Nat):=QI (Zbr k) Tryz.f39 QD Qf [1,1,1,1,1,1,1,0,1,0] [] n ZL5 (A:=Zbq)
def ZL4:Zpq → St
 | (v0,v1,v2) => St.mk (Zq [(5,Zl v0),(3,AV.own 8192),(4,Zl v1)]) (Zp [(8192,RS.live (Res.arr (Ty.int UK) v2 false))])
def Zau (k:Nat) (L3:Ku) (L2:Kt):Kt
 | (v0,v1,v2) => bif decide (v0 < 8) then bif decide (0 ≤ Jx.wrap ((8:Int) * v0)) then bif decide (v2.length + [UK.wrap (v1.fdiv ((2:Int) ^ min (Jx.wrap ((8:Int) * v0)).toNat 64))].length < 2147483648) then L2 (Jx.wrap (v0 + 1),v1,v2 ++ [UK.wrap (v1.fdiv ((2:Int) ^ min (Jx.wrap ((8:Int) * v0)).toNat 64))]) else none else none else (ZvG k ()).bind fun y => L3 (0,y.1,v2,[(1732584193:Int),(4023233417:Int),(2562383102:Int),(271733878:Int)])
def Zps (k:Nat):Kt:=Zg (fun L2 => Zau k (Zi1 k) L2) k
noncomputable def Zs7 (k:Nat) (n:Nat):=QI (Zbr k) Tryz.f39 QD Qf [1,1,1,1,0,1,0] [] n ZL4 (A:=Zbq)
def ZL3:ZyC → St
 | (v0,v1) => St.mk (Zq [(3,AV.own 8192),(0,AV.val (PV.v (UN v0)))]) (Zp [(8192,RS.live (Res.arr (Ty.int UK) v1 false))])
def Xs (k:Nat) (L2:Kt) (L1:ZiX):ZiX
 | (v0,v1) => bif (UD v1.length).tmod (64:Int) != 56 then bif decide (v1.length + (1:Nat) < (2147483648:Nat)) then L1 (v0,v1 ++ [(0:Int)]) else none else L2 (0,Jx.wrap ((8:Int) * UD v0.size),v1)
def Zpr (k:Nat):ZiX:=Zg (fun L1 => Xs k (Zps k) L1) k
noncomputable def Zs6 (k:Nat) (n:Nat):=QI (Zbr k) Tryz.f39 QD Qf [1,1,0,0] [] n ZL3 (A:=Zbq)
def Zdr (k:Nat) (L1:ZiX):ByteArray × Unit → Option (ByteArray × Unit)
 | (a0,()) => bif decide (a0.size < 1099511627776) then bif decide ((UT (fun b => UD b.toNat) a0.data.toList).length + (1:Nat) < (2147483648:Nat)) then L1 (a0,UT (fun b => UD b.toNat) a0.data.toList ++ [(128:Int)]) else none else none
def ZnU (k:Nat):=Zdr k (Zpr k)
theorem ZCn (k:Nat) (n3:Nat):∀ n,Zs9 k n3 n = Zg (fun L6 => YV k (YS k n3) L6) n:=ZO
theorem ZCl (k:Nat) (n3:Nat):∀ n,Zs8 k n3 n = Zg (fun L4 => Zav k (Zi2 k (YS k n3)) (YS k n3) L4) n:=ZO (fun n v => by rw [show (Zi2 k (YS k n3)) = Zs9 k n3 k from (ZCn k n3 k).symm]; kernel_rfl)
theorem ZCo (k:Nat) (n5:Nat):∀ n,Zta k n5 n = Zg (fun L7 => YW k (ZgB k n5) L7) n:=ZO
theorem ZCm (k:Nat):∀ n,ZgB k n = Zg (fun L5 => YU k (Kv k L5) L5) n:=ZO (fun n v => by rw [show (Kv k (ZgB k n)) = Zta k n k from (ZCo k n k).symm]; kernel_rfl)
theorem ZCk (k:Nat):∀ n,YS k n = Zg (fun L3 => YT k (ZeN k L3) (ZeO k) L3) n:=ZO (fun n v => by rw [show (ZeN k (YS k n)) = Zs8 k n k from (ZCl k n k).symm,show (ZeO k) = ZgB k k from (ZCm k k).symm]; kernel_rfl)
theorem ZCj (k:Nat):∀ n,Zs7 k n = Zg (fun L2 => Zau k (Zi1 k) L2) n:=ZO (fun n v => by rw [show (Zi1 k) = YS k k from (ZCk k k).symm]; kernel_rfl)
theorem ZCi (k:Nat):∀ n,Zs6 k n = Zg (fun L1 => Xs k (Zps k) L1) n:=ZO (fun n v => by rw [show (Zps k) = Zs7 k k from (ZCj k k).symm]; kernel_rfl)
noncomputable def ZR4 (k:Nat):ZE k:=Zy 39 Tryz.f39 (Zbr k) QD Qf ZnU (A:=Zbq) (h:=fun x => by show _ = Zdr k (Zpr k) x; rw [show Zpr k = Zs6 k k from (ZCi k k).symm]; kernel_rfl)
noncomputable def ZnQ (k:Nat):List (ZE k):=[ZR4 k]
def ZnP:Nat → Ann:=fun id => bif Ja id 11 then ⟨[8,4,3,7,6,1,5],[.slot 3 ((Ty.int UK))]⟩ else bif Ja id 7 then ⟨[6,1,5,4,3],[.slot 3 ((Ty.int UK))]⟩ else bif Ja id 4 then ⟨[5,1,4,3],[.slot 3 ((Ty.int UK))]⟩ else ⟨[],[]⟩
abbrev Zyp:=Int × Int × Int × Int × Int × List Int × Int × Int × Int × List ByteArray × List (List Int)
abbrev ZiJ:=Zyp → Option (ByteArray × Unit)
abbrev Zyo:=Int × Int × Int × Int × Int × Int × List ByteArray × List (List Int) × List Int
abbrev Zck:=Zyo → Option (ByteArray × Unit)
abbrev Kr:=ZiF → Option (ByteArray × Unit)
def ZLP:Zyp → St
 | (v0,v1,v2,v3,v4,v5,v6,v7,v8,v9,v10) => St.mk (Zq [(8,Zl v0),(4,Zl v1),(3,AV.own 8192),(7,Zl v2),(6,Zl v3),(1,AV.bx 8193 0),(5,Zl v4)]) (Zp [(8192,RS.live (Res.arr (Ty.int UK) v5 false)),(8193,QQ [Zl v6,Zl v7,Zl v8,AV.val (PV.sl Ty.str v9),AV.val (PV.sl (Ty.int Jx).sl v10)])])
def Zam (k:Nat) (L1:Kr) (L2:Zck) (L3:ZiJ):ZiJ
 | (v0,v1,v2,v3,v4,v5,v6,v7,v8,v9,v10) => bif decide (v0 < v1) then bif decide (0 ≤ Jx.wrap ((8:Int) * v0)) then bif decide (v5.length + [UK.wrap (v2.fdiv ((2:Int) ^ min (Jx.wrap ((8:Int) * v0)).toNat 64))].length < 2147483648) then L3 (Jx.wrap (v0 + 1),v1,v2,v3,v4,v5 ++ [UK.wrap (v2.fdiv ((2:Int) ^ min (Jx.wrap ((8:Int) * v0)).toNat 64))],v6,v7,v8,v9,v10) else none else none else L2 (Jx.wrap (v3 + 1),v4,v1,v6,v7,v8,v9,v10,v5)
def ZiK (k:Nat) (L1:Kr) (L2:Zck):ZiJ:=Zg (fun L3 => Zam k L1 L2 L3) k
noncomputable def ZsY (k:Nat) (n1 n2:Nat) (n:Nat):=QI (ZnQ k) Tryz.f17 QE Qf [1,1,1,0,1,0,0,1,0,0,1,0,0,1,0,0,1,1,0] [n1,n2] n ZLP (A:=ZnP)
def ZLO:Zyo → St
 | (v0,v1,v2,v3,v4,v5,v6,v7,v8) => St.mk (Zq [(6,Zl v0),(1,AV.bx 8192 0),(5,Zl v1),(4,Zl v2),(3,AV.own 8193)]) (Zp [(8192,QQ [Zl v3,Zl v4,Zl v5,AV.val (PV.sl Ty.str v6),AV.val (PV.sl (Ty.int Jx).sl v7)]),(8193,RS.live (Res.arr (Ty.int UK) v8 false))])
def Zal (k:Nat) (L3:ZiJ) (L1:Kr) (L2:Zck):Zck
 | (v0,v1,v2,v3,v4,v5,v6,v7,v8) => bif decide (v0 < UD v7.length) then bif decide (0 ≤ v0 ∧ v0 < UD v7.length) then bif decide (0 ≤ v1 ∧ v1 < UD (UO (v7.getD v0.toNat []))) then L3 (0,v2,U6 (v7.getD v0.toNat []) v1.toNat 0,v0,v1,v8,v3,v4,v5,v6,v7) else none else none else L1 (Jx.wrap (v1 + 1),v2,v3,v4,v5,v6,v7,v8)
def ZeM (k:Nat) (L1:Kr):Zck:=Zg (fun L2 => Zal k (ZiK k L1 L2) L1 L2) k
noncomputable def Zgy (k:Nat) (n1:Nat) (n:Nat):=QI (ZnQ k) Tryz.f17 QE Qf [1,1,1,0,1,0,0,1,0,0,1,0] [n1] n ZLO (A:=ZnP)
def ZLN:ZiF → St
 | (v0,v1,v2,v3,v4,v5,v6,v7) => St.mk (Zq [(5,Zl v0),(1,AV.bx 8192 0),(4,Zl v1),(3,AV.own 8193)]) (Zp [(8192,QQ [Zl v2,Zl v3,Zl v4,AV.val (PV.sl Ty.str v5),AV.val (PV.sl (Ty.int Jx).sl v6)]),(8193,RS.live (Res.arr (Ty.int UK) v7 false))])
def Zak (k:Nat) (L2:Zck) (L1:Kr):Kr
 | (v0,v1,v2,v3,v4,v5,v6,v7) => bif decide ((0:Int) ≤ 0 ∧ (0:Int) < UD v6.length) then bif decide (v0 < UD (UO (v6.getD 0 []))) then L2 (0,v0,v1,v2,v3,v4,v5,v6,v7) else (ZnU k (UR (UT (fun n => UX n.toNat) v7).toArray,())).bind fun y => some (y.1,()) else none
def Zpn (k:Nat):Kr:=Zg (fun L1 => Zak k (ZeM k L1) L1) k
noncomputable def YP (k:Nat) (n:Nat):=QI (ZnQ k) Tryz.f17 QE Qf [1,1,1,0,1,0] [] n ZLN (A:=ZnP)
def Zdk (k:Nat) (L1:Kr):((Int × Int × Int × Unit) × List ByteArray × List (List Int) × Unit) × Unit → Option (ByteArray × Unit)
 | (((a0,a1,a2,()),a3,a4,()),()) => L1 (0,Jx.wrap ((Jx.wrap (a1 + 7)).tdiv (8:Int)),a0,a1,a2,a3,a4,[])
def Zvd (k:Nat):=Zdk k (Zpn k)
theorem ZBX (k:Nat) (n1 n2:Nat):∀ n,ZsY k n1 n2 n = Zg (fun L3 => Zam k (YP k n1) (Zgy k n1 n2) L3) n:=ZO
theorem ZBW (k:Nat) (n1:Nat):∀ n,Zgy k n1 n = Zg (fun L2 => Zal k (ZiK k (YP k n1) L2) (YP k n1) L2) n:=ZO (fun n v => by rw [show (ZiK k (YP k n1) (Zgy k n1 n)) = ZsY k n1 n k from (ZBX k n1 n k).symm]; kernel_rfl)
theorem ZBV (k:Nat):∀ n,YP k n = Zg (fun L1 => Zak k (ZeM k L1) L1) n:=ZO (fun n v => by rw [show (ZeM k (YP k n)) = Zgy k n k from (ZBW k n k).symm]; kernel_rfl)
noncomputable def ZRN (k:Nat):ZE k:=Zy 17 Tryz.f17 (ZnQ k) QE Qf Zvd (A:=ZnP) (h:=fun x => by show _ = Zdk k (Zpn k) x; rw [show Zpn k = YP k k from (ZBV k k).symm]; kernel_rfl)
def ZCN (k:Nat):Int × Unit → Option (ByteArray × Unit)
 | (a0,()) => some (UR (UT (fun n => UX n.toNat) [UK.wrap a0,UK.wrap (a0.fdiv (256:Int)),UK.wrap (a0.fdiv (65536:Int)),UK.wrap (a0.fdiv (16777216:Int))]).toArray,())
def K1 (k:Nat):=ZCN k
noncomputable def ZSt (k:Nat):ZE k:=Zy 100 Tryz.f100 [] ZpD Qf K1
noncomputable def ZnW (k:Nat):List (ZE k):=[ZRN k,ZM4 k,ZXO k,ZSt k]
def ZnV:Nat → Ann:=fun id => bif Ja id 22 then ⟨[16,3,15,12],[]⟩ else bif Ja id 15 then ⟨[14,2,11,1,13,7,12,3],[]⟩ else bif Ja id 4 then ⟨[10,2,8,9,1,3,7],[]⟩ else ⟨[],[]⟩
abbrev ZyM:=Int × ByteArray × ByteArray × Int × Int × Int × List ByteArray × List (List Int)
abbrev ZeP:=ZyM → Option (ByteArray × Unit)
abbrev ZyL:=Int × List Int × ByteArray × Int × Int × Int × ByteArray × Int × Int × Int × List ByteArray × List (List Int)
abbrev Zi4:=ZyL → Option (ByteArray × Unit)
abbrev ZyK:=Int × List Int × Int × Int × Int × Int × Int × Int × Int × List ByteArray × List (List Int)
abbrev Zi3:=ZyK → Option (ByteArray × Unit)
def ZMe:ZyM → St
 | (v0,v1,v2,v3,v4,v5,v6,v7) => St.mk (Zq [(16,Zl v0),(3,AV.bx 8192 0),(15,AV.val (PV.v (UN v1))),(12,AV.val (PV.v (UN v2)))]) (Zp [(8192,QQ [Zl v3,Zl v4,Zl v5,AV.val (PV.sl Ty.str v6),AV.val (PV.sl (Ty.int Jx).sl v7)])])
def Zax (k:Nat) (L3:ZeP):ZeP
 | (v0,v1,v2,v3,v4,v5,v6,v7) => bif decide (v0 < UD v6.length) then bif decide (0 ≤ v0 ∧ v0 < UD v6.length) then (K1 k (UD (UQ (v6.getD v0.toNat (UR #[]))),())).bind fun y => bif decide (v1.size + UQ y.1 < 1099511627776) then bif decide (0 ≤ v0 ∧ v0 < UD v6.length) then bif decide ((v1 ++ y.1).size + UQ (v6.getD v0.toNat (UR #[])) < (1099511627776:Nat)) then L3 (Jx.wrap (v0 + 1),v1 ++ y.1 ++ v6.getD v0.toNat (UR #[]),v2,v3,v4,v5,v6,v7) else none else none else none else none else (W7 k (132,8,())).bind fun y => (W7 k (UD v1.size,24,())).bind fun y_1 => bif decide (UQ y.1 + UQ y_1.1 < 1099511627776) then (Zy9 k (y.1 ++ y_1.1,())).bind fun y => bif decide (v2.size + (UR (UT (fun n => UX n.toNat) y.1).toArray).size < 1099511627776) then bif decide ((v2 ++ UR (UT (fun n => UX n.toNat) y.1).toArray).size + v1.size < 1099511627776) then some (v2 ++ UR (UT (fun n => UX n.toNat) y.1).toArray ++ v1,()) else none else none else none
def Xt (k:Nat):ZeP:=Zg (fun L3 => Zax k L3) k
noncomputable def Zln (k:Nat) (n:Nat):=QI (ZnW k) Tryz.f45 Kw Qf [1,1,1,1,1,1,1,1,0,1,0] [] n ZMe (A:=ZnV)
def ZMd:ZyL → St
 | (v0,v1,v2,v3,v4,v5,v6,v7,v8,v9,v10,v11) => St.mk (Zq [(14,Zl v0),(2,avL v1),(11,AV.val (PV.v (UN v2))),(1,Zl v3),(13,Zl v4),(7,Zl v5),(12,AV.val (PV.v (UN v6))),(3,AV.bx 8192 0)]) (Zp [(8192,QQ [Zl v7,Zl v8,Zl v9,AV.val (PV.sl Ty.str v10),AV.val (PV.sl (Ty.int Jx).sl v11)])])
def Zaw (k:Nat) (L3:ZeP) (L2:Zi4):Zi4
 | (v0,v1,v2,v3,v4,v5,v6,v7,v8,v9,v10,v11) => bif decide (v0 < UD v1.length) then (W7 k (Jx.wrap (v0 * v3),64,())).bind fun y => bif decide (v2.size + UQ y.1 < 1099511627776) then (W7 k (v4,64,())).bind fun y_1 => bif decide ((v2 ++ y.1).size + UQ y_1.1 < 1099511627776) then (W7 k (if Jx.wrap (v5 - Jx.wrap (v0 * v3)) < v3 then Jx.wrap (v5 - Jx.wrap (v0 * v3)) else v3,16,())).bind fun y_2 => bif decide ((v2 ++ y.1 ++ y_1.1).size + UQ y_2.1 < 1099511627776) then bif decide (0 ≤ v0 ∧ v0 < UD v1.length) then L2 (Jx.wrap (v0 + 1),v1,v2 ++ y.1 ++ y_1.1 ++ y_2.1,v3,Jx.wrap (v4 + v1.getD v0.toNat 0),v5,v6,v7,v8,v9,v10,v11) else none else none else none else none else (Zy9 k (v2,())).bind fun y => bif decide (v6.size + (UR (UT (fun n => UX n.toNat) y.1).toArray).size < 1099511627776) then (K1 k (7,())).bind fun y_1 => bif decide (UQ y_1.1 + (7:Nat) < (1099511627776:Nat)) then (K1 k (UD v10.length,())).bind fun y_2 => bif decide ((y_1.1 ++ UR #[115,104,101,108,108,97,99]).size + UQ y_2.1 < 1099511627776) then L3 (0,y_1.1 ++ UR #[115,104,101,108,108,97,99] ++ y_2.1,v6 ++ UR (UT (fun n => UX n.toNat) y.1).toArray,v7,v8,v9,v10,v11) else none else none else none
def Zcs (k:Nat):Zi4:=Zg (fun L2 => Zaw k (Xt k) L2) k
noncomputable def Ztc (k:Nat) (n:Nat):=QI (ZnW k) Tryz.f45 Kw Qf [1,1,1,1,1,1,0,1,0,1,1,0,1,0] [] n ZMd (A:=ZnV)
def ZMc:ZyK → St
 | (v0,v1,v2,v3,v4,v5,v6,v7,v8,v9,v10) => St.mk (Zq [(10,Zl v0),(2,avL v1),(8,Zl v2),(9,Zl v3),(1,Zl v4),(3,AV.bx 8192 0),(7,Zl v5)]) (Zp [(8192,QQ [Zl v6,Zl v7,Zl v8,AV.val (PV.sl Ty.str v9),AV.val (PV.sl (Ty.int Jx).sl v10)])])
def YX (k:Nat) (L2:Zi4) (L3:ZeP) (L1:Zi3):Zi3
 | (v0,v1,v2,v3,v4,v5,v6,v7,v8,v9,v10) => bif decide (v0 < UD v1.length) then bif v0 == 0 then bif decide (0 ≤ v0 ∧ v0 < UD v1.length) then bif decide (0 ≤ v0 ∧ v0 < UD v1.length) then L1 (Jx.wrap (v0 + 1),v1,v1.getD v0.toNat 0,if v3 < v1.getD v0.toNat 0 then v1.getD v0.toNat 0 else v3,v4,v5,v6,v7,v8,v9,v10) else none else none else bif decide (0 ≤ v0 ∧ v0 < UD v1.length) then bif decide (v1.getD v0.toNat 0 < v2) then bif decide (0 ≤ v0 ∧ v0 < UD v1.length) then bif decide (0 ≤ v0 ∧ v0 < UD v1.length) then L1 (Jx.wrap (v0 + 1),v1,v1.getD v0.toNat 0,if v3 < v1.getD v0.toNat 0 then v1.getD v0.toNat 0 else v3,v4,v5,v6,v7,v8,v9,v10) else none else none else bif decide (0 ≤ v0 ∧ v0 < UD v1.length) then L1 (Jx.wrap (v0 + 1),v1,v2,if v3 < v1.getD v0.toNat 0 then v1.getD v0.toNat 0 else v3,v4,v5,v6,v7,v8,v9,v10) else none else none else (W7 k (0,8,())).bind fun y => (W7 k (34,24,())).bind fun y_1 => bif decide (UQ y.1 + UQ y_1.1 < 1099511627776) then (W7 k (v4,16,())).bind fun y_2 => bif decide ((y.1 ++ y_1.1).size + UQ y_2.1 < 1099511627776) then (W7 k (v4,16,())).bind fun y_3 => bif decide ((y.1 ++ y_1.1 ++ y_2.1).size + UQ y_3.1 < 1099511627776) then (W7 k (v2,24,())).bind fun y_4 => bif decide ((y.1 ++ y_1.1 ++ y_2.1 ++ y_3.1).size + UQ y_4.1 < 1099511627776) then (W7 k (v3,24,())).bind fun y_5 => bif decide ((y.1 ++ y_1.1 ++ y_2.1 ++ y_3.1 ++ y_4.1).size + UQ y_5.1 < 1099511627776) then (W7 k (v8,20,())).bind fun y_6 => bif decide ((y.1 ++ y_1.1 ++ y_2.1 ++ y_3.1 ++ y_4.1 ++ y_5.1).size + UQ y_6.1 < 1099511627776) then (W7 k (Jx.wrap (v6 - 1),3,())).bind fun y_7 => bif decide ((y.1 ++ y_1.1 ++ y_2.1 ++ y_3.1 ++ y_4.1 ++ y_5.1 ++ y_6.1).size + UQ y_7.1 < 1099511627776) then (W7 k (Jx.wrap (v7 - 1),5,())).bind fun y_8 => bif decide ((y.1 ++ y_1.1 ++ y_2.1 ++ y_3.1 ++ y_4.1 ++ y_5.1 ++ y_6.1 ++ y_7.1).size + UQ y_8.1 < 1099511627776) then (W7 k (v5,36,())).bind fun y_9 => bif decide ((y.1 ++ y_1.1 ++ y_2.1 ++ y_3.1 ++ y_4.1 ++ y_5.1 ++ y_6.1 ++ y_7.1 ++ y_8.1).size + UQ y_9.1 < 1099511627776) then (Zy9 k (y.1 ++ y_1.1 ++ y_2.1 ++ y_3.1 ++ y_4.1 ++ y_5.1 ++ y_6.1 ++ y_7.1 ++ y_8.1 ++ y_9.1,())).bind fun y => bif decide ((4:Nat) + (UR (UT (fun n => UX n.toNat) y.1).toArray).size < 1099511627776) then (Zvd k (((v6,v7,v8,()),v9,v10,()),())).bind fun y_10 => bif decide ((UR #[102,76,97,67] ++ UR (UT (fun n => UX n.toNat) y.1).toArray).size + UQ y_10.1 < 1099511627776) then bif decide ((2:Int) ≤ UD v1.length) then (W7 k (3,8,())).bind fun y_11 => (W7 k (Jx.wrap ((18:Int) * UD v1.length),24,())).bind fun y_12 => bif decide (UQ y_11.1 + UQ y_12.1 < 1099511627776) then L2 (0,v1,y_11.1 ++ y_12.1,v4,(0:Int),v5,UR #[102,76,97,67] ++ UR (UT (fun n => UX n.toNat) y.1).toArray ++ y_10.1,v6,v7,v8,v9,v10) else none else (K1 k (7,())).bind fun y_11 => bif decide (UQ y_11.1 + (7:Nat) < (1099511627776:Nat)) then (K1 k (UD v9.length,())).bind fun y_12 => bif decide ((y_11.1 ++ UR #[115,104,101,108,108,97,99]).size + UQ y_12.1 < 1099511627776) then L3 (0,y_11.1 ++ UR #[115,104,101,108,108,97,99] ++ y_12.1,UR #[102,76,97,67] ++ UR (UT (fun n => UX n.toNat) y.1).toArray ++ y_10.1,v6,v7,v8,v9,v10) else none else none else none else none else none else none else none else none else none else none else none else none else none
def Zi5 (k:Nat):Zi3:=Zg (fun L1 => YX k (Zcs k) (Xt k) L1) k
noncomputable def Ztb (k:Nat) (n:Nat):=QI (ZnW k) Tryz.f45 Kw Qf [1,1,1,0,1,0] [] n ZMc (A:=ZnV)
def Zds (k:Nat) (L1:Zi3):((Int × Int × Int × Unit) × List ByteArray × List (List Int) × Unit) × Int × List Int × Unit → Option (ByteArray × Unit)
 | (((a0,a1,a2,()),a3,a4,()),a5,a6,()) => bif decide ((0:Int) ≤ 0 ∧ (0:Int) < UD a4.length) then L1 (0,a6,(0:Int),(0:Int),a5,UD (UO (a4.getD 0 [])),a0,a1,a2,a3,a4) else none
def Zvv (k:Nat):=Zds k (Zi5 k)
theorem Zpt (k:Nat):∀ n,Zln k n = Zg (fun L3 => Zax k L3) n:=ZO
theorem ZCr (k:Nat):∀ n,Ztc k n = Zg (fun L2 => Zaw k (Xt k) L2) n:=ZO (fun n v => by rw [show (Xt k) = Zln k k from (Zpt k k).symm]; kernel_rfl)
theorem ZCq (k:Nat):∀ n,Ztb k n = Zg (fun L1 => YX k (Zcs k) (Xt k) L1) n:=ZO (fun n v => by rw [show (Zcs k) = Ztc k k from (ZCr k k).symm,show (Xt k) = Zln k k from (Zpt k k).symm]; kernel_rfl)
noncomputable def ZSa (k:Nat):ZE k:=Zy 45 Tryz.f45 (ZnW k) Kw Qf Zvv (A:=ZnV) (h:=fun x => by show _ = Zds k (Zi5 k) x; rw [show Zi5 k = Ztb k k from (ZCq k k).symm]; kernel_rfl)
abbrev ZyT:List Kd:=[.view .str,.view (.int .i64),.view (.int .i64)]
noncomputable def ZET (k:Nat):List (ZE k):=[]
def ZES:Nat → Ann:=fun id => bif Ja id 3 then ⟨[8,1,2,7,0],[]⟩ else ⟨[],[]⟩
abbrev ZyS:=Int × Int × Int × Int × ByteArray
abbrev Zja:=ZyS → Option (Int × Unit)
def ZMm:ZyS → St
 | (v0,v1,v2,v3,v4) => St.mk (Zq [(8,Zl v0),(1,Zl v1),(2,Zl v2),(7,Zl v3),(0,AV.val (PV.v (UN v4)))]) (Zp [])
def ZaC (k:Nat) (L1:Zja):Zja
 | (v0,v1,v2,v3,v4) => bif decide (v0 < Jx.wrap (v1 + v2)) then bif decide (0 ≤ Jx.wrap (v0.tdiv (8:Int)) ∧ Jx.wrap (v0.tdiv (8:Int)) < UD v4.size) then bif decide (0 ≤ Jx.wrap ((7:Int) - v0.tmod (8:Int))) then L1 (Jx.wrap (v0 + 1),v1,v2,Jx.wrap (Jx.wrap ((2:Int) * v3) + Jx.wrap (UD (UH 64 ((Jx.wrap (UD (v4.data.toList.getD (Jx.wrap (v0.tdiv (8:Int))).toNat 0).toNat)).fdiv ((2:Int) ^ min (Jx.wrap ((7:Int) - v0.tmod (8:Int))).toNat 64)) &&& UH 64 (1:Int)).toNat)),v4) else none else none else some (v3,())
def Zpx (k:Nat):Zja:=Zg (fun L1 => ZaC k L1) k
noncomputable def Ztg (k:Nat) (n:Nat):=QI (ZET k) Tryz.f52 ZyT Z2 [1,1,0,1,0] [] n ZMm (A:=ZES)
def Zpy (k:Nat) (L1:Zja):ByteArray × Int × Int × Unit → Option (Int × Unit)
 | (a0,a1,a2,()) => L1 (a1,a1,a2,(0:Int),a0)
def XX (k:Nat):=Zpy k (Zpx k)
theorem ZCz (k:Nat):∀ n,Ztg k n = Zg (fun L1 => ZaC k L1) n:=ZO
noncomputable def ZSj (k:Nat):ZE k:=Zy 52 Tryz.f52 (ZET k) ZyT Z2 XX (A:=ZES) (h:=fun x => by show _ = Zpy k (Zpx k) x; rw [show Zpx k = Ztg k k from (ZCz k k).symm]; kernel_rfl)
def ZhE (k:Nat):ByteArray × Unit → Option (Int × Unit)
 | (a0,()) => bif decide ((0:Int) ≤ 0 ∧ (0:Int) < UD a0.size) then bif decide ((0:Int) ≤ 1 ∧ (1:Int) < UD a0.size) then bif decide ((0:Int) ≤ 2 ∧ (2:Int) < UD a0.size) then bif decide ((0:Int) ≤ 3 ∧ (3:Int) < UD a0.size) then some (Jx.wrap (Jx.wrap (Jx.wrap (Jx.wrap (UD (a0.data.toList.getD 0 0).toNat) + Jx.wrap (Jx.wrap (UD (a0.data.toList.getD 1 0).toNat) * (256:Int))) + Jx.wrap (Jx.wrap (UD (a0.data.toList.getD 2 0).toNat) * (65536:Int))) + Jx.wrap (Jx.wrap (UD (a0.data.toList.getD 3 0).toNat) * (16777216:Int))),()) else none else none else none else none
def K2 (k:Nat):=ZhE k
set_option maxHeartbeats 1000000 in
noncomputable def ZSC (k:Nat):ZE k:=Zy 110 Tryz.f110 [] QD Z2 K2
abbrev ZyV:Kd:=.tup [.view (.sl .str),.view (.int .i64),.view .bool]
noncomputable def ZEW (k:Nat):List (ZE k):=[ZSC k]
def ZEV:Nat → Ann:=fun id => bif Ja id 7 then ⟨[8,5,0,6,7],[.slot 7 (Ty.str)]⟩ else ⟨[],[]⟩
abbrev ZyU:=Int × Int × ByteArray × Int × List ByteArray
abbrev Zjb:=ZyU → Option ((List ByteArray × Int × Bool × Unit) × Unit)
def ZMn:ZyU → St
 | (v0,v1,v2,v3,v4) => St.mk (Zq [(8,Zl v0),(5,Zl v1),(0,AV.val (PV.v (UN v2))),(6,Zl v3),(7,AV.own 8192)]) (Zp [(8192,RS.live (Res.arr Ty.str v4 false))])
def ZaE (k:Nat) (L1:Zjb):Zjb
 | (v0,v1,v2,v3,v4) => bif decide (v0 < v1) then bif decide (UD v2.size < Jx.wrap (v3 + 4)) then some (([],0,false,()),()) else bif decide (0 ≤ v3 ∧ v3 ≤ UD v2.size ∧ UD v2.size ≤ UD v2.size) then (K2 k (v2.extract v3.toNat (UD v2.size).toNat,())).bind fun y => bif decide ((12:Int) < y.1) then some (([],0,false,()),()) else bif decide (0 ≤ v3 ∧ v3 ≤ UD v2.size ∧ UD v2.size ≤ UD v2.size) then (K2 k (v2.extract v3.toNat (UD v2.size).toNat,())).bind fun y => bif decide (UD v2.size < Jx.wrap (Jx.wrap (v3 + 4) + y.1)) then some (([],0,false,()),()) else bif decide (0 ≤ v3 ∧ v3 ≤ UD v2.size ∧ UD v2.size ≤ UD v2.size) then (K2 k (v2.extract v3.toNat (UD v2.size).toNat,())).bind fun y => bif decide (0 ≤ Jx.wrap (v3 + 4) ∧ Jx.wrap (v3 + 4) ≤ Jx.wrap (Jx.wrap (v3 + 4) + y.1) ∧ Jx.wrap (Jx.wrap (v3 + 4) + y.1) ≤ UD v2.size) then bif decide (v4.length + [v2.extract (Jx.wrap (v3 + 4)).toNat (Jx.wrap (Jx.wrap (v3 + 4) + y.1)).toNat].length < 2147483648) then L1 (Jx.wrap (v0 + 1),v1,v2,Jx.wrap (Jx.wrap (v3 + 4) + y.1),v4 ++ [v2.extract (Jx.wrap (v3 + 4)).toNat (Jx.wrap (Jx.wrap (v3 + 4) + y.1)).toNat]) else none else none else none else none else none else some ((v4,v3,true,()),())
def Zjc (k:Nat):Zjb:=Zg (fun L1 => ZaE k L1) k
noncomputable def Zth (k:Nat) (n:Nat):=QI (ZEW k) Tryz.f53 QD ZyV [1,1,1,1,1,0,1,0] [] n ZMn (A:=ZEV)
def Zdv (k:Nat) (L1:Zjb):ByteArray × Unit → Option ((List ByteArray × Int × Bool × Unit) × Unit)
 | (a0,()) => bif decide (UD a0.size < (19:Int)) then some (([],0,false,()),()) else bif decide ((0:Int) ≤ 15 ∧ (15:Int) ≤ UD a0.size ∧ UD a0.size ≤ UD a0.size) then (K2 k (a0.extract (15:Nat) (UD a0.size).toNat,())).bind fun y => bif decide ((8:Int) < y.1) then some (([],0,false,()),()) else bif decide ((0:Int) ≤ 15 ∧ (15:Int) ≤ UD a0.size ∧ UD a0.size ≤ UD a0.size) then (K2 k (a0.extract (15:Nat) (UD a0.size).toNat,())).bind fun y => L1 (0,y.1,a0,(19:Int),[]) else none else none
def ZgD (k:Nat):=Zdv k (Zjc k)
theorem ZCA (k:Nat):∀ n,Zth k n = Zg (fun L1 => ZaE k L1) n:=ZO
set_option maxHeartbeats 1000000 in
noncomputable def ZSk (k:Nat):ZE k:=Zy 53 Tryz.f53 (ZEW k) QD ZyV ZgD (A:=ZEV) (h:=fun x => by show _ = Zdv k (Zjc k) x; rw [show Zjc k = Zth k k from (ZCA k k).symm]; kernel_rfl)
noncomputable def Zvk (k:Nat):List (ZE k):=[ZRG k,ZEg k,ZSa k,ZSj k,ZSk k,ZXF k]
def Zvl:Nat → List Nat:=fun n => bif Ja n 1 then [25] else bif Ja n 35 then [5,4] else []
def Zvj:Nat → Ann:=fun id => bif Ja id 28 then ⟨[18,15,5,13,16,12,14,7,4,6,2,0,8,10],[]⟩ else bif Ja id 22 then ⟨[14,7,5,12,4,6,2,13,0,8,10],[.slot 13 ((Ty.int Jx))]⟩ else ⟨[],[]⟩
abbrev Zyu:=Int × Int × ByteArray × Int × Int × Int × Int × ByteArray × Int × Int × Int × List (List Int) × Int × Int × Int × List ByteArray × List (List Int) × List Int × Int × Int × Int
abbrev ZiN:=Zyu → Option ((((Int × Int × Int × Unit) × List ByteArray × List (List Int) × Unit) × Int × Unit) × Unit)
abbrev Zyt:=Int × Int × ByteArray × Int × Int × ByteArray × Int × Int × Int × Int × Int × List ByteArray × List (List Int) × Int × Int × Int × List Int
abbrev Zco:=Zyt → Option ((((Int × Int × Int × Unit) × List ByteArray × List (List Int) × Unit) × Int × Unit) × Unit)
def ZLV:Zyu → St
 | (v0,v1,v2,v3,v4,v5,v6,v7,v8,v9,v10,v11,v12,v13,v14,v15,v16,v17,v18,v19,v20) => St.mk (Zq [(18,Zl v0),(15,AV.bx 8192 0),(5,AV.bx 8193 0),(13,AV.own 8195),(16,Zl v1),(12,AV.val (PV.v (UN v2))),(14,Zl v3),(7,Zl v4),(4,Zl v5),(6,Zl v6),(2,AV.bx 8196 0),(0,AV.val (PV.v (UN v7))),(8,Zl v8),(10,Zl v9)]) (Zp [(8192,QQ [Zl v10,AV.val (PV.sl (Ty.int Jx).sl v11)]),(8193,QQ [Zl v12,Zl v13,Zl v14,AV.val (PV.sl Ty.str v15),AV.own 8194]),(8194,RS.live (Res.nest (Ty.int Jx) v16 none)),(8195,rsA v17 false),(8196,QQ [Zl v18,Zl v19,Zl v20,AV.val (PV.v (V4 none (0:Nat) (0:Nat))),AV.val (PV.v (V4 none (0:Nat) (0:Nat)))])])
def Zao (k:Nat) (L1:Zco) (L2:ZiN):ZiN
 | (v0,v1,v2,v3,v4,v5,v6,v7,v8,v9,v10,v11,v12,v13,v14,v15,v16,v17,v18,v19,v20) => bif decide (v0 < UD v11.length) then bif decide (0 ≤ v0 ∧ v0 < UD v16.length) then bif decide (v0.toNat < v16.length) then bif decide (0 ≤ v0 ∧ v0 < UD v11.length) then bif decide ((v16.getD v0.toNat []).length + UO (v11.getD v0.toNat []) < 2147483648) then bif decide (0 ≤ v0 ∧ v0 < UD v16.length) then bif decide (v0.toNat = v0.toNat) then bif decide (v0.toNat < v16.length) then L2 (Jx.wrap (v0 + 1),v1,v2,v3,v4,v5,v6,v7,v8,v9,v10,v11,v12,v13,v14,v15,v16.set v0.toNat (v16.getD v0.toNat [] ++ v11.getD v0.toNat []),v17,v18,v19,v20) else none else none else none else none else none else none else none else bif decide (v17.length + [v1].length < 2147483648) then bif decide (0 ≤ v1 ∧ v1 ≤ UD v2.size ∧ UD v2.size ≤ UD v2.size) then L1 (Jx.wrap (v3 + 1),v4,v2.extract v1.toNat (UD v2.size).toNat,v5,v6,v7,v8,v9,v12,v13,v14,v15,v16,v18,v19,v20,v17 ++ [v1]) else none else none
def Zcp (k:Nat) (L1:Zco):ZiN:=Zg (fun L2 => Zao k L1 L2) k
noncomputable def Zs0 (k:Nat) (n1:Nat) (n:Nat):=QI (Zvk k) Tryz.f24 QD Zcn [1,1,1,1,1,1,1,1,1,1,1,1,1,1,1,1,0,1,0,0,1,0,0,1,1,0,1,0] [n1] n ZLV (A:=Zvj) (live:=Zvl)
def ZLU:Zyt → St
 | (v0,v1,v2,v3,v4,v5,v6,v7,v8,v9,v10,v11,v12,v13,v14,v15,v16) => St.mk (Zq [(14,Zl v0),(7,Zl v1),(5,AV.bx 8192 0),(12,AV.val (PV.v (UN v2))),(4,Zl v3),(6,Zl v4),(2,AV.bx 8194 0),(13,AV.own 8195),(0,AV.val (PV.v (UN v5))),(8,Zl v6),(10,Zl v7)]) (Zp [(8192,QQ [Zl v8,Zl v9,Zl v10,AV.val (PV.sl Ty.str v11),AV.own 8193]),(8193,RS.live (Res.nest (Ty.int Jx) v12 none)),(8194,QQ [Zl v13,Zl v14,Zl v15,AV.val (PV.v (V4 none (0:Nat) (0:Nat))),AV.val (PV.v (V4 none (0:Nat) (0:Nat)))]),(8195,rsA v16 false)])
def YR (k:Nat) (L2:ZiN) (L1:Zco):Zco
 | (v0,v1,v2,v3,v4,v5,v6,v7,v8,v9,v10,v11,v12,v13,v14,v15,v16) => bif decide (v0 < v1) then (ZED k ((v8,v9,v10,()),v2,())).bind fun y => bif y.1.2.2.1 != 0 then some (((((0:Int),(0:Int),(0:Int),()),[],[],()),2,()),()) else bif y.1.1.1 != v0 then some (((((0:Int),(0:Int),(0:Int),()),[],[],()),2,()),()) else bif decide ((0:Int) ≤ 0 ∧ (0:Int) < UD (UO y.1.1.2.1)) then bif UD (UO (U6 y.1.1.2.1 (0:Nat) [])) != if Jx.wrap (v4 - Jx.wrap (v0 * v3)) < v3 then Jx.wrap (v4 - Jx.wrap (v0 * v3)) else v3 then some (((((0:Int),(0:Int),(0:Int),()),[],[],()),2,()),()) else L2 (0,y.1.2.1,v2,v0,v1,v3,v4,v5,v6,v7,y.1.1.1,y.1.1.2.1,v8,v9,v10,v11,v12,v16,v13,v14,v15) else none else bif !v2.toList == (UR #[]).toList then some (((((0:Int),(0:Int),(0:Int),()),[],[],()),2,()),()) else (Zvb k (((v8,v9,v10,()),v11,v12,()),())).bind fun y => bif y.1 != 0 then some (((((0:Int),(0:Int),(0:Int),()),[],[],()),2,()),()) else (Zvv k (((v8,v9,v10,()),v11,v12,()),v3,v16,())).bind fun y => bif decide ((0:Int) ≤ 0 ∧ (0:Int) ≤ Jx.wrap (v6 + v7) ∧ Jx.wrap (v6 + v7) ≤ UD v5.size) then bif !U3 y.1 == (v5.extract (0:Nat) (Jx.wrap (v6 + v7)).toNat).toList then some (((((0:Int),(0:Int),(0:Int),()),[],[],()),2,()),()) else some ((((v8,v9,v10,()),v11,v12,()),0,()),()) else none
def Ks (k:Nat):Zco:=Zg (fun L1 => YR k (Zcp k L1) L1) k
noncomputable def ZgA (k:Nat) (n:Nat):=QI (Zvk k) Tryz.f24 QD Zcn [1,1,1,1,1,1,1,1,1,1,1,1,1,1,1,1,0,1,0] [] n ZLU (A:=Zvj) (live:=Zvl)
def Zdn (k:Nat) (L1:Zco):ByteArray × Unit → Option ((((Int × Int × Int × Unit) × List ByteArray × List (List Int) × Unit) × Int × Unit) × Unit)
 | (a0,()) => bif decide ((60000:Int) < UD a0.size) then some (((((0:Int),(0:Int),(0:Int),()),[],[],()),2,()),()) else bif decide (UD a0.size < (42:Int)) then some (((((0:Int),(0:Int),(0:Int),()),[],[],()),2,()),()) else (XX k (a0,64,16,())).bind fun y => (XX k (a0,144,20,())).bind fun y_1 => (XX k (a0,164,3,())).bind fun y_2 => (XX k (a0,167,5,())).bind fun y_3 => (XX k (a0,172,36,())).bind fun y_4 => bif decide (y.1 < 16) then some (((((0:Int),(0:Int),(0:Int),()),[],[],()),2,()),()) else bif decide ((512:Int) < y.1) then some (((((0:Int),(0:Int),(0:Int),()),[],[],()),2,()),()) else bif decide ((4096:Int) < y_4.1) then some (((((0:Int),(0:Int),(0:Int),()),[],[],()),2,()),()) else (Zmn k ((Jx.wrap ((1:Int) + y_2.1),Jx.wrap ((1:Int) + y_3.1),y_1.1,()),())).bind fun y_5 => bif !y_5.1 then some (((((0:Int),(0:Int),(0:Int),()),[],[],()),2,()),()) else bif decide ¬y.1 = (0:Int) then bif decide (2 ≤ Jx.wrap ((Jx.wrap (Jx.wrap (y_4.1 + y.1) - 1)).tdiv y.1)) then bif decide (UD a0.size < Jx.wrap ((46:Int) + Jx.wrap ((18:Int) * Jx.wrap ((Jx.wrap (Jx.wrap (y_4.1 + y.1) - 1)).tdiv y.1)))) then some (((((0:Int),(0:Int),(0:Int),()),[],[],()),2,()),()) else bif decide (0 ≤ Jx.wrap ((46:Int) + Jx.wrap ((18:Int) * Jx.wrap ((Jx.wrap (Jx.wrap (y_4.1 + y.1) - 1)).tdiv y.1))) ∧ Jx.wrap ((46:Int) + Jx.wrap ((18:Int) * Jx.wrap ((Jx.wrap (Jx.wrap (y_4.1 + y.1) - 1)).tdiv y.1))) ≤ UD a0.size ∧ UD a0.size ≤ UD a0.size) then (ZgD k (a0.extract (Jx.wrap ((46:Int) + Jx.wrap ((18:Int) * Jx.wrap ((Jx.wrap (Jx.wrap (y_4.1 + y.1) - 1)).tdiv y.1)))).toNat (UD a0.size).toNat,())).bind fun y_6 => bif !y_6.1.2.2.1 then some (((((0:Int),(0:Int),(0:Int),()),[],[],()),2,()),()) else bif decide (0 ≤ Jx.wrap (Jx.wrap ((46:Int) + Jx.wrap ((18:Int) * Jx.wrap ((Jx.wrap (Jx.wrap (y_4.1 + y.1) - 1)).tdiv y.1))) + y_6.1.2.1) ∧ Jx.wrap (Jx.wrap ((46:Int) + Jx.wrap ((18:Int) * Jx.wrap ((Jx.wrap (Jx.wrap (y_4.1 + y.1) - 1)).tdiv y.1))) + y_6.1.2.1) ≤ UD a0.size ∧ UD a0.size ≤ UD a0.size) then bif decide (0 ≤ Jx.wrap ((1:Int) + y_2.1) ∧ Jx.wrap ((1:Int) + y_2.1) ≤ Jx.wrap ((1:Int) + y_2.1) ∧ Jx.wrap ((1:Int) + y_2.1) < 4294967296) then L1 (0,Jx.wrap ((Jx.wrap (Jx.wrap (y_4.1 + y.1) - 1)).tdiv y.1),a0.extract (Jx.wrap (Jx.wrap ((46:Int) + Jx.wrap ((18:Int) * Jx.wrap ((Jx.wrap (Jx.wrap (y_4.1 + y.1) - 1)).tdiv y.1))) + y_6.1.2.1)).toNat (UD a0.size).toNat,y.1,y_4.1,a0,Jx.wrap ((46:Int) + Jx.wrap ((18:Int) * Jx.wrap ((Jx.wrap (Jx.wrap (y_4.1 + y.1) - 1)).tdiv y.1))),y_6.1.2.1,Jx.wrap ((1:Int) + y_2.1),Jx.wrap ((1:Int) + y_3.1),y_1.1,y_6.1.1,Jd (Jx.wrap ((1:Int) + y_2.1)).toNat [],(0:Int),(0:Int),(0:Int),[]) else none else none else none else bif decide (UD a0.size < (42:Int)) then some (((((0:Int),(0:Int),(0:Int),()),[],[],()),2,()),()) else bif decide ((0:Int) ≤ 42 ∧ (42:Int) ≤ UD a0.size ∧ UD a0.size ≤ UD a0.size) then (ZgD k (a0.extract (42:Nat) (UD a0.size).toNat,())).bind fun y_6 => bif !y_6.1.2.2.1 then some (((((0:Int),(0:Int),(0:Int),()),[],[],()),2,()),()) else bif decide (0 ≤ Jx.wrap ((42:Int) + y_6.1.2.1) ∧ Jx.wrap ((42:Int) + y_6.1.2.1) ≤ UD a0.size ∧ UD a0.size ≤ UD a0.size) then bif decide (0 ≤ Jx.wrap ((1:Int) + y_2.1) ∧ Jx.wrap ((1:Int) + y_2.1) ≤ Jx.wrap ((1:Int) + y_2.1) ∧ Jx.wrap ((1:Int) + y_2.1) < 4294967296) then L1 (0,Jx.wrap ((Jx.wrap (Jx.wrap (y_4.1 + y.1) - 1)).tdiv y.1),a0.extract (Jx.wrap ((42:Int) + y_6.1.2.1)).toNat (UD a0.size).toNat,y.1,y_4.1,a0,(42:Int),y_6.1.2.1,Jx.wrap ((1:Int) + y_2.1),Jx.wrap ((1:Int) + y_3.1),y_1.1,y_6.1.1,Jd (Jx.wrap ((1:Int) + y_2.1)).toNat [],(0:Int),(0:Int),(0:Int),[]) else none else none else none else none
def Zdm (k:Nat):=Zdn k (Ks k)
theorem ZB5 (k:Nat) (n1:Nat):∀ n,Zs0 k n1 n = Zg (fun L2 => Zao k (ZgA k n1) L2) n:=ZO
theorem ZB4 (k:Nat):∀ n,ZgA k n = Zg (fun L1 => YR k (Zcp k L1) L1) n:=ZO (fun n v => by rw [show (Zcp k (ZgA k n)) = Zs0 k n k from (ZB5 k n k).symm]; kernel_rfl)
set_option maxHeartbeats 1000000 in
noncomputable def ZRR (k:Nat):ZE k:=Zy 24 Tryz.f24 (Zvk k) QD Zcn Zdm (A:=Zvj) (live:=Zvl) (h:=fun x => by show _ = Zdn k (Ks k) x; rw [show Ks k = ZgA k k from (ZB4 k k).symm]; kernel_rfl)
noncomputable def Zhs (k:Nat):List Int × Unit → Option (Bool × Unit)
 | (a0,()) => (Ziw k ()).bind fun y => bif !y.1 then (Ziw k ()).bind fun y => some (y.1,()) else bif decide ((900:Int) < UD a0.length) then (Ziw k ()).bind fun y => some (y.1,()) else (Zvf k (a0,())).bind fun y => (Zdm k (UR (UT (fun n => UX n.toNat) a0).toArray,())).bind fun y_1 => (Zvo k (((y.1.1.1.1,y.1.1.1.2.1,y.1.1.1.2.2.1,()),y.1.1.2.1,y.1.1.2.2.1,()),())).bind fun y_2 => (Zvm k (((y_2.1.1.1,y_2.1.1.2.1,y_2.1.1.2.2.1,()),y_2.1.2.1,y_2.1.2.2.1,()),((y_1.1.1.1.1,y_1.1.1.1.2.1,y_1.1.1.1.2.2.1,()),y_1.1.1.2.1,y_1.1.1.2.2.1,()),())).bind fun y_3 => bif y_3.1 then some (y.1.2.1 == y_1.1.2.1,()) else some (false,())
noncomputable def f2005_F (k:Nat):=Zhs k
set_option maxHeartbeats 1000000 in
noncomputable def ZRw (k:Nat):ZE k:=Zy 5 Tryz.f5 [ZRx k,Zvg k,ZRR k,Zvn k,Zvp k] XN Wd f2005_F
theorem f2005_ctr (k:Nat):Ctr Tryz.prog k 5 (mk XN Wd f2005_F):=(ZRw k).2
end Go.Sh
namespace Go.Sh
open Go Go.Proofs
def kT:List Nat:=[3614090360,3905402710,606105819,3250441966,4118548399,1200080426,2821735955,4249261313,1770035416,2336552879,4294925233,2304563134,1804603682,4254626195,2792965006,1236535329,4129170786,3225465664,643717713,3921069994,3593408605,38016083,3634488961,3889429448,568446438,3275163606,4107603335,1163531501,2850285829,4243563512,1735328473,2368359562,4294588738,2272392833,1839030562,4259657740,2763975236,1272893353,4139469664,3200236656,681279174,3936430074,3572445317,76029189,3654602809,3873151461,530742520,3299628645,4096336452,1126891415,2878612391,4237533241,1700485571,2399980690,4293915773,2240044497,1873313359,4264355552,2734768916,1309151649,4149444226,3174756917,718787259,3951481745]
def rT:List Nat:=[7,12,17,22,5,9,14,20,4,11,16,23,6,10,15,21]
def Zj (l:List Nat):List Int:=l.map UD
theorem ZC (l:List Nat):(Zj l).length = l.length:=by simp [Zj]
theorem Z1 (l:List Nat) (i:Nat):(Zj l).getD i 0 = ((l.getD i 0:Nat):Int):=by
 grind [Zj]
def ZlJ (b:Nat):Nat:=4294967295 - b
def fT (t b c d:Nat):Nat:=if t / 16 = 0 then (b &&& c) ||| (ZlJ b &&& d) else if t / 16 = 1 then (d &&& b) ||| (ZlJ d &&& c) else if t / 16 = 2 then b ^^^ c ^^^ d else c ^^^ (b ||| ZlJ d)
def gT (t:Nat):Nat:=if t / 16 = 0 then t % 16 else if t / 16 = 1 then (5 * t + 1) % 16 else if t / 16 = 2 then (3 * t + 5) % 16 else (7 * t) % 16
def ZDz (x r:Nat):Nat:=x * 2 ^ r % 4294967296 + x / 2 ^ (32 - r)
def xT (M:List Nat) (t a b c d:Nat):Nat:=(a + fT t b c d + kT.getD t 0 + M.getD (gT t) 0) % 4294967296
def bT (M:List Nat) (t a b c d:Nat):Nat:=(b + ZDz (xT M t a b c d) (rT.getD (t % 4 + t / 16 * 4) 0)) % 4294967296
abbrev S4:=Nat × Nat × Nat × Nat
def W2 (M:List Nat):Nat → Nat → S4 → S4
 | 0,_,s => s
 | n + 1,t,(a,b,c,d) => W2 M n (t + 1) (d,bT M t a b c d,b,c)
noncomputable def n64:Nat:=Classical.choose (⟨64,rfl⟩:∃ n:Nat,n = 64)
theorem ZwQ:n64 = 64:=Classical.choose_spec (⟨64,rfl⟩:∃ n:Nat,n = 64)
noncomputable def ZIX (M:List Nat):S4 → S4
 | (a,b,c,d) => (((W2 M n64 0 (a,b,c,d)).1 + a) % 4294967296,((W2 M n64 0 (a,b,c,d)).2.1 + b) % 4294967296,((W2 M n64 0 (a,b,c,d)).2.2.1 + c) % 4294967296,((W2 M n64 0 (a,b,c,d)).2.2.2 + d) % 4294967296)
theorem ZAU {a:Nat} (ha:a < 4294967296):(UH 32 (a:Int)).toNat = a:=by simp_all
theorem ZDM {n:Nat} (h:n < 4294967296):UW.wrap (n:Int) = (n:Int):=by rw [IntKind.wrap_u32]; omega
theorem ZY8 (n:Nat):UW.wrap (n:Int) = ((n % 4294967296:Nat):Int):=by rw [IntKind.wrap_u32]; omega
theorem Wn {a b:Nat} (ha:a < 4294967296):a &&& b < 4294967296:=He Nat.and_le_left ha
theorem ZbA {a b:Nat} (ha:a < 4294967296) (hb:b < 4294967296):a ||| b < 4294967296:=Nat.or_lt_two_pow (n:=32) ha hb
theorem Zba {a b:Nat} (ha:a < 4294967296) (hb:b < 4294967296):a ^^^ b < 4294967296:=Nat.xor_lt_two_pow (n:=32) ha hb
theorem ZDU {a b:Nat} (ha:a < 4294967296) (hb:b < 4294967296):UW.wrap (UD (UH 32 (a:Int) &&& UH 32 (b:Int)).toNat) = ((a &&& b:Nat):Int):=by
 rw [U8,ZAU ha,ZAU hb]; exact ZDM (Wn ha)
theorem ZDo {a b:Nat} (ha:a < 4294967296) (hb:b < 4294967296):UW.wrap (UD (UH 32 (a:Int) ||| UH 32 (b:Int)).toNat) = ((a ||| b:Nat):Int):=by
 rw [Hj,ZAU ha,ZAU hb]; exact ZDM (ZbA ha hb)
theorem ZQo {a b:Nat} (ha:a < 4294967296) (hb:b < 4294967296):UW.wrap (UD (UH 32 (a:Int) ^^^ UH 32 (b:Int)).toNat) = ((a ^^^ b:Nat):Int):=by
 rw [Hk,ZAU ha,ZAU hb]; exact ZDM (Zba ha hb)
theorem ZPz {b:Nat} (hb:b < 4294967296):UW.wrap (UD (UH 32 (4294967295:Int) ^^^ UH 32 (b:Int)).toNat) = ((ZlJ b:Nat):Int):=by
 have h:UH 32 (4294967295:Int) = Hg 32:=by decide
 rw [h,Hh,Hi,ZAU hb]
 exact ZDM (show ZlJ b < 4294967296 by unfold ZlJ; omega)
theorem WK (b:Nat):ZlJ b < 4294967296:=by unfold ZlJ; omega
theorem ZYr {t b c d:Nat} (hb:b < 4294967296) (hc:c < 4294967296) (hd:d < 4294967296):fT t b c d < 4294967296:=by
 unfold fT
 split
 ·exact ZbA (Wn hb) (Wn (WK b))
 ·split
  ·exact ZbA (Wn hd) (Wn (WK d))
  ·split
   ·exact Zba (Zba hb hc) hd
   ·exact Zba hc (ZbA hb (WK d))
theorem Zq0 {x y s:Nat} (h:x < 2 ^ s):x ||| y * 2 ^ s = x + y * 2 ^ s:=by
 have:=Nat.shiftLeft_add_eq_or_of_lt (i:=s) h y
 rw [Nat.shiftLeft_eq] at this
 grind
theorem ZPP {x r:Nat} (hx:x < 4294967296) (hr:r ≤ 32):x * 2 ^ r % 4294967296 ||| x / 2 ^ (32 - r) = ZDz x r:=by
 have e:(4294967296:Nat) = 2 ^ (32 - r) * 2 ^ r:=by rw [← Nat.pow_add,show 32 - r + r = 32 by omega]
 have h1:x * 2 ^ r % 4294967296 = (x % 2 ^ (32 - r)) * 2 ^ r:=by
  conv => lhs; rw [e]
  exact Nat.mul_mod_mul_right _ _ _
 have h2:x / 2 ^ (32 - r) < 2 ^ r:=Nat.div_lt_of_lt_mul (by rw [← e]; exact hx)
 unfold ZDz
 rw [h1,Nat.or_comm,Zq0 h2,Nat.add_comm]
theorem ZGi {x r:Nat} (hx:x < 4294967296) (hr:r ≤ 32):ZDz x r < 4294967296:=by
 rw [← ZPP hx hr]
 exact ZbA (UY _ (by omega)) (He (Nat.div_le_self _ _) hx)
theorem ZSV:∀ r:Fin 32,UI.wrap (UD (UH 64 (UI.wrap (r.val:Int)) &&& UH 64 (31:Int)).toNat) = (r.val:Int):=by decide +kernel
theorem ZCW (k:Nat) {x r:Nat} (hx:x < 4294967296) (hr:r < 32):ZdC k ((x:Int),(r:Int),()) = some (((ZDz x r:Nat):Int),()):=by
 show ZhF k _ = _
 simp only [ZhF]
 rw [ZSV ⟨r,hr⟩]
 simp only
 have e1:UI.wrap ((32:Int) - (r:Int)) = ((32 - r:Nat):Int):=by rw [IntKind.wrap_u64]; omega
 rw [e1,Za (by omega)]
 have e2:min ((r:Int)).toNat 32 = r:=by omega
 have e3:min (((32 - r:Nat):Int)).toNat 32 = 32 - r:=by omega
 rw [e2,e3]
 have e4:(x:Int) * (2:Int) ^ r = ((x * 2 ^ r:Nat):Int):=by simp
 have e5:UP (x:Int) ((2:Int) ^ (32 - r)) = ((x / 2 ^ (32 - r):Nat):Int):=by
  grind
 rw [e4,e5,ZY8,ZDo (UY _ (by omega)) (He (Nat.div_le_self _ _) hx),ZPP hx (by omega)]
theorem tq:∀ t:Fin 64,Jx.wrap ((t.val:Int).tdiv 16) = ((t.val / 16:Nat):Int):=by decide +kernel
theorem ZYI:∀ t:Fin 64,(t.val:Int).tmod 16 = ((t.val % 16:Nat):Int):=by decide +kernel
theorem tm4:∀ t:Fin 64,(t.val:Int).tmod 4 = ((t.val % 4:Nat):Int):=by decide +kernel
theorem g1:∀ t:Fin 64,(Jx.wrap (Jx.wrap ((5:Int) * (t.val:Int)) + (1:Int))).tmod 16 = (((5 * t.val + 1) % 16:Nat):Int):=by decide +kernel
theorem g2:∀ t:Fin 64,(Jx.wrap (Jx.wrap ((3:Int) * (t.val:Int)) + (5:Int))).tmod 16 = (((3 * t.val + 5) % 16:Nat):Int):=by decide +kernel
theorem g3:∀ t:Fin 64,(Jx.wrap ((7:Int) * (t.val:Int))).tmod 16 = (((7 * t.val) % 16:Nat):Int):=by decide +kernel
theorem ZUy:∀ t:Fin 64,rT.getD (t.val % 4 + t.val / 16 * 4) 0 < 32:=by decide +kernel
theorem ZW1:∀ t:Fin 64,([7,12,17,22,5,9,14,20,4,11,16,23,6,10,15,21]:List Int).getD ((t.val % 4) + (t.val / 16 * 4 + 0)) 0 = ((rT.getD (t.val % 4 + t.val / 16 * 4) 0:Nat):Int):=by decide +kernel
theorem ZGq (a f k m:Nat):UW.wrap (UW.wrap (UW.wrap ((a:Int) + (f:Int)) + (k:Int)) + (m:Int)) = (((a + f + k + m) % 4294967296:Nat):Int):=by
 simp only [IntKind.wrap_u32]; omega
theorem Zxn (a b:Nat):UW.wrap ((a:Int) + (b:Int)) = (((a + b) % 4294967296:Nat):Int):=by
 simp only [IntKind.wrap_u32]; omega
def ZfW:List Int:=[7,12,17,22,5,9,14,20,4,11,16,23,6,10,15,21]
abbrev L76:=Int × Int × Int × Int × Int × List Int × Int × Int × Int × Int × List Int × List Int → Option (Unit × (Int × Int × Int × Int × Unit) × Unit)
theorem Zkm {n:Nat} (h:n < 1000000):Jx.wrap ((n:Int) + 1) = ((n + 1:Nat):Int):=by rw [ZG (by omega)]; rfl
theorem ZyZ (k:Nat) (L:L76) {t:Nat} (ht:t < 64) {a b c d:Nat} (ha:a < 4294967296) (hb:b < 4294967296) (hc:c < 4294967296) (hd:d < 4294967296) {M:List Nat} (hM:M.length = 16) (s0 s1 s2 s3:Int) :
  YZ k L ((t:Int),(b:Int),(c:Int),(d:Int),(a:Int),Zj kT,s0,s1,s2,s3,Zj M,ZfW) =
   L (((t + 1:Nat):Int),((bT M t a b c d:Nat):Int),(b:Int),(c:Int),(d:Int),Zj kT,s0,s1,s2,s3,Zj M,ZfW):=by
 simp only [YZ]
 have q:=tq ⟨t,ht⟩
 have m16:=ZYI ⟨t,ht⟩
 have m4:=tm4 ⟨t,ht⟩
 have e1:=g1 ⟨t,ht⟩
 have e2:=g2 ⟨t,ht⟩
 have e3:=g3 ⟨t,ht⟩
 have r1:=ZUy ⟨t,ht⟩
 have r2:=ZW1 ⟨t,ht⟩
 simp only at q m16 m4 e1 e2 e3 r1 r2
 have hk:(Zj kT).length = 64:=by rw [ZC]; rfl
 have hm:(Zj M).length = 16:=by rw [ZC,hM]
 rw [Za (by omega),q,m16,m4,e1,e2,e3,hk,hm]
 simp only [tNc,Nat.add_zero]
 have hx:=fun y => ZGi (x:=y % 4294967296) (r:=rT.getD (t % 4 + t / 16 * 4) 0) (UY _ (by omega)) (by omega)
 have sp:=fun y => ZCW k (x:=y % 4294967296) (UY _ (by omega)) r1
 have r3:ZfW.getD (t % 4 + t / 16 * 4) 0 = ((rT.getD (t % 4 + t / 16 * 4) 0:Nat):Int):=r2
 have hl:ZfW.length = 16:=rfl
 rw [Z1,Z1,Z1,Z1,Z1,r3,hl]
 have done:∀ g f,g = gT t → f = fT t b c d → ∀ y,y = ((((a + f + kT.getD t 0 + M.getD g 0) % 4294967296:Nat):Int)) → ((ZdC k (y,((rT.getD (t % 4 + t / 16 * 4) 0:Nat):Int),())).bind fun y => L (Jx.wrap ((t:Int) + 1),UW.wrap ((b:Int) + y.1),(b:Int),(c:Int),(d:Int),Zj kT,s0,s1,s2,s3,Zj M,ZfW)) =
   L (((t + 1:Nat):Int),((bT M t a b c d:Nat):Int),(b:Int),(c:Int),(d:Int),Zj kT,s0,s1,s2,s3,Zj M,ZfW):=by
  rintro g f rfl rfl y rfl
  rw [sp]
  simp only [QJ]
  rw [Zkm (by omega),Zxn]
  rfl
 by_cases h0:t / 16 = 0
 ·rw [Zw,Za (by omega),Za (by omega),Za (by omega),Za (by omega),Za (by omega),Za (by omega),Za (by omega)]
  refine done (t % 16) _ (by simp [gT,h0]) rfl _ ?_
  rw [ZDU hb hc,ZPz hb,ZDU (WK b) hd,ZDo (Wn hb) (Wn (WK b)),ZGq]
  simp [fT,h0]
 rw [Zw,Zh (by omega)]
 by_cases h1:t / 16 = 1
 ·rw [Zw,Za (by omega),Za (by omega),Za (by omega),Za (by omega),Za (by omega),Za (by omega),Za (by omega)]
  refine done ((5 * t + 1) % 16) _ (by simp [gT,h1]) rfl _ ?_
  rw [ZDU hd hb,ZPz hd,ZDU (WK d) hc,ZDo (Wn hd) (Wn (WK d)),ZGq]
  simp [fT,h1]
 rw [Zw,Zh (by omega)]
 by_cases h2:t / 16 = 2
 ·rw [Zw,Za (by omega),Za (by omega),Za (by omega),Za (by omega),Za (by omega),Za (by omega),Za (by omega)]
  refine done ((3 * t + 5) % 16) _ (by simp [gT,h2]) rfl _ ?_
  rw [ZQo hb hc,ZQo (Zba hb hc) hd,ZGq]
  simp [fT,h2]
 rw [Zw,Zh (by omega)]
 rw [Za (by omega),Za (by omega),Za (by omega),Za (by omega),Za (by omega),Za (by omega)]
 refine done ((7 * t) % 16) _ (by simp [gT,h0,h1,h2]) rfl _ ?_
 rw [ZPz hd,ZDo hb (WK d),ZQo hc (ZbA hb (WK d)),ZGq]
 simp [fT,h0,h1,h2]
end Go.Sh
namespace Go.Sh
open Go Go.Proofs
def lt4 (s:S4):Prop:=s.1 < 4294967296 ∧ s.2.1 < 4294967296 ∧ s.2.2.1 < 4294967296 ∧ s.2.2.2 < 4294967296
theorem ZF6 (M:List Nat) (s:S4):lt4 (ZIX M s):=by
 obtain ⟨a,b,c,d⟩:=s
 exact ⟨UY _ (by omega),UY _ (by omega),UY _ (by omega),UY _ (by omega)⟩
def o4 (s:S4):Int × Int × Int × Int × Unit:=((s.1:Int),(s.2.1:Int),(s.2.2.1:Int),(s.2.2.2:Int),())
theorem ZEY (k:Nat) {M:List Nat} (hM:M.length = 16) (s:S4):∀ (n t fuel:Nat) (v:S4),t + n = 64 → n < fuel → lt4 v →
  Zg (fun L2 => YZ k L2) fuel ((t:Int),(v.2.1:Int),(v.2.2.1:Int),(v.2.2.2:Int),(v.1:Int),Zj kT,(s.1:Int),(s.2.1:Int),(s.2.2.1:Int),(s.2.2.2:Int),Zj M,ZfW) =
   some ((),o4 (((W2 M n t v).1 + s.1) % 4294967296,((W2 M n t v).2.1 + s.2.1) % 4294967296,((W2 M n t v).2.2.1 + s.2.2.1) % 4294967296,((W2 M n t v).2.2.2 + s.2.2.2) % 4294967296),())
 | 0,t,fuel + 1,(a,b,c,d),h1,h2,h3 => by
  rw [Zc]
  simp only [YZ,W2,o4]
  rw [Zh (by omega),Zxn,Zxn,Zxn,Zxn]
  simp only [Nat.add_comm]
 | n + 1,t,fuel + 1,(a,b,c,d),h1,h2,h3 => by
  rw [Zc,ZyZ k _ (by omega) h3.1 h3.2.1 h3.2.2.1 h3.2.2.2 hM]
  exact ZEY k hM s n (t + 1) fuel (d,bT M t a b c d,b,c) (by omega) (by omega) ⟨h3.2.2.2,UY _ (by omega),h3.2.1,h3.2.2.1⟩
 | 0,_,0,_,_,h2,_ => absurd h2 (U1 _)
 | n + 1,_,0,_,_,h2,_ => absurd h2 (U2 _)
def Zkn (p:List Nat) (i:Nat):Nat:=p.getD (4 * i) 0 + p.getD (4 * i + 1) 0 * 256 + p.getD (4 * i + 2) 0 * 65536 + p.getD (4 * i + 3) 0 * 16777216
def Kb (p:List Nat):List Nat:=(Jc 16).map (Zkn p)
theorem ZrI (p:List Nat):(Kb p).length = 16:=by simp [Kb]
def QA (p:List Nat):Prop := ∀ x ∈ p,x < 256
theorem Wm {p:List Nat} (h:QA p) (i:Nat):p.getD i 0 < 256:=by
 rw [VR]
 cases hi:p[i]? with
 | none => simp
 | some x => exact h x (Vw hi)
theorem ZTm {a b c d:Nat} (ha:a < 256) (hb:b < 256) (hc:c < 256) (hd:d < 256) :
  UW.wrap (UD (UH 32 (UW.wrap (UD (UH 32 (UW.wrap (UD (UH 32 (UW.wrap (a:Int)) ||| UH 32 (UW.wrap (UW.wrap (b:Int) * 256))).toNat)) ||| UH 32 (UW.wrap (UW.wrap (c:Int) * 65536))).toNat)) ||| UH 32 (UW.wrap (UW.wrap (d:Int) * 16777216))).toNat) =
   ((a + b * 256 + c * 65536 + d * 16777216:Nat):Int):=by
 have e:∀ x y:Nat,x < 256 → x * y < 4294967296 → UW.wrap (UW.wrap (x:Int) * (y:Int)) = ((x * y:Nat):Int):=by
  intro x y hx hy
  rw [ZDM (by omega),← Int.natCast_mul,ZDM hy]
 have e1:=e b 256 hb (by omega)
 have e2:=e c 65536 hc (by omega)
 have e3:=e d 16777216 hd (by omega)
 simp only [Hl] at e1 e2 e3
 rw [e1,e2,e3,ZDM (by omega),ZDo (by omega) (by omega)]
 have o1:=Zq0 (x:=a) (y:=b) (s:=8) ha
 have o2:=Zq0 (x:=a + b * 256) (y:=c) (s:=16) (by omega)
 have o3:=Zq0 (x:=a + b * 256 + c * 65536) (y:=d) (s:=24) (by omega)
 simp only [Nat.reducePow] at o1 o2 o3
 rw [o1,ZDo (by omega) (by omega),o2,ZDo (by omega) (by omega),o3]
theorem ZGM (l:List Nat) (i n:Nat):(Zj l).set i (n:Int) = Zj (l.set i n):=by
 simp [Zj,List.map_set]
def Kk (p:List Nat) (i:Nat):List Nat:=(Jc 16).map fun j => if j < i then Zkn p j else 0
theorem ZAx (p:List Nat) {i:Nat} (hi:i < 16):(Kk p i).set i (Zkn p i) = Kk p (i + 1):=by
 apply List.ext_getElem
 ·simp [Kk]
 ·intro j h1 h2
  simp only [Kk,JQ,List.length_map,U7] at h1
  rw [List.getElem_set]
  simp only [Kk,List.getElem_map,List.getElem_range]
  grind
theorem ZEX (k:Nat) {p:List Nat} (hp:p.length = 64) (h8:QA p) (s:S4) (L2:L76):∀ (n i fuel:Nat),i + n = 16 → n < fuel →
  Zg (fun L1 => ZaF k L2 L1) fuel ((i:Int),Zj p,Zj kT,(s.1:Int),(s.2.1:Int),(s.2.2.1:Int),(s.2.2.2:Int),Zj (Kk p i)) =
   L2 ((0:Int),(s.2.1:Int),(s.2.2.1:Int),(s.2.2.2:Int),(s.1:Int),Zj kT,(s.1:Int),(s.2.1:Int),(s.2.2.1:Int),(s.2.2.2:Int),Zj (Kb p),ZfW)
 | 0,i,fuel + 1,h1,h2 => by
  rw [Zc]
  simp only [ZaF]
  rw [Zh (by omega)]
  have:Kk p i = Kb p:=by
   unfold Kk Kb
   simp_all
  rw [this]
  rfl
 | n + 1,i,fuel + 1,h1,h2 => by
  rw [Zc]
  simp only [ZaF]
  have a0:Jx.wrap ((4:Int) * (i:Int)) = ((4 * i:Nat):Int):=by rw [ZG (by omega)]; omega
  have a1:Jx.wrap (((4 * i:Nat):Int) + 1) = ((4 * i + 1:Nat):Int):=by rw [ZG (by omega)]; omega
  have a2:Jx.wrap (((4 * i:Nat):Int) + 2) = ((4 * i + 2:Nat):Int):=by rw [ZG (by omega)]; omega
  have a3:Jx.wrap (((4 * i:Nat):Int) + 3) = ((4 * i + 3:Nat):Int):=by rw [ZG (by omega)]; omega
  have hl:(Zj p).length = 64:=by rw [ZC,hp]
  have hw:(Zj (Kk p i)).length = 16:=by rw [ZC]; simp [Kk]
  rw [a0,a1,a2,a3,hl,hw]
  simp only [tNc,Nat.add_zero,WH]
  rw [Za (by omega),Za (by omega),Za (by omega),Za (by omega),Za (by omega),Za (by omega),Za (by omega)]
  rw [Z1,Z1,Z1,Z1]
  have hwd:=ZTm (Wm h8 (4 * i)) (Wm h8 (4 * i + 1)) (Wm h8 (4 * i + 2)) (Wm h8 (4 * i + 3))
  simp only [WH] at hwd
  rw [hwd,Zkm (by omega)]
  rw [show (p.getD (4 * i) 0 + p.getD (4 * i + 1) 0 * 256 + p.getD (4 * i + 2) 0 * 65536 + p.getD (4 * i + 3) 0 * 16777216) = Zkn p i from rfl,ZGM,ZAx p (by omega)]
  exact ZEX k hp h8 s L2 n (i + 1) fuel (by omega) (by omega)
 | 0,_,0,_,h2 => absurd h2 (U1 _)
 | n + 1,_,0,_,h2 => absurd h2 (U2 _)
theorem ZCG (k:Nat) (hk:100 ≤ k) {p:List Nat} (hp:p.length = 64) (h8:QA p) {s:S4} (hs:lt4 s) :
  ZvC k (o4 s,Zj p,Zj kT,()) = some ((),o4 (ZIX (Kb p) s),()):=by
 have h1:=ZEX k hp h8 s (Zjg k) 16 0 k rfl (by omega)
 have h2:=ZEY k (ZrI p) s n64 0 k s (by rw [ZwQ]) (by rw [ZwQ]; omega) hs
 exact h1.trans h2
end Go.Sh
namespace Go.Sh
open Go Go.Proofs
noncomputable def mdT:Nat → List Nat → S4 → S4
 | 0,_,s => s
 | q + 1,m,s => mdT q (m.drop 64) (ZIX (Kb (m.take 64)) s)
theorem Zz1 (q:Nat) (m:List Nat) (s:S4):mdT (q + 1) m s = mdT q (m.drop 64) (ZIX (Kb (m.take 64)) s):=rfl
def s0T:S4:=(1732584193,4023233417,2562383102,271733878)
def le4 (x:Nat):List Nat:=[x % 256,x / 256 % 256,x / 65536 % 256,x / 16777216 % 256]
def leN (N:Nat) (i:Nat):List Nat:=(Jc i).map fun j => N / 2 ^ (8 * j) % 256
def zT (n:Nat):Nat:=(119 - n % 64) % 64
def ZgR (b:List Nat):List Nat:=b ++ [128] ++ Jd (zT b.length) 0 ++ leN (8 * b.length) 8
def ZDp (s:S4):List Nat:=le4 s.1 ++ le4 s.2.1 ++ le4 s.2.2.1 ++ le4 s.2.2.2
noncomputable def Zr3 (b:List Nat):List Nat:=ZDp (mdT ((ZgR b).length / 64) (ZgR b) s0T)
def Wa (l:List Nat):ByteArray:=UR (UT (fun n => UX n.toNat) (Zj l)).toArray
theorem QO (a b:List Nat):Zj (a ++ b) = Zj a ++ Zj b:=by simp [Zj]
theorem ZoH (a:List Nat) (n:Nat):(Zj a).take n = Zj (a.take n):=by simp [Zj,List.map_take]
theorem ZAY (a:List Nat) (n:Nat):(Zj a).drop n = Zj (a.drop n):=by simp [Zj,List.map_drop]
theorem ZDO (n:Nat):(n + 1 + zT n) % 64 = 56 ∧ zT n < 64:=by unfold zT; omega
theorem QW (N i:Nat):(leN N i).length = i:=by simp [leN]
theorem ZqL (N i:Nat):leN N (i + 1) = leN N i ++ [N / 2 ^ (8 * i) % 256]:=by simp [leN,Hp]
theorem Zz5 (b:List Nat):(ZgR b).length = 64 * ((ZgR b).length / 64):=by
 have:=ZDO b.length
 simp only [ZgR,Xj,Uq,QW,Ur]
 omega
theorem Zq3 {b:List Nat} (h:QA b):QA (ZgR b):=by
 intro x hx
 simp only [ZgR,List.mem_append,List.mem_singleton,List.mem_replicate,leN,VF] at hx
 rcases hx with ((hx | hx) | hx) | ⟨j,_,rfl⟩
 ·exact h x hx
 ·omega
 ·omega
 ·exact UY _ (by omega)
theorem u8m (n:Nat):UK.wrap (n:Int) = ((n % 256:Nat):Int):=by rw [IntKind.wrap_u8]; omega
theorem Zfp (x y:Nat):UP (x:Int) (y:Int) = ((x / y:Nat):Int):=by
 grind
theorem Zq4 {R:Type} {step:(List Int → Option R) → List Int → Option R} {out:List Int → Option R}
  (h0:∀ L (m:List Nat),m.length % 64 = 56 → step L (Zj m) = out (Zj m)) (h1:∀ L (m:List Nat),m.length % 64 ≠ 56 → m.length < 2000000000 → step L (Zj m) = L (Zj (m ++ [0]))) :
  ∀ (j fuel:Nat) (m:List Nat),(m.length + j) % 64 = 56 → j < 64 → j < fuel → m.length + j < 2000000000 → Zg step fuel (Zj m) = out (Zj (m ++ Jd j 0))
 | 0,fuel + 1,m,h2,_,_,_ => by rw [Zc,h0 _ _ h2]; simp
 | j + 1,fuel + 1,m,h2,h3,h4,h5 => by
  rw [Zc,h1 _ _ (by omega) (by omega),Zq4 h0 h1 j fuel (m ++ [0]) (by simp; omega) (by omega) (by omega) (by simp; omega)]
  simp [List.replicate_succ]
 | 0,0,_,_,_,h4,_ => absurd h4 (U1 _)
 | j + 1,0,_,_,_,h4,_ => absurd h4 (U2 _)
theorem ZlD {A V R:Type} {step:(A × V → Option R) → A × V → Option R} {a:A} {st2:(V → Option R) → V → Option R} (h:∀ L L2,(∀ v,L (a,v) = L2 v) → ∀ v,step L (a,v) = st2 L2 v):∀ n v,Zg step n (a,v) = Zg st2 n v
 | 0,v => rfl
 | n + 1,v => by rw [Zc,Zc]; exact h _ _ (ZlD h n) v
theorem ZGt (n:Nat):(n:Int).tmod 64 = ((n % 64:Nat):Int):=by rfl
def kI:List Int:=[3614090360,3905402710,606105819,3250441966,4118548399,1200080426,2821735955,4249261313,1770035416,2336552879,4294925233,2304563134,1804603682,4254626195,2792965006,1236535329,4129170786,3225465664,643717713,3921069994,3593408605,38016083,3634488961,3889429448,568446438,3275163606,4107603335,1163531501,2850285829,4243563512,1735328473,2368359562,4294588738,2272392833,1839030562,4259657740,2763975236,1272893353,4139469664,3200236656,681279174,3936430074,3572445317,76029189,3654602809,3873151461,530742520,3299628645,4096336452,1126891415,2878612391,4237533241,1700485571,2399980690,4293915773,2240044497,1873313359,4264355552,2734768916,1309151649,4149444226,3174756917,718787259,3951481745]
theorem ZYz:kI = Zj kT:=by decide +kernel
section prog
variable {k:Nat}
theorem ZRW (hk:100 ≤ k) (b:List Nat) (hb:b.length < 1000000000) (m:List Nat) (L2:Int × Int × List Int → Option (ByteArray × Unit)) (j:Nat) (h1:(m.length + j) % 64 = 56) (h2:j < 64) (h3:m.length + j < 2000000000) :
  Zg (fun L1 => Xr k L2 L1) k (Zj b,Zj m) = L2 ((0:Int),((8 * b.length:Nat):Int),Zj (m ++ Jd j 0)):=by
 rw [ZlD (st2:=fun L v => Xr k L2 (fun x => L x.2) (Zj b,v)) (fun L L2' hL v => by
  simp only [Xr]
  rw [hL])]
 refine Zq4 (step:=fun L v => Xr k L2 (fun x => L x.2) (Zj b,v)) (out:=fun v => L2 ((0:Int),((8 * b.length:Nat):Int),v)) (fun L m hm => ?_) (fun L m hm hl => ?_) j k m h1 h2 (by omega) h3
 ·simp only [Xr]
  rw [ZC,ZC,Zk,WH,ZGt,Zh (by omega)]
  grind [IntKind.wrap_u64]
 ·simp only [Xr]
  rw [ZC,Zk,WH,ZGt,Za (by omega),Za (by omega),QO]
  rfl
theorem ZLY (L3:List Int × List Int × Int × Int × Int × Int → Option (ByteArray × Unit)) (L2:Int × Int × List Int → Option (ByteArray × Unit)) (N:Int) (m:List Int):Zar k L3 L2 (((8 * 8:Nat):Int),N,m) = L3 (m,Zj kT,(1732584193:Int),(4023233417:Int),(2562383102:Int),(271733878:Int)):=by
 rfl
theorem ZEJ (N:Nat) (m:List Nat) (hm:m.length < 2000000000) (L3:List Int × List Int × Int × Int × Int × Int → Option (ByteArray × Unit)):∀ (n i fuel:Nat),i + n = 8 → n < fuel →
  Zg (fun L2 => Zar k L3 L2) fuel (((8 * i:Nat):Int),(N:Int),Zj (m ++ leN N i)) = L3 (Zj (m ++ leN N 8),Zj kT,(1732584193:Int),(4023233417:Int),(2562383102:Int),(271733878:Int))
 | 0,i,fuel + 1,h1,h2 => by
  obtain rfl:i = 8:=by omega
  rw [Zc,ZLY]
 | n + 1,i,fuel + 1,h1,h2 => by
  rw [Zc]
  simp only [Zar]
  rw [Za (by omega),Za (by omega),ZC,Za (by simp [QW]; omega)]
  have e1:min (((8 * i:Nat):Int)).toNat 64 = 8 * i:=by omega
  have e2:Jx.wrap (((8 * i:Nat):Int) + 8) = ((8 * (i + 1):Nat):Int):=by rw [ZG (by omega)]; omega
  rw [e1,e2,show ((2:Int) ^ (8 * i)) = ((2 ^ (8 * i):Nat):Int) by simp,Zfp,u8m]
  rw [show Zj (m ++ leN N i) ++ [((N / 2 ^ (8 * i) % 256:Nat):Int)] = Zj (m ++ leN N (i + 1)) by rw [ZqL,← Ju,QO (m ++ leN N i)]; rfl]
  exact ZEJ N m hm L3 n (i + 1) fuel (by omega) (by omega)
 | 0,_,0,_,h2 => absurd h2 (U1 _)
 | n + 1,_,0,_,h2 => absurd h2 (U2 _)
theorem ZEK (hk:100 ≤ k) (L4:Int × Int × Int × Int × Int × List Int → Option (ByteArray × Unit)):∀ (q fuel:Nat) (m:List Nat) (s:S4),m.length = 64 * q → q < fuel → QA m → lt4 s →
  Zg (fun L3 => Zas k L4 L3) fuel (Zj m,Zj kT,(s.1:Int),(s.2.1:Int),(s.2.2.1:Int),(s.2.2.2:Int)) =
   L4 ((0:Int),((mdT q m s).1:Int),((mdT q m s).2.1:Int),((mdT q m s).2.2.1:Int),((mdT q m s).2.2.2:Int),[])
 | 0,fuel + 1,m,s,h1,h2,h3,h4 => by
  rw [Zc]
  simp only [Zas]
  rw [ZC,Zh (by simp only [WH]; omega)]
  rfl
 | q + 1,fuel + 1,m,s,h1,h2,h3,h4 => by
  rw [Zc]
  simp only [Zas]
  have hk64:(Zj kT).length = 64:=by rw [ZC]; rfl
  rw [ZC,hk64,Za (by simp only [WH]; omega),Za (by simp only [WH]; omega),Za (by omega),U5,ZoH]
  have:=ZCG k hk (p:=m.take 64) (by rw [List.length_take]; omega) (fun x hx => h3 x (JT hx)) h4
  simp only [o4] at this
  rw [this]
  simp only [QJ]
  rw [Za (by simp only [WH]; omega),show (UD m.length).toNat = m.length from rfl,ZoH,List.take_length,ZAY,Zz1]
  generalize hX:ZIX (Kb (m.take 64)) s = X
  have hX4:lt4 X:=hX ▸ ZF6 _ _
  exact ZEK hk L4 q fuel (m.drop 64) X (by rw [Vh]; omega) (by omega) (fun x hx => h3 x (JS hx)) hX4
 | 0,0,_,_,_,h2,_,_ => absurd h2 (U1 _)
 | q + 1,0,_,_,_,h2,_,_ => absurd h2 (U2 _)
theorem ZPq (x:Nat):[UK.wrap (x:Int),UK.wrap ((x:Int).fdiv 256),UK.wrap ((x:Int).fdiv 65536),UK.wrap ((x:Int).fdiv 16777216)] = Zj (le4 x):=by
 have h1:=Zfp x 256
 have h2:=Zfp x 65536
 have h3:=Zfp x 16777216
 simp only [Hl] at h1 h2 h3
 rw [h1,h2,h3,u8m,u8m,u8m,u8m]
 rfl
theorem ZRX (hk:100 ≤ k) (s:S4):Zcq k ((0:Int),(s.1:Int),(s.2.1:Int),(s.2.2.1:Int),(s.2.2.2:Int),[]) = some (Wa (ZDp s),()):=by
 obtain ⟨n,rfl⟩:∃ n,k = n + 5:=⟨k - 5,by omega⟩
 obtain ⟨a,b,c,d⟩:=s
 simp only [Zcq]
 have st:∀ (i:Nat) (L:Int × Int × Int × Int × Int × List Int → Option (ByteArray × Unit)) (x:Nat) (l:List Nat),i < 4 → l.length < 100 → [(a:Int),(b:Int),(c:Int),(d:Int)].getD i 0 = (x:Int) →
   Zat (n + 5) L ((i:Int),(a:Int),(b:Int),(c:Int),(d:Int),Zj l) = L (((i + 1:Nat):Int),(a:Int),(b:Int),(c:Int),(d:Int),Zj (l ++ le4 x)):=by
  intro i L x l hi hl hx
  simp only [Zat,tNc]
  rw [Za (by omega),Za (by omega)]
  simp only [hx,ZPq]
  rw [Za (by rw [ZC,ZC]; simp [le4]; omega),Zkm (by omega),← QO]
 have e0:∀ L,Zat (n + 5) L ((0:Int),(a:Int),(b:Int),(c:Int),(d:Int),[]) = _:=fun L => st 0 L a [] (by omega) (by simp) rfl
 rw [Zc,e0,Zc,st 1 _ b _ (by omega) (by simp [le4]) rfl,Zc,st 2 _ c _ (by omega) (by simp [le4]) rfl,Zc,st 3 _ d _ (by omega) (by simp [le4]) rfl,Zc]
 rfl
theorem ZCg (hk:100 ≤ k) {b:List Nat} (h8:QA b) (hb:b.length < 1000000000) (hq:b.length < k):ZnT k (Zj b,()) = some (Wa (Zr3 b),()):=by
 have hz:=ZDO b.length
 show Zdq k _ _ = _
 simp only [Zdq]
 have h66:ZjJ k (Zj b,()) = some (Zj b,()):=by
  show Yk _ = _
  unfold Yk
  rw [Za (by rw [ZC]; omega)]
 rw [h66]
 simp only [QJ]
 rw [ZC,Za (by omega),show Zj b ++ [(128:Int)] = Zj (b ++ [128]) by rw [QO]; rfl]
 refine (ZRW hk b hb (b ++ [128]) _ (zT b.length) (by simpa using hz.1) hz.2 (by simp; omega)).trans ?_
 have h2:=ZEJ (k:=k) (8 * b.length) (b ++ [128] ++ Jd (zT b.length) 0) (by simp; omega) (ZiU k) 8 0 k rfl (by omega)
 rw [show leN (8 * b.length) 0 = [] from rfl,Vf] at h2
 refine h2.trans ?_
 have hpl:=Zz5 b
 have hpl2:(ZgR b).length < b.length + 100:=by
  simp only [ZgR,Xj,Uq,QW,Ur]; omega
 refine (ZEK hk (Zcq k) ((ZgR b).length / 64) k (ZgR b) s0T hpl (by omega) (Zq3 h8) (by unfold lt4 s0T; simp)).trans ?_
 exact ZRX hk _
end prog
end Go.Sh
namespace Go.Sh
open Go Go.Proofs
theorem Zem {a:Nat} (ha:a < 18446744073709551616):(UH 64 (a:Int)).toNat = a:=by simp_all
theorem ZrZ {n:Nat} (h:n < 9223372036854775808):Jx.wrap (n:Int) = (n:Int):=ZG (by omega)
theorem ZDV {a b:Nat} (ha:a < 4294967296) (hb:b < 4294967296):Jx.wrap (UD (UH 64 (a:Int) &&& UH 64 (b:Int)).toNat) = ((a &&& b:Nat):Int):=by
 have:=Wn (b:=b) ha
 rw [U8,Zem (by omega),Zem (by omega)]; exact ZrZ (by omega)
theorem ZWT {a b:Nat} (ha:a < 4294967296) (hb:b < 4294967296):Jx.wrap (UD (UH 64 (a:Int) ||| UH 64 (b:Int)).toNat) = ((a ||| b:Nat):Int):=by
 have:=ZbA ha hb
 rw [Hj,Zem (by omega),Zem (by omega)]; exact ZrZ (by omega)
theorem ZQp {a b:Nat} (ha:a < 4294967296) (hb:b < 4294967296):Jx.wrap (UD (UH 64 (a:Int) ^^^ UH 64 (b:Int)).toNat) = ((a ^^^ b:Nat):Int):=by
 have:=Zba ha hb
 rw [Hk,Zem (by omega),Zem (by omega)]; exact ZrZ (by omega)
theorem XZ (k:Nat) {n:Nat} (h:n < 18446744073709551616):Qu k ((n:Int),()) = some (((n % 4294967296:Nat):Int),()):=by
 show some (Jx.wrap (UD (UH 64 (n:Int) &&& UH 64 (4294967295:Int)).toNat),()) = _
 have e:n &&& 4294967295 = n % 4294967296:=Hq n 32
 rw [U8,Zem h,show (UH 64 (4294967295:Int)).toNat = 4294967295 from rfl,e]
 rw [show UD (n % 4294967296) = ((n % 4294967296:Nat):Int) from rfl,ZrZ (by omega)]
theorem ZWS (k:Nat) {b:Nat} (hb:b < 4294967296):Qu k (Jx.wrap (UD (UH 64 (-1:Int) ^^^ UH 64 (b:Int)).toNat),()) = some (((ZlJ b:Nat):Int),()):=by
 show some (Jx.wrap (UD (UH 64 (Jx.wrap (UD (UH 64 (-1:Int) ^^^ UH 64 (b:Int)).toNat)) &&& UH 64 (4294967295:Int)).toNat),()) = _
 have h1:UH 64 (-1:Int) = Hg 64:=by decide
 rw [h1,Hh,Hi,Zem (by omega)]
 have h2:(UH 64 (Jx.wrap (UD (2 ^ 64 - 1 - b)))).toNat = 2 ^ 64 - 1 - b:=by
  rw [BitVec.toNat_ofInt,IntKind.wrap_i64]
  simp_all <;> omega
 have e:=Hq (2 ^ 64 - 1 - b) 32
 rw [U8,h2,show (UH 64 (4294967295:Int)).toNat = 2 ^ 32 - 1 from rfl,e]
 have e2:(2 ^ 64 - 1 - b) % 2 ^ 32 = ZlJ b:=by unfold ZlJ; omega
 have:=WK b
 rw [e2,show UD (ZlJ b) = ((ZlJ b:Nat):Int) from rfl,ZrZ (by omega)]
theorem ZQc:∀ t:Fin 64,Zbs 0 ((t.val:Int),()) = some (((rT.getD (t.val % 4 + t.val / 16 * 4) 0:Nat):Int),()):=by decide +kernel
theorem ZCM (k:Nat) {t:Nat} (h:t < 64):Zbs k ((t:Int),()) = some (((rT.getD (t % 4 + t / 16 * 4) 0:Nat):Int),()):=ZQc ⟨t,h⟩
abbrev L39:=Int × Int × Int × Int × Int × List Int × Int × List Int × List Int × List Int → Option (ByteArray × Unit)
theorem ZYG {a f k m:Nat} (ha:a < 4294967296) (hf:f < 4294967296) (hk:k < 4294967296) (hm:m < 4294967296):Jx.wrap (Jx.wrap (Jx.wrap ((a:Int) + (f:Int)) + (k:Int)) + (m:Int)) = ((a + f + k + m:Nat):Int):=by
 simp only [IntKind.wrap_i64]; omega
theorem ZYA (i:Nat):kT.getD i 0 < 4294967296:=by
 rw [VR]
 cases hi:kT[i]? with
 | none => simp
 | some x =>
  have h:∀ x ∈ kT,x < 4294967296:=by decide
  exact h x (Vw hi)
def Zog (M:List Nat):Prop := ∀ x ∈ M,x < 4294967296
theorem ZIN {p:List Nat} (h:Zog p) (i:Nat):p.getD i 0 < 4294967296:=by
 rw [VR]
 cases hi:p[i]? with
 | none => simp
 | some x => exact h x (Vw hi)
theorem ZW5 {b p q:Nat} (hb:b < 4294967296) (h:p + q < 4294967296):b + (p + q) < 18446744073709551616:=by omega
theorem ZY6 {b p q:Nat} (hb:b < 4294967296) (h:p + q < 4294967296):Jx.wrap (Jx.wrap ((b:Int) + (p:Int)) + (q:Int)) = ((b + (p + q):Nat):Int):=by
 simp only [IntKind.wrap_i64]; omega
theorem ZyI (k:Nat) (L3:Int × List Int × List Int × List Int → Option (ByteArray × Unit)) (L:L39) {t:Nat} (ht:t < 64) {a b c d:Nat} (ha:a < 4294967296) (hb:b < 4294967296) (hc:c < 4294967296) (hd:d < 4294967296) {M:List Nat} (hM:M.length = 16) (hw:Zog M) (at_:Int) (h m:List Int) :
  YV k L3 L ((t:Int),(b:Int),(c:Int),(d:Int),(a:Int),Zj kT,at_,Zj M,h,m) =
   L (((t + 1:Nat):Int),((bT M t a b c d:Nat):Int),(b:Int),(c:Int),(d:Int),Zj kT,at_,Zj M,h,m):=by
 simp only [YV]
 have q:=tq ⟨t,ht⟩
 have m16:=ZYI ⟨t,ht⟩
 have e1:=g1 ⟨t,ht⟩
 have e2:=g2 ⟨t,ht⟩
 have e3:=g3 ⟨t,ht⟩
 have r1:=ZUy ⟨t,ht⟩
 simp only at q m16 e1 e2 e3 r1
 have hk:(Zj kT).length = 64:=by rw [ZC]; rfl
 have hm:(Zj M).length = 16:=by rw [ZC,hM]
 rw [Za (by omega),q,m16,e1,e2,e3,hk,hm]
 simp only [tNc]
 rw [show UD 64 = (64:Int) from rfl,show UD 16 = (16:Int) from rfl]
 rw [Z1,Z1,Z1,Z1,Z1]
 have done:∀ g f,g = gT t → f = fT t b c d → ∀ y,y = Jx.wrap (Jx.wrap (Jx.wrap ((a:Int) + (f:Int)) + ((kT.getD t 0:Nat):Int)) + ((M.getD g 0:Nat):Int)) →
   ((Qu k (y,())).bind fun y => (Zbs k ((t:Int),())).bind fun y_1 => bif decide ((0:Int) ≤ y_1.1) then (Qu k (Jx.wrap (y.1 * (2:Int) ^ min (US y_1.1) (64:Nat)),())).bind fun y_2 => bif decide ((0:Int) ≤ Jx.wrap ((32:Int) - y_1.1)) then (Qu k (Jx.wrap (Jx.wrap ((b:Int) + y_2.1) + UP y.1 ((2:Int) ^ min (Jx.wrap ((32:Int) - y_1.1)).toNat (64:Nat))),())).bind fun y => L (Jx.wrap ((t:Int) + (1:Int)),y.1,(b:Int),(c:Int),(d:Int),Zj kT,at_,Zj M,h,m) else none else none) =
   L (((t + 1:Nat):Int),((bT M t a b c d:Nat):Int),(b:Int),(c:Int),(d:Int),Zj kT,at_,Zj M,h,m):=by
  rintro g f rfl rfl y rfl
  have hf:=ZYr (t:=t) hb hc hd
  have k1:=ZYA t
  have k2:=ZIN hw (gT t)
  rw [ZYG ha hf k1 k2,XZ k (by omega)]
  simp only [QJ]
  rw [show (a + fT t b c d + kT.getD t 0 + M.getD (gT t) 0) % 4294967296 = xT M t a b c d from rfl]
  have hx:xT M t a b c d < 4294967296:=UY _ (by omega)
  have hbt:bT M t a b c d = (b + ZDz (xT M t a b c d) (rT.getD (t % 4 + t / 16 * 4) 0)) % 4294967296:=rfl
  rw [ZCM k ht,hbt]
  generalize xT M t a b c d = x at hx
  generalize rT.getD (t % 4 + t / 16 * 4) 0 = r at r1
  simp only [QJ]
  have hr:=ZGi hx (show r ≤ 32 by omega)
  unfold ZDz at hr ⊢
  have e4:min ((r:Int)).toNat 64 = r:=by omega
  have e5:Jx.wrap ((32:Int) - (r:Int)) = ((32 - r:Nat):Int):=by rw [ZG (by omega)]; omega
  rw [Za (by omega),e4,e5]
  have e6:min (((32 - r:Nat):Int)).toNat 64 = 32 - r:=by omega
  rw [e6]
  have h2r:2 ^ r < 2 ^ 31 + 1:=by
   have:2 ^ r ≤ 2 ^ 31:=Hf (by omega) (by omega)
   omega
  have hxr:x * 2 ^ r < 4294967296 * 2147483649:=Nat.mul_lt_mul'' hx (by simpa using h2r)
  have e7:Jx.wrap ((x:Int) * (2:Int) ^ r) = ((x * 2 ^ r:Nat):Int) ∨ x * 2 ^ r ≥ 9223372036854775808:=by
   rcases VM (x * 2 ^ r) 9223372036854775808 with h | h
   ·left
    rw [show (x:Int) * (2:Int) ^ r = ((x * 2 ^ r:Nat):Int) by simp,ZrZ h]
   ·exact .inr h
  have h3:x * 2 ^ r < 9223372036854775808:=by
   have:x * 2 ^ r ≤ 4294967295 * 2 ^ 31:=J3 (by omega) (Hf (by omega) (by omega))
   omega
  rcases e7 with e7 | e7
  ·rw [e7,XZ k (Nat.lt_trans h3 (by decide))]
   simp only [QJ]
   rw [Za (by omega),show ((2:Int) ^ (32 - r)) = ((2 ^ (32 - r):Nat):Int) by simp,Zfp]
   rw [ZY6 hb hr,XZ k (ZW5 hb hr)]
   simp only [QJ]
   rw [Zkm (by omega)]
  ·omega
 by_cases h0:t / 16 = 0
 ·rw [Zw,Za (by omega),ZWS k hb]
  simp only [QJ]
  rw [Za (by omega),Za (by omega),Za (by omega)]
  refine done (t % 16) _ (by simp [gT,h0]) rfl _ ?_
  rw [ZDV hb hc,ZDV (WK b) hd,ZWT (Wn hb) (Wn (WK b))]
  simp [fT,h0]
 rw [Zw,Zh (by omega)]
 by_cases h1:t / 16 = 1
 ·rw [Zw,Za (by omega),ZWS k hd]
  simp only [QJ]
  rw [Za (by omega),Za (by omega),Za (by omega)]
  refine done ((5 * t + 1) % 16) _ (by simp [gT,h1]) rfl _ ?_
  rw [ZDV hd hb,ZDV (WK d) hc,ZWT (Wn hd) (Wn (WK d))]
  simp [fT,h1]
 rw [Zw,Zh (by omega)]
 by_cases h2:t / 16 = 2
 ·rw [Zw,Za (by omega),Za (by omega),Za (by omega),Za (by omega)]
  refine done ((3 * t + 5) % 16) _ (by simp [gT,h2]) rfl _ ?_
  rw [ZQp hb hc,ZQp (Zba hb hc) hd]
  simp [fT,h2]
 rw [Zw,Zh (by omega),ZWS k hd]
 simp only [QJ]
 rw [Za (by omega),Za (by omega),Za (by omega)]
 refine done ((7 * t) % 16) _ (by simp [gT,h0,h1,h2]) rfl _ ?_
 rw [ZWT hb (WK d),ZQp hc (ZbA hb (WK d))]
 simp [fT,h0,h1,h2]
end Go.Sh
namespace Go.Sh
open Go Go.Proofs
def h4 (s:S4):List Int:=[(s.1:Int),(s.2.1:Int),(s.2.2.1:Int),(s.2.2.2:Int)]
abbrev L3T:=Int × List Int × List Int × List Int → Option (ByteArray × Unit)
theorem ZQx {a b:Nat} (ha:a < 4294967296) (hb:b < 4294967296):Jx.wrap ((b:Int) + (a:Int)) = ((a + b:Nat):Int):=by rw [ZG (by omega)]; omega
theorem ZEO (k:Nat) (L3:L3T) {M:List Nat} (hM:M.length = 16) (hw:Zog M) (at_:Int) {s:S4} (hs:lt4 s) (m:List Int):∀ (n t fuel:Nat) (v:S4),t + n = 64 → n < fuel → lt4 v →
  Zg (fun L6 => YV k L3 L6) fuel ((t:Int),(v.2.1:Int),(v.2.2.1:Int),(v.2.2.2:Int),(v.1:Int),Zj kT,at_,Zj M,h4 s,m) =
   L3 (Jx.wrap (at_ + 64),Zj kT,m,h4 (((W2 M n t v).1 + s.1) % 4294967296,((W2 M n t v).2.1 + s.2.1) % 4294967296,((W2 M n t v).2.2.1 + s.2.2.1) % 4294967296,((W2 M n t v).2.2.2 + s.2.2.2) % 4294967296))
 | 0,t,fuel + 1,(a,b,c,d),h1,h2,h3 => by
  rw [Zc]
  simp only [YV,W2,h4]
  obtain ⟨a1,b1,c1,d1⟩:=h3
  obtain ⟨a2,b2,c2,d2⟩:=hs
  simp only at a1 b1 c1 d1
  rw [Zh (by omega)]
  simp only [JF,List.length_nil,List.getD_cons_zero,List.getD_cons_succ,JQ,Nat.zero_add,Nat.reduceAdd,List.set_cons_zero,List.set_cons_succ]
  rw [show UD 4 = (4:Int) from rfl,Za (by omega),Za (by omega),ZQx a1 a2,XZ k (by omega)]
  simp only [QJ]
  rw [Za (by omega),Za (by omega),ZQx b1 b2,XZ k (by omega)]
  simp only [QJ]
  rw [Za (by omega),Za (by omega),ZQx c1 c2,XZ k (by omega)]
  simp only [QJ]
  rw [Za (by omega),Za (by omega),ZQx d1 d2,XZ k (by omega)]
  rfl
 | n + 1,t,fuel + 1,(a,b,c,d),h1,h2,h3 => by
  rw [Zc,ZyI k L3 _ (by omega) h3.1 h3.2.1 h3.2.2.1 h3.2.2.2 hM hw]
  exact ZEO k L3 hM hw at_ hs m n (t + 1) fuel (d,bT M t a b c d,b,c) (by omega) (by omega) ⟨h3.2.2.2,UY _ (by omega),h3.2.1,h3.2.2.1⟩
 | 0,_,0,_,_,h2,_ => absurd h2 (U1 _)
 | n + 1,_,0,_,_,h2,_ => absurd h2 (U2 _)
def YB (m:List Nat) (j:Nat):List Nat:=(m.drop (64 * j)).take 64
theorem ZcX (m:List Nat) (j:Nat) {i:Nat} (hi:i < 64):(YB m j).getD i 0 = m.getD (64 * j + i) 0:=by
 simp only [YB,VR,List.getElem?_take,List.getElem?_drop,hi,if_true]
theorem ZQl {p:List Nat} (h:QA p) (i:Nat):Zkn p i < 4294967296:=by
 have h1:=Wm h (4 * i)
 have h2:=Wm h (4 * i + 1)
 have h3:=Wm h (4 * i + 2)
 have h4:=Wm h (4 * i + 3)
 unfold Zkn; omega
theorem ZJq {p:List Nat} (h:QA p):Zog (Kb p):=by
 intro x hx
 obtain ⟨i,_,rfl⟩:=VF.1 hx
 exact ZQl h i
def ZrH (p:List Nat) (i:Nat):List Nat:=(Jc i).map (Zkn p)
theorem ZQm {a b c d:Nat} (ha:a < 256) (hb:b < 256) (hc:c < 256) (hd:d < 256) :
  Jx.wrap (Jx.wrap (Jx.wrap (Jx.wrap (a:Int) + Jx.wrap (Jx.wrap (b:Int) * 256)) + Jx.wrap (Jx.wrap (c:Int) * 65536)) + Jx.wrap (Jx.wrap (d:Int) * 16777216)) = ((a + b * 256 + c * 65536 + d * 16777216:Nat):Int):=by
 rw [ZG (n:=(a:Int)) (by omega),ZG (n:=(b:Int)) (by omega),ZG (n:=(c:Int)) (by omega),ZG (n:=(d:Int)) (by omega),ZG (n:=(b:Int) * 256) (by omega),ZG (n:=(c:Int) * 65536) (by omega),ZG (n:=(d:Int) * 16777216) (by omega),ZG (n:=(a:Int) + (b:Int) * 256) (by omega),ZG (n:=(a:Int) + (b:Int) * 256 + (c:Int) * 65536) (by omega),ZG (by omega)]
 omega
theorem ZEN (k:Nat) (L3:L3T) (L6:L39) {m:List Nat} (h8:QA m) {j:Nat} (hj:64 * (j + 1) ≤ m.length) (hm:m.length < 2000000000) (s:S4):∀ (n i fuel:Nat),i + n = 16 → n < fuel →
  Zg (fun L4 => Zav k L6 L3 L4) fuel (((64 * j + 4 * i:Nat):Int),((64 * j:Nat):Int),Zj kT,Zj (ZrH (YB m j) i),Zj m,h4 s) =
   L6 ((0:Int),(s.2.1:Int),(s.2.2.1:Int),(s.2.2.2:Int),(s.1:Int),Zj kT,((64 * j:Nat):Int),Zj (Kb (YB m j)),h4 s,Zj m)
 | 0,i,fuel + 1,h1,h2 => by
  obtain rfl:i = 16:=by omega
  rw [Zc]
  simp only [Zav]
  rw [Zh (by rw [ZG (by omega)]; omega)]
  rfl
 | n + 1,i,fuel + 1,h1,h2 => by
  rw [Zc]
  simp only [Zav]
  have a1:Jx.wrap (((64 * j + 4 * i:Nat):Int) + 1) = ((64 * j + (4 * i + 1):Nat):Int):=by rw [ZG (by omega)]; omega
  have a2:Jx.wrap (((64 * j + 4 * i:Nat):Int) + 2) = ((64 * j + (4 * i + 2):Nat):Int):=by rw [ZG (by omega)]; omega
  have a3:Jx.wrap (((64 * j + 4 * i:Nat):Int) + 3) = ((64 * j + (4 * i + 3):Nat):Int):=by rw [ZG (by omega)]; omega
  have a4:Jx.wrap (((64 * j + 4 * i:Nat):Int) + 4) = ((64 * j + 4 * (i + 1):Nat):Int):=by rw [ZG (by omega)]; omega
  have a5:Jx.wrap (((64 * j:Nat):Int) + 64) = ((64 * j + 64:Nat):Int):=by rw [ZG (by omega)]; omega
  rw [a1,a2,a3,a4,a5,ZC,ZC]
  simp only [tNc]
  rw [show UD m.length = (m.length:Int) from rfl]
  rw [Za (by omega),Za (by omega),Za (by omega),Za (by omega),Za (by omega),Za (by omega),Za (by omega),Za (by omega),Za (by omega),Za (by simp [ZrH]; omega)]
  rw [Z1,Z1,Z1,Z1,← ZcX m j (by omega),← ZcX m j (by omega),← ZcX m j (by omega),← ZcX m j (by omega)]
  have hb:QA (YB m j):=fun x hx => h8 x (JS (JT hx))
  rw [ZQm (Wm hb (4 * i)) (Wm hb (4 * i + 1)) (Wm hb (4 * i + 2)) (Wm hb (4 * i + 3))]
  rw [show ((YB m j).getD (4 * i) 0 + (YB m j).getD (4 * i + 1) 0 * 256 + (YB m j).getD (4 * i + 2) 0 * 65536 + (YB m j).getD (4 * i + 3) 0 * 16777216) = Zkn (YB m j) i from rfl]
  rw [show Zj (ZrH (YB m j) i) ++ [(Zkn (YB m j) i:Int)] = Zj (ZrH (YB m j) (i + 1)) by simp [ZrH,Hp,Zj]]
  exact ZEN k L3 L6 h8 hj hm s n (i + 1) fuel (by omega) (by omega)
 | 0,_,0,_,h2 => absurd h2 (U1 _)
 | n + 1,_,0,_,h2 => absurd h2 (U2 _)
section doc
variable {k:Nat}
theorem ZEM (hk:100 ≤ k) (L5:Int × List Int × List Int → Option (ByteArray × Unit)) {m:List Nat} (h8:QA m) (hm:m.length < 2000000000):∀ (q j fuel:Nat) (s:S4),m.length = 64 * (j + q) → q < fuel → lt4 s →
  Zg (fun L3 => YT k (ZeN k L3) L5 L3) fuel (((64 * j:Nat):Int),Zj kT,Zj m,h4 s) = L5 ((0:Int),[],h4 (mdT q (m.drop (64 * j)) s))
 | 0,j,fuel + 1,s,h1,h2,h3 => by
  rw [Zc]
  simp only [YT]
  rw [ZC,Zh (by simp only [WH]; omega)]
  rfl
 | q + 1,j,fuel + 1,s,h1,h2,h3 => by
  rw [Zc]
  simp only [YT]
  rw [ZC,Za (by simp only [WH]; omega)]
  generalize hL3:Zg (fun L3 => YT k (ZeN k L3) L5 L3) fuel = L3
  have hb:QA (YB m j):=fun x hx => h8 x (JS (JT hx))
  have e4:=ZEN k L3 (Zi2 k L3) h8 (j:=j) (by omega) hm s 16 0 k rfl (by omega)
  refine U4 e4 ?_
  have e6:=ZEO k L3 (ZrI (YB m j)) (ZJq hb) ((64 * j:Nat):Int) h3 (Zj m) n64 0 k s (by rw [ZwQ]) (by rw [ZwQ]; omega) h3
  refine U4 e6 ?_
  rw [show Jx.wrap (((64 * j:Nat):Int) + 64) = ((64 * (j + 1):Nat):Int) by rw [ZG (by omega)]; omega,Zz1,List.drop_drop,← hL3]
  rw [show (m.drop (64 * j)).take 64 = YB m j from rfl,show 64 * j + 64 = 64 * (j + 1) by omega]
  have hX4:=ZF6 (Kb (YB m j)) s
  exact ZEM hk L5 h8 hm q (j + 1) fuel (ZIX (Kb (YB m j)) s) (by omega) (by omega) hX4
 | 0,_,0,_,_,h2,_ => absurd h2 (U1 _)
 | q + 1,_,0,_,_,h2,_ => absurd h2 (U2 _)
theorem sh8 (x i:Nat) (hi:i < 4):UK.wrap (UP (x:Int) ((2:Int) ^ min (Jx.wrap ((8:Int) * (i:Int))).toNat 64)) = ((x / 2 ^ (8 * i) % 256:Nat):Int):=by
 have e:Jx.wrap ((8:Int) * (i:Int)) = ((8 * i:Nat):Int):=by rw [ZG (by omega)]; omega
 have e1:min (((8 * i:Nat):Int)).toNat 64 = 8 * i:=by omega
 rw [e,e1,show ((2:Int) ^ (8 * i)) = ((2 ^ (8 * i):Nat):Int) by simp,Zfp,u8m]
theorem ZR3 (hk:100 ≤ k) (L5:Int × List Int × List Int → Option (ByteArray × Unit)) (s:S4) {i:Nat} (hi:i < 4) {x:Nat} (hx:(h4 s).getD i 0 = (x:Int)) (l:List Nat) (hl:l.length < 1000):Kv k L5 ((0:Int),(i:Int),Zj l,h4 s) = L5 (((i + 1:Nat):Int),Zj (l ++ le4 x),h4 s):=by
 obtain ⟨n,rfl⟩:∃ n,k = n + 5:=⟨k - 5,by omega⟩
 simp only [Kv]
 have st:∀ (j:Nat) (L:Int × Int × List Int × List Int → Option (ByteArray × Unit)) (l:List Nat),j < 4 → l.length < 2000 →
   YW (n + 5) L5 L ((j:Int),(i:Int),Zj l,h4 s) = L (((j + 1:Nat):Int),(i:Int),Zj (l ++ [x / 2 ^ (8 * j) % 256]),h4 s):=by
  intro j L l hj hl
  simp only [YW,tNc]
  have e:(0:Int) ≤ Jx.wrap ((8:Int) * (j:Int)):=by rw [ZG (by omega)]; omega
  rw [show (h4 s).length = 4 from rfl,show UD 4 = (4:Int) from rfl,Za (by omega),Za (by omega),Za (by omega),Za e]
  simp only [hx,sh8 x j hj]
  rw [Za (by simp [ZC]; omega),Zkm (by omega),QO]
  rfl
 have e0:∀ L,YW (n + 5) L5 L ((0:Int),(i:Int),Zj l,h4 s) = _:=fun L => st 0 L l (by omega) (by omega)
 rw [Zc,e0,Zc,st 1 _ _ (by omega) (by simp; omega),Zc,st 2 _ _ (by omega) (by simp; omega),Zc,st 3 _ _ (by omega) (by simp; omega),Zc]
 simp only [YW]
 rw [Zh (by omega),Zkm (by omega)]
 simp [le4]
theorem ZR2 (hk:100 ≤ k) (s:S4):ZeO k ((0:Int),[],h4 s) = some (Wa (ZDp s),()):=by
 obtain ⟨n,hn⟩:∃ n,k = n + 5:=⟨k - 5,by omega⟩
 have st:∀ (i:Nat) (L:Int × List Int × List Int → Option (ByteArray × Unit)) (x:Nat) (l:List Nat),i < 4 → l.length < 1000 → (h4 s).getD i 0 = (x:Int) → YU k (Kv k L) L ((i:Int),Zj l,h4 s) = L (((i + 1:Nat):Int),Zj (l ++ le4 x),h4 s):=by
  intro i L x l hi hl hx
  simp only [YU]
  rw [Za (by omega)]
  exact ZR3 hk L s hi hx l hl
 have e0:∀ L,YU k (Kv k L) L ((0:Int),[],h4 s) = _:=fun L => st 0 L s.1 [] (by omega) (by simp) rfl
 have key:Zg (fun L5 => YU k (Kv k L5) L5) (n + 5) ((0:Int),[],h4 s) = some (Wa (ZDp s),()):=by
  rw [Zc,e0,Zc,st 1 _ s.2.1 _ (by omega) (by simp [le4]) rfl,Zc,st 2 _ s.2.2.1 _ (by omega) (by simp [le4]) rfl,Zc,st 3 _ s.2.2.2 _ (by omega) (by simp [le4]) rfl,Zc]
  rfl
 rw [← hn] at key
 exact key
end doc
end Go.Sh
namespace Go.Sh
open Go Go.Proofs
def az (b:UInt8):Bool:=Jb 97 b.toNat && Jb b.toNat 122
def vis (b:UInt8):Bool:=Jb 33 b.toNat && Jb b.toNat 126
def ZJo:List UInt8 → Bool
 | b :: v => b == 61 && (!v.isEmpty && v.all vis)
 | [] => false
def Zsf (n:Nat) (l:List UInt8):Bool:=bif Ja (l.dropWhile az).length n then false else ZJo (l.dropWhile az)
def Zh0 (s:ByteArray):Bool:=Jb 3 s.size && (Jb s.size 12 && Zsf s.size s.data.toList)
theorem ZUI (b:UInt8):az b = decide ((97:Int) ≤ UD b.toNat ∧ UD b.toNat ≤ (122:Int)):=by
 unfold az
 rw [U9,Jh,Hb,Hb,decide_eq_true_eq]
 grind
theorem ZRA (k:Nat) (s:ByteArray) (hs:s.size ≤ 12) (hk:100 ≤ k) (i:Nat) (hi:i ≤ s.size):Zci k (UD i,s) = some ((s.data.toList.drop i).all vis,()):=by
 have hl:=Q0 s
 refine Q8 (A:=Unit) (fun i _ => (UD i,s)) s.data.toList (fun l _ => some (l.all vis,())) (fun L a => ?_) (fun L i hi a hL => ?_) k i () (by omega) (by omega)
 ·grind [Zc9]
 ·rw [hl] at hi
  simp only [Zc9]
  rw [Za (KN hi),Za (Xd hi),Za (Xd hi),ZL (by omega),Qa hi (by omega),hL ()]
  simp only [UA,vis]
  generalize s.data.toList[i].toNat = n
  by_cases h1:(UD n < (33:Int))
  ·simp_all <;> omega
  ·rw [Zh h1]
   have:Jb 33 n = true:=U0 (by grind)
   rw [this]
   by_cases h2:((126:Int) < UD n)
   ·simp_all <;> omega
   ·rw [Zh h2]
    simp_all <;> omega
theorem ZRz (k:Nat) (s:ByteArray) (hs:s.size ≤ 12) (h3:3 ≤ s.size) (hk:100 ≤ k):ZeF k (0,s) = some (Zsf s.size s.data.toList,()):=by
 have hl:=Q0 s
 have key:=Q8 (step:=fun L1 => Zag k (Zci k) L1) (A:=Unit) (fun i _ => (UD i,s)) s.data.toList (fun l _ => some (Zsf s.size l,())) (fun L a => ?_) (fun L i hi a hL => ?_) k 0 () (by omega) (by omega)
 ·rw [U5] at key
  exact key
 ·rw [hl]
  simp only [Zag]
  rw [Zh (ZaZ _),Zw,Zh (by simp only [WH]; omega),Za (by rw [ZG (by simp only [WH]; omega)]; simp only [WH]; omega)]
  have:Zsf s.size [] = false:=by
   unfold Zsf
   cases Ja (List.dropWhile az []).length s.size <;> rfl
  rw [this]
 ·rw [hl] at hi
  simp only [Zag]
  rw [Za (KN hi),Za (Xd hi),Za (Xd hi),ZL (by omega),Qa hi (by omega),hL ()]
  have hlen:(s.data.toList.drop (i + 1)).length = s.size - (i + 1):=by rw [Vh,hl]
  have hsame:Zsf s.size (s.data.toList[i] :: s.data.toList.drop (i + 1)) = bif az s.data.toList[i] then Zsf s.size (s.data.toList.drop (i + 1)) else (bif Ja i 0 then false else ZJo (s.data.toList[i] :: s.data.toList.drop (i + 1))):=by
   unfold Zsf
   rw [Hc]
   cases haz:az s.data.toList[i] with
   | true => rfl
   | false =>
    simp only [JJ,if_false,cond_false,JF,hlen]
    have:Ja (s.size - (i + 1) + 1) s.size = Ja i 0:=by
     rw [U9,Nat.beq_eq,Nat.beq_eq]; omega
    rw [this]
  rw [hsame,ZUI]
  have rest:(bif UD i == (0:Int) then some (false,()) else bif decide (UD s.size ≤ UD (i + 1)) then some (false,()) else bif decide ((0:Int) ≤ UD i ∧ UD i < UD s.size) then bif UD s.data.toList[i].toNat != (61:Int) then some (false,()) else Zci k (UD (i + 1),s) else none)
    = some ((bif Ja i 0 then false else ZJo (s.data.toList[i] :: s.data.toList.drop (i + 1))),()):=by
   rw [Zw]
   by_cases h0:i = 0
   ·subst h0; rfl
   ·rw [Zh (by simp only [WH]; omega)]
    have hb:Ja i 0 = false:=by cases hb:Ja i 0 with | false => rfl | true => simp_all
    rw [hb]
    simp only [cond_false,ZJo]
    by_cases h1:s.size ≤ i + 1
    ·grind
    ·rw [Zh (by simp only [WH]; omega),Za (Xd hi),ZRA k s hs hk _ (by omega),Zk]
     have hne:(s.data.toList.drop (i + 1)).isEmpty = false:=by
      simp_all
     rw [hne]
     by_cases h2:s.data.toList[i] = 61
     ·rw [h2]; rfl
     ·rw [Za (by
       intro e
       apply h2
       apply UInt8.toNat_inj.1
       grind)]
      rw [beq_false_of_ne h2]; rfl
  grind
theorem ZBI (k:Nat) (s:ByteArray) (hk:100 ≤ k):Zu9 k (s,()) = some (Zh0 s,()):=by
 show Zc8 k (ZeF k) (s,()) = _
 simp only [Zc8]
 unfold Zh0
 by_cases h1:s.size < 3
 ·rw [Za (by simp only [WH]; omega)]
  simp_all <;> omega
 ·rw [Zh (by simp only [WH]; omega),U0 (show 3 ≤ s.size by omega)]
  by_cases h2:12 < s.size
  ·rw [Za (by simp only [WH]; omega)]
   simp_all <;> omega
  ·rw [Zh (by simp only [WH]; omega),U0 (show s.size ≤ 12 by omega)]
   exact ZRz k s (by omega) (by omega) hk
end Go.Sh
namespace Go.Sh
open Go Go.Proofs
def Zii:List UInt8 → Option (List UInt8 × List UInt8)
 | [] => none
 | b :: l => if b == 61 then some ([],l) else (Zii l).map fun p => (b :: p.1,p.2)
theorem Zhl:∀ l:List UInt8,(Zii l = none ∧ Lib.indexByte l 61 = -1) ∨ (∃ x y,Zii l = some (x,y) ∧ Lib.indexByte l 61 = (x.length:Int) ∧ l = x ++ 61 :: y)
 | [] => .inl ⟨rfl,rfl⟩
 | b :: l => by
  simp only [Zii,Lib.indexByte]
  by_cases hb:b = 61
  ·grind
  ·have hb':(b == 61) = false:=beq_false_of_ne hb
   rw [hb']
   simp only [JJ,if_false]
   rcases Zhl l with ⟨h1,h2⟩ | ⟨x,y,h1,h2,h3⟩
   ·rw [h1,h2]; exact .inl ⟨rfl,rfl⟩
   grind
def ZD0:Option (List UInt8 × List UInt8) → Bool
 | none => false
 | some (x,y) => x.all az && (!y.isEmpty && y.all vis)
theorem ZAv:∀ l:List UInt8,ZJo (l.dropWhile az) = ZD0 (Zii l)
 | [] => rfl
 | b :: l => by
  rw [Hc]
  simp only [Zii]
  by_cases hb:b = 61
  ·subst hb
   rfl
  ·rw [beq_false_of_ne hb]
   simp only [JJ,if_false]
   cases ha:az b with
   | true =>
    simp only [if_true]
    rw [ZAv l]
    cases hc:Zii l with
    | none => rfl
    | some p => simp [ZD0,ha]
   | false =>
    simp only [JJ,if_false,ZJo,beq_false_of_ne hb,Bool.false_and]
    cases hc:Zii l with
    | none => rfl
    | some p => simp [ZD0,ha]
def ZkE:Option (List UInt8 × List UInt8) → Bool
 | none => false
 | some (x,y) => !x.isEmpty && (x.all az && (!y.isEmpty && y.all vis))
theorem ZP2 (l:List UInt8):Zsf l.length l = ZkE (Zii l):=by
 unfold Zsf
 rw [ZAv]
 match l with
 | [] => rfl
 | b :: l =>
  rw [Hc]
  have hsuf:(l.dropWhile az).length ≤ l.length:=(List.dropWhile_suffix az).length_le
  by_cases hb:b = 61
  ·subst hb
   have:az 61 = false:=rfl
   rw [this]
   simp only [JJ,if_false]
   rw [show Ja (61 :: l).length (61 :: l).length = true from Nat.beq_refl _]
   rfl
  ·simp only [Zii,beq_false_of_ne hb,JJ,if_false]
   cases ha:az b with
   | true =>
    simp only [if_true]
    have:Ja (l.dropWhile az).length (b :: l).length = false:=by
     cases hq:Ja (l.dropWhile az).length (b :: l).length with
     | false => rfl
     | true => simp_all <;> omega
    rw [this]
    cases hc:Zii l with
    | none => rfl
    | some p => simp [ZD0,ZkE,ha]
   | false =>
    simp only [JJ,if_false]
    rw [show Ja (b :: l).length (b :: l).length = true from Nat.beq_refl _]
    cases hc:Zii l with
    | none => rfl
    | some p => simp [ZkE,ha]
def Zky (l:List UInt8):ByteArray:=⟨l.toArray⟩
theorem Zkz (l:List UInt8):(Zky l).data.toList = l:=rfl
theorem ZGG (l:List UInt8):(Zky l).size = l.length:=by rw [← Q0]; rfl
theorem Zmd (l:List UInt8):(Zky l).toList = l:=by rw [toList_eq]; rfl
theorem Zim (s:ByteArray) (a b:Nat):s.extract a b = Zky ((s.data.toList.take b).drop a):=by
 apply Zej
 rw [Zkz,ByteArray.data_extract,Array.toList_extract,List.extract_eq_take_drop,List.drop_take]
theorem ZJ2:(UR #[]) = Zky []:=rfl
def abc:List UInt8:=[97,98,99,100,101,102,103,104,105,106,107,108,109,110,111,112,113,114,115,116,117,118,119,120,121,122]
theorem ZQw:∀ n:Nat,n < 256 → (abc.contains (UX n)) = az (UX n):=by
 have h:(Jc 256).all (fun n => abc.contains (UX n) == az (UX n)) = true:=by kernel_rfl
 simp_all
theorem ZUD (b:UInt8):abc.contains b = az b:=by
 have:=ZQw b.toNat b.toNat_lt
 rwa [UInt8.ofNat_toNat] at this
theorem ZIr (b:UInt8):(!Kh b.toNat) = vis b:=by
 unfold Kh vis
 rw [U9,Bool.not_eq_true',Bool.or_eq_false_iff,Jh,Hb,Hb]
 constructor
 ·rintro ⟨h1,h2⟩
  constructor
  ·rcases VM b.toNat 33 with h | h
   ·rw [show UZ b.toNat 33 = true from U0 h] at h1; cases h1
   ·exact h
  ·rcases VM 126 b.toNat with h | h
   ·rw [show UZ 126 b.toNat = true from U0 h] at h2; cases h2
   ·exact h
 ·rintro ⟨h1,h2⟩
  constructor
  ·cases h:UZ b.toNat 33 with
   | false => rfl
   | true => have:=Jt h; omega
  ·cases h:UZ 126 b.toNat with
   | false => rfl
   | true => have:=Jt h; omega
theorem ZCC (k:Nat) (s:ByteArray) (hs:s.size ≤ 4294967296):ZnZ k (s,UR #[61],()) = some (match Zii s.data.toList with
  | none => ((s,Zky [],false,()),())
  | some (x,y) => ((Zky x,Zky y,true,()),())):=by
 have hl:=Q0 s
 show Zhx k (s,UR #[61],()) = _
 simp only [Zhx]
 rw [show Zn1 k (s,UR #[61],()) = some (Lib.indexByte s.data.toList 61,()) from rfl,QJ]
 rcases Zhl s.data.toList with ⟨h1,h2⟩ | ⟨x,y,h1,h2,h3⟩
 ·simp only [h1,h2]
  rfl
 ·simp only [h1,h2]
  have hlen:x.length + (y.length + 1) = s.size:=by rw [← hl,h3]; simp
  have hw:Jx.wrap ((x.length:Int) + UD (UR #[61]).size) = ((x.length + 1:Nat):Int):=by
   rw [show (UR #[61]).size = 1 from rfl,ZG (by simp only [WH]; omega)]; simp only [WH]; omega
  rw [Za (by omega),Za (by simp only [WH]; omega),hw,Za (by simp only [WH]; omega)]
  rw [Zim,Zim]
  have e1:(US (x.length:Int)) = x.length:=by omega
  have e2:(US ((x.length + 1:Nat):Int)) = x.length + 1:=by omega
  have e3:(US (UD s.size)) = s.size:=rfl
  rw [e1,e2,e3,h3]
  have t1:(UL x.length (x ++ 61 :: y)) = x:=by simp
  have t2:(UL s.size (x ++ 61 :: y)) = x ++ 61 :: y:=List.take_of_length_le (by simp; omega)
  simp_all
theorem ZBF (k:Nat) (s:ByteArray) (hs:s.size ≤ 1048576):ZnJ k (s,()) = some (Zh0 s,()):=by
 have hl:=Q0 s
 show Zht k (s,()) = _
 simp only [Zht]
 rw [show Zvq k (s,UR #[OfNat.ofNat (61:Nat)],()) = (ZnZ k (s,UR #[61],())).bind fun y => some ((y.1.1,y.1.2.1,y.1.2.2.1,()),()) from rfl,ZCC k s (by omega)]
 have htag:Zh0 s = (Jb 3 s.size && (Jb s.size 12 && ZkE (Zii s.data.toList))):=by
  unfold Zh0
  rw [← hl,ZP2]
 rcases Zhl s.data.toList with ⟨h1,h2⟩ | ⟨x,y,h1,h2,h3⟩
 ·simp_all [h1,QJ,ZkE,Bool.and_false]
 ·rw [htag]
  have hlen:x.length + (y.length + 1) = s.size:=by rw [← hl,h3]; simp
  simp only [h1,QJ,ZkE,ZJ2,Zmd]
  simp only [cond_true,bne,ZJT]
  cases hx:x with
  | nil => simp
  | cons a x' =>
   rw [← hx]
   have hx0:(x == ([]:List UInt8)) = false:=by rw [hx]; rfl
   rw [hx0]
   simp only [Bool.not_false,cond_true,cond_false]
   cases hy:y with
   | nil => simp
   | cons c y' =>
    rw [← hy]
    have hy0:(y == ([]:List UInt8)) = false:=by rw [hy]; rfl
    have hx1:x.isEmpty = false:=by rw [hx]; rfl
    have hy1:y.isEmpty = false:=by rw [hy]; rfl
    have hlx:1 ≤ x.length:=by rw [hx]; simp
    have hly:1 ≤ y.length:=by rw [hy]; simp
    rw [hy0,hx1,hy1,U0 (show 3 ≤ s.size by omega)]
    simp only [Bool.not_false,cond_true,cond_false,UC]
    by_cases h12:s.size ≤ 12
    ·rw [Za (by simp only [WH]; omega),U0 h12]
     have htr:ZnR k (Zky x,UR #[OfNat.ofNat (97:Nat),OfNat.ofNat (98:Nat),OfNat.ofNat (99:Nat),OfNat.ofNat (100:Nat),OfNat.ofNat (101:Nat),OfNat.ofNat (102:Nat),OfNat.ofNat (103:Nat),OfNat.ofNat (104:Nat),OfNat.ofNat (105:Nat),OfNat.ofNat (106:Nat),OfNat.ofNat (107:Nat),OfNat.ofNat (108:Nat),OfNat.ofNat (109:Nat),OfNat.ofNat (110:Nat),OfNat.ofNat (111:Nat),OfNat.ofNat (112:Nat),OfNat.ofNat (113:Nat),OfNat.ofNat (114:Nat),OfNat.ofNat (115:Nat),OfNat.ofNat (116:Nat),OfNat.ofNat (117:Nat),OfNat.ofNat (118:Nat),OfNat.ofNat (119:Nat),OfNat.ofNat (120:Nat),OfNat.ofNat (121:Nat),OfNat.ofNat (122:Nat)],()) = some (Zky (Lib.trimS x abc),()):=by
      show ZAt (Zky x,Zky abc,()) = _
      unfold ZAt
      simp only [ZGG,Zkz]
      rw [show UZ x.length 1099511627776 = true from U0 (by omega)]
      rfl
     rw [htr,QJ]
     simp only [Zmd]
     have hall:(Lib.trimS x abc == ([]:List UInt8)) = x.all az:=by
      rw [U9,beq_iff_eq,ZJl]
      rw [show (fun b => abc.contains b) = az from funext ZUD]
     rw [hall]
     cases x.all az with
     | false => rfl
     | true =>
      simp only [cond_true,UC]
      show ((ZSR Kh (Zky y,(),())).bind fun y => some (decide (y.1 < (0:Int)),())) = _
      simp only [ZSR,QJ]
      rw [ZzS Kh (fun n hn => by
       unfold Kh
       simp_all <;> omega),Zkz]
      rw [show (fun b:UInt8 => !Kh b.toNat) = vis from funext ZIr]
    ·rw [Zh (by simp only [WH]; omega)]
     simp_all <;> omega
end Go.Sh
namespace Go.Sh
open Go Go.Proofs
structure Small (tags:List ByteArray) (ch:List (List Int)):Prop where
 tl:tags.length ≤ 1048576
 tag:∀ t ∈ tags,t.size ≤ 1048576
 cl:ch.length ≤ 1048576
 chan:∀ c ∈ ch,c.length ≤ 1048576
def ZdR (c d r:Int):Bool:=decide (1 ≤ c ∧ c ≤ 2 ∧ 4 ≤ d ∧ d ≤ 24 ∧ 1 ≤ r ∧ r ≤ 655350)
def Zkc (d x:Int):Bool:=decide (-((2:Int) ^ (d - 1).toNat) ≤ x ∧ x < (2:Int) ^ (d - 1).toNat)
def Zml (ch:List (List Int)) (x:List Int):Bool:=decide (x.length ≤ 4096 ∧ x.length = (ch.getD 0 []).length)
def chk (c d r:Int) (tags:List ByteArray) (ch:List (List Int)):Int :=
 bif ZdR c d r then
  bif decide (8 < tags.length) then 1 else
  bif decide (¬ UD ch.length = c) then 1 else
  bif tags.all Zh0 then
   bif ch.all (Zml ch) then
    bif ch.all (fun x => x.all (Zkc d)) then 0 else 12
   else 1
  else 1
 else 2
theorem ZGv {n:Nat} (h:n ≤ 24):1 ≤ (2:Int) ^ n ∧ (2:Int) ^ n ≤ 16777216:=by
 have h1:1 ≤ 2 ^ n:=Nat.one_le_two_pow
 have h2:2 ^ n ≤ 2 ^ 24:=Hf (by omega) h
 grind
theorem ZQn {d:Int} (h:4 ≤ d ∧ d ≤ 24):Jx.wrap (d - 1) = d - 1:=ZG (by omega)
theorem ZUv {d:Int} (h:4 ≤ d ∧ d ≤ 24):min (d - 1).toNat 64 = (d - 1).toNat:=by omega
theorem ZIv (k:Nat) (x d:Int) (h:4 ≤ d ∧ d ≤ 24):Ztr k (x,d,()) = some (Zkc d x,()):=by
 show ZeW k (x,d,()) = _
 simp only [ZeW]
 rw [Zw,Zh (by omega),ZQn h,Za (by omega),ZUv h,Int.one_mul]
 have hp:=ZGv (n:=(d - 1).toNat) (by omega)
 unfold Zkc
 generalize (2:Int) ^ (d - 1).toNat = p at hp ⊢
 have e1:Jx.wrap p = p:=ZG (by omega)
 have e2:Jx.wrap (0 - p) = 0 - p:=ZG (by omega)
 grind
theorem ZHk (k:Nat) (c d r:Int):Zmn k ((c,d,r,()),()) = some (ZdR c d r,()):=by
 show Zez k ((c,d,r,()),()) = _
 simp only [Zez]
 unfold ZdR
 have tail:(bif decide ((4:Int) ≤ d) then bif decide (d ≤ (24:Int)) then bif decide ((1:Int) ≤ r) then some (decide (r ≤ (655350:Int)),()) else some (false,()) else some (false,()) else some (false,())) = some (decide (4 ≤ d ∧ d ≤ 24 ∧ 1 ≤ r ∧ r ≤ 655350),()):=by
  grind
 rw [tail,Zw,Zw]
 by_cases h1:c = 1
 ·simp_all
 ·rw [Zh h1]
  by_cases h2:c = 2
  ·simp_all
  simp_all <;> omega
theorem ZHd (k:Nat) (c d r:Int):Zo5 k ((c,d,r,()),()) = some ((bif ZdR c d r then 0 else 2),()):=by
 show Zey k ((c,d,r,()),()) = _
 simp only [Zey]
 unfold ZdR
 grind
section ref
variable {k:Nat} (hk:16777216 ≤ k) {c d r:Int} {tags:List ByteArray} {ch:List (List Int)} (hS:Small tags ch) (hd:4 ≤ d ∧ d ≤ 24)
include hk hS hd
theorem ZRF (L3:Int × Int × Int × Int × List ByteArray × List (List Int) → Option (Int × Unit)) (i:Nat) (hi:i < ch.length) :
  Ziz k L3 (0,UD i,c,d,r,tags,ch) = bif ch[i].all (Zkc d) then L3 (UD (i + 1),c,d,r,tags,ch) else some (12,()):=by
 have hl:=hS.chan ch[i] (Ha _)
 have hcl:=hS.cl
 refine QN (fun j => (UD j,UD i,c,d,r,tags,ch)) ch[i] (Zkc d) _ _ (fun L => ?_) (fun L j hj => ?_) k (by omega)
 ·simp only [Zde]
  rw [Za (Xd hi),ZL hi,Zh (ZaZ _),Qa hi (by omega)]
 ·simp only [Zde]
  rw [Za (Xd hi),ZL hi,Za (KN hj),Za (Xd hi),Za (Xd hj),ZL hj,ZIv k _ _ hd,Qa hj (by omega)]
  simp only [QJ,ZJT]
theorem ZRE:ZeI k (0,c,d,r,tags,ch) = bif ch.all (fun x => x.all (Zkc d)) then some (0,()) else some (12,()):=by
 have hcl:=hS.cl
 refine QN (fun j => (UD j,c,d,r,tags,ch)) ch (fun x => x.all (Zkc d)) _ _ (fun L => ?_) (fun L j hj => ?_) k (by omega)
 ·grind [Zdd]
 ·simp only [Zdd]
  rw [Za (KN hj)]
  exact ZRF hk hS hd L j hj
theorem ZRD (hc:1 ≤ ch.length):ZeH k (0,c,d,r,tags,ch) = bif ch.all (Zml ch) then ZeI k (0,c,d,r,tags,ch) else some (1,()):=by
 have hcl:=hS.cl
 refine QN (fun j => (UD j,c,d,r,tags,ch)) ch (Zml ch) _ _ (fun L => ?_) (fun L j hj => ?_) k (by omega)
 ·grind [Zdc]
 ·simp only [Zdc]
  rw [Za (KN hj),Za (Xd hj),ZL hj]
  unfold Zml
  generalize hz:(ch.getD 0 []).length = z
  by_cases h1:(4096:Int) < UD ch[j].length
  ·grind
  ·rw [Zh h1,Za (Xd hj),Za (by simp only [WH]; omega),Zk,Qa hj (by omega)]
   grind
theorem ZRC:ZeG k (0,c,d,r,tags,ch) = bif tags.all Zh0 then ZeH k (0,c,d,r,tags,ch) else some (1,()):=by
 have htl:=hS.tl
 refine QN (fun j => (UD j,c,d,r,tags,ch)) tags Zh0 _ _ (fun L => ?_) (fun L j hj => ?_) k (by omega)
 ·grind [Zdb]
 ·simp only [Zdb]
  rw [Za (KN hj),Za (Xd hj),ZL hj,ZBI k _ (by omega),Qa hj (by omega)]
  simp only [QJ,ZJT]
end ref
theorem ZBN {k:Nat} (hk:16777216 ≤ k) {c d r:Int} {tags:List ByteArray} {ch:List (List Int)} (hS:Small tags ch):Zvb k (((c,d,r,()),tags,ch,()),()) = some (chk c d r tags ch,()):=by
 show Zda k (ZeG k) (((c,d,r,()),tags,ch,()),()) = _
 simp only [Zda]
 rw [ZHk,QJ,ZJT,Zk]
 unfold chk
 cases hs:ZdR c d r with
 | false => rfl
 | true =>
  have hs':=of_decide_eq_true hs
  simp only [cond_true]
  by_cases h8:8 < tags.length
  ·grind
  ·rw [Zh (by simp only [WH]; omega),Zh h8]
   by_cases hc:UD ch.length = c
   ·rw [Zh (fun h => h hc),Zh (fun h => h hc),ZRC hk hS ⟨hs'.2.2.1,hs'.2.2.2.1⟩,ZRD hk hS ⟨hs'.2.2.1,hs'.2.2.2.1⟩ (by grind),ZRE hk hS ⟨hs'.2.2.1,hs'.2.2.2.1⟩]
    grind
   ·rw [Za hc,Za hc]
theorem ZCI {k:Nat} (hk:16777216 ≤ k) {tags:List ByteArray} (h1:tags.length ≤ 1048576) (h2:∀ t ∈ tags,t.size ≤ 1048576):Zvt k (tags,(),()) = some (!(tags.all Zh0),()):=by
 show Zhw k (tags,(),()) = _
 simp only [Zhw]
 have:∃ n:Int,ZvF k (tags,(),()) = some (n,()) ∧ decide (0 ≤ n) = !(tags.all Zh0):=by
  show ∃ n:Int,Zdw k (Zji k) (tags,(),()) = some (n,()) ∧ _
  simp only [Zdw]
  have key:∀ (m i:Nat),tags.length < m + i → i ≤ tags.length → ∃ n:Int,Zg (fun L1 => ZaG k L1) m (UD tags.length,UD i,tags) = some (n,()) ∧ decide (0 ≤ n) = !((tags.drop i).all Zh0):=by
   intro m
   induction m with
   | zero => intro i h h'; omega
   | succ m ih =>
    intro i h h'
    rw [Zc]
    by_cases he:i = tags.length
    ·simp_all [ZaG]
    ·have hi:i < tags.length:=by omega
     simp only [ZaG]
     rw [Za (KN hi),Za (Xd hi),ZL hi]
     rw [show Zvu k (tags[i],()) = (ZnJ k (tags[i],())).bind fun y => some (!y.1,()) from rfl,ZBF k _ (h2 _ (Ha _)),QJ,QJ,Qa hi (by omega),List.drop_eq_getElem_cons hi,UA]
     grind
  have:=key k 0 (by omega) (by omega)
  rwa [U5] at this
 grind
theorem Zaq (k:Nat) (c d r:Int) (tags:List ByteArray) (ch:List (List Int)):Zdp k (((c,d,r,()),tags,ch,()),()) = some (UD (ch.getD 0 []).length,()):=by
 show Zhv k (((c,d,r,()),tags,ch,()),()) = _
 grind [Zhv,WH,JF]
theorem ZIE {x p:Int} (hp:1 ≤ p):(UP x p = 0 ∨ UP x p = -1) ↔ (-p ≤ x ∧ x < p):=by
 have h1:=Int.mul_fdiv_add_fmod x p
 have h2:0 ≤ Int.fmod x p:=Int.fmod_nonneg_of_pos _ (by omega)
 have h3:Int.fmod x p < p:=Int.fmod_lt_of_pos _ (by omega)
 generalize UP x p = q at *
 generalize Int.fmod x p = m at *
 constructor
 ·grind
 ·intro h
  rcases Hm q (-1) with hq | hq | hq
  ·exfalso
   have:p * q ≤ p * (-2):=Hn (by omega) (by omega)
   omega
  ·exact .inr hq
  ·rcases Hm q 0 with hq' | hq' | hq'
   ·omega
   ·exact .inl hq'
   ·exfalso
    have:p * 1 ≤ p * q:=Hn (by omega) (by omega)
    omega
section prog
variable {k:Nat} (hk:16777216 ≤ k) {c d r:Int} {tags:List ByteArray} {ch:List (List Int)} (hS:Small tags ch) (hd:4 ≤ d ∧ d ≤ 24)
include hk hS hd
theorem ZRL (L2:Int × Int × List (List Int) × Int × Int × Int × List ByteArray × List (List Int) → Option (Int × Unit)) (i:Nat) (hi:i < ch.length) :
  ZiI k L2 (UD ch[i].length,0,ch[i],UD i,UD ch.length,ch,c,d,r,tags,ch) = bif ch[i].all (Zkc d) then L2 (UD ch.length,UD (i + 1),ch,c,d,r,tags,ch) else some (12,()):=by
 have hl:=hS.chan ch[i] (Ha _)
 have hcl:=hS.cl
 refine QN (fun j => (UD ch[i].length,UD j,ch[i],UD i,UD ch.length,ch,c,d,r,tags,ch)) ch[i] (Zkc d) _ _ (fun L => ?_) (fun L j hj => ?_) k (by omega)
 ·simp only [Zdj]
  rw [Zh (ZaZ _),Qa hi (by omega)]
 ·simp only [Zdj]
  rw [Za (KN hj),Za (Xd hj),ZL hj,ZQn hd,Za (by omega),ZUv hd,Qa hj (by omega),Zk,Zk]
  have hp:=ZGv (n:=(d - 1).toNat) (by omega)
  have hf:=ZIE (x:=ch[i][j]) hp.1
  unfold Zkc
  grind
theorem ZRK:ZeL k (UD ch.length,0,ch,c,d,r,tags,ch) = bif ch.all (fun x => x.all (Zkc d)) then some (0,()) else some (12,()):=by
 have hcl:=hS.cl
 refine QN (fun j => (UD ch.length,UD j,ch,c,d,r,tags,ch)) ch (fun x => x.all (Zkc d)) _ _ (fun L => ?_) (fun L j hj => ?_) k (by omega)
 ·grind [Zdi]
 ·simp only [Zdi]
  rw [Za (KN hj),Za (Xd hj),ZL hj]
  exact ZRL hk hS hd L j hj
theorem ZRJ:ZeK k (UD ch.length,0,ch,c,d,r,tags,ch) = bif ch.all (Zml ch) then ZeL k (UD ch.length,0,ch,c,d,r,tags,ch) else some (1,()):=by
 have hcl:=hS.cl
 refine QN (fun j => (UD ch.length,UD j,ch,c,d,r,tags,ch)) ch (Zml ch) _ _ (fun L => ?_) (fun L j hj => ?_) k (by omega)
 ·grind [Zdh]
 ·simp only [Zdh]
  rw [Za (KN hj),Za (Xd hj),ZL hj,Zaq,Qa hj (by omega)]
  simp only [QJ]
  rw [Zk]
  unfold Zml
  grind
end prog
theorem Zpm {k:Nat} (hk:16777216 ≤ k) {c d r:Int} {tags:List ByteArray} {ch:List (List Int)} (hS:Small tags ch):ZnN k (((c,d,r,()),tags,ch,()),()) = some (chk c d r tags ch,()):=by
 show Zdg k (ZeK k) (((c,d,r,()),tags,ch,()),()) = _
 simp only [Zdg]
 rw [ZHd,QJ,Zk]
 unfold chk
 cases hs:ZdR c d r with
 | false => rfl
 | true =>
  have hs':=of_decide_eq_true hs
  have hd:4 ≤ d ∧ d ≤ 24:=⟨hs'.2.2.1,hs'.2.2.2.1⟩
  simp only [cond_true]
  rw [Zk,Zh (by simp)]
  by_cases h8:8 < tags.length
  ·grind
  ·rw [Zh (by simp only [WH]; omega),Zh h8]
   by_cases hc:UD ch.length = c
   ·rw [Zh (fun h => h hc),Zh (fun h => h hc),ZCI hk hS.tl hS.tag,QJ,ZJT,ZRJ hk hS hd,ZRK hk hS hd]
    grind
   ·rw [Za hc,Za hc]
end Go.Sh
namespace Go.Sh
open Go Go.Proofs
def WS (s:ByteArray):List Nat:=s.data.toList.map UInt8.toNat
theorem ZDk (s:ByteArray):UT (fun b:UInt8 => UD b.toNat) s.data.toList = Zj (WS s):=by simp [Zj,WS]
theorem Zab (s:ByteArray):(WS s).length = s.size:=by simp [WS]
theorem ZmB (s:ByteArray):QA (WS s):=by
 intro x hx
 obtain ⟨b,_,rfl⟩:=VF.1 hx
 exact b.toNat_lt
theorem ZhL {l:List Nat} (h:QA l):WS (Wa l) = l:=by
 simp only [WS,Wa,Zj,List.map_map]
 conv => rhs; rw [← List.map_id l]
 apply List.map_congr_left
 intro x hx
 have:=h x hx
 simp [Function.comp,UInt8.toNat_ofNat_of_lt' this]
section doc
variable {k:Nat}
theorem ZR1 (hk:100 ≤ k) (s:ByteArray) (hb:s.size < 1000000000) (m:List Nat) (L2:Int × Int × List Int → Option (ByteArray × Unit)) (j:Nat) (h1:(m.length + j) % 64 = 56) (h2:j < 64) (h3:m.length + j < 2000000000) :
  Zg (fun L1 => Xs k L2 L1) k (s,Zj m) = L2 ((0:Int),((8 * s.size:Nat):Int),Zj (m ++ Jd j 0)):=by
 rw [ZlD (st2:=fun L v => Xs k L2 (fun x => L x.2) (s,v)) (fun L L2' hL v => by
  simp only [Xs]
  rw [hL])]
 refine Zq4 (step:=fun L v => Xs k L2 (fun x => L x.2) (s,v)) (out:=fun v => L2 ((0:Int),((8 * s.size:Nat):Int),v)) (fun L m hm => ?_) (fun L m hm hl => ?_) j k m h1 h2 (by omega) h3
 ·simp only [Xs]
  rw [ZC,Zk,WH,ZGt,Zh (by omega)]
  have:Jx.wrap ((8:Int) * (s.size:Int)) = ((8 * s.size:Nat):Int):=by rw [ZG (by omega)]; omega
  rw [← this]
  rfl
 ·simp only [Xs]
  rw [ZC,Zk,WH,ZGt,Za (by omega),Za (by omega),QO]
  rfl
theorem ZCJ:ZvG k () = some (Zj kT,()):=by
 show Zhy k () = _
 simp only [Zhy]
 rw [← ZYz]
 rfl
theorem shN (N i:Nat) (hi:i < 8):UK.wrap (UP (N:Int) ((2:Int) ^ min (Jx.wrap ((8:Int) * (i:Int))).toNat 64)) = ((N / 2 ^ (8 * i) % 256:Nat):Int):=by
 have e:Jx.wrap ((8:Int) * (i:Int)) = ((8 * i:Nat):Int):=by rw [ZG (by omega)]; omega
 have e1:min (((8 * i:Nat):Int)).toNat 64 = 8 * i:=by omega
 rw [e,e1,show ((2:Int) ^ (8 * i)) = ((2 ^ (8 * i):Nat):Int) by simp,Zfp,u8m]
theorem ZEL (N:Nat) (m:List Nat) (hm:m.length < 2000000000) (L3:L3T):∀ (n i fuel:Nat),i + n = 8 → n < fuel →
  Zg (fun L2 => Zau k L3 L2) fuel ((i:Int),(N:Int),Zj (m ++ leN N i)) = L3 ((0:Int),Zj kT,Zj (m ++ leN N 8),h4 s0T)
 | 0,i,fuel + 1,h1,h2 => by
  obtain rfl:i = 8:=by omega
  rw [Zc]
  simp only [Zau]
  rw [Zh (by omega),ZCJ]
  rfl
 | n + 1,i,fuel + 1,h1,h2 => by
  rw [Zc]
  simp only [Zau]
  have e:(0:Int) ≤ Jx.wrap ((8:Int) * (i:Int)):=by rw [ZG (by omega)]; omega
  rw [Za (by omega),Za e]
  simp only [shN N i (by omega)]
  rw [ZC,Za (by simp [QW]; omega),Zkm (by omega)]
  rw [show Zj (m ++ leN N i) ++ [((N / 2 ^ (8 * i) % 256:Nat):Int)] = Zj (m ++ leN N (i + 1)) by rw [ZqL,← Ju,QO (m ++ leN N i)]; rfl]
  exact ZEL N m hm L3 n (i + 1) fuel (by omega) (by omega)
 | 0,_,0,_,h2 => absurd h2 (U1 _)
 | n + 1,_,0,_,h2 => absurd h2 (U2 _)
theorem ZCp (hk:100 ≤ k) {s:ByteArray} (hb:s.size < 1000000000) (hq:s.size < k):ZnU k (s,()) = some (Wa (Zr3 (WS s)),()):=by
 have hl:=Zab s
 have hz:=ZDO s.size
 show Zdr k _ _ = _
 simp only [Zdr]
 rw [Za (by omega),ZDk,ZC,hl,Za (by omega),show Zj (WS s) ++ [(128:Int)] = Zj (WS s ++ [128]) by rw [QO]; rfl]
 refine (ZR1 hk s hb (WS s ++ [128]) _ (zT s.size) (by simpa [hl] using hz.1) hz.2 (by simp [hl]; omega)).trans ?_
 have h2:=ZEL (k:=k) (8 * s.size) (WS s ++ [128] ++ Jd (zT s.size) 0) (by simp [hl]; omega) (Zi1 k) 8 0 k rfl (by omega)
 rw [show leN (8 * s.size) 0 = [] from rfl,Vf] at h2
 refine h2.trans ?_
 have hpl:=Zz5 (WS s)
 have hpl2:(ZgR (WS s)).length < s.size + 100:=by
  simp only [ZgR,Xj,Uq,QW,Ur,hl]; omega
 have h8:=Zq3 (ZmB s)
 have e:WS s ++ [128] ++ Jd (zT s.size) 0 ++ leN (8 * s.size) 8 = ZgR (WS s):=by unfold ZgR; rw [hl]
 rw [e]
 have h3:=ZEM hk (ZeO k) h8 (by omega) ((ZgR (WS s)).length / 64) 0 k s0T (by rw [Nat.zero_add]; exact hpl) (by omega) (by unfold lt4 s0T; simp)
 refine U4 h3 ?_
 rw [Nat.mul_zero,U5]
 exact ZR2 hk _
end doc
end Go.Sh
namespace Go.Sh
open Go Go.Proofs
def Zd1 (x:Int) (j:Nat):Nat:=(UP x ((2:Int) ^ (8 * j)) % 256).toNat
def Q7 (x:Int):Nat → Nat → List Nat
 | _,0 => []
 | j,n + 1 => Zd1 x j :: Q7 x (j + 1) n
def Zl1 (nb:Nat) (ch:List (List Int)) (i:Nat):List Nat:=ch.flatMap fun c => Q7 (c.getD i 0) 0 nb
def Za8 (nb:Nat) (ch:List (List Int)) (n:Nat):List Nat:=(Jc n).flatMap (Zl1 nb ch)
theorem ZJP (x:Int) (j:Nat):Zd1 x j < 256:=by
 unfold Zd1
 omega
theorem Zme (x:Int):∀ n j,QA (Q7 x j n)
 | 0,j => by intro y hy; cases hy
 | n + 1,j => by
  intro y hy
  cases hy with
  | head => exact ZJP x j
  | tail _ hy => exact Zme x n (j + 1) y hy
theorem Xb (x:Int):∀ n j,(Q7 x j n).length = n
 | 0,_ => rfl
 | n + 1,j => by simp [Q7,Xb x n]
theorem ZDH (nb:Nat) (ch:List (List Int)) (n:Nat):QA (Za8 nb ch n):=by
 intro y hy
 simp only [Za8,Zl1,List.mem_flatMap] at hy
 obtain ⟨i,_,c,_,h⟩:=hy
 exact Zme _ _ _ y h
theorem Zcz {α β:Type} {f:α → List β} {B:Nat}:∀ {l:List α},(∀ x ∈ l,(f x).length = B) → (l.flatMap f).length = l.length * B
 | [],_ => by simp
 | x :: l,h => by
  rw [Ho,Xj,h x (Jl ..),Zcz fun y hy => h y (List.mem_cons_of_mem _ hy),JF,Nat.add_mul]; omega
theorem ZAi (nb:Nat) (ch:List (List Int)) (n:Nat):(Za8 nb ch n).length = n * (ch.length * nb):=by
 unfold Za8
 rw [Zcz (B:=ch.length * nb) fun i _ => by unfold Zl1; exact Zcz fun c _ => Xb _ _ _,U7]
theorem ZYF (x:Int) (j:Nat) (hj:j < 8):UK.wrap (UP x ((2:Int) ^ min (((8 * j:Nat):Int)).toNat 64)) = ((Zd1 x j:Nat):Int):=by
 have e1:min (((8 * j:Nat):Int)).toNat 64 = 8 * j:=by omega
 rw [e1]
 unfold Zd1
 generalize UP x ((2:Int) ^ (8 * j)) = y
 rw [IntKind.wrap_u8]; omega
structure Good0 (c d:Int) (ch:List (List Int)) (n:Nat):Prop where
 d4:4 ≤ d ∧ d ≤ 24
 c1:1 ≤ ch.length ∧ ch.length ≤ 2
 cl:(ch.length:Int) = c
 n4:n ≤ 4096
 len:∀ x ∈ ch,x.length = n
theorem Zep {c d r:Int} {tags:List ByteArray} {ch:List (List Int)} (h:chk c d r tags ch = 0):Good0 c d ch (ch.getD 0 []).length ∧ ZdR c d r = true ∧ (∀ x ∈ ch,x.all (Zkc d) = true) ∧ tags.all Zh0 = true ∧ tags.length ≤ 8:=by
 unfold chk at h
 cases h1:ZdR c d r with
 | false => rw [h1] at h; exact absurd h (by simp)
 | true =>
  rw [h1] at h
  simp only [cond_true] at h
  by_cases h2:8 < tags.length
  ·rw [Za h2] at h; cases h
  rw [Zh h2] at h
  by_cases h3:UD ch.length = c
  ·rw [Zh (by simpa using h3)] at h
   cases h4:tags.all Zh0 with
   | false => rw [h4] at h; cases h
   | true =>
    rw [h4] at h
    cases h5:ch.all (Zml ch) with
    | false => rw [h5] at h; cases h
    | true =>
     rw [h5] at h
     cases h6:ch.all (fun x => x.all (Zkc d)) with
     | false => rw [h6] at h; cases h
     | true =>
      have hs:=of_decide_eq_true h1
      have hev:=Ve.1 h5
      simp only [WH] at h3
      have hc1:1 ≤ ch.length:=by omega
      refine ⟨⟨by omega,by omega,h3,?_,fun x hx => (of_decide_eq_true (hev x hx)).2⟩,rfl,fun x hx => Ve.1 h6 x hx,rfl,by omega⟩
      match ch,hc1 with
      | x :: l,_ => exact (of_decide_eq_true (hev x (Jl ..))).1
  simp_all
def nbD (d:Int):Nat:=((d + 7) / 8).toNat
section prog
variable {k:Nat} {c d r:Int} {tags:List ByteArray} {ch:List (List Int)} {n:Nat}
theorem ZEE (hd:4 ≤ d ∧ d ≤ 24) (L1:Int × Int × Int × Int × Int × List ByteArray × List (List Int) × List Int → Option ((ByteArray × Int × Unit) × Unit)) (L2:Int × Int × List (List Int) × Int × Int × Int × Int × Int × Int × List ByteArray × List (List Int) × List Int → Option ((ByteArray × Int × Unit) × Unit))
  (col:List Int) (i:Nat) (hi:i < col.length) (ci len:Int) (cols:List (List Int)) (z nn:Int):∀ (m j fuel:Nat) (acc:List Nat),j + m = nbD d → m < fuel → acc.length + m < 1000000000 →
  Zg (fun L3 => Zaj k L1 L2 L3) fuel (((8 * j:Nat):Int),col,(i:Int),ci,len,cols,z,nn,c,d,r,tags,ch,Zj acc) =
   L2 (len,Jx.wrap (ci + 1),cols,(i:Int),z,nn,c,d,r,tags,ch,Zj (acc ++ Q7 (col.getD i 0) j m))
 | 0,j,fuel + 1,acc,h1,h2,h3 => by
  rw [Zc]
  simp only [Zaj]
  rw [Zh (by unfold nbD at h1; omega)]
  simp [Q7]
 | m + 1,j,fuel + 1,acc,h1,h2,h3 => by
  rw [Zc]
  simp only [Zaj]
  have hj:j < 8:=by unfold nbD at h1; omega
  rw [Za (by unfold nbD at h1; omega),Za (by simp only [WH]; omega),Za (by omega)]
  simp only [tNc (n:=i),ZYF _ j hj]
  rw [ZC,Za (by simp; omega)]
  have e2:Jx.wrap (((8 * j:Nat):Int) + 8) = ((8 * (j + 1):Nat):Int):=by rw [ZG (by omega)]; omega
  rw [e2,show Zj acc ++ [(Zd1 (col.getD i 0) j:Int)] = Zj (acc ++ [Zd1 (col.getD i 0) j]) by rw [QO]; rfl]
  rw [ZEE hd L1 L2 col i hi ci len cols z nn m (j + 1) fuel (acc ++ [Zd1 (col.getD i 0) j]) (by omega) (by omega) (by simp; omega)]
  simp [Q7]
 | 0,_,0,_,_,h2,_ => absurd h2 (U1 _)
 | m + 1,_,0,_,_,h2,_ => absurd h2 (U2 _)
theorem ZwR (hd:4 ≤ d ∧ d ≤ 24):nbD d ≤ 3 ∧ 1 ≤ nbD d:=by unfold nbD; omega
theorem ZRH (hk:100 ≤ k) (hg:Good0 c d ch n) (L1:Int × Int × Int × Int × Int × List ByteArray × List (List Int) × List Int → Option ((ByteArray × Int × Unit) × Unit)) (i:Nat) (hi:i < n) (acc:List Nat) (ha:acc.length < 900000000) :
  ZeJ k L1 (UD ch.length,(0:Int),ch,(i:Int),(i:Int),(n:Int),c,d,r,tags,ch,Zj acc) = L1 ((n:Int),Jx.wrap ((i:Int) + 1),c,d,r,tags,ch,Zj (acc ++ Zl1 (nbD d) ch i)):=by
 have hnb:=ZwR hg.d4
 have hc:=hg.c1
 have key:=ZF (A:=List Nat) (step:=fun L2 => Zai k (ZiE k L1 L2) L1 L2) (fun q a => (UD ch.length,UD q,ch,(i:Int),(i:Int),(n:Int),c,d,r,tags,ch,Zj a)) ch
  (fun rest a => L1 ((n:Int),Jx.wrap ((i:Int) + 1),c,d,r,tags,ch,Zj (a ++ rest.flatMap fun c => Q7 (c.getD i 0) 0 (nbD d)))) (fun q a => a.length ≤ acc.length + 3 * q)
  (fun L a _ => by
   grind [Zai])
  (fun L q hq a hI hL => by
   simp only [Zai]
   rw [Za (KN hq),Za (Xd hq),ZL hq]
   have h3:=ZEE (k:=k) (c:=c) (r:=r) (tags:=tags) (ch:=ch) hg.d4 L1 L ch[q] i (by rw [hg.len _ (Ha hq)]; exact hi) (UD q) (UD ch.length) ch (i:Int) (n:Int) (nbD d) 0 k a (by omega) (by omega) (by omega)
   refine U4 h3 ?_
   rw [Qa hq (by omega),hL _ (by simp [Xb]; omega),Ho,Ju])
  k 0 acc (by omega) (by omega) (by omega)
 rw [U5] at key
 exact key
theorem ZBR (hk:16777216 ≤ k) (hS:Small tags ch):ZiC k (((c,d,r,()),tags,ch,()),()) = (if chk c d r tags ch = 0 then some ((Wa (Zr3 (Za8 (nbD d) ch (ch.getD 0 []).length)),0,()),()) else some ((⟨#[]⟩,chk c d r tags ch,()),())):=by
 show Zdf k _ _ = _
 simp only [Zdf]
 rw [Zpm hk hS]
 simp only [QJ]
 by_cases h0:chk c d r tags ch = 0
 ·rw [if_pos h0,h0,Zk,Zh (by simp),Zaq]
  simp only [QJ]
  obtain ⟨hg,-⟩:=Zep h0
  generalize (ch.getD 0 []).length = n at hg
  have hnb:=ZwR hg.d4
  have hc:=hg.c1
  have hn:=hg.n4
  have hmul:∀ i,i * (ch.length * nbD d) ≤ i * 6:=fun i => Nat.mul_le_mul_left i (Nat.le_trans (J3 hc.2 hnb.1) (by omega))
  have key:=ZF (A:=List Nat) (step:=fun L1 => Zah k (ZeJ k L1) L1) (fun q a => (UD n,UD q,c,d,r,tags,ch,Zj a)) (Jc n)
   (fun rest a => (ZnT k (Zj (a ++ rest.flatMap (Zl1 (nbD d) ch)),())).bind fun y => some ((y.1,(0:Int),()),())) (fun q a => a.length = q * (ch.length * nbD d))
   (fun L a _ => by
    grind [Zah,U7])
   (fun L q hq a hI hL => by
    rw [U7] at hq
    simp only [Zah]
    have:=hmul q
    rw [Za (KN hq)]
    refine U4 (ZRH (by omega) hg L q hq a (by omega)) ?_
    rw [show Jx.wrap ((q:Int) + 1) = UD (q + 1) from Qa hq (by omega)]
    have hq6:(Zl1 (nbD d) ch q).length = ch.length * nbD d:=by unfold Zl1; exact Zcz fun c _ => Xb _ _ _
    grind)
   k 0 [] (by simp) (by rw [U7]; omega) (by omega)
  rw [U5,List.nil_append] at key
  refine U4 key ?_
  have hl:=ZAi (nbD d) ch n
  have:=hmul n
  rw [show (Jc n).flatMap (Zl1 (nbD d) ch) = Za8 (nbD d) ch n from rfl,ZCg (by omega) (ZDH _ _ _) (by omega) (by omega)]
  rfl
 ·rw [if_neg h0,Zk,Za h0]
end prog
end Go.Sh
