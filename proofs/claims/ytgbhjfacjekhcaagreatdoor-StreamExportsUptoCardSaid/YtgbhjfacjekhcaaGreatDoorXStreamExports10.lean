/-
  What the row needs, part 10.
-/
import Derived.Test.YtgbhjfacjekhcaaGreatDoorXStreamExports9
import Derived.Test.YtgbhjfacjekhcaaGreatDoorProg
set_option linter.unusedSimpArgs false
set_option linter.unusedVariables false
set_option linter.unusedSectionVars false
open BitVec renaming ofInt→UH,toNat_and→U8,allOnes→Hf,allOnes_xor→Hg,toNat_not→Hh,toNat_or→Hi,toNat_xor→Hj
open Bool renaming false_eq_true→JJ,eq_iff_iff→U9,and_eq_true→Jh,true_and→UC
open ByteArray renaming mk→UJ,size→UM,toList→U6
open Eq renaming trans→U4
open Int renaming ofNat→UD,fdiv→UP,toNat→U3,cast_ofNat_Int→Hk,lt_trichotomy→Hl,mul_le_mul_of_nonneg_left→Hm
open Go.IntKind renaming i64→Jx,u32→UX,u8→UL,u64→UI
open List renaming length→UK,map→UT,range→Jc,take→UO,replicate→Jd,drop→UN,drop_zero→U5,length_range→U7,getD_eq_getElem?_getD→VR,getElem_mem→Ha,length_cons→JF,append_assoc→Ju,dropWhile_cons→Hc,getD→US,length_replicate→Uq,length_singleton→Ur,mem_map→VF,mem_of_getElem?→Vw,mem_of_mem_drop→JS,mem_of_mem_take→JT,all_cons→UA,all_eq_true→Ve,append_nil→Vf,flatMap_cons→Hn,length_drop→Vh,length_set→JQ,mem_cons_self→Jl,range_succ→Ho
open Nat renaming beq→Ja,mod_lt→UY,blt→UZ,ble_eq_true_of_le→U0,lt_irrefl→U1,not_lt_zero→U2,ble→Jb,ble_eq→Hb,le_of_ble_eq_true→Jt,lt_of_le_of_lt→Hd,lt_or_ge→VM,pow_le_pow_right→He,and_two_pow_sub_one_eq_mod→Hp,mul_le_mul→J3
open UInt8 renaming ofNat→UU
open Go.Value renaming int→Jv,string→UR,slice→V4
namespace Go.Sh
open Go Go.Proofs
abbrev trackT:Ty:=.pair ZmA (.pair (.sl .str) (.pair (.sl (.sl (.int .i64))) .unit))
abbrev Qn:List Kd:=[.view trackT]
abbrev Z7:Kd:=.view (.int .i64)
def ZhN (k:Nat):((Int × Int × Int × Unit) × List ByteArray × List (List Int) × Unit) × Unit → Option (Int × Unit)
 | (((a0,a1,a2,()),a3,a4,()),()) => bif UD a4.length == (0:Int) then some (0,()) else bif decide ((0:Int) ≤ 0 ∧ (0:Int) < UD a4.length) then some (UD (UK (a4.getD 0 [])),()) else none
def Zbl (k:Nat):=ZhN k
noncomputable def ZoA (k:Nat):ZA k:=Zx 34 Tryz.f34 [] Qn Z7 Zbl
def ZZd:Go.Shelf.Ren:=⟨fun n => match n with | 219 => 131 | 217 => 177 | 225 => 178 | 224 => 179 | 267 => 180 | 266 => 228 | 314 => 229 | _ => 0,fun n => match n with | 9 => 9 | 3 => 3 | 4 => 4 | 5 => 5 | 46 => 62 | 146 => 270 | 51 => 125 | _ => 0,fun n => match n with | 1 => 0 | _ => 0⟩
abbrev ZcH:List Kd:=[.view .str,.view .str]
def ZoL (k:Nat):ByteArray × ByteArray × Unit → Option (Int × Unit):=fun x => ZDC x
theorem ZQX:Go.Proofs.Lays.n219 Tryz.prog ZZd:=by
 constructor <;> first | kernel_rfl | (intro w; kernel_rfl)
theorem ZJo (k:Nat):Ctr Tryz.prog k 131 (mk ZcH Z7 ZoL):=ZJH ZQX rfl (fn:=Tryz.f131) (by kernel_rfl) (by kernel_rfl) (by kernel_rfl)
noncomputable def ZTq (k:Nat):ZA k:=⟨(131,mk ZcH Z7 ZoL),ZJo k⟩
abbrev ZzR:Kd:=.tup [.view .str,.view .str,.view .bool]
def ZhQ (k:Nat):ByteArray × ByteArray × Unit → Option ((ByteArray × ByteArray × Bool × Unit) × Unit)
 | (a0,a1,()) => (ZoL k (a0,a1,())).bind fun y => bif decide ((0:Int) ≤ y.1) then bif decide ((0:Int) ≤ 0 ∧ (0:Int) ≤ y.1 ∧ y.1 ≤ UD a0.size) then bif decide (0 ≤ Jx.wrap (y.1 + UD a1.size) ∧ Jx.wrap (y.1 + UD a1.size) ≤ UD a0.size ∧ UD a0.size ≤ UD a0.size) then some ((a0.extract (0:Nat) (U3 y.1),a0.extract (Jx.wrap (y.1 + UD a1.size)).toNat (UD a0.size).toNat,true,()),()) else none else none else some ((a0,UJ #[],false,()),())
def ZoI (k:Nat):=ZhQ k
set_option maxHeartbeats 1000000 in
noncomputable def ZS7 (k:Nat):ZA k:=Zx 65 Tryz.f65 [ZTq k] ZcH ZzR ZoI
def ZCC (k:Nat):ByteArray × ByteArray × Unit → Option ((ByteArray × ByteArray × Bool × Unit) × Unit)
 | (a0,a1,()) => (ZoI k (a0,a1,())).bind fun y => some ((y.1.1,y.1.2.1,y.1.2.2.1,()),())
def Zv0 (k:Nat):=ZCC k
noncomputable def ZSH (k:Nat):ZA k:=Zx 28 Tryz.f28 [ZS7 k] ZcH ZzR Zv0
def ZZe:Go.Shelf.Ren:=⟨fun n => match n with | 160 => 30 | 232 => 67 | 231 => 66 | 227 => 68 | 234 => 70 | 233 => 69 | 236 => 72 | 235 => 71 | 228 => 132 | 271 => 135 | 151 => 134 | 197 => 133 | 120 => 183 | 152 => 182 | 260 => 181 | 137 => 230 | 119 => 231 | 224 => 179 | 225 => 178 | 217 => 177 | 266 => 228 | _ => 0,fun n => match n with | 9 => 9 | 4 => 4 | 3 => 3 | 5 => 5 | 117 => 118 | 116 => 117 | 0 => 0 | 124 => 121 | 21 => 21 | 105 => 189 | 46 => 62 | 119 => 272 | 139 => 275 | 138 => 274 | _ => 0,fun n => match n with | 3 => 2 | 4 => 3 | _ => 0⟩
abbrev Qc:Kd:=.view .str
def Zoz (k:Nat):ByteArray × ByteArray × Unit → Option (ByteArray × Unit):=fun x => ZAX x
theorem ZQY:Go.Proofs.Lays.n160 Tryz.prog ZZe:=by
 constructor <;> first | kernel_rfl | (intro w; kernel_rfl)
theorem ZJj (k:Nat):Ctr Tryz.prog k 30 (mk ZcH Qc Zoz):=ZQQ ZQY (by kernel_rfl) rfl (fn:=Tryz.f30) (by kernel_rfl) (by kernel_rfl) (by kernel_rfl)
noncomputable def ZSJ (k:Nat):ZA k:=⟨(30,mk ZcH Qc Zoz),ZJj k⟩
abbrev Zzu:List Kd:=[.view (.int .i32)]
abbrev Q1:Kd:=.view .bool
def ZCD (k:Nat):Int × Unit → Option (Bool × Unit)
 | (a0,()) => bif decide (a0 < 33) then some (true,()) else some (decide ((126:Int) < a0),())
def Zv1 (k:Nat):=ZCD k
noncomputable def ZSI (k:Nat):ZA k:=Zx 29 Tryz.f29 [] Zzu Q1 Zv1
theorem ZJi (k:Nat):Ctr Tryz.prog k 29 (mk Zzu Q1 Zv1):=(ZSI k).2
def ZZb:Go.Shelf.Ren:=⟨fun n => match n with | 15 => 31 | 20 => 73 | _ => 0,fun n => match n with | 9 => 9 | 23 => 65 | 3 => 3 | 4 => 4 | 0 => 0 | 21 => 21 | _ => 0,fun n => n⟩
abbrev Zzv:List Kd:=[.view .str,.fn 29]
def Ki (n:Nat):Bool:=UZ n 33 || UZ 126 n
def Zv2 (k:Nat):ByteArray × Unit × Unit → Option (Int × Unit):=fun x => ZTA Ki x
theorem ZQV:Go.Proofs.LaysGw.n15 Tryz.prog ZZb:=by
 constructor <;> first | kernel_rfl | (intro w; kernel_rfl)
theorem ZJl (k n:Nat):Zv1 k ((n:Int),()) = some (Ki n,()):=by
 show (bif decide ((n:Int) < 33) then some (true,()) else some (decide ((126:Int) < (n:Int)),())) = some (Ki n,())
 unfold Ki
 cases h:UZ n 33 with
 | true =>
  have:n < 33:=Jt h
  rw [decide_eq_true (by omega)]; rfl
 | false =>
  have:¬ n < 33:=fun h' => by rw [U0 (show n + 1 ≤ 33 from h') |> (fun e => (show UZ n 33 = true from e))] at h; cases h
  rw [decide_eq_false (by omega)]
  cases h2:UZ 126 n with
  | true =>
   have:126 < n:=Jt h2
   rw [decide_eq_true (by omega)]; rfl
  | false =>
   have:¬ 126 < n:=fun h' => by rw [show UZ 126 n = true from U0 h'] at h2; cases h2
   rw [decide_eq_false (by omega)]; rfl
theorem ZJk (k:Nat):Ctr Tryz.prog k 31 (mk Zzv Z7 Zv2):=ZTB ZQV (ZJi k) (ZJl k) rfl (fn:=Tryz.f31) (by kernel_rfl) (by kernel_rfl) (by kernel_rfl)
noncomputable def ZSK (k:Nat):ZA k:=⟨(31,mk Zzv Z7 Zv2),ZJk k⟩
abbrev WM:List Kd:=[.view .str]
def ZhK (k:Nat):ByteArray × Unit → Option (Bool × Unit)
 | (a0,()) => (Zv0 k (a0,UJ #[61],())).bind fun y => bif y.1.2.2.1 then bif !U6 y.1.1 == (UJ #[]).toList then bif !U6 y.1.2.1 == (UJ #[]).toList then bif decide (UD a0.size ≤ (12:Int)) then (Zoz k (y.1.1,UJ #[97,98,99,100,101,102,103,104,105,106,107,108,109,110,111,112,113,114,115,116,117,118,119,120,121,122],())).bind fun y_1 => bif U6 y_1.1 == (UJ #[]).toList then (Zv2 k (y.1.2.1,(),())).bind fun y => some (decide (y.1 < 0),()) else some (false,()) else some (false,()) else some (false,()) else some (false,()) else some (false,())
def Zoo (k:Nat):=ZhK k
set_option maxHeartbeats 1000000 in
noncomputable def ZSm (k:Nat):ZA k:=Zx 11 Tryz.f11 [ZSH k,ZSJ k,ZSK k] WM Q1 Zoo
def ZCJ (k:Nat):ByteArray × Unit → Option (Bool × Unit)
 | (a0,()) => (Zoo k (a0,())).bind fun y => some (!y.1,())
def Zv4 (k:Nat):=ZCJ k
noncomputable def ZSP (k:Nat):ZA k:=Zx 38 Tryz.f38 [ZSm k] WM Q1 Zv4
abbrev Zqn:List Kd:=[.view (.sl .str),.fn 38]
noncomputable def ZFB (k:Nat):List (ZA k):=[ZSP k]
def ZFA:Nat → Ann:=fun id => bif Ja id 2 then ⟨[7,8,1,0],[]⟩ else ⟨[],[]⟩
abbrev ZzV:=Int × Int × List ByteArray
abbrev ZjM:=ZzV → Option (Int × Unit)
def ZNn:ZzV → St
 | (v0,v1,v2) => St.mk (Zk [(7,Zg v0),(8,Zg v1),(1,AV.fn 38),(0,AV.val (PV.sl Ty.str v2))]) (Zj [])
def ZaI (k:Nat) (L1:ZjM):ZjM
 | (v0,v1,v2) => bif decide (v1 < v0) then bif decide (0 ≤ v1 ∧ v1 < UD v2.length) then (Zv4 k (v2.getD v1.toNat (UJ #[]),())).bind fun y => bif y.1 then some (v1,()) else L1 (v0,Jx.wrap (v1 + 1),v2) else none else some ((-1:Int),())
def ZjN (k:Nat):ZjM:=Ze (fun L1 => ZaI k L1) k
noncomputable def ZtU (k:Nat) (n:Nat):=Qj (ZFB k) Tryz.f77 Zqn Z7 [1,0,1,0] [] n ZNn (A:=ZFA)
def ZdV (k:Nat) (L1:ZjM):List ByteArray × Unit × Unit → Option (Int × Unit)
 | (a0,(),()) => L1 (UD a0.length,(0:Int),a0)
def Zwg (k:Nat):=ZdV k (ZjN k)
theorem ZC9 (k:Nat):∀ n,ZtU k n = Ze (fun L1 => ZaI k L1) n:=ZG
noncomputable def ZTb (k:Nat):ZA k:=Zx 77 Tryz.f77 (ZFB k) Zqn Z7 Zwg (A:=ZFA) (h:=fun x => by show _ = ZdV k (ZjN k) x; rw [show ZjN k = ZtU k k from (ZC9 k k).symm]; kernel_rfl)
def ZhO (k:Nat):List ByteArray × Unit × Unit → Option (Bool × Unit)
 | (a0,(),()) => (Zwg k (a0,(),())).bind fun y => some (decide ((0:Int) ≤ y.1),())
def Zv3 (k:Nat):=ZhO k
noncomputable def ZSO (k:Nat):ZA k:=Zx 37 Tryz.f37 [ZTb k] Zqn Q1 Zv3
noncomputable def Zou (k:Nat):List (ZA k):=[ZoA k,ZEA k,ZSO k]
def Zos:Nat → Ann:=fun id => bif Ja id 16 then ⟨[61,62,60,1,56,55,54],[]⟩ else bif Ja id 13 then ⟨[55,56,54,1],[]⟩ else bif Ja id 7 then ⟨[37,38,36,1],[]⟩ else ⟨[],[]⟩
abbrev Zzk:=Int × Int × List Int × Int × Int × List (List Int) × Int × Int × Int × List ByteArray × List (List Int)
abbrev Zi8:=Zzk → Option (Int × Unit)
abbrev Zp0:=Int × Int × List (List Int) × Int × Int × Int × List ByteArray × List (List Int)
abbrev XP:=Zp0 → Option (Int × Unit)
def ZML:Zzk → St
 | (v0,v1,v2,v3,v4,v5,v6,v7,v8,v9,v10) => St.mk (Zk [(61,Zg v0),(62,Zg v1),(60,We v2),(1,AV.bx 8192 0),(56,Zg v3),(55,Zg v4),(54,AV.val (PV.sl (Ty.int Jx).sl v5))]) (Zj [(8192,QG [Zg v6,Zg v7,Zg v8,AV.val (PV.sl Ty.str v9),AV.val (PV.sl (Ty.int Jx).sl v10)])])
def ZdJ (k:Nat) (L2:XP) (L3:Zi8):Zi8
 | (v0,v1,v2,v3,v4,v5,v6,v7,v8,v9,v10) => bif decide (v1 < v0) then bif decide (0 ≤ v1 ∧ v1 < UD v2.length) then bif decide (0 ≤ Jx.wrap (v7 - 1)) then bif UP (v2.getD v1.toNat 0) ((2:Int) ^ min (Jx.wrap (v7 - 1)).toNat 64) != (0:Int) then bif UP (v2.getD v1.toNat 0) ((2:Int) ^ min (Jx.wrap (v7 - 1)).toNat 64) != (-1:Int) then some (12,()) else L3 (v0,Jx.wrap (v1 + 1),v2,v3,v4,v5,v6,v7,v8,v9,v10) else L3 (v0,Jx.wrap (v1 + 1),v2,v3,v4,v5,v6,v7,v8,v9,v10) else none else none else L2 (v4,Jx.wrap (v3 + 1),v5,v6,v7,v8,v9,v10)
def Zi9 (k:Nat) (L2:XP):Zi8:=Ze (fun L3 => ZdJ k L2 L3) k
noncomputable def Ztv (k:Nat) (n2:Nat) (n:Nat):=Qj (Zou k) Tryz.f16 Qn Z7 [1,1,1,1,0,1,0,0,1,1,0,0,1,1,0] [n2] n ZML (A:=Zos)
def ZMK:Zp0 → St
 | (v0,v1,v2,v3,v4,v5,v6,v7) => St.mk (Zk [(55,Zg v0),(56,Zg v1),(54,AV.val (PV.sl (Ty.int Jx).sl v2)),(1,AV.bx 8192 0)]) (Zj [(8192,QG [Zg v3,Zg v4,Zg v5,AV.val (PV.sl Ty.str v6),AV.val (PV.sl (Ty.int Jx).sl v7)])])
def ZdI (k:Nat) (L3:Zi8) (L2:XP):XP
 | (v0,v1,v2,v3,v4,v5,v6,v7) => bif decide (v1 < v0) then bif decide (0 ≤ v1 ∧ v1 < UD v2.length) then L3 (UD (UK (v2.getD v1.toNat [])),(0:Int),v2.getD v1.toNat [],v1,v0,v2,v3,v4,v5,v6,v7) else none else some (0,())
def Ze3 (k:Nat):XP:=Ze (fun L2 => ZdI k (Zi9 k L2) L2) k
noncomputable def ZgV (k:Nat) (n:Nat):=Qj (Zou k) Tryz.f16 Qn Z7 [1,1,1,1,0,1,0] [] n ZMK (A:=Zos)
def ZMJ:Zp0 → St
 | (v0,v1,v2,v3,v4,v5,v6,v7) => St.mk (Zk [(37,Zg v0),(38,Zg v1),(36,AV.val (PV.sl (Ty.int Jx).sl v2)),(1,AV.bx 8192 0)]) (Zj [(8192,QG [Zg v3,Zg v4,Zg v5,AV.val (PV.sl Ty.str v6),AV.val (PV.sl (Ty.int Jx).sl v7)])])
def ZdH (k:Nat) (L2:XP) (L1:XP):XP
 | (v0,v1,v2,v3,v4,v5,v6,v7) => bif decide (v1 < v0) then bif decide (0 ≤ v1 ∧ v1 < UD v2.length) then bif decide ((4096:Int) < UD (UK (v2.getD v1.toNat []))) then some (1,()) else (Zbl k (((v3,v4,v5,()),v6,v7,()),())).bind fun y => bif UD (UK (v2.getD v1.toNat [])) != y.1 then some (1,()) else L1 (v0,Jx.wrap (v1 + 1),v2,v3,v4,v5,v6,v7) else none else L2 (UD v7.length,(0:Int),v7,v3,v4,v5,v6,v7)
def Ze2 (k:Nat):XP:=Ze (fun L1 => ZdH k (Ze3 k) L1) k
noncomputable def Ztu (k:Nat) (n:Nat):=Qj (Zou k) Tryz.f16 Qn Z7 [1,1,1,0,1,0] [] n ZMJ (A:=Zos)
def ZdG (k:Nat) (L1:XP):((Int × Int × Int × Unit) × List ByteArray × List (List Int) × Unit) × Unit → Option (Int × Unit)
 | (((a0,a1,a2,()),a3,a4,()),()) => (ZyD k ((a0,a1,a2,()),())).bind fun y => bif y.1 != 0 then some (y.1,()) else bif decide ((8:Int) < UD a3.length) then some (1,()) else bif UD a4.length != a0 then some (1,()) else (Zv3 k (a3,(),())).bind fun y => bif y.1 then some (1,()) else L1 (UD a4.length,(0:Int),a4,a0,a1,a2,a3,a4)
def Zot (k:Nat):=ZdG k (Ze2 k)
theorem ZCs (k:Nat) (n2:Nat):∀ n,Ztv k n2 n = Ze (fun L3 => ZdJ k (ZgV k n2) L3) n:=ZG
theorem ZCr (k:Nat):∀ n,ZgV k n = Ze (fun L2 => ZdI k (Zi9 k L2) L2) n:=ZG (fun n v => by rw [show (Zi9 k (ZgV k n)) = Ztv k n k from (ZCs k n k).symm]; kernel_rfl)
theorem ZCq (k:Nat):∀ n,Ztu k n = Ze (fun L1 => ZdH k (Ze3 k) L1) n:=ZG (fun n v => by rw [show (Ze3 k) = ZgV k k from (ZCr k k).symm]; kernel_rfl)
set_option maxHeartbeats 1000000 in
noncomputable def ZvU (k:Nat):ZA k:=Zx 16 Tryz.f16 (Zou k) Qn Z7 Zot (A:=Zos) (h:=fun x => by show _ = ZdG k (Ze2 k) x; rw [show Ze2 k = Ztu k k from (ZCq k k).symm]; kernel_rfl)
abbrev Zjx:List Kd:=[.view trackT,.view (.int .i64),.view (.int .i64)]
abbrev Zjy:Kd:=.view Zmb
noncomputable def ZFv (k:Nat):List (ZA k):=[]
def ZFu:Nat → Ann:=fun id => bif Ja id 3 then ⟨[14,15,13,7,1,2,6],[.cell 7 1 ((Ty.int Jx).sl)]⟩ else ⟨[],[]⟩
abbrev ZzH:=Int × Int × List (List Int) × Int × Int × Int × List (List Int) × Int
abbrev Zjw:=ZzH → Option ((Int × List (List Int) × Unit) × Unit)
def ZM8:ZzH → St
 | (v0,v1,v2,v3,v4,v5,v6,v7) => St.mk (Zk [(14,Zg v0),(15,Zg v1),(13,AV.val (PV.sl (Ty.int Jx).sl v2)),(7,AV.bx 8192 0),(1,Zg v3),(2,Zg v4),(6,AV.bx 8194 0)]) (Zj [(8192,QG [Zg v5,AV.own 8193]),(8193,RS.live (Res.arr (Ty.int Jx).sl v6 false)),(8194,QG [Zg v7,AV.val (PV.v (V4 none (0:Nat) (0:Nat)))])])
def Zaz (k:Nat) (L1:Zjw):Zjw
 | (v0,v1,v2,v3,v4,v5,v6,v7) => bif decide (v1 < v0) then bif decide (0 ≤ v1 ∧ v1 < UD v2.length) then bif decide (0 ≤ Jx.wrap (v3 * v4) ∧ (Jx.wrap (v3 * v4) ≤ if UD (UK (v2.getD v1.toNat [])) < Jx.wrap (Jx.wrap (v3 + 1) * v4) then UD (UK (v2.getD v1.toNat [])) else Jx.wrap (Jx.wrap (v3 + 1) * v4)) ∧ (if UD (UK (v2.getD v1.toNat [])) < Jx.wrap (Jx.wrap (v3 + 1) * v4) then UD (UK (v2.getD v1.toNat [])) else Jx.wrap (Jx.wrap (v3 + 1) * v4)) ≤ UD (UK (v2.getD v1.toNat []))) then bif decide (v6.length + [UN (Jx.wrap (v3 * v4)).toNat (UO (if UD (UK (v2.getD v1.toNat [])) < Jx.wrap (Jx.wrap (v3 + 1) * v4) then UD (UK (v2.getD v1.toNat [])) else Jx.wrap (Jx.wrap (v3 + 1) * v4)).toNat (v2.getD v1.toNat []))].length < 2147483648) then L1 (v0,Jx.wrap (v1 + 1),v2,v3,v4,v5,v6 ++ [UN (Jx.wrap (v3 * v4)).toNat (UO (if UD (UK (v2.getD v1.toNat [])) < Jx.wrap (Jx.wrap (v3 + 1) * v4) then UD (UK (v2.getD v1.toNat [])) else Jx.wrap (Jx.wrap (v3 + 1) * v4)).toNat (v2.getD v1.toNat []))],v7) else none else none else none else some ((v5,v6,()),())
def Zqe (k:Nat):Zjw:=Ze (fun L1 => Zaz k L1) k
noncomputable def ZtL (k:Nat) (n:Nat):=Qj (ZFv k) Tryz.f44 Zjx Zjy [1,1,0,1,0] [] n ZM8 (A:=ZFu)
def Zqf (k:Nat) (L1:Zjw):((Int × Int × Int × Unit) × List ByteArray × List (List Int) × Unit) × Int × Int × Unit → Option ((Int × List (List Int) × Unit) × Unit)
 | (((a0,a1,a2,()),a3,a4,()),a5,a6,()) => L1 (UD a4.length,(0:Int),a4,a5,a6,a5,[],(0:Int))
def Zv7 (k:Nat):=Zqf k (Zqe k)
theorem ZCU (k:Nat):∀ n,ZtL k n = Ze (fun L1 => Zaz k L1) n:=ZG
noncomputable def ZSW (k:Nat):ZA k:=Zx 44 Tryz.f44 (ZFv k) Zjx Zjy Zv7 (A:=ZFu) (h:=fun x => by show _ = Zqf k (Zqe k) x; rw [show Zqe k = ZtL k k from (ZCU k k).symm]; kernel_rfl)
abbrev W7:List Kd:=[.view trackT,.view (.int .i64)]
abbrev Zzq:Kd:=.tup [.view (.sl (.sl (.int .u8))),.view (.int .i64)]
noncomputable def ZFe (k:Nat):List (ZA k):=[ZvU k,ZoA k,ZXW k,ZSW k]
def ZFc:Nat → Ann:=fun id => bif Ja id 8 then ⟨[8,1,2,7],[.slot 7 ((Ty.int UL).sl)]⟩ else ⟨[],[]⟩
abbrev Zzp:=Int × Int × Int × Int × Int × List ByteArray × List (List Int) × List (List Int)
abbrev Zjd:=Zzp → Option ((List (List Int) × Int × Unit) × Unit)
def ZMQ:Zzp → St
 | (v0,v1,v2,v3,v4,v5,v6,v7) => St.mk (Zk [(8,Zg v0),(1,Zg v1),(2,AV.bx 8192 0),(7,AV.own 8193)]) (Zj [(8192,QG [Zg v2,Zg v3,Zg v4,AV.val (PV.sl Ty.str v5),AV.val (PV.sl (Ty.int Jx).sl v6)]),(8193,RS.live (Res.arr (Ty.int UL).sl v7 false))])
noncomputable def Zaq (k:Nat) (L1:Zjd):Zjd
 | (v0,v1,v2,v3,v4,v5,v6,v7) => (Zbl k (((v2,v3,v4,()),v5,v6,()),())).bind fun y => bif decide (Jx.wrap (v0 * v1) < y.1) then (Zv7 k (((v2,v3,v4,()),v5,v6,()),v0,v1,())).bind fun y => (ZLP k ((v2,v3,v4,()),(y.1.1,y.1.2.1,()),())).bind fun y => bif y.1.2.1 != 0 then some (([],y.1.2.1,()),()) else bif decide (v7.length + [y.1.1].length < 2147483648) then L1 (Jx.wrap (v0 + 1),v1,v2,v3,v4,v5,v6,v7 ++ [y.1.1]) else none else some ((v7,0,()),())
noncomputable def Zp5 (k:Nat):Zjd:=Ze (fun L1 => Zaq k L1) k
noncomputable def Zty (k:Nat) (n:Nat):=Qj (ZFe k) Tryz.f20 W7 Zzq [1,1,1,1,0,1,0] [] n ZMQ (A:=ZFc)
def ZdM (k:Nat) (L1:Zjd):((Int × Int × Int × Unit) × List ByteArray × List (List Int) × Unit) × Int × Unit → Option ((List (List Int) × Int × Unit) × Unit)
 | (((a0,a1,a2,()),a3,a4,()),a5,()) => (Zot k (((a0,a1,a2,()),a3,a4,()),())).bind fun y => bif y.1 != 0 then some (([],y.1,()),()) else bif decide (a5 < 16) then some (([],1,()),()) else bif decide ((512:Int) < a5) then some (([],1,()),()) else L1 (0,a5,a0,a1,a2,a3,a4,[])
noncomputable def Zoy (k:Nat):=ZdM k (Zp5 k)
theorem ZCy (k:Nat):∀ n,Zty k n = Ze (fun L1 => Zaq k L1) n:=ZG
set_option maxHeartbeats 1000000 in
noncomputable def ZFd (k:Nat):ZA k:=Zx 20 Tryz.f20 (ZFe k) W7 Zzq Zoy (A:=ZFc) (h:=fun x => by show _ = ZdM k (Zp5 k) x; rw [show Zp5 k = Zty k k from (ZCy k k).symm]; kernel_rfl)
def ZZc:Go.Shelf.Ren:=⟨fun n => match n with | 4 => 101 | _ => 0,fun n => match n with | 22 => 46 | 25 => 5 | 3 => 3 | 4 => 4 | 9 => 9 | 20 => 20 | 0 => 0 | _ => 0,fun n => n⟩
abbrev ZzW:List Kd:=[.view .raw,.view (.int .i64)]
abbrev Ys:Kd:=.own (.int .u8) false
def ZoJ (k:Nat):Value × Int × Unit → Option (List Int × Unit):=fun x => ZAu x
theorem ZQW:Go.Proofs.Lays8.n4 Tryz.prog ZZc:=by
 constructor <;> first | kernel_rfl | (intro w; kernel_rfl) | exact ⟨"slices.Grow[[]byte,byte]",by kernel_rfl,by kernel_rfl⟩
theorem ZJn (k:Nat):Ctr Tryz.prog k 101 (mk ZzW Ys ZoJ):=ZQd ZQW Tryz.t5 (by kernel_rfl) (by kernel_rfl) (by kernel_rfl) (by kernel_rfl) rfl rfl (fn:=Tryz.f101) (by kernel_rfl) (by kernel_rfl) (by kernel_rfl)
noncomputable def ZTg (k:Nat):ZA k:=⟨(101,mk ZzW Ys ZoJ),ZJn k⟩
abbrev Zqh:List Kd:=[.view (.sl (.sl (.int .u8)))]
noncomputable def Zwa (k:Nat):List (ZA k):=[ZTg k]
def Zv9:Nat → Ann:=fun id => bif Ja id 11 then ⟨[26,27,25,6],[]⟩ else bif Ja id 3 then ⟨[10,11,9,3,0],[]⟩ else ⟨[],[]⟩
abbrev ZzN:=Int × Int × List (List Int) × List Int
abbrev ZjD:=ZzN → Option (List Int × Unit)
abbrev ZzM:=Int × Int × List (List Int) × Int × List (List Int)
abbrev ZjC:=ZzM → Option (List Int × Unit)
def ZNd:ZzN → St
 | (v0,v1,v2,v3) => St.mk (Zk [(26,Zg v0),(27,Zg v1),(25,AV.val (PV.sl (Ty.int UL).sl v2)),(6,AV.own 8192)]) (Zj [(8192,RS.live (Res.arr (Ty.int UL) v3 false))])
def ZaD (k:Nat) (L2:ZjD):ZjD
 | (v0,v1,v2,v3) => bif decide (v1 < v0) then bif decide (0 ≤ v1 ∧ v1 < UD v2.length) then bif decide (v3.length + UK (v2.getD v1.toNat []) < 2147483648) then L2 (v0,Jx.wrap (v1 + 1),v2,v3 ++ v2.getD v1.toNat []) else none else none else some (v3,())
def ZjF (k:Nat):ZjD:=Ze (fun L2 => ZaD k L2) k
noncomputable def ZtP (k:Nat) (n:Nat):=Qj (Zwa k) Tryz.f46 Zqh Ys [1,1,1,1,0,1,0] [] n ZNd (A:=Zv9)
def ZNc:ZzM → St
 | (v0,v1,v2,v3,v4) => St.mk (Zk [(10,Zg v0),(11,Zg v1),(9,AV.val (PV.sl (Ty.int UL).sl v2)),(3,Zg v3),(0,AV.val (PV.sl (Ty.int UL).sl v4))]) (Zj [])
def ZaC (k:Nat) (L2:ZjD) (L1:ZjC):ZjC
 | (v0,v1,v2,v3,v4) => bif decide (v1 < v0) then bif decide (0 ≤ v1 ∧ v1 < UD v2.length) then bif decide (Jx.wrap (v3 + UD (UK (v2.getD v1.toNat []))) < (0:Int)) then none else L1 (v0,Jx.wrap (v1 + 1),v2,Jx.wrap (v3 + UD (UK (v2.getD v1.toNat []))),v4) else none else (ZoJ k (V4 none (0:Nat) (0:Nat),v3,())).bind fun y => L2 (UD v4.length,(0:Int),v4,y.1)
def ZjE (k:Nat):ZjC:=Ze (fun L1 => ZaC k (ZjF k) L1) k
noncomputable def ZtO (k:Nat) (n:Nat):=Qj (Zwa k) Tryz.f46 Zqh Ys [1,1,0,1,0] [] n ZNc (A:=Zv9)
def ZdT (k:Nat) (L1:ZjC):List (List Int) × Unit → Option (List Int × Unit)
 | (a0,()) => L1 (UD a0.length,(0:Int),a0,(0:Int),a0)
def ZoF (k:Nat):=ZdT k (ZjE k)
theorem ZC0 (k:Nat):∀ n,ZtP k n = Ze (fun L2 => ZaD k L2) n:=ZG
theorem ZCZ (k:Nat):∀ n,ZtO k n = Ze (fun L1 => ZaC k (ZjF k) L1) n:=ZG (fun n v => by rw [show (ZjF k) = ZtP k k from (ZC0 k k).symm]; kernel_rfl)
noncomputable def ZS1 (k:Nat):ZA k:=Zx 46 Tryz.f46 (Zwa k) Zqh Ys ZoF (A:=Zv9) (h:=fun x => by show _ = ZdT k (ZjE k) x; rw [show ZjE k = ZtO k k from (ZCZ k k).symm]; kernel_rfl)
abbrev ZjI:List Kd:=[]
abbrev ZNk:Kd:=.agg [.view (.int .u32),.view (.int .u32),.view (.int .u32),.view (.int .u32),.view (.int .u32),.view (.int .u32),.view (.int .u32),.view (.int .u32),.view (.int .u32),.view (.int .u32),.view (.int .u32),.view (.int .u32),.view (.int .u32),.view (.int .u32),.view (.int .u32),.view (.int .u32),.view (.int .u32),.view (.int .u32),.view (.int .u32),.view (.int .u32),.view (.int .u32),.view (.int .u32),.view (.int .u32),.view (.int .u32),.view (.int .u32),.view (.int .u32),.view (.int .u32),.view (.int .u32),.view (.int .u32),.view (.int .u32),.view (.int .u32),.view (.int .u32),.view (.int .u32),.view (.int .u32),.view (.int .u32),.view (.int .u32),.view (.int .u32),.view (.int .u32),.view (.int .u32),.view (.int .u32),.view (.int .u32),.view (.int .u32),.view (.int .u32),.view (.int .u32),.view (.int .u32),.view (.int .u32),.view (.int .u32),.view (.int .u32),.view (.int .u32),.view (.int .u32),.view (.int .u32),.view (.int .u32),.view (.int .u32),.view (.int .u32),.view (.int .u32),.view (.int .u32),.view (.int .u32),.view (.int .u32),.view (.int .u32),.view (.int .u32),.view (.int .u32),.view (.int .u32),.view (.int .u32),.view (.int .u32)]
def ZC5 (k:Nat):Unit → Option ((Int × Int × Int × Int × Int × Int × Int × Int × Int × Int × Int × Int × Int × Int × Int × Int × Int × Int × Int × Int × Int × Int × Int × Int × Int × Int × Int × Int × Int × Int × Int × Int × Int × Int × Int × Int × Int × Int × Int × Int × Int × Int × Int × Int × Int × Int × Int × Int × Int × Int × Int × Int × Int × Int × Int × Int × Int × Int × Int × Int × Int × Int × Int × Int × Unit) × Unit)
 | () => some ((3614090360,3905402710,606105819,3250441966,4118548399,1200080426,2821735955,4249261313,1770035416,2336552879,4294925233,2304563134,1804603682,4254626195,2792965006,1236535329,4129170786,3225465664,643717713,3921069994,3593408605,38016083,3634488961,3889429448,568446438,3275163606,4107603335,1163531501,2850285829,4243563512,1735328473,2368359562,4294588738,2272392833,1839030562,4259657740,2763975236,1272893353,4139469664,3200236656,681279174,3936430074,3572445317,76029189,3654602809,3873151461,530742520,3299628645,4096336452,1126891415,2878612391,4237533241,1700485571,2399980690,4293915773,2240044497,1873313359,4264355552,2734768916,1309151649,4149444226,3174756917,718787259,3951481745,()),())
def ZS8 (k:Nat):=ZC5 k
set_option maxHeartbeats 1000000 in
noncomputable def ZS9 (k:Nat):ZA k:=Zx 75 Tryz.f75 [] ZjI ZNk ZS8
abbrev ZNw:List Kd:=[.view (.int .u32),.view (.int .i64)]
abbrev ZNx:Kd:=.view (.int .u32)
def ZhW (k:Nat):Int × Int × Unit → Option (Int × Unit)
 | (a0,a1,()) => bif decide (0 ≤ UI.wrap ((32:Int) - UI.wrap (UD (UH 64 (UI.wrap a1) &&& UH 64 (31:Int)).toNat))) then some (UX.wrap (UD (UH 32 (UX.wrap (a0 * (2:Int) ^ min (UI.wrap (UD (UH 64 (UI.wrap a1) &&& UH 64 (31:Int)).toNat)).toNat 32)) ||| UH 32 (a0.fdiv ((2:Int) ^ min (UI.wrap ((32:Int) - UI.wrap (UD (UH 64 (UI.wrap a1) &&& UH 64 (31:Int)).toNat))).toNat 32))).toNat),()) else none
def Zd1 (k:Nat):=ZhW k
set_option maxHeartbeats 1000000 in
noncomputable def ZTr (k:Nat):ZA k:=Zx 136 Tryz.f136 [] ZNw ZNx Zd1
abbrev Zql:List Kd:=[.box [.view (.int .u32),.view (.int .u32),.view (.int .u32),.view (.int .u32)],.view (.sl (.int .u8)),.vp (.int .u32)]
abbrev XQ:Kd:=.tup []
noncomputable def Zwe (k:Nat):List (ZA k):=[ZTr k]
def Zwf:Nat → List Nat:=fun r => bif Ja r 999997 then [193,195] else []
def Zwc:Nat → Ann:=fun id => bif Ja id 9 then ⟨[76,10,11,12,9,2,6,8,0],[]⟩ else bif Ja id 2 then ⟨[16,1,6,0,2],[]⟩ else ⟨[],[]⟩
abbrev ZzT:=Int × Int × Int × Int × Int × List Int × Int × Int × Int × Int × List Int × List Int
abbrev ZjK:=ZzT → Option (Unit × (Int × Int × Int × Int × Unit) × Unit)
abbrev ZzS:=Int × List Int × List Int × Int × Int × Int × Int × List Int
abbrev ZjJ:=ZzS → Option (Unit × (Int × Int × Int × Int × Unit) × Unit)
def ZNm:ZzT → St
 | (v0,v1,v2,v3,v4,v5,v6,v7,v8,v9,v10,v11) => St.mk (Zk [(76,Zg v0),(10,AV.val (PV.v (Jv UX v1))),(11,AV.val (PV.v (Jv UX v2))),(12,AV.val (PV.v (Jv UX v3))),(9,AV.val (PV.v (Jv UX v4))),(2,AV.vp (Ty.int UX) v5),(6,AV.el 8192 (Ty.int UX) 0 0),(8,AV.el 8193 (Ty.int Jx) 0 0),(0,AV.bx 0 0)]) (Zj [(0,QG [AV.val (PV.v (Jv UX v6)),AV.val (PV.v (Jv UX v7)),AV.val (PV.v (Jv UX v8)),AV.val (PV.v (Jv UX v9))]),(8192,RS.live (Res.arr (Ty.int UX) v10 false)),(8193,rsA v11 true)])
def YW (k:Nat) (L2:ZjK):ZjK
 | (v0,v1,v2,v3,v4,v5,v6,v7,v8,v9,v10,v11) => bif decide (v0 < 64) then bif Jx.wrap (v0.tdiv (16:Int)) == (0:Int) then bif decide (0 ≤ v0 ∧ v0 < 64 ∧ v0.toNat < v5.length) then bif decide (0 ≤ v0.tmod (16:Int) ∧ v0.tmod (16:Int) < 16) then bif decide ((v0.tmod (16:Int)).toNat + (0:Nat) < v10.length) then bif decide (0 ≤ Jx.wrap (v0.tdiv (16:Int)) ∧ Jx.wrap (v0.tdiv (16:Int)) < (4:Int)) then bif decide (0 ≤ v0.tmod (4:Int) ∧ v0.tmod (4:Int) < 4) then bif decide ((v0.tmod (4:Int)).toNat + ((Jx.wrap (v0.tdiv (16:Int))).toNat * (4:Nat) + (0:Nat)) < v11.length) then (Zd1 k (UX.wrap (UX.wrap (UX.wrap (v4 + UX.wrap (UD (UH 32 (UX.wrap (UD (UH 32 v1 &&& UH 32 v2).toNat)) ||| UH 32 (UX.wrap (UD (UH 32 (UX.wrap (UD (UH 32 (4294967295:Int) ^^^ UH 32 v1).toNat)) &&& UH 32 v3).toNat))).toNat)) + v5.getD v0.toNat 0) + v10.getD ((v0.tmod (16:Int)).toNat + (0:Nat)) 0),v11.getD ((v0.tmod (4:Int)).toNat + ((Jx.wrap (v0.tdiv (16:Int))).toNat * (4:Nat) + (0:Nat))) 0,())).bind fun y => L2 (Jx.wrap (v0 + 1),UX.wrap (v1 + y.1),v1,v2,v3,v5,v6,v7,v8,v9,v10,v11) else none else none else none else none else none else none else bif Jx.wrap (v0.tdiv (16:Int)) == (1:Int) then bif decide (0 ≤ v0 ∧ v0 < 64 ∧ v0.toNat < v5.length) then bif decide ((0:Int) ≤ (Jx.wrap (Jx.wrap ((5:Int) * v0) + 1)).tmod (16:Int) ∧ (Jx.wrap (Jx.wrap ((5:Int) * v0) + 1)).tmod (16:Int) < 16) then bif decide (((Jx.wrap (Jx.wrap ((5:Int) * v0) + 1)).tmod (16:Int)).toNat + (0:Nat) < v10.length) then bif decide (0 ≤ Jx.wrap (v0.tdiv (16:Int)) ∧ Jx.wrap (v0.tdiv (16:Int)) < (4:Int)) then bif decide (0 ≤ v0.tmod (4:Int) ∧ v0.tmod (4:Int) < 4) then bif decide ((v0.tmod (4:Int)).toNat + ((Jx.wrap (v0.tdiv (16:Int))).toNat * (4:Nat) + (0:Nat)) < v11.length) then (Zd1 k (UX.wrap (UX.wrap (UX.wrap (v4 + UX.wrap (UD (UH 32 (UX.wrap (UD (UH 32 v3 &&& UH 32 v1).toNat)) ||| UH 32 (UX.wrap (UD (UH 32 (UX.wrap (UD (UH 32 (4294967295:Int) ^^^ UH 32 v3).toNat)) &&& UH 32 v2).toNat))).toNat)) + v5.getD v0.toNat 0) + v10.getD (((Jx.wrap (Jx.wrap ((5:Int) * v0) + 1)).tmod (16:Int)).toNat + (0:Nat)) 0),v11.getD ((v0.tmod (4:Int)).toNat + ((Jx.wrap (v0.tdiv (16:Int))).toNat * (4:Nat) + (0:Nat))) 0,())).bind fun y => L2 (Jx.wrap (v0 + 1),UX.wrap (v1 + y.1),v1,v2,v3,v5,v6,v7,v8,v9,v10,v11) else none else none else none else none else none else none else bif Jx.wrap (v0.tdiv (16:Int)) == (2:Int) then bif decide (0 ≤ v0 ∧ v0 < 64 ∧ v0.toNat < v5.length) then bif decide ((0:Int) ≤ (Jx.wrap (Jx.wrap ((3:Int) * v0) + 5)).tmod (16:Int) ∧ (Jx.wrap (Jx.wrap ((3:Int) * v0) + 5)).tmod (16:Int) < 16) then bif decide (((Jx.wrap (Jx.wrap ((3:Int) * v0) + 5)).tmod (16:Int)).toNat + (0:Nat) < v10.length) then bif decide (0 ≤ Jx.wrap (v0.tdiv (16:Int)) ∧ Jx.wrap (v0.tdiv (16:Int)) < (4:Int)) then bif decide (0 ≤ v0.tmod (4:Int) ∧ v0.tmod (4:Int) < 4) then bif decide ((v0.tmod (4:Int)).toNat + ((Jx.wrap (v0.tdiv (16:Int))).toNat * (4:Nat) + (0:Nat)) < v11.length) then (Zd1 k (UX.wrap (UX.wrap (UX.wrap (v4 + UX.wrap (UD (UH 32 (UX.wrap (UD (UH 32 v1 ^^^ UH 32 v2).toNat)) ^^^ UH 32 v3).toNat)) + v5.getD v0.toNat 0) + v10.getD (((Jx.wrap (Jx.wrap ((3:Int) * v0) + 5)).tmod (16:Int)).toNat + (0:Nat)) 0),v11.getD ((v0.tmod (4:Int)).toNat + ((Jx.wrap (v0.tdiv (16:Int))).toNat * (4:Nat) + (0:Nat))) 0,())).bind fun y => L2 (Jx.wrap (v0 + 1),UX.wrap (v1 + y.1),v1,v2,v3,v5,v6,v7,v8,v9,v10,v11) else none else none else none else none else none else none else bif decide (0 ≤ v0 ∧ v0 < 64 ∧ v0.toNat < v5.length) then bif decide ((0:Int) ≤ (Jx.wrap ((7:Int) * v0)).tmod (16:Int) ∧ (Jx.wrap ((7:Int) * v0)).tmod (16:Int) < 16) then bif decide (((Jx.wrap ((7:Int) * v0)).tmod (16:Int)).toNat + (0:Nat) < v10.length) then bif decide (0 ≤ Jx.wrap (v0.tdiv (16:Int)) ∧ Jx.wrap (v0.tdiv (16:Int)) < (4:Int)) then bif decide (0 ≤ v0.tmod (4:Int) ∧ v0.tmod (4:Int) < 4) then bif decide ((v0.tmod (4:Int)).toNat + ((Jx.wrap (v0.tdiv (16:Int))).toNat * (4:Nat) + (0:Nat)) < v11.length) then (Zd1 k (UX.wrap (UX.wrap (UX.wrap (v4 + UX.wrap (UD (UH 32 v2 ^^^ UH 32 (UX.wrap (UD (UH 32 v1 ||| UH 32 (UX.wrap (UD (UH 32 (4294967295:Int) ^^^ UH 32 v3).toNat))).toNat))).toNat)) + v5.getD v0.toNat 0) + v10.getD (((Jx.wrap ((7:Int) * v0)).tmod (16:Int)).toNat + (0:Nat)) 0),v11.getD ((v0.tmod (4:Int)).toNat + ((Jx.wrap (v0.tdiv (16:Int))).toNat * (4:Nat) + (0:Nat))) 0,())).bind fun y => L2 (Jx.wrap (v0 + 1),UX.wrap (v1 + y.1),v1,v2,v3,v5,v6,v7,v8,v9,v10,v11) else none else none else none else none else none else none else some ((),(UX.wrap (v6 + v4),UX.wrap (v7 + v1),UX.wrap (v8 + v2),UX.wrap (v9 + v3),()),())
def ZjL (k:Nat):ZjK:=Ze (fun L2 => YW k L2) k
noncomputable def ZtT (k:Nat) (n:Nat):=Qj (Zwe k) Tryz.f76 Zql XQ [1,1,1,1,0,1,0] [] n ZNm (A:=Zwc) (live:=Zwf) (a:=[AV.bx (nat_lit 0) (nat_lit 0)]) (b:=[[]]) (q:=[0])
def ZNl:ZzS → St
 | (v0,v1,v2,v3,v4,v5,v6,v7) => St.mk (Zk [(16,Zg v0),(1,AV.val (PV.sl (Ty.int UL) v1)),(6,AV.el 8192 (Ty.int UX) 0 0),(0,AV.bx 0 0),(2,AV.vp (Ty.int UX) v2)]) (Zj [(0,QG [AV.val (PV.v (Jv UX v3)),AV.val (PV.v (Jv UX v4)),AV.val (PV.v (Jv UX v5)),AV.val (PV.v (Jv UX v6))]),(8192,RS.live (Res.arr (Ty.int UX) v7 false))])
def ZaH (k:Nat) (L2:ZjK) (L1:ZjJ):ZjJ
 | (v0,v1,v2,v3,v4,v5,v6,v7) => bif decide (v0 < 16) then bif decide (0 ≤ Jx.wrap ((4:Int) * v0) ∧ Jx.wrap ((4:Int) * v0) < UD v1.length) then bif decide (0 ≤ Jx.wrap (Jx.wrap ((4:Int) * v0) + 1) ∧ Jx.wrap (Jx.wrap ((4:Int) * v0) + 1) < UD v1.length) then bif decide (0 ≤ Jx.wrap (Jx.wrap ((4:Int) * v0) + 2) ∧ Jx.wrap (Jx.wrap ((4:Int) * v0) + 2) < UD v1.length) then bif decide (0 ≤ Jx.wrap (Jx.wrap ((4:Int) * v0) + 3) ∧ Jx.wrap (Jx.wrap ((4:Int) * v0) + 3) < UD v1.length) then bif decide (0 ≤ v0 ∧ v0 < 16) then bif decide (v0.toNat + (0:Nat) < v7.length) then L1 (Jx.wrap (v0 + 1),v1,v2,v3,v4,v5,v6,v7.set (v0.toNat + (0:Nat)) (UX.wrap (UD (UH 32 (UX.wrap (UD (UH 32 (UX.wrap (UD (UH 32 (UX.wrap (v1.getD (Jx.wrap ((4:Int) * v0)).toNat 0)) ||| UH 32 (UX.wrap (UX.wrap (v1.getD (Jx.wrap (Jx.wrap ((4:Int) * v0) + 1)).toNat 0) * (256:Int)))).toNat)) ||| UH 32 (UX.wrap (UX.wrap (v1.getD (Jx.wrap (Jx.wrap ((4:Int) * v0) + 2)).toNat 0) * (65536:Int)))).toNat)) ||| UH 32 (UX.wrap (UX.wrap (v1.getD (Jx.wrap (Jx.wrap ((4:Int) * v0) + 3)).toNat 0) * (16777216:Int)))).toNat))) else none else none else none else none else none else none else L2 (0,v4,v5,v6,v3,v2,v3,v4,v5,v6,v7,[(7:Int),(12:Int),(17:Int),(22:Int),(5:Int),(9:Int),(14:Int),(20:Int),(4:Int),(11:Int),(16:Int),(23:Int),(6:Int),(10:Int),(15:Int),(21:Int)])
def Zqk (k:Nat):ZjJ:=Ze (fun L1 => ZaH k (ZjL k) L1) k
noncomputable def ZtS (k:Nat) (n:Nat):=Qj (Zwe k) Tryz.f76 Zql XQ [1,0,1,0] [] n ZNl (A:=Zwc) (live:=Zwf) (a:=[AV.bx (nat_lit 0) (nat_lit 0)]) (b:=[[]]) (q:=[0])
def Zqm (k:Nat) (L1:ZjJ):(Int × Int × Int × Int × Unit) × List Int × List Int × Unit → Option (Unit × (Int × Int × Int × Int × Unit) × Unit)
 | ((a0,a1,a2,a3,()),a4,a5,()) => L1 (0,a4,a5,a0,a1,a2,a3,[(0:Int),(0:Int),(0:Int),(0:Int),(0:Int),(0:Int),(0:Int),(0:Int),(0:Int),(0:Int),(0:Int),(0:Int),(0:Int),(0:Int),(0:Int),(0:Int)])
def Zwd (k:Nat):=Zqm k (Zqk k)
theorem ZC7 (k:Nat):∀ n,ZtT k n = Ze (fun L2 => YW k L2) n:=ZG
theorem ZC6 (k:Nat):∀ n,ZtS k n = Ze (fun L1 => ZaH k (ZjL k) L1) n:=ZG (fun n v => by rw [show (ZjL k) = ZtT k k from (ZC7 k k).symm]; kernel_rfl)
noncomputable def ZTa (k:Nat):ZA k:=Zx 76 Tryz.f76 (Zwe k) Zql XQ Zwd (A:=Zwc) (live:=Zwf) (h:=fun x => by show _ = Zqm k (Zqk k) x; rw [show Zqk k = ZtS k k from (ZC6 k k).symm]; kernel_rfl)
abbrev ZcE:List Kd:=[.view (.sl (.int .u8))]
noncomputable def Zjn (k:Nat):List (ZA k):=[ZO4 k,ZS9 k,ZTa k]
def Zjo:Nat → List Nat:=fun r => bif Ja r 999997 then [128] else []
def Zji:Nat → Ann:=fun id => bif Ja id 15 then ⟨[48,47,8],[.slot 8 ((Ty.int UL))]⟩ else bif Ja id 10 then ⟨[3,7,6],[.see 3]⟩ else bif Ja id 6 then ⟨[5,3,4],[]⟩ else bif Ja id 2 then ⟨[3,0],[]⟩ else ⟨[],[]⟩
abbrev Zzy:=Int × Int × Int × Int × Int × List Int
abbrev Zjl:=Zzy → Option (ByteArray × Unit)
abbrev Zzx:=List Int × List Int × Int × Int × Int × Int
abbrev Zjk:=Zzx → Option (ByteArray × Unit)
abbrev Zp9:=Int × Int × List Int
abbrev Kz:=Zp9 → Option (ByteArray × Unit)
abbrev Zzw:=List Int × List Int
abbrev Zjj:=Zzw → Option (ByteArray × Unit)
def ZMZ:Zzy → St
 | (v0,v1,v2,v3,v4,v5) => St.mk (Zk [(48,Zg v0),(47,AV.agg [AV.val (PV.v (Jv UX v1)),AV.val (PV.v (Jv UX v2)),AV.val (PV.v (Jv UX v3)),AV.val (PV.v (Jv UX v4))]),(8,AV.own 8192)]) (Zj [(8192,RS.live (Res.arr (Ty.int UL) v5 false))])
def Zav (k:Nat) (L4:Zjl):Zjl
 | (v0,v1,v2,v3,v4,v5) => bif decide (v0 < 4) then bif decide (0 ≤ v0 ∧ v0 < 4) then bif decide (v5.length + [UL.wrap ([v1,v2,v3,v4].getD v0.toNat (0:Int)),UL.wrap (([v1,v2,v3,v4].getD v0.toNat (0:Int)).fdiv (256:Int)),UL.wrap (([v1,v2,v3,v4].getD v0.toNat (0:Int)).fdiv (65536:Int)),UL.wrap (([v1,v2,v3,v4].getD v0.toNat (0:Int)).fdiv (16777216:Int))].length < 2147483648) then L4 (Jx.wrap (v0 + 1),v1,v2,v3,v4,v5 ++ [UL.wrap ([v1,v2,v3,v4].getD v0.toNat (0:Int)),UL.wrap (([v1,v2,v3,v4].getD v0.toNat (0:Int)).fdiv (256:Int)),UL.wrap (([v1,v2,v3,v4].getD v0.toNat (0:Int)).fdiv (65536:Int)),UL.wrap (([v1,v2,v3,v4].getD v0.toNat (0:Int)).fdiv (16777216:Int))]) else none else none else some (UJ (UT (fun n => UU n.toNat) v5).toArray,())
def ZcD (k:Nat):Zjl:=Ze (fun L4 => Zav k L4) k
noncomputable def ZtE (k:Nat) (n:Nat):=Qj (Zjn k) Tryz.f35 ZcE Qc [1,1,1,1,1,1,1,1,0,1,0] [] n ZMZ (A:=Zji) (live:=Zjo)
def ZMY:Zzx → St
 | (v0,v1,v2,v3,v4,v5) => St.mk (Zk [(3,AV.val (PV.sl (Ty.int UL) v0)),(7,AV.el 8192 (Ty.int UX) 0 0),(6,AV.bx 8193 0)]) (Zj [(8192,RS.live (Res.arr (Ty.int UX) v1 true)),(8193,QG [AV.val (PV.v (Jv UX v2)),AV.val (PV.v (Jv UX v3)),AV.val (PV.v (Jv UX v4)),AV.val (PV.v (Jv UX v5))])])
def Zau (k:Nat) (L4:Zjl) (L3:Zjk):Zjk
 | (v0,v1,v2,v3,v4,v5) => bif decide ((0:Int) < UD v0.length) then bif decide ((0:Int) ≤ 0 ∧ (0:Int) ≤ 64 ∧ (64:Int) ≤ UD v0.length) then bif decide ((0:Nat) < v1.length) then (Zwd k ((v2,v3,v4,v5,()),UN 0 (UO 64 v0),v1,())).bind fun y => bif decide ((0:Int) ≤ 64 ∧ (64:Int) ≤ UD v0.length ∧ UD v0.length ≤ UD v0.length) then L3 (UN 64 (UO (UD v0.length).toNat v0),v1,y.2.1.1,y.2.1.2.1,y.2.1.2.2.1,y.2.1.2.2.2.1) else none else none else none else L4 (0,v2,v3,v4,v5,[])
def Zjm (k:Nat):Zjk:=Ze (fun L3 => Zau k (ZcD k) L3) k
noncomputable def ZtD (k:Nat) (n:Nat):=Qj (Zjn k) Tryz.f35 ZcE Qc [1,1,1,1,1,1,0,0] [] n ZMY (A:=Zji) (live:=Zjo)
def ZMX:Zp9 → St
 | (v0,v1,v2) => St.mk (Zk [(5,Zg v0),(3,AV.own 8192),(4,AV.val (PV.v (Jv UI v1)))]) (Zj [(8192,RS.live (Res.arr (Ty.int UL) v2 false))])
def Zat (k:Nat) (L3:Zjk) (L2:Kz):Kz
 | (v0,v1,v2) => bif decide (v0 < 64) then bif decide (0 ≤ v0) then bif decide (v2.length + [UL.wrap (v1.fdiv ((2:Int) ^ min v0.toNat 64))].length < 2147483648) then L2 (Jx.wrap (v0 + 8),v1,v2 ++ [UL.wrap (v1.fdiv ((2:Int) ^ min v0.toNat 64))]) else none else none else L3 (v2,[3614090360,3905402710,606105819,3250441966,4118548399,1200080426,2821735955,4249261313,1770035416,2336552879,4294925233,2304563134,1804603682,4254626195,2792965006,1236535329,4129170786,3225465664,643717713,3921069994,3593408605,38016083,3634488961,3889429448,568446438,3275163606,4107603335,1163531501,2850285829,4243563512,1735328473,2368359562,4294588738,2272392833,1839030562,4259657740,2763975236,1272893353,4139469664,3200236656,681279174,3936430074,3572445317,76029189,3654602809,3873151461,530742520,3299628645,4096336452,1126891415,2878612391,4237533241,1700485571,2399980690,4293915773,2240044497,1873313359,4264355552,2734768916,1309151649,4149444226,3174756917,718787259,3951481745],(1732584193:Int),(4023233417:Int),(2562383102:Int),(271733878:Int))
def Zp8 (k:Nat):Kz:=Ze (fun L2 => Zat k (Zjm k) L2) k
noncomputable def ZtC (k:Nat) (n:Nat):=Qj (Zjn k) Tryz.f35 ZcE Qc [1,1,1,1,0,1,0] [] n ZMX (A:=Zji) (live:=Zjo)
def ZMW:Zzw → St
 | (v0,v1) => St.mk (Zk [(3,AV.own 8192),(0,AV.val (PV.sl (Ty.int UL) v0))]) (Zj [(8192,RS.live (Res.arr (Ty.int UL) v1 false))])
def Xq (k:Nat) (L2:Kz) (L1:Zjj):Zjj
 | (v0,v1) => bif (UD v1.length).tmod (64:Int) != 56 then bif decide (v1.length + (1:Nat) < (2147483648:Nat)) then L1 (v0,v1 ++ [(0:Int)]) else none else L2 (0,UI.wrap (UI.wrap (UD v0.length) * (8:Int)),v1)
def Zp7 (k:Nat):Zjj:=Ze (fun L1 => Xq k (Zp8 k) L1) k
noncomputable def ZtB (k:Nat) (n:Nat):=Qj (Zjn k) Tryz.f35 ZcE Qc [1,1,0,0] [] n ZMW (A:=Zji) (live:=Zjo)
def ZdQ (k:Nat) (L1:Zjj):List Int × Unit → Option (ByteArray × Unit)
 | (a0,()) => (Zt4 k (a0,())).bind fun y => bif decide (UK y.1 + (1:Nat) < 2147483648) then L1 (a0,y.1 ++ [(128:Int)]) else none
def ZoB (k:Nat):=ZdQ k (Zp7 k)
theorem ZCH (k:Nat):∀ n,ZtE k n = Ze (fun L4 => Zav k L4) n:=ZG
theorem ZCG (k:Nat):∀ n,ZtD k n = Ze (fun L3 => Zau k (ZcD k) L3) n:=ZG (fun n v => by rw [show (ZcD k) = ZtE k k from (ZCH k k).symm]; kernel_rfl)
theorem ZCF (k:Nat):∀ n,ZtC k n = Ze (fun L2 => Zat k (Zjm k) L2) n:=ZG (fun n v => by rw [show (Zjm k) = ZtD k k from (ZCG k k).symm]; kernel_rfl)
theorem ZCE (k:Nat):∀ n,ZtB k n = Ze (fun L1 => Xq k (Zp8 k) L1) n:=ZG (fun n v => by rw [show (Zp8 k) = ZtC k k from (ZCF k k).symm]; kernel_rfl)
noncomputable def ZSN (k:Nat):ZA k:=Zx 35 Tryz.f35 (Zjn k) ZcE Qc ZoB (A:=Zji) (live:=Zjo) (h:=fun x => by show _ = ZdQ k (Zp7 k) x; rw [show Zp7 k = ZtB k k from (ZCE k k).symm]; kernel_rfl)
abbrev ZcB:Kd:=.tup [.view .str,.view (.int .i64)]
noncomputable def Zoq (k:Nat):List (ZA k):=[ZvU k,ZoA k,ZSN k]
def Zop:Nat → Ann:=fun id => bif Ja id 12 then ⟨[9,1,5,8,6,23,22,21,17,16],[.slot 5 ((Ty.int UL))]⟩ else bif Ja id 9 then ⟨[22,23,21,1,5,6,17,16],[.slot 5 ((Ty.int UL))]⟩ else bif Ja id 6 then ⟨[16,17,1,5],[.slot 5 ((Ty.int UL))]⟩ else ⟨[],[]⟩
abbrev Zzi:=Int × List Int × Int × Int × Int × List (List Int) × Int × Int × Int × Int × Int × List ByteArray × List (List Int) × List Int
abbrev Zi3:=Zzi → Option ((ByteArray × Int × Unit) × Unit)
abbrev Zzh:=Int × Int × List (List Int) × Int × Int × Int × Int × Int × Int × List ByteArray × List (List Int) × List Int
abbrev ZcA:=Zzh → Option ((ByteArray × Int × Unit) × Unit)
abbrev Zi5:=Int × Int × Int × Int × Int × List ByteArray × List (List Int) × List Int
abbrev Kw:=Zi5 → Option ((ByteArray × Int × Unit) × Unit)
def ZMH:Zzi → St
 | (v0,v1,v2,v3,v4,v5,v6,v7,v8,v9,v10,v11,v12,v13) => St.mk (Zk [(9,Zg v0),(1,AV.bx 8192 0),(5,AV.own 8193),(8,We v1),(6,Zg v2),(23,Zg v3),(22,Zg v4),(21,AV.val (PV.sl (Ty.int Jx).sl v5)),(17,Zg v6),(16,Zg v7)]) (Zj [(8192,QG [Zg v8,Zg v9,Zg v10,AV.val (PV.sl Ty.str v11),AV.val (PV.sl (Ty.int Jx).sl v12)]),(8193,RS.live (Res.arr (Ty.int UL) v13 false))])
def Zak (k:Nat) (L1:Kw) (L2:ZcA) (L3:Zi3):Zi3
 | (v0,v1,v2,v3,v4,v5,v6,v7,v8,v9,v10,v11,v12,v13) => bif decide (v0 < v9) then bif decide (0 ≤ v2 ∧ v2 < UD v1.length) then bif decide (0 ≤ v0) then bif decide (v13.length + [UL.wrap (UP (v1.getD v2.toNat 0) ((2:Int) ^ min v0.toNat 64))].length < 2147483648) then L3 (Jx.wrap (v0 + 8),v1,v2,v3,v4,v5,v6,v7,v8,v9,v10,v11,v12,v13 ++ [UL.wrap (UP (v1.getD v2.toNat 0) ((2:Int) ^ min v0.toNat 64))]) else none else none else none else L2 (v4,Jx.wrap (v3 + 1),v5,v2,v6,v7,v8,v9,v10,v11,v12,v13)
def Zi4 (k:Nat) (L1:Kw) (L2:ZcA):Zi3:=Ze (fun L3 => Zak k L1 L2 L3) k
noncomputable def Zts (k:Nat) (n1 n2:Nat) (n:Nat):=Qj (Zoq k) Tryz.f14 Qn ZcB [1,1,1,0,1,0,0,1,1,0,0,1,1,0,0,1,1,0,0,1,1,0] [n1,n2] n ZMH (A:=Zop)
def ZMG:Zzh → St
 | (v0,v1,v2,v3,v4,v5,v6,v7,v8,v9,v10,v11) => St.mk (Zk [(22,Zg v0),(23,Zg v1),(21,AV.val (PV.sl (Ty.int Jx).sl v2)),(1,AV.bx 8192 0),(5,AV.own 8193),(6,Zg v3),(17,Zg v4),(16,Zg v5)]) (Zj [(8192,QG [Zg v6,Zg v7,Zg v8,AV.val (PV.sl Ty.str v9),AV.val (PV.sl (Ty.int Jx).sl v10)]),(8193,RS.live (Res.arr (Ty.int UL) v11 false))])
def Zaj (k:Nat) (L3:Zi3) (L1:Kw) (L2:ZcA):ZcA
 | (v0,v1,v2,v3,v4,v5,v6,v7,v8,v9,v10,v11) => bif decide (v1 < v0) then bif decide (0 ≤ v1 ∧ v1 < UD v2.length) then L3 (0,v2.getD v1.toNat [],v3,v1,v0,v2,v4,v5,v6,v7,v8,v9,v10,v11) else none else L1 (v5,Jx.wrap (v4 + 1),v6,v7,v8,v9,v10,v11)
def Ze1 (k:Nat) (L1:Kw):ZcA:=Ze (fun L2 => Zaj k (Zi4 k L1 L2) L1 L2) k
noncomputable def ZgU (k:Nat) (n1:Nat) (n:Nat):=Qj (Zoq k) Tryz.f14 Qn ZcB [1,1,1,0,1,0,0,1,1,0,0,1,1,0] [n1] n ZMG (A:=Zop)
def ZMF:Zi5 → St
 | (v0,v1,v2,v3,v4,v5,v6,v7) => St.mk (Zk [(16,Zg v0),(17,Zg v1),(1,AV.bx 8192 0),(5,AV.own 8193)]) (Zj [(8192,QG [Zg v2,Zg v3,Zg v4,AV.val (PV.sl Ty.str v5),AV.val (PV.sl (Ty.int Jx).sl v6)]),(8193,RS.live (Res.arr (Ty.int UL) v7 false))])
def Zai (k:Nat) (L2:ZcA) (L1:Kw):Kw
 | (v0,v1,v2,v3,v4,v5,v6,v7) => bif decide (v1 < v0) then L2 (UD v6.length,(0:Int),v6,v1,v1,v0,v2,v3,v4,v5,v6,v7) else (ZoB k (v7,())).bind fun y => some ((y.1,0,()),())
def ZpZ (k:Nat):Kw:=Ze (fun L1 => Zai k (Ze1 k L1) L1) k
noncomputable def YO (k:Nat) (n:Nat):=Qj (Zoq k) Tryz.f14 Qn ZcB [1,1,1,0,1,0] [] n ZMF (A:=Zop)
def ZdE (k:Nat) (L1:Kw):((Int × Int × Int × Unit) × List ByteArray × List (List Int) × Unit) × Unit → Option ((ByteArray × Int × Unit) × Unit)
 | (((a0,a1,a2,()),a3,a4,()),()) => (Zot k (((a0,a1,a2,()),a3,a4,()),())).bind fun y => bif y.1 != 0 then some ((UJ #[],y.1,()),()) else (Zbl k (((a0,a1,a2,()),a3,a4,()),())).bind fun y => L1 (y.1,(0:Int),a0,a1,a2,a3,a4,[])
def Zi2 (k:Nat):=ZdE k (ZpZ k)
theorem ZCm (k:Nat) (n1 n2:Nat):∀ n,Zts k n1 n2 n = Ze (fun L3 => Zak k (YO k n1) (ZgU k n1 n2) L3) n:=ZG
theorem ZCl (k:Nat) (n1:Nat):∀ n,ZgU k n1 n = Ze (fun L2 => Zaj k (Zi4 k (YO k n1) L2) (YO k n1) L2) n:=ZG (fun n v => by rw [show (Zi4 k (YO k n1) (ZgU k n1 n)) = Zts k n1 n k from (ZCm k n1 n k).symm]; kernel_rfl)
theorem ZCk (k:Nat):∀ n,YO k n = Ze (fun L1 => Zai k (Ze1 k L1) L1) n:=ZG (fun n v => by rw [show (Ze1 k (YO k n)) = ZgU k n k from (ZCl k n k).symm]; kernel_rfl)
noncomputable def ZSw (k:Nat):ZA k:=Zx 14 Tryz.f14 (Zoq k) Qn ZcB Zi2 (A:=Zop) (h:=fun x => by show _ = ZdE k (ZpZ k) x; rw [show ZpZ k = YO k k from (ZCk k k).symm]; kernel_rfl)
abbrev ZzY:List Kd:=[.box [.own (.int .u8) false,.view (.int .i64)],.view .str]
noncomputable def ZFD (k:Nat):List (ZA k):=[ZqE k]
def ZFC:Nat → Ann:=fun id => bif Ja id 1 then ⟨[6,7,0,1],[]⟩ else ⟨[],[]⟩
abbrev ZzX:=Int × Int × ByteArray × Int × List Int
abbrev ZjO:=ZzX → Option (Unit × (List Int × Int × Unit) × Unit)
def ZNp:ZzX → St
 | (v0,v1,v2,v3,v4) => St.mk (Zk [(6,Zg v0),(7,Zg v1),(0,AV.bx 0 0),(1,AV.val (PV.v (UR v2)))]) (Zj [(0,QG [AV.own 8192,Zg v3]),(8192,RS.live (Res.arr (Ty.int UL) v4 false))])
def ZaJ (k:Nat) (L1:ZjO):ZjO
 | (v0,v1,v2,v3,v4) => bif decide (v1 < v0) then bif decide (0 ≤ v1 ∧ v1 < UD v2.size) then (ZP k ((v4,v3,()),Jx.wrap (UD (v2.data.toList.getD v1.toNat 0).toNat),8,())).bind fun y => L1 (v0,Jx.wrap (v1 + 1),v2,y.2.1.2.1,y.2.1.1) else none else some ((),(v4,v3,()),())
def Zqp (k:Nat):ZjO:=Ze (fun L1 => ZaJ k L1) k
noncomputable def ZtV (k:Nat) (n:Nat):=Qj (ZFD k) Tryz.f102 ZzY XQ [1,0] [] n ZNp (A:=ZFC) (a:=[AV.bx (nat_lit 0) (nat_lit 0)]) (b:=[[]]) (q:=[0])
def Zqq (k:Nat) (L1:ZjO):(List Int × Int × Unit) × ByteArray × Unit → Option (Unit × (List Int × Int × Unit) × Unit)
 | ((a0,a1,()),a2,()) => L1 (UD a2.size,(0:Int),a2,a1,a0)
def Zbp (k:Nat):=Zqq k (Zqp k)
theorem ZDg (k:Nat):∀ n,ZtV k n = Ze (fun L1 => ZaJ k L1) n:=ZG
noncomputable def ZTh (k:Nat):ZA k:=Zx 102 Tryz.f102 (ZFD k) ZzY XQ Zbp (A:=ZFC) (h:=fun x => by show _ = Zqq k (Zqp k) x; rw [show Zqp k = ZtV k k from (ZDg k k).symm]; kernel_rfl)
abbrev ZNq:List Kd:=[.box [.own (.int .u8) false,.view (.int .i64)],.view (.int .i64),.view (.int .i64),.view (.int .i64)]
def ZhT (k:Nat):(List Int × Int × Unit) × Int × Int × Int × Unit → Option (Unit × (List Int × Int × Unit) × Unit)
 | ((a0,a1,()),a2,a3,a4,()) => (ZP k ((a0,a1,()),a2,1,())).bind fun y => (ZP k ((y.2.1.1,y.2.1.2.1,()),a3,7,())).bind fun y => (ZP k ((y.2.1.1,y.2.1.2.1,()),a4,24,())).bind fun y => some ((),(y.2.1.1,y.2.1.2.1,()),())
def ZdX (k:Nat):=ZhT k
noncomputable def ZTi (k:Nat):ZA k:=Zx 103 Tryz.f103 [ZqE k] ZNq XQ ZdX
abbrev ZjQ:List Kd:=[.view (.sl (.int .i64))]
noncomputable def ZFE (k:Nat):List (ZA k):=[]
def ZoK:Nat → Ann:=fun id => bif Ja id 5 then ⟨[4,0,3],[]⟩ else ⟨[],[]⟩
abbrev Zqr:=Int × List Int × Int
abbrev KD:=Zqr → Option (Int × Unit)
def ZNr:Zqr → St
 | (v0,v1,v2) => St.mk (Zk [(4,Zg v0),(0,We v1),(3,Zg v2)]) (Zj [])
def ZaK (k:Nat) (L1:KD):KD
 | (v0,v1,v2) => bif decide (v0 < UD v1.length) then bif decide (0 ≤ v0 ∧ v0 < UD v1.length) then L1 (Jx.wrap (v0 + 1),v1,if v1.getD v0.toNat 0 < v2 then v1.getD v0.toNat 0 else v2) else none else some (v2,())
def ZjP (k:Nat):KD:=Ze (fun L1 => ZaK k L1) k
noncomputable def ZtW (k:Nat) (n:Nat):=Qj (ZFE k) Tryz.f104 ZjQ Z7 [1,1,1,0,1,0] [] n ZNr (A:=ZoK)
def ZdY (k:Nat) (L1:KD):List Int × Unit → Option (Int × Unit)
 | (a0,()) => bif decide (UD a0.length < (1:Int)) then none else bif decide ((0:Int) ≤ 0 ∧ (0:Int) < UD a0.length) then L1 (1,a0,a0.getD 0 0) else none
def Zwi (k:Nat):=ZdY k (ZjP k)
theorem ZDh (k:Nat):∀ n,ZtW k n = Ze (fun L1 => ZaK k L1) n:=ZG
noncomputable def ZTj (k:Nat):ZA k:=Zx 104 Tryz.f104 (ZFE k) ZjQ Z7 Zwi (A:=ZoK) (h:=fun x => by show _ = ZdY k (ZjP k) x; rw [show ZjP k = ZtW k k from (ZDh k k).symm]; kernel_rfl)
noncomputable def ZFF (k:Nat):List (ZA k):=[]
def ZNs:Zqr → St
 | (v0,v1,v2) => St.mk (Zk [(4,Zg v0),(0,We v1),(3,Zg v2)]) (Zj [])
def ZaL (k:Nat) (L1:KD):KD
 | (v0,v1,v2) => bif decide (v0 < UD v1.length) then bif decide (0 ≤ v0 ∧ v0 < UD v1.length) then L1 (Jx.wrap (v0 + 1),v1,if v2 < v1.getD v0.toNat 0 then v1.getD v0.toNat 0 else v2) else none else some (v2,())
def ZjR (k:Nat):KD:=Ze (fun L1 => ZaL k L1) k
noncomputable def ZtX (k:Nat) (n:Nat):=Qj (ZFF k) Tryz.f105 ZjQ Z7 [1,1,1,0,1,0] [] n ZNs (A:=ZoK)
def ZdZ (k:Nat) (L1:KD):List Int × Unit → Option (Int × Unit)
 | (a0,()) => bif decide (UD a0.length < (1:Int)) then none else bif decide ((0:Int) ≤ 0 ∧ (0:Int) < UD a0.length) then L1 (1,a0,a0.getD 0 0) else none
def Zwj (k:Nat):=ZdZ k (ZjR k)
theorem ZDj (k:Nat):∀ n,ZtX k n = Ze (fun L1 => ZaL k L1) n:=ZG
noncomputable def ZTk (k:Nat):ZA k:=Zx 105 Tryz.f105 (ZFF k) ZjQ Z7 Zwj (A:=ZoK) (h:=fun x => by show _ = ZdZ k (ZjR k) x; rw [show ZjR k = ZtX k k from (ZDj k k).symm]; kernel_rfl)
abbrev Zz0:List Kd:=[.box [.own (.int .u8) false,.view (.int .i64)],.view (.int .i64)]
noncomputable def ZFI (k:Nat):List (ZA k):=[ZqE k]
def ZFH:Nat → Ann:=fun id => bif Ja id 1 then ⟨[4,0,1],[]⟩ else ⟨[],[]⟩
abbrev ZzZ:=Int × Int × Int × List Int
abbrev ZjT:=ZzZ → Option (Unit × (List Int × Int × Unit) × Unit)
def ZNt:ZzZ → St
 | (v0,v1,v2,v3) => St.mk (Zk [(4,Zg v0),(0,AV.bx 0 0),(1,Zg v1)]) (Zj [(0,QG [AV.own 8192,Zg v2]),(8192,RS.live (Res.arr (Ty.int UL) v3 false))])
def Zd0 (k:Nat) (L1:ZjT):ZjT
 | (v0,v1,v2,v3) => bif decide (v0 < 32) then bif decide (0 ≤ v0) then (ZP k ((v3,v2,()),Jx.wrap (UD (UH 64 (v1.fdiv ((2:Int) ^ min v0.toNat 64)) &&& UH 64 (255:Int)).toNat),8,())).bind fun y => L1 (Jx.wrap (v0 + 8),v1,y.2.1.2.1,y.2.1.1) else none else some ((),(v3,v2,()),())
def Zqs (k:Nat):ZjT:=Ze (fun L1 => Zd0 k L1) k
noncomputable def ZtY (k:Nat) (n:Nat):=Qj (ZFI k) Tryz.f106 Zz0 XQ [1,0] [] n ZNt (A:=ZFH) (a:=[AV.bx (nat_lit 0) (nat_lit 0)]) (b:=[[]]) (q:=[0])
def Zqt (k:Nat) (L1:ZjT):(List Int × Int × Unit) × Int × Unit → Option (Unit × (List Int × Int × Unit) × Unit)
 | ((a0,a1,()),a2,()) => L1 (0,a2,a1,a0)
def ZjS (k:Nat):=Zqt k (Zqs k)
theorem ZDl (k:Nat):∀ n,ZtY k n = Ze (fun L1 => Zd0 k L1) n:=ZG
noncomputable def ZTl (k:Nat):ZA k:=Zx 106 Tryz.f106 (ZFI k) Zz0 XQ ZjS (A:=ZFH) (h:=fun x => by show _ = Zqt k (Zqs k) x; rw [show Zqs k = ZtY k k from (ZDl k k).symm]; kernel_rfl)
abbrev KC:List Kd:=[.view trackT,.view (.int .i64),.view (.sl (.int .i64))]
noncomputable def ZoH (k:Nat):List (ZA k):=[ZSw k,ZoA k,ZT8 k,ZqE k,ZUa k,ZTh k,ZTi k,ZTj k,ZTk k,ZTl k]
def ZoG:Nat → Ann:=fun id => bif Ja id 42 then ⟨[143,144,142,7],[]⟩ else bif Ja id 33 then ⟨[118,119,117,15,7,3],[]⟩ else bif Ja id 22 then ⟨[84,85,83,7,1,12,3],[]⟩ else ⟨[],[]⟩
abbrev ZzQ:=Int × Int × List ByteArray × Int × List Int
abbrev ZjH:=ZzQ → Option (List Int × Unit)
abbrev ZzP:=Int × Int × List ByteArray × Int × Int × List Int × Int × Int × Int × List ByteArray × List (List Int)
abbrev Ze8:=ZzP → Option (List Int × Unit)
abbrev ZzO:=Int × Int × List Int × Int × Int × Int × List Int × Int × Int × Int × List ByteArray × List (List Int)
abbrev ZjG:=ZzO → Option (List Int × Unit)
def ZNg:ZzQ → St
 | (v0,v1,v2,v3,v4) => St.mk (Zk [(143,Zg v0),(144,Zg v1),(142,AV.val (PV.sl Ty.str v2)),(7,AV.bx 8192 0)]) (Zj [(8192,QG [AV.own 8193,Zg v3]),(8193,RS.live (Res.arr (Ty.int UL) v4 false))])
def ZaG (k:Nat) (L3:ZjH):ZjH
 | (v0,v1,v2,v3,v4) => bif decide (v1 < v0) then bif decide (0 ≤ v1 ∧ v1 < UD v2.length) then (ZjS k ((v4,v3,()),UD (UM (v2.getD v1.toNat (UJ #[]))),())).bind fun y => (Zbp k ((y.2.1.1,y.2.1.2.1,()),v2.getD v1.toNat (UJ #[]),())).bind fun y => L3 (v0,Jx.wrap (v1 + 1),v2,y.2.1.2.1,y.2.1.1) else none else (Zt2 k ((v4,v3,()),())).bind fun y => some (y.1,())
def Zfa (k:Nat):ZjH:=Ze (fun L3 => ZaG k L3) k
noncomputable def ZtR (k:Nat) (n:Nat):=Qj (ZoH k) Tryz.f47 KC Ys [1,1,1,1,1,1,1,1,1,1,1,1,1,1,1,1,1,1,1,1,1,1,1,1,0,1,0] [] n ZNg (A:=ZoG)
def ZNf:ZzP → St
 | (v0,v1,v2,v3,v4,v5,v6,v7,v8,v9,v10) => St.mk (Zk [(118,Zg v0),(119,Zg v1),(117,AV.val (PV.sl Ty.str v2)),(15,Zg v3),(7,AV.bx 8192 0),(3,AV.bx 8194 0)]) (Zj [(8192,QG [AV.own 8193,Zg v4]),(8193,RS.live (Res.arr (Ty.int UL) v5 false)),(8194,QG [Zg v6,Zg v7,Zg v8,AV.val (PV.sl Ty.str v9),AV.val (PV.sl (Ty.int Jx).sl v10)])])
def ZaF (k:Nat) (L3:ZjH) (L2:Ze8):Ze8
 | (v0,v1,v2,v3,v4,v5,v6,v7,v8,v9,v10) => bif decide (v1 < v0) then bif decide (0 ≤ v1 ∧ v1 < UD v2.length) then L2 (v0,Jx.wrap (v1 + 1),v2,Jx.wrap (v3 + Jx.wrap ((4:Int) + UD (UM (v2.getD v1.toNat (UJ #[]))))),v4,v5,v6,v7,v8,v9,v10) else none else (ZdX k ((v5,v4,()),1,4,v3,())).bind fun y => (ZjS k ((y.2.1.1,y.2.1.2.1,()),7,())).bind fun y => (Zbp k ((y.2.1.1,y.2.1.2.1,()),UJ #[115,104,101,108,108,97,99],())).bind fun y => (ZjS k ((y.2.1.1,y.2.1.2.1,()),UD v9.length,())).bind fun y => L3 (UD v9.length,(0:Int),v9,y.2.1.2.1,y.2.1.1)
def Yr (k:Nat):Ze8:=Ze (fun L2 => ZaF k (Zfa k) L2) k
noncomputable def ZlU (k:Nat) (n:Nat):=Qj (ZoH k) Tryz.f47 KC Ys [1,1,1,1,1,1,1,1,1,1,1,1,1,1,1,1,1,1,1,0,1,0] [] n ZNf (A:=ZoG)
def ZNe:ZzO → St
 | (v0,v1,v2,v3,v4,v5,v6,v7,v8,v9,v10,v11) => St.mk (Zk [(84,Zg v0),(85,Zg v1),(83,We v2),(7,AV.bx 8192 0),(1,Zg v3),(12,Zg v4),(3,AV.bx 8194 0)]) (Zj [(8192,QG [AV.own 8193,Zg v5]),(8193,RS.live (Res.arr (Ty.int UL) v6 false)),(8194,QG [Zg v7,Zg v8,Zg v9,AV.val (PV.sl Ty.str v10),AV.val (PV.sl (Ty.int Jx).sl v11)])])
def ZaE (k:Nat) (L2:Ze8) (L1:ZjG):ZjG
 | (v0,v1,v2,v3,v4,v5,v6,v7,v8,v9,v10,v11) => bif decide (v1 < v0) then bif decide (0 ≤ v1 ∧ v1 < UD v2.length) then (ZP k ((v6,v5,()),0,32,())).bind fun y => (ZP k ((y.2.1.1,y.2.1.2.1,()),Jx.wrap (v1 * v3),32,())).bind fun y => (ZP k ((y.2.1.1,y.2.1.2.1,()),0,32,())).bind fun y => (ZP k ((y.2.1.1,y.2.1.2.1,()),v4,32,())).bind fun y => (Zbl k (((v7,v8,v9,()),v10,v11,()),())).bind fun y_1 => (ZP k ((y.2.1.1,y.2.1.2.1,()),if Jx.wrap (y_1.1 - Jx.wrap (v1 * v3)) < v3 then Jx.wrap (y_1.1 - Jx.wrap (v1 * v3)) else v3,16,())).bind fun y => L1 (v0,Jx.wrap (v1 + 1),v2,v3,Jx.wrap (v4 + v2.getD v1.toNat 0),y.2.1.2.1,y.2.1.1,v7,v8,v9,v10,v11) else none else L2 (UD v10.length,(0:Int),v10,(15:Int),v5,v6,v7,v8,v9,v10,v11)
def Ze9 (k:Nat):ZjG:=Ze (fun L1 => ZaE k (Yr k) L1) k
noncomputable def ZtQ (k:Nat) (n:Nat):=Qj (ZoH k) Tryz.f47 KC Ys [1,1,1,1,1,1,1,1,1,1,1,1,1,1,1,1,1,0,1,0,1,1,1,0] [] n ZNe (A:=ZoG)
def ZdU (k:Nat) (L1:ZjG) (L2:Ze8):((Int × Int × Int × Unit) × List ByteArray × List (List Int) × Unit) × Int × List Int × Unit → Option (List Int × Unit)
 | (((a0,a1,a2,()),a3,a4,()),a5,a6,()) => (Zt1 k ()).bind fun y => (Zbp k ((y.1.1,y.1.2.1,()),UJ #[102,76,97,67],())).bind fun y => (ZdX k ((y.2.1.1,y.2.1.2.1,()),0,0,34,())).bind fun y => bif decide ((0:Int) < UD a6.length) then (Zwi k (a6,())).bind fun y_1 => (Zwj k (a6,())).bind fun y_2 => (ZP k ((y.2.1.1,y.2.1.2.1,()),a5,16,())).bind fun y => (ZP k ((y.2.1.1,y.2.1.2.1,()),a5,16,())).bind fun y => (ZP k ((y.2.1.1,y.2.1.2.1,()),y_1.1,24,())).bind fun y => (ZP k ((y.2.1.1,y.2.1.2.1,()),y_2.1,24,())).bind fun y => (ZP k ((y.2.1.1,y.2.1.2.1,()),a2,20,())).bind fun y => (ZP k ((y.2.1.1,y.2.1.2.1,()),Jx.wrap (a0 - 1),3,())).bind fun y => (ZP k ((y.2.1.1,y.2.1.2.1,()),Jx.wrap (a1 - 1),5,())).bind fun y => (ZP k ((y.2.1.1,y.2.1.2.1,()),0,4,())).bind fun y => (Zbl k (((a0,a1,a2,()),a3,a4,()),())).bind fun y_3 => (ZP k ((y.2.1.1,y.2.1.2.1,()),y_3.1,32,())).bind fun y => (Zi2 k (((a0,a1,a2,()),a3,a4,()),())).bind fun y_4 => (Zbp k ((y.2.1.1,y.2.1.2.1,()),y_4.1.1,())).bind fun y => bif decide ((1:Int) < UD a6.length) then (ZdX k ((y.2.1.1,y.2.1.2.1,()),0,3,Jx.wrap ((18:Int) * UD a6.length),())).bind fun y => L1 (UD a6.length,(0:Int),a6,a5,(0:Int),y.2.1.2.1,y.2.1.1,a0,a1,a2,a3,a4) else L2 (UD a3.length,(0:Int),a3,(15:Int),y.2.1.2.1,y.2.1.1,a0,a1,a2,a3,a4) else (ZP k ((y.2.1.1,y.2.1.2.1,()),a5,16,())).bind fun y => (ZP k ((y.2.1.1,y.2.1.2.1,()),a5,16,())).bind fun y => (ZP k ((y.2.1.1,y.2.1.2.1,()),0,24,())).bind fun y => (ZP k ((y.2.1.1,y.2.1.2.1,()),0,24,())).bind fun y => (ZP k ((y.2.1.1,y.2.1.2.1,()),a2,20,())).bind fun y => (ZP k ((y.2.1.1,y.2.1.2.1,()),Jx.wrap (a0 - 1),3,())).bind fun y => (ZP k ((y.2.1.1,y.2.1.2.1,()),Jx.wrap (a1 - 1),5,())).bind fun y => (ZP k ((y.2.1.1,y.2.1.2.1,()),0,4,())).bind fun y => (Zbl k (((a0,a1,a2,()),a3,a4,()),())).bind fun y_1 => (ZP k ((y.2.1.1,y.2.1.2.1,()),y_1.1,32,())).bind fun y => (Zi2 k (((a0,a1,a2,()),a3,a4,()),())).bind fun y_2 => (Zbp k ((y.2.1.1,y.2.1.2.1,()),y_2.1.1,())).bind fun y => bif decide ((1:Int) < UD a6.length) then (ZdX k ((y.2.1.1,y.2.1.2.1,()),0,3,Jx.wrap ((18:Int) * UD a6.length),())).bind fun y => L1 (UD a6.length,(0:Int),a6,a5,(0:Int),y.2.1.2.1,y.2.1.1,a0,a1,a2,a3,a4) else L2 (UD a3.length,(0:Int),a3,(15:Int),y.2.1.2.1,y.2.1.1,a0,a1,a2,a3,a4)
def Zwb (k:Nat):=ZdU k (Ze9 k) (Yr k)
theorem ZC2 (k:Nat):∀ n,ZtR k n = Ze (fun L3 => ZaG k L3) n:=ZG
theorem Zqj (k:Nat):∀ n,ZlU k n = Ze (fun L2 => ZaF k (Zfa k) L2) n:=ZG (fun n v => by rw [show (Zfa k) = ZtR k k from (ZC2 k k).symm]; kernel_rfl)
theorem ZC1 (k:Nat):∀ n,ZtQ k n = Ze (fun L1 => ZaE k (Yr k) L1) n:=ZG (fun n v => by rw [show (Yr k) = ZlU k k from (Zqj k k).symm]; kernel_rfl)
set_option maxHeartbeats 1000000 in
noncomputable def ZFx (k:Nat):ZA k:=Zx 47 Tryz.f47 (ZoH k) KC Ys Zwb (A:=ZoG) (h:=fun x => by show _ = ZdU k (Ze9 k) (Yr k) x; rw [show Ze9 k = ZtQ k k from (ZC1 k k).symm,show Yr k = ZlU k k from (Zqj k k).symm]; kernel_rfl)
abbrev Zzt:Kd:=.tup [.view (.sl (.int .u8)),.view (.int .i64)]
noncomputable def ZFi (k:Nat):List (ZA k):=[ZFd k,ZS1 k,ZFx k]
def ZFh:Nat → Ann:=fun id => bif Ja id 6 then ⟨[21,22,20,8,2,1,6],[.slot 8 ((Ty.int Jx))]⟩ else ⟨[],[]⟩
abbrev Zzs:=Int × Int × List (List Int) × Int × List (List Int) × List Int × Int × Int × Int × List ByteArray × List (List Int)
abbrev Zjg:=Zzs → Option ((List Int × Int × Unit) × Unit)
def ZMS:Zzs → St
 | (v0,v1,v2,v3,v4,v5,v6,v7,v8,v9,v10) => St.mk (Zk [(21,Zg v0),(22,Zg v1),(20,AV.val (PV.sl (Ty.int UL).sl v2)),(8,AV.own 8192),(2,AV.bx 8193 0),(1,Zg v3),(6,AV.val (PV.sl (Ty.int UL).sl v4))]) (Zj [(8192,rsA v5 false),(8193,QG [Zg v6,Zg v7,Zg v8,AV.val (PV.sl Ty.str v9),AV.val (PV.sl (Ty.int Jx).sl v10)])])
def Zas (k:Nat) (L1:Zjg):Zjg
 | (v0,v1,v2,v3,v4,v5,v6,v7,v8,v9,v10) => bif decide (v1 < v0) then bif decide (0 ≤ v1 ∧ v1 < UD v2.length) then bif decide (v5.length + [UD (UK (v2.getD v1.toNat []))].length < 2147483648) then L1 (v0,Jx.wrap (v1 + 1),v2,v3,v4,v5 ++ [UD (UK (v2.getD v1.toNat []))],v6,v7,v8,v9,v10) else none else none else (Zwb k (((v6,v7,v8,()),v9,v10,()),v3,v5,())).bind fun y => (ZoF k (v4,())).bind fun y_1 => (ZoF k ([y.1,y_1.1],())).bind fun y => some ((y.1,0,()),())
def Zjh (k:Nat):Zjg:=Ze (fun L1 => Zas k L1) k
noncomputable def ZtA (k:Nat) (n:Nat):=Qj (ZFi k) Tryz.f22 W7 Zzt [1,1,1,1,0,1,0] [] n ZMS (A:=ZFh)
noncomputable def ZdP (k:Nat) (L1:Zjg):((Int × Int × Int × Unit) × List ByteArray × List (List Int) × Unit) × Int × Unit → Option ((List Int × Int × Unit) × Unit)
 | (((a0,a1,a2,()),a3,a4,()),a5,()) => (Zoy k (((a0,a1,a2,()),a3,a4,()),a5,())).bind fun y => bif y.1.2.1 != 0 then some (([],y.1.2.1,()),()) else L1 (UD (UK y.1.1),(0:Int),y.1.1,a5,y.1.1,[],a0,a1,a2,a3,a4)
noncomputable def ZvY (k:Nat):=ZdP k (Zjh k)
theorem ZCB (k:Nat):∀ n,ZtA k n = Ze (fun L1 => Zas k L1) n:=ZG
noncomputable def ZvZ (k:Nat):ZA k:=Zx 22 Tryz.f22 (ZFi k) W7 Zzt ZvY (A:=ZFh) (h:=fun x => by show _ = ZdP k (Zjh k) x; rw [show Zjh k = ZtA k k from (ZCB k k).symm]; kernel_rfl)
abbrev Zfb:List Kd:=[.box [.ref [.view (.sl (.int .u8)),.view (.int .i64)],.view .bool],.view (.int .i64)]
def ZDn (k:Nat):((List Int × Int × Unit) × Bool × Unit) × Int × Unit → Option (Int × ((List Int × Int × Unit) × Bool × Unit) × Unit)
 | (((a0,a1,()),a2,()),a3,()) => (Zvs k ((a0,a1,()),a3,())).bind fun y => bif a2 then some (y.1.1,((y.2.1.1,y.2.1.2.1,()),true,()),()) else some (y.1.1,((y.2.1.1,y.2.1.2.1,()),y.1.2.1 != 0,()),())
def Zwk (k:Nat):=ZDn k
noncomputable def Zwl (k:Nat):ZA k:=Zx 108 Tryz.f108 [ZhG k] Zfb Z7 Zwk
noncomputable def ZFK (k:Nat):List (ZA k):=[Zwl k]
def ZFJ:Nat → Ann:=fun id => bif Ja id 1 then ⟨[4,5,0],[]⟩ else ⟨[],[]⟩
abbrev Zz1:=Int × Int × Bool × List Int × Int
abbrev ZjU:=Zz1 → Option (Unit × ((List Int × Int × Unit) × Bool × Unit) × Unit)
def ZNu:Zz1 → St
 | (v0,v1,v2,v3,v4) => St.mk (Zk [(4,Zg v0),(5,Zg v1),(0,AV.bx 0 0)]) (Zj [(0,QG [AV.bx 1 0,avB v2]),(1,QG [AV.val (PV.sl (Ty.int UL) v3),Zg v4])])
def Zqw (k:Nat) (L1:ZjU):ZjU
 | (v0,v1,v2,v3,v4) => bif decide (v1 < v0) then (Zwk k (((v3,v4,()),v2,()),8,())).bind fun y => L1 (v0,Jx.wrap (v1 + 1),y.2.1.2.1,y.2.1.1.1,y.2.1.1.2.1) else some ((),((v3,v4,()),v2,()),())
def Zqu (k:Nat):ZjU:=Ze (fun L1 => Zqw k L1) k
noncomputable def ZtZ (k:Nat) (n:Nat):=Qj (ZFK k) Tryz.f107 Zfb XQ [1,0] [] n ZNu (A:=ZFJ) (a:=[AV.bx (nat_lit 0) (nat_lit 0)]) (b:=[[1]]) (q:=[0,1])
def Zqv (k:Nat) (L1:ZjU):((List Int × Int × Unit) × Bool × Unit) × Int × Unit → Option (Unit × ((List Int × Int × Unit) × Bool × Unit) × Unit)
 | (((a0,a1,()),a2,()),a3,()) => L1 (a3,(0:Int),a2,a0,a1)
def ZTm (k:Nat):=Zqv k (Zqu k)
theorem ZDm (k:Nat):∀ n,ZtZ k n = Ze (fun L1 => Zqw k L1) n:=ZG
noncomputable def ZTn (k:Nat):ZA k:=Zx 107 Tryz.f107 (ZFK k) Zfb XQ ZTm (A:=ZFJ) (h:=fun x => by show _ = Zqv k (Zqu k) x; rw [show Zqu k = ZtZ k k from (ZDm k k).symm]; kernel_rfl)
noncomputable def ZFM (k:Nat):List (ZA k):=[Zwl k]
def ZFL:Nat → Ann:=fun id => bif Ja id 3 then ⟨[6,5,0,1],[]⟩ else ⟨[],[]⟩
abbrev Zz2:=Int × Int × Int × Bool × List Int × Int
abbrev ZjV:=Zz2 → Option (Int × ((List Int × Int × Unit) × Bool × Unit) × Unit)
def ZNv:Zz2 → St
 | (v0,v1,v2,v3,v4,v5) => St.mk (Zk [(6,Zg v0),(5,Zg v1),(0,AV.bx 0 0),(1,Zg v2)]) (Zj [(0,QG [AV.bx 1 0,avB v3]),(1,QG [AV.val (PV.sl (Ty.int UL) v4),Zg v5])])
def Zqz (k:Nat) (L1:ZjV):ZjV
 | (v0,v1,v2,v3,v4,v5) => bif decide (v0 < 32) then (Zwk k (((v4,v5,()),v3,()),8,())).bind fun y => bif decide (0 ≤ v0) then L1 (Jx.wrap (v0 + 8),Jx.wrap (UD (UH 64 v1 ||| UH 64 (Jx.wrap (y.1 * (2:Int) ^ min v0.toNat 64))).toNat),v2,y.2.1.2.1,y.2.1.1.1,y.2.1.1.2.1) else none else bif decide (v2 < v1) then some (0,((v4,v5,()),true,()),()) else some (v1,((v4,v5,()),v3,()),())
def Zqx (k:Nat):ZjV:=Ze (fun L1 => Zqz k L1) k
noncomputable def Zt0 (k:Nat) (n:Nat):=Qj (ZFM k) Tryz.f109 Zfb Z7 [1,1,0,1,0] [] n ZNv (A:=ZFL) (a:=[AV.bx (nat_lit 0) (nat_lit 0)]) (b:=[[1]]) (q:=[0,1])
def Zqy (k:Nat) (L1:ZjV):((List Int × Int × Unit) × Bool × Unit) × Int × Unit → Option (Int × ((List Int × Int × Unit) × Bool × Unit) × Unit)
 | (((a0,a1,()),a2,()),a3,()) => L1 (0,(0:Int),a3,a2,a0,a1)
def ZTo (k:Nat):=Zqy k (Zqx k)
theorem ZDo (k:Nat):∀ n,Zt0 k n = Ze (fun L1 => Zqz k L1) n:=ZG
noncomputable def ZTp (k:Nat):ZA k:=Zx 109 Tryz.f109 (ZFM k) Zfb Z7 ZTo (A:=ZFL) (h:=fun x => by show _ = Zqy k (Zqx k) x; rw [show Zqx k = Zt0 k k from (ZDo k k).symm]; kernel_rfl)
abbrev ZNh:List Kd:=[.box [.ref [.view (.sl (.int .u8)),.view (.int .i64)],.view .bool]]
abbrev ZNi:Kd:=.tup [.view trackT,.view (.int .i64),.view (.int .i64)]
def ZS4:Nat → Ann:=fun id => bif Ja id 21 then ⟨[91,92,10,0,5,88,87,6,8,2],[.slot 10 ((Ty.int UL))]⟩ else bif Ja id 18 then ⟨[87,88,0,5,6,8,2],[.cell 5 3 (Ty.str)]⟩ else ⟨[],[]⟩
noncomputable def ZS5 (k:Nat):ZA k:=XZ 49 Tryz.f49 (fun k => [ZEA k,ZTn k,Zwl k,ZTp k]) ZNh ZNi (A:=ZS4)
abbrev ZNj:List Kd:=[.view (.sl (.int .u8)),.view (.sl (.int .u8))]
noncomputable def ZS6 (k:Nat):ZA k:=XZ 51 Tryz.f51 (fun k => []) ZNj Q1
abbrev ZMT:Kd:=.tup [.view trackT,.view (.int .i64)]
def ZSF:Nat → Ann:=fun id => bif Ja id 18 then ⟨[91,92,90,5,10,13,9,11,6,7,2,0,8],[]⟩ else bif Ja id 12 then ⟨[11,6,7,5,9,2,10,0,8],[.slot 10 ((Ty.int Jx))]⟩ else ⟨[],[]⟩
noncomputable def ZFj (k:Nat):ZA k:=XZ 23 Tryz.f23 (fun k => [ZvU k,ZX0 k,ZFx k,ZUm k,ZS5 k,Zz7 k,ZS6 k]) ZcE ZMT (A:=ZSF) (live:=fun n => bif Ja n 1 then [25] else bif Ja n 26 then [5,4] else [])
abbrev ZMU:List Kd:=[.view trackT,.view trackT]
def ZSG:Nat → Ann:=fun id => bif Ja id 4 then ⟨[5,2,3],[]⟩ else ⟨[],[]⟩
noncomputable def ZFk (k:Nat):ZA k:=XZ 25 Tryz.f25 (fun k => [ZX2 k]) ZMU Q1 (A:=ZSG)
abbrev Zp6:Kd:=.view trackT
noncomputable def ZFl (k:Nat):ZA k:=XZ 26 Tryz.f26 (fun k => []) Qn Zp6
noncomputable def ZgS (k:Nat):Unit → Option (Bool × Unit):=ZJ0 (cxP k [ZvZ k,ZFj k,ZFk k,ZFl k] nL) nA Tryz.f10 ZjI Q1
noncomputable def ZSl (k:Nat):ZA k:=Zx 10 Tryz.f10 [ZvZ k,ZFj k,ZFk k,ZFl k] ZjI Q1 ZgS (h:=fun _ => rfl)
noncomputable def ZvS (k:Nat):List (ZA k):=[]
def ZvQ:Nat → Ann:=fun id => bif Ja id 9 then ⟨[3,0],[]⟩ else bif Ja id 4 then ⟨[3,0],[]⟩ else ⟨[],[]⟩
abbrev ZpY:=Int × ByteArray
abbrev Kv:=ZpY → Option (Bool × Unit)
def ZMA:ZpY → St
 | (v0,v1) => St.mk (Zk [(3,Zg v0),(0,AV.val (PV.v (UR v1)))]) (Zj [])
def Zdy (k:Nat) (L2:Kv):Kv
 | (v0,v1) => bif decide (v0 < UD v1.size) then bif decide (0 ≤ v0 ∧ v0 < UD v1.size) then bif decide (UD (v1.data.toList.getD v0.toNat 0).toNat < (33:Int)) then some (false,()) else bif decide (0 ≤ v0 ∧ v0 < UD v1.size) then bif decide ((126:Int) < UD (v1.data.toList.getD v0.toNat 0).toNat) then some (false,()) else L2 (Jx.wrap (v0 + 1),v1) else none else none else some (true,())
def Zcz (k:Nat):Kv:=Ze (fun L2 => Zdy k L2) k
noncomputable def Zto (k:Nat) (n:Nat):=Qj (ZvS k) Tryz.f12 WM Q1 [1,1,1,1,1,0,1,0] [] n ZMA (A:=ZvQ)
def ZMz:ZpY → St
 | (v0,v1) => St.mk (Zk [(3,Zg v0),(0,AV.val (PV.v (UR v1)))]) (Zj [])
def Zah (k:Nat) (L2:Kv) (L1:Kv):Kv
 | (v0,v1) => bif decide (v0 < UD v1.size) then bif decide (0 ≤ v0 ∧ v0 < UD v1.size) then bif decide ((97:Int) ≤ UD (v1.data.toList.getD v0.toNat 0).toNat) then bif decide (0 ≤ v0 ∧ v0 < UD v1.size) then bif decide (UD (v1.data.toList.getD v0.toNat 0).toNat ≤ (122:Int)) then L1 (Jx.wrap (v0 + 1),v1) else bif v0 == 0 then some (false,()) else bif decide (UD v1.size ≤ Jx.wrap (v0 + 1)) then some (false,()) else bif decide (0 ≤ v0 ∧ v0 < UD v1.size) then bif UD (v1.data.toList.getD v0.toNat 0).toNat != (61:Int) then some (false,()) else L2 (Jx.wrap (v0 + 1),v1) else none else none else bif v0 == 0 then some (false,()) else bif decide (UD v1.size ≤ Jx.wrap (v0 + 1)) then some (false,()) else bif decide (0 ≤ v0 ∧ v0 < UD v1.size) then bif UD (v1.data.toList.getD v0.toNat 0).toNat != (61:Int) then some (false,()) else L2 (Jx.wrap (v0 + 1),v1) else none else none else bif v0 == 0 then some (false,()) else bif decide (UD v1.size ≤ Jx.wrap (v0 + 1)) then some (false,()) else bif decide (0 ≤ v0 ∧ v0 < UD v1.size) then bif UD (v1.data.toList.getD v0.toNat 0).toNat != (61:Int) then some (false,()) else L2 (Jx.wrap (v0 + 1),v1) else none
def ZeX (k:Nat):Kv:=Ze (fun L1 => Zah k (Zcz k) L1) k
noncomputable def Ztn (k:Nat) (n:Nat):=Qj (ZvS k) Tryz.f12 WM Q1 [1,1,1,0,0] [] n ZMz (A:=ZvQ)
def Zdx (k:Nat) (L1:Kv):ByteArray × Unit → Option (Bool × Unit)
 | (a0,()) => bif decide (UD a0.size < (3:Int)) then some (false,()) else bif decide ((12:Int) < UD a0.size) then some (false,()) else L1 (0,a0)
def ZvR (k:Nat):=Zdx k (ZeX k)
theorem ZCd (k:Nat):∀ n,Zto k n = Ze (fun L2 => Zdy k L2) n:=ZG
theorem ZCc (k:Nat):∀ n,Ztn k n = Ze (fun L1 => Zah k (Zcz k) L1) n:=ZG (fun n v => by rw [show (Zcz k) = Zto k k from (ZCd k k).symm]; kernel_rfl)
noncomputable def ZSp (k:Nat):ZA k:=Zx 12 Tryz.f12 (ZvS k) WM Q1 ZvR (A:=ZvQ) (h:=fun x => by show _ = Zdx k (ZeX k) x; rw [show ZeX k = Ztn k k from (ZCc k k).symm]; kernel_rfl)
noncomputable def Zi1 (k:Nat):List (ZA k):=[ZSp k,ZT6 k,ZFN k]
def ZiX:Nat → Ann:=fun id => bif Ja id 19 then ⟨[6,1,5],[]⟩ else bif Ja id 16 then ⟨[5,1],[]⟩ else bif Ja id 11 then ⟨[4,1],[]⟩ else bif Ja id 6 then ⟨[3,1],[]⟩ else ⟨[],[]⟩
abbrev Zzg:=Int × Int × Int × Int × Int × List ByteArray × List (List Int)
abbrev ZiY:=Zzg → Option (Int × Unit)
abbrev Zi0:=Int × Int × Int × Int × List ByteArray × List (List Int)
abbrev Wo:=Zi0 → Option (Int × Unit)
def ZME:Zzg → St
 | (v0,v1,v2,v3,v4,v5,v6) => St.mk (Zk [(6,Zg v0),(1,AV.bx 8192 0),(5,Zg v1)]) (Zj [(8192,QG [Zg v2,Zg v3,Zg v4,AV.val (PV.sl Ty.str v5),AV.val (PV.sl (Ty.int Jx).sl v6)])])
def ZdD (k:Nat) (L3:Wo) (L4:ZiY):ZiY
 | (v0,v1,v2,v3,v4,v5,v6) => bif decide (0 ≤ v1 ∧ v1 < UD v6.length) then bif decide (v0 < UD (UK (v6.getD v1.toNat []))) then bif decide (0 ≤ v1 ∧ v1 < UD v6.length) then bif decide (0 ≤ v0 ∧ v0 < UD (UK (v6.getD v1.toNat []))) then (ZqA k (US (v6.getD v1.toNat []) v0.toNat 0,v3,())).bind fun y => bif !y.1 then some (12,()) else L4 (Jx.wrap (v0 + 1),v1,v2,v3,v4,v5,v6) else none else none else L3 (Jx.wrap (v1 + 1),v2,v3,v4,v5,v6) else none
def ZiZ (k:Nat) (L3:Wo):ZiY:=Ze (fun L4 => ZdD k L3 L4) k
noncomputable def Ztr (k:Nat) (n3:Nat) (n:Nat):=Qj (Zi1 k) Tryz.f13 Qn Z7 [1,1,1,1,1,0,1,0,0,1,0,0,1,0] [n3] n ZME (A:=ZiX)
def ZMD:Zi0 → St
 | (v0,v1,v2,v3,v4,v5) => St.mk (Zk [(5,Zg v0),(1,AV.bx 8192 0)]) (Zj [(8192,QG [Zg v1,Zg v2,Zg v3,AV.val (PV.sl Ty.str v4),AV.val (PV.sl (Ty.int Jx).sl v5)])])
def ZdC (k:Nat) (L4:ZiY) (L3:Wo):Wo
 | (v0,v1,v2,v3,v4,v5) => bif decide (v0 < UD v5.length) then L4 (0,v0,v1,v2,v3,v4,v5) else some (0,())
def Ze0 (k:Nat):Wo:=Ze (fun L3 => ZdC k (ZiZ k L3) L3) k
noncomputable def ZgT (k:Nat) (n:Nat):=Qj (Zi1 k) Tryz.f13 Qn Z7 [1,1,1,1,1,0,1,0] [] n ZMD (A:=ZiX)
def ZMC:Zi0 → St
 | (v0,v1,v2,v3,v4,v5) => St.mk (Zk [(4,Zg v0),(1,AV.bx 8192 0)]) (Zj [(8192,QG [Zg v1,Zg v2,Zg v3,AV.val (PV.sl Ty.str v4),AV.val (PV.sl (Ty.int Jx).sl v5)])])
def ZdB (k:Nat) (L3:Wo) (L2:Wo):Wo
 | (v0,v1,v2,v3,v4,v5) => bif decide (v0 < UD v5.length) then bif decide (0 ≤ v0 ∧ v0 < UD v5.length) then bif decide ((4096:Int) < UD (UK (v5.getD v0.toNat []))) then some (1,()) else bif decide (0 ≤ v0 ∧ v0 < UD v5.length) then bif decide ((0:Int) ≤ 0 ∧ (0:Int) < UD v5.length) then bif UD (UK (v5.getD v0.toNat [])) != UD (UK (v5.getD 0 [])) then some (1,()) else L2 (Jx.wrap (v0 + 1),v1,v2,v3,v4,v5) else none else none else none else L3 (0,v1,v2,v3,v4,v5)
def ZeZ (k:Nat):Wo:=Ze (fun L2 => ZdB k (Ze0 k) L2) k
noncomputable def Ztq (k:Nat) (n:Nat):=Qj (Zi1 k) Tryz.f13 Qn Z7 [1,1,1,1,0,1,0] [] n ZMC (A:=ZiX)
def ZMB:Zi0 → St
 | (v0,v1,v2,v3,v4,v5) => St.mk (Zk [(3,Zg v0),(1,AV.bx 8192 0)]) (Zj [(8192,QG [Zg v1,Zg v2,Zg v3,AV.val (PV.sl Ty.str v4),AV.val (PV.sl (Ty.int Jx).sl v5)])])
def ZdA (k:Nat) (L2:Wo) (L1:Wo):Wo
 | (v0,v1,v2,v3,v4,v5) => bif decide (v0 < UD v4.length) then bif decide (0 ≤ v0 ∧ v0 < UD v4.length) then (ZvR k (v4.getD v0.toNat (UJ #[]),())).bind fun y => bif !y.1 then some (1,()) else L1 (Jx.wrap (v0 + 1),v1,v2,v3,v4,v5) else none else L2 (0,v1,v2,v3,v4,v5)
def ZeY (k:Nat):Wo:=Ze (fun L1 => ZdA k (ZeZ k) L1) k
noncomputable def Ztp (k:Nat) (n:Nat):=Qj (Zi1 k) Tryz.f13 Qn Z7 [1,1,1,0,1,0] [] n ZMB (A:=ZiX)
def Zdz (k:Nat) (L1:Wo):((Int × Int × Int × Unit) × List ByteArray × List (List Int) × Unit) × Unit → Option (Int × Unit)
 | (((a0,a1,a2,()),a3,a4,()),()) => (ZyK k ((a0,a1,a2,()),())).bind fun y => bif !y.1 then some (2,()) else bif decide ((8:Int) < UD a3.length) then some (1,()) else bif UD a4.length != a0 then some (1,()) else L1 (0,a0,a1,a2,a3,a4)
def ZvT (k:Nat):=Zdz k (ZeY k)
theorem ZCi (k:Nat) (n3:Nat):∀ n,Ztr k n3 n = Ze (fun L4 => ZdD k (ZgT k n3) L4) n:=ZG
theorem ZCh (k:Nat):∀ n,ZgT k n = Ze (fun L3 => ZdC k (ZiZ k L3) L3) n:=ZG (fun n v => by rw [show (ZiZ k (ZgT k n)) = Ztr k n k from (ZCi k n k).symm]; kernel_rfl)
theorem ZCg (k:Nat):∀ n,Ztq k n = Ze (fun L2 => ZdB k (Ze0 k) L2) n:=ZG (fun n v => by rw [show (Ze0 k) = ZgT k k from (ZCh k k).symm]; kernel_rfl)
theorem ZCf (k:Nat):∀ n,Ztp k n = Ze (fun L1 => ZdA k (ZeZ k) L1) n:=ZG (fun n v => by rw [show (ZeZ k) = Ztq k k from (ZCg k k).symm]; kernel_rfl)
noncomputable def ZSu (k:Nat):ZA k:=Zx 13 Tryz.f13 (Zi1 k) Qn Z7 ZvT (A:=ZiX) (h:=fun x => by show _ = Zdz k (ZeY k) x; rw [show ZeY k = Ztp k k from (ZCf k k).symm]; kernel_rfl)
noncomputable def ZE7 (k:Nat):List (ZA k):=[]
def ZE6:Nat → Ann:=fun id => bif Ja id 3 then ⟨[4,1,3,2],[.cell 3 4 ((Ty.int Jx).sl)]⟩ else ⟨[],[]⟩
abbrev Zzj:=Int × Int × Int × Int × List ByteArray × List (List Int) × Int × Int × Int × List ByteArray × List (List Int) × Int × Int × Int
abbrev Zi6:=Zzj → Option (((Int × Int × Int × Unit) × List ByteArray × List (List Int) × Unit) × Unit)
def ZMI:Zzj → St
 | (v0,v1,v2,v3,v4,v5,v6,v7,v8,v9,v10,v11,v12,v13) => St.mk (Zk [(4,Zg v0),(1,AV.bx 8192 0),(3,AV.bx 8193 0),(2,AV.bx 8196 0)]) (Zj [(8192,QG [Zg v1,Zg v2,Zg v3,AV.val (PV.sl Ty.str v4),AV.val (PV.sl (Ty.int Jx).sl v5)]),(8193,QG [Zg v6,Zg v7,Zg v8,AV.own 8194,AV.own 8195]),(8194,RS.live (Res.arr Ty.str v9 false)),(8195,RS.live (Res.arr (Ty.int Jx).sl v10 false)),(8196,QG [Zg v11,Zg v12,Zg v13,AV.val (PV.v (V4 none (0:Nat) (0:Nat))),AV.val (PV.v (V4 none (0:Nat) (0:Nat)))])])
def Zal (k:Nat) (L1:Zi6):Zi6
 | (v0,v1,v2,v3,v4,v5,v6,v7,v8,v9,v10,v11,v12,v13) => bif decide (v0 < UD v5.length) then bif decide (0 ≤ v0 ∧ v0 < UD v5.length) then bif decide ((0:Nat) + UK (v5.getD v0.toNat []) < 2147483648) then bif decide (v10.length + [[] ++ v5.getD v0.toNat []].length < 2147483648) then L1 (Jx.wrap (v0 + 1),v1,v2,v3,v4,v5,v6,v7,v8,v9,v10 ++ [[] ++ v5.getD v0.toNat []],v11,v12,v13) else none else none else none else some (((v6,v7,v8,()),v9,v10,()),())
def Zi7 (k:Nat):Zi6:=Ze (fun L1 => Zal k L1) k
noncomputable def Ztt (k:Nat) (n:Nat):=Qj (ZE7 k) Tryz.f15 Qn Zp6 [1,1,0,1,0] [] n ZMI (A:=ZE6)
def ZdF (k:Nat) (L1:Zi6):((Int × Int × Int × Unit) × List ByteArray × List (List Int) × Unit) × Unit → Option (((Int × Int × Int × Unit) × List ByteArray × List (List Int) × Unit) × Unit)
 | (((a0,a1,a2,()),a3,a4,()),()) => bif decide ((0:Nat) + a3.length < 2147483648) then L1 (0,a0,a1,a2,a3,a4,a0,a1,a2,[] ++ a3,[],(0:Int),(0:Int),(0:Int)) else none
def Zor (k:Nat):=ZdF k (Zi7 k)
theorem ZCo (k:Nat):∀ n,Ztt k n = Ze (fun L1 => Zal k L1) n:=ZG
set_option maxHeartbeats 1000000 in
noncomputable def ZSx (k:Nat):ZA k:=Zx 15 Tryz.f15 (ZE7 k) Qn Zp6 Zor (A:=ZE6) (h:=fun x => by show _ = ZdF k (Zi7 k) x; rw [show Zi7 k = Ztt k k from (ZCo k k).symm]; kernel_rfl)
abbrev ZNo:Kd:=.view (.sl (.int .i64))
def ZhR (k:Nat):Unit → Option (List Int × Unit)
 | () => some ([(3614090360:Int),(3905402710:Int),(606105819:Int),(3250441966:Int),(4118548399:Int),(1200080426:Int),(2821735955:Int),(4249261313:Int),(1770035416:Int),(2336552879:Int),(4294925233:Int),(2304563134:Int),(1804603682:Int),(4254626195:Int),(2792965006:Int),(1236535329:Int),(4129170786:Int),(3225465664:Int),(643717713:Int),(3921069994:Int),(3593408605:Int),(38016083:Int),(3634488961:Int),(3889429448:Int),(568446438:Int),(3275163606:Int),(4107603335:Int),(1163531501:Int),(2850285829:Int),(4243563512:Int),(1735328473:Int),(2368359562:Int),(4294588738:Int),(2272392833:Int),(1839030562:Int),(4259657740:Int),(2763975236:Int),(1272893353:Int),(4139469664:Int),(3200236656:Int),(681279174:Int),(3936430074:Int),(3572445317:Int),(76029189:Int),(3654602809:Int),(3873151461:Int),(530742520:Int),(3299628645:Int),(4096336452:Int),(1126891415:Int),(2878612391:Int),(4237533241:Int),(1700485571:Int),(2399980690:Int),(4293915773:Int),(2240044497:Int),(1873313359:Int),(4264355552:Int),(2734768916:Int),(1309151649:Int),(4149444226:Int),(3174756917:Int),(718787259:Int),(3951481745:Int)],())
def Zwh (k:Nat):=ZhR k
set_option maxHeartbeats 1000000 in
noncomputable def ZTc (k:Nat):ZA k:=Zx 78 Tryz.f78 [] ZjI ZNo Zwh
abbrev Zqo:List Kd:=[.view (.int .i64)]
def ZDc (k:Nat):Int × Unit → Option (Int × Unit)
 | (a0,()) => some (Jx.wrap (UD (UH 64 a0 &&& UH 64 (4294967295:Int)).toNat),())
def Qv (k:Nat):=ZDc k
noncomputable def ZTd (k:Nat):ZA k:=Zx 79 Tryz.f79 [] Zqo Z7 Qv
def ZDd (k:Nat):Int × Unit → Option (Int × Unit)
 | (a0,()) => bif decide (0 ≤ Jx.wrap (a0.tdiv (16:Int)) ∧ Jx.wrap (a0.tdiv (16:Int)) < (4:Int)) then bif decide ((Jx.wrap (a0.tdiv (16:Int))).toNat < (4:Nat)) then bif decide (0 ≤ a0.tmod (4:Int) ∧ a0.tmod (4:Int) < UD (UK ([[(7:Int),(12:Int),(17:Int),(22:Int)],[(5:Int),(9:Int),(14:Int),(20:Int)],[(4:Int),(11:Int),(16:Int),(23:Int)],[(6:Int),(10:Int),(15:Int),(21:Int)]].getD (Jx.wrap (a0.tdiv (16:Int))).toNat []))) then some (US ([[(7:Int),(12:Int),(17:Int),(22:Int)],[(5:Int),(9:Int),(14:Int),(20:Int)],[(4:Int),(11:Int),(16:Int),(23:Int)],[(6:Int),(10:Int),(15:Int),(21:Int)]].getD (Jx.wrap (a0.tdiv (16:Int))).toNat []) (a0.tmod (4:Int)).toNat 0,()) else none else none else none
def Zbo (k:Nat):=ZDd k
set_option maxHeartbeats 1000000 in
noncomputable def ZTe (k:Nat):ZA k:=Zx 80 Tryz.f80 [] Zqo Z7 Zbo
noncomputable def Zbn (k:Nat):List (ZA k):=[ZTc k,ZTd k,ZTe k]
def Zbm:Nat → Ann:=fun id => bif Ja id 41 then ⟨[22,20,7,21],[.slot 20 ((Ty.int UL))]⟩ else bif Ja id 38 then ⟨[21,20,7],[.slot 20 ((Ty.int UL))]⟩ else bif Ja id 21 then ⟨[15,12,13,14,11,6,9,7,8,3],[]⟩ else bif Ja id 16 then ⟨[10,8,9,3,7,6],[.slot 9 ((Ty.int Jx))]⟩ else bif Ja id 12 then ⟨[8,3,7,6],[]⟩ else bif Ja id 6 then ⟨[5,3,4],[]⟩ else bif Ja id 2 then ⟨[3,0],[]⟩ else ⟨[],[]⟩
abbrev ZzD:=Int × Int × Int × Int × Int × List Int × Int × List Int × List Int × List Int
abbrev Zjr:=ZzD → Option (ByteArray × Unit)
abbrev ZzB:=Int × Int × List Int × List Int × List Int × List Int
abbrev Zjq:=ZzB → Option (ByteArray × Unit)
abbrev ZzE:=Int × Int × List Int × List Int
abbrev Zjs:=ZzE → Option (ByteArray × Unit)
abbrev ZzC:=Int × List Int × List Int
abbrev ZcF:=ZzC → Option (ByteArray × Unit)
abbrev ZzA:=Int × List Int × List Int × List Int
abbrev KA:=ZzA → Option (ByteArray × Unit)
abbrev Zzz:=ByteArray × List Int
abbrev Zjp:=Zzz → Option (ByteArray × Unit)
def ZM5:ZzD → St
 | (v0,v1,v2,v3,v4,v5,v6,v7,v8,v9) => St.mk (Zk [(15,Zg v0),(12,Zg v1),(13,Zg v2),(14,Zg v3),(11,Zg v4),(6,We v5),(9,AV.own 8192),(7,AV.own 8193),(8,Zg v6),(3,AV.own 8194)]) (Zj [(8192,rsA v7 false),(8193,rsA v8 false),(8194,RS.live (Res.arr (Ty.int UL) v9 false))])
def YT (k:Nat) (L3:KA) (L6:Zjr):Zjr
 | (v0,v1,v2,v3,v4,v5,v6,v7,v8,v9) => bif decide (v0 < 64) then bif Jx.wrap (v0.tdiv (16:Int)) == (0:Int) then (Qv k (Jx.wrap (UD (UH 64 (-1:Int) ^^^ UH 64 v1).toNat),())).bind fun y => bif decide (0 ≤ v0 ∧ v0 < UD v5.length) then bif decide (0 ≤ v0.tmod (16:Int) ∧ v0.tmod (16:Int) < UD v7.length) then bif decide ((v0.tmod (16:Int)).toNat < v7.length) then (Qv k (Jx.wrap (Jx.wrap (Jx.wrap (v4 + Jx.wrap (UD (UH 64 (Jx.wrap (UD (UH 64 v1 &&& UH 64 v2).toNat)) ||| UH 64 (Jx.wrap (UD (UH 64 y.1 &&& UH 64 v3).toNat))).toNat)) + v5.getD v0.toNat 0) + v7.getD (v0.tmod (16:Int)).toNat 0),())).bind fun y => (Zbo k (v0,())).bind fun y_1 => bif decide ((0:Int) ≤ y_1.1) then (Qv k (Jx.wrap (y.1 * (2:Int) ^ min (U3 y_1.1) (64:Nat)),())).bind fun y_2 => bif decide (0 ≤ Jx.wrap ((32:Int) - y_1.1)) then (Qv k (Jx.wrap (Jx.wrap (v1 + y_2.1) + UP y.1 ((2:Int) ^ min (Jx.wrap ((32:Int) - y_1.1)).toNat 64)),())).bind fun y => L6 (Jx.wrap (v0 + 1),y.1,v1,v2,v3,v5,v6,v7,v8,v9) else none else none else none else none else none else bif Jx.wrap (v0.tdiv (16:Int)) == (1:Int) then (Qv k (Jx.wrap (UD (UH 64 (-1:Int) ^^^ UH 64 v3).toNat),())).bind fun y => bif decide (0 ≤ v0 ∧ v0 < UD v5.length) then bif decide ((0:Int) ≤ (Jx.wrap (Jx.wrap ((5:Int) * v0) + 1)).tmod (16:Int) ∧ (Jx.wrap (Jx.wrap ((5:Int) * v0) + 1)).tmod (16:Int) < UD v7.length) then bif decide (((Jx.wrap (Jx.wrap ((5:Int) * v0) + 1)).tmod (16:Int)).toNat < v7.length) then (Qv k (Jx.wrap (Jx.wrap (Jx.wrap (v4 + Jx.wrap (UD (UH 64 (Jx.wrap (UD (UH 64 v3 &&& UH 64 v1).toNat)) ||| UH 64 (Jx.wrap (UD (UH 64 y.1 &&& UH 64 v2).toNat))).toNat)) + v5.getD v0.toNat 0) + v7.getD ((Jx.wrap (Jx.wrap ((5:Int) * v0) + 1)).tmod (16:Int)).toNat 0),())).bind fun y => (Zbo k (v0,())).bind fun y_1 => bif decide ((0:Int) ≤ y_1.1) then (Qv k (Jx.wrap (y.1 * (2:Int) ^ min (U3 y_1.1) (64:Nat)),())).bind fun y_2 => bif decide (0 ≤ Jx.wrap ((32:Int) - y_1.1)) then (Qv k (Jx.wrap (Jx.wrap (v1 + y_2.1) + UP y.1 ((2:Int) ^ min (Jx.wrap ((32:Int) - y_1.1)).toNat 64)),())).bind fun y => L6 (Jx.wrap (v0 + 1),y.1,v1,v2,v3,v5,v6,v7,v8,v9) else none else none else none else none else none else bif Jx.wrap (v0.tdiv (16:Int)) == (2:Int) then bif decide (0 ≤ v0 ∧ v0 < UD v5.length) then bif decide ((0:Int) ≤ (Jx.wrap (Jx.wrap ((3:Int) * v0) + 5)).tmod (16:Int) ∧ (Jx.wrap (Jx.wrap ((3:Int) * v0) + 5)).tmod (16:Int) < UD v7.length) then bif decide (((Jx.wrap (Jx.wrap ((3:Int) * v0) + 5)).tmod (16:Int)).toNat < v7.length) then (Qv k (Jx.wrap (Jx.wrap (Jx.wrap (v4 + Jx.wrap (UD (UH 64 (Jx.wrap (UD (UH 64 v1 ^^^ UH 64 v2).toNat)) ^^^ UH 64 v3).toNat)) + v5.getD v0.toNat 0) + v7.getD ((Jx.wrap (Jx.wrap ((3:Int) * v0) + 5)).tmod (16:Int)).toNat 0),())).bind fun y => (Zbo k (v0,())).bind fun y_1 => bif decide ((0:Int) ≤ y_1.1) then (Qv k (Jx.wrap (y.1 * (2:Int) ^ min (U3 y_1.1) (64:Nat)),())).bind fun y_2 => bif decide (0 ≤ Jx.wrap ((32:Int) - y_1.1)) then (Qv k (Jx.wrap (Jx.wrap (v1 + y_2.1) + UP y.1 ((2:Int) ^ min (Jx.wrap ((32:Int) - y_1.1)).toNat 64)),())).bind fun y => L6 (Jx.wrap (v0 + 1),y.1,v1,v2,v3,v5,v6,v7,v8,v9) else none else none else none else none else none else (Qv k (Jx.wrap (UD (UH 64 (-1:Int) ^^^ UH 64 v3).toNat),())).bind fun y => bif decide (0 ≤ v0 ∧ v0 < UD v5.length) then bif decide ((0:Int) ≤ (Jx.wrap ((7:Int) * v0)).tmod (16:Int) ∧ (Jx.wrap ((7:Int) * v0)).tmod (16:Int) < UD v7.length) then bif decide (((Jx.wrap ((7:Int) * v0)).tmod (16:Int)).toNat < v7.length) then (Qv k (Jx.wrap (Jx.wrap (Jx.wrap (v4 + Jx.wrap (UD (UH 64 v2 ^^^ UH 64 (Jx.wrap (UD (UH 64 v1 ||| UH 64 y.1).toNat))).toNat)) + v5.getD v0.toNat 0) + v7.getD ((Jx.wrap ((7:Int) * v0)).tmod (16:Int)).toNat 0),())).bind fun y => (Zbo k (v0,())).bind fun y_1 => bif decide ((0:Int) ≤ y_1.1) then (Qv k (Jx.wrap (y.1 * (2:Int) ^ min (U3 y_1.1) (64:Nat)),())).bind fun y_2 => bif decide (0 ≤ Jx.wrap ((32:Int) - y_1.1)) then (Qv k (Jx.wrap (Jx.wrap (v1 + y_2.1) + UP y.1 ((2:Int) ^ min (Jx.wrap ((32:Int) - y_1.1)).toNat 64)),())).bind fun y => L6 (Jx.wrap (v0 + 1),y.1,v1,v2,v3,v5,v6,v7,v8,v9) else none else none else none else none else none else bif decide ((0:Int) ≤ 0 ∧ (0:Int) < UD v8.length) then bif decide ((0:Nat) < v8.length) then (Qv k (Jx.wrap (v8.getD 0 0 + v4),())).bind fun y => bif decide ((0:Int) ≤ 1 ∧ (1:Int) < UD v8.length) then bif decide ((1:Nat) < v8.length) then (Qv k (Jx.wrap (v8.getD 1 0 + v1),())).bind fun y_1 => bif decide ((0:Int) ≤ 2 ∧ (2:Int) < UD v8.length) then bif decide ((2:Nat) < v8.length) then (Qv k (Jx.wrap (v8.getD 2 0 + v2),())).bind fun y_2 => bif decide ((0:Int) ≤ 3 ∧ (3:Int) < UD v8.length) then bif decide ((3:Nat) < v8.length) then (Qv k (Jx.wrap (v8.getD 3 0 + v3),())).bind fun y_3 => bif decide ((0:Int) ≤ 0 ∧ (0:Int) < UD v8.length) then bif decide ((0:Nat) < v8.length) then bif decide ((0:Int) ≤ 1 ∧ (1:Int) < UD (v8.set (0:Nat) y.1).length) then bif decide ((1:Nat) < (v8.set (0:Nat) y.1).length) then bif decide ((0:Int) ≤ 2 ∧ (2:Int) < UD ((v8.set (0:Nat) y.1).set (1:Nat) y_1.1).length) then bif decide ((2:Nat) < ((v8.set (0:Nat) y.1).set (1:Nat) y_1.1).length) then bif decide ((0:Int) ≤ 3 ∧ (3:Int) < UD (((v8.set (0:Nat) y.1).set (1:Nat) y_1.1).set (2:Nat) y_2.1).length) then bif decide ((3:Nat) < (((v8.set (0:Nat) y.1).set (1:Nat) y_1.1).set (2:Nat) y_2.1).length) then L3 (Jx.wrap (v6 + 64),v5,v9,(((v8.set (0:Nat) y.1).set (1:Nat) y_1.1).set (2:Nat) y_2.1).set (3:Nat) y_3.1) else none else none else none else none else none else none else none else none else none else none else none else none else none else none else none else none
def Zju (k:Nat) (L3:KA):Zjr:=Ze (fun L6 => YT k L3 L6) k
noncomputable def ZtI (k:Nat) (n3:Nat) (n:Nat):=Qj (Zbn k) Tryz.f39 WM Qc [1,1,1,1,1,1,1,0,1,0,0,1,0,0,1,1,1,0,1,0] [n3] n ZM5 (A:=Zbm)
def ZM3:ZzB → St
 | (v0,v1,v2,v3,v4,v5) => St.mk (Zk [(10,Zg v0),(8,Zg v1),(9,AV.own 8192),(3,AV.own 8193),(7,AV.own 8194),(6,We v2)]) (Zj [(8192,rsA v3 false),(8193,RS.live (Res.arr (Ty.int UL) v4 false)),(8194,rsA v5 false)])
def Zax (k:Nat) (L6:Zjr) (L3:KA) (L4:Zjq):Zjq
 | (v0,v1,v2,v3,v4,v5) => bif decide (v0 < Jx.wrap (v1 + 64)) then bif decide (0 ≤ v0 ∧ v0 < UD v4.length) then bif decide (v0.toNat < v4.length) then bif decide (0 ≤ Jx.wrap (v0 + 1) ∧ Jx.wrap (v0 + 1) < UD v4.length) then bif decide ((Jx.wrap (v0 + 1)).toNat < v4.length) then bif decide (0 ≤ Jx.wrap (v0 + 2) ∧ Jx.wrap (v0 + 2) < UD v4.length) then bif decide ((Jx.wrap (v0 + 2)).toNat < v4.length) then bif decide (0 ≤ Jx.wrap (v0 + 3) ∧ Jx.wrap (v0 + 3) < UD v4.length) then bif decide ((Jx.wrap (v0 + 3)).toNat < v4.length) then bif decide (v3.length + [Jx.wrap (Jx.wrap (Jx.wrap (Jx.wrap (v4.getD v0.toNat 0) + Jx.wrap (Jx.wrap (v4.getD (Jx.wrap (v0 + 1)).toNat 0) * (256:Int))) + Jx.wrap (Jx.wrap (v4.getD (Jx.wrap (v0 + 2)).toNat 0) * (65536:Int))) + Jx.wrap (Jx.wrap (v4.getD (Jx.wrap (v0 + 3)).toNat 0) * (16777216:Int)))].length < 2147483648) then L4 (Jx.wrap (v0 + 4),v1,v2,v3 ++ [Jx.wrap (Jx.wrap (Jx.wrap (Jx.wrap (v4.getD v0.toNat 0) + Jx.wrap (Jx.wrap (v4.getD (Jx.wrap (v0 + 1)).toNat 0) * (256:Int))) + Jx.wrap (Jx.wrap (v4.getD (Jx.wrap (v0 + 2)).toNat 0) * (65536:Int))) + Jx.wrap (Jx.wrap (v4.getD (Jx.wrap (v0 + 3)).toNat 0) * (16777216:Int)))],v4,v5) else none else none else none else none else none else none else none else none else none else bif decide ((0:Int) ≤ 0 ∧ (0:Int) < UD v5.length) then bif decide ((0:Nat) < v5.length) then bif decide ((0:Int) ≤ 1 ∧ (1:Int) < UD v5.length) then bif decide ((1:Nat) < v5.length) then bif decide ((0:Int) ≤ 2 ∧ (2:Int) < UD v5.length) then bif decide ((2:Nat) < v5.length) then bif decide ((0:Int) ≤ 3 ∧ (3:Int) < UD v5.length) then bif decide ((3:Nat) < v5.length) then L6 (0,v5.getD 1 0,v5.getD 2 0,v5.getD 3 0,v5.getD 0 0,v2,v1,v3,v5,v4) else none else none else none else none else none else none else none else none
def Ze5 (k:Nat) (L3:KA):Zjq:=Ze (fun L4 => Zax k (Zju k L3) L3 L4) k
noncomputable def ZtH (k:Nat) (n3:Nat) (n:Nat):=Qj (Zbn k) Tryz.f39 WM Qc [1,1,1,1,1,1,1,0,1,0,0,1,0,0,1,0,1,0] [n3] n ZM3 (A:=Zbm)
def ZM6:ZzE → St
 | (v0,v1,v2,v3) => St.mk (Zk [(22,Zg v0),(20,AV.own 8192),(7,AV.own 8193),(21,Zg v1)]) (Zj [(8192,RS.live (Res.arr (Ty.int UL) v2 false)),(8193,rsA v3 false)])
def YU (k:Nat) (L5:ZcF) (L7:Zjs):Zjs
 | (v0,v1,v2,v3) => bif decide (v0 < 4) then bif decide (0 ≤ v1 ∧ v1 < UD v3.length) then bif decide (v1.toNat < v3.length) then bif decide (0 ≤ Jx.wrap ((8:Int) * v0)) then bif decide (v2.length + [UL.wrap (UP (v3.getD v1.toNat 0) ((2:Int) ^ min (Jx.wrap ((8:Int) * v0)).toNat 64))].length < 2147483648) then L7 (Jx.wrap (v0 + 1),v1,v2 ++ [UL.wrap (UP (v3.getD v1.toNat 0) ((2:Int) ^ min (Jx.wrap ((8:Int) * v0)).toNat 64))],v3) else none else none else none else none else L5 (Jx.wrap (v1 + 1),v2,v3)
def KB (k:Nat) (L5:ZcF):Zjs:=Ze (fun L7 => YU k L5 L7) k
noncomputable def ZtJ (k:Nat) (n5:Nat) (n:Nat):=Qj (Zbn k) Tryz.f39 WM Qc [1,1,1,1,1,1,1,1,1,0,1,0,0,1,0,0,1,0] [n5] n ZM6 (A:=Zbm)
def ZM4:ZzC → St
 | (v0,v1,v2) => St.mk (Zk [(21,Zg v0),(20,AV.own 8192),(7,AV.own 8193)]) (Zj [(8192,RS.live (Res.arr (Ty.int UL) v1 false)),(8193,rsA v2 false)])
def YS (k:Nat) (L7:Zjs) (L5:ZcF):ZcF
 | (v0,v1,v2) => bif decide (v0 < 4) then L7 (0,v0,v1,v2) else some (UJ (UT (fun n => UU n.toNat) v1).toArray,())
def Ze6 (k:Nat):ZcF:=Ze (fun L5 => YS k (KB k L5) L5) k
noncomputable def ZgX (k:Nat) (n:Nat):=Qj (Zbn k) Tryz.f39 WM Qc [1,1,1,1,1,1,1,1,1,0,1,0] [] n ZM4 (A:=Zbm)
def ZM2:ZzA → St
 | (v0,v1,v2,v3) => St.mk (Zk [(8,Zg v0),(3,AV.own 8192),(7,AV.own 8193),(6,We v1)]) (Zj [(8192,RS.live (Res.arr (Ty.int UL) v2 false)),(8193,rsA v3 false)])
def YR (k:Nat) (L4:Zjq) (L5:ZcF) (L3:KA):KA
 | (v0,v1,v2,v3) => bif decide (v0 < UD v2.length) then L4 (v0,v0,v1,[],v2,v3) else L5 (0,[],v3)
def Zjt (k:Nat):KA:=Ze (fun L3 => YR k (Ze5 k L3) (Ze6 k) L3) k
noncomputable def YQ (k:Nat) (n:Nat):=Qj (Zbn k) Tryz.f39 WM Qc [1,1,1,1,1,1,1,0,1,0] [] n ZM2 (A:=Zbm)
def ZM1:Zp9 → St
 | (v0,v1,v2) => St.mk (Zk [(5,Zg v0),(3,AV.own 8192),(4,Zg v1)]) (Zj [(8192,RS.live (Res.arr (Ty.int UL) v2 false))])
def Zaw (k:Nat) (L3:KA) (L2:Kz):Kz
 | (v0,v1,v2) => bif decide (v0 < 8) then bif decide (0 ≤ Jx.wrap ((8:Int) * v0)) then bif decide (v2.length + [UL.wrap (v1.fdiv ((2:Int) ^ min (Jx.wrap ((8:Int) * v0)).toNat 64))].length < 2147483648) then L2 (Jx.wrap (v0 + 1),v1,v2 ++ [UL.wrap (v1.fdiv ((2:Int) ^ min (Jx.wrap ((8:Int) * v0)).toNat 64))]) else none else none else (Zwh k ()).bind fun y => L3 (0,y.1,v2,[(1732584193:Int),(4023233417:Int),(2562383102:Int),(271733878:Int)])
def Zqb (k:Nat):Kz:=Ze (fun L2 => Zaw k (Zjt k) L2) k
noncomputable def ZtG (k:Nat) (n:Nat):=Qj (Zbn k) Tryz.f39 WM Qc [1,1,1,1,0,1,0] [] n ZM1 (A:=Zbm)
def ZM0:Zzz → St
 | (v0,v1) => St.mk (Zk [(3,AV.own 8192),(0,AV.val (PV.v (UR v0)))]) (Zj [(8192,RS.live (Res.arr (Ty.int UL) v1 false))])
def Xr (k:Nat) (L2:Kz) (L1:Zjp):Zjp
 | (v0,v1) => bif (UD v1.length).tmod (64:Int) != 56 then bif decide (v1.length + (1:Nat) < (2147483648:Nat)) then L1 (v0,v1 ++ [(0:Int)]) else none else L2 (0,Jx.wrap ((8:Int) * UD v0.size),v1)
def Zqa (k:Nat):Zjp:=Ze (fun L1 => Xr k (Zqb k) L1) k
noncomputable def ZtF (k:Nat) (n:Nat):=Qj (Zbn k) Tryz.f39 WM Qc [1,1,0,0] [] n ZM0 (A:=Zbm)
def ZdR (k:Nat) (L1:Zjp):ByteArray × Unit → Option (ByteArray × Unit)
 | (a0,()) => bif decide (a0.size < 1099511627776) then bif decide ((UT (fun b => UD b.toNat) a0.data.toList).length + (1:Nat) < (2147483648:Nat)) then L1 (a0,UT (fun b => UD b.toNat) a0.data.toList ++ [(128:Int)]) else none else none
def ZoC (k:Nat):=ZdR k (Zqa k)
theorem ZCP (k:Nat) (n3:Nat):∀ n,ZtI k n3 n = Ze (fun L6 => YT k (YQ k n3) L6) n:=ZG
theorem ZCN (k:Nat) (n3:Nat):∀ n,ZtH k n3 n = Ze (fun L4 => Zax k (Zju k (YQ k n3)) (YQ k n3) L4) n:=ZG (fun n v => by rw [show (Zju k (YQ k n3)) = ZtI k n3 k from (ZCP k n3 k).symm]; kernel_rfl)
theorem ZCQ (k:Nat) (n5:Nat):∀ n,ZtJ k n5 n = Ze (fun L7 => YU k (ZgX k n5) L7) n:=ZG
theorem ZCO (k:Nat):∀ n,ZgX k n = Ze (fun L5 => YS k (KB k L5) L5) n:=ZG (fun n v => by rw [show (KB k (ZgX k n)) = ZtJ k n k from (ZCQ k n k).symm]; kernel_rfl)
theorem ZCM (k:Nat):∀ n,YQ k n = Ze (fun L3 => YR k (Ze5 k L3) (Ze6 k) L3) n:=ZG (fun n v => by rw [show (Ze5 k (YQ k n)) = ZtH k n k from (ZCN k n k).symm,show (Ze6 k) = ZgX k k from (ZCO k k).symm]; kernel_rfl)
theorem ZCL (k:Nat):∀ n,ZtG k n = Ze (fun L2 => Zaw k (Zjt k) L2) n:=ZG (fun n v => by rw [show (Zjt k) = YQ k k from (ZCM k k).symm]; kernel_rfl)
theorem ZCK (k:Nat):∀ n,ZtF k n = Ze (fun L1 => Xr k (Zqb k) L1) n:=ZG (fun n v => by rw [show (Zqb k) = ZtG k k from (ZCL k k).symm]; kernel_rfl)
noncomputable def ZST (k:Nat):ZA k:=Zx 39 Tryz.f39 (Zbn k) WM Qc ZoC (A:=Zbm) (h:=fun x => by show _ = ZdR k (Zqa k) x; rw [show Zqa k = ZtF k k from (ZCK k k).symm]; kernel_rfl)
noncomputable def Zow (k:Nat):List (ZA k):=[ZST k]
def Zov:Nat → Ann:=fun id => bif Ja id 11 then ⟨[8,4,3,7,6,1,5],[.slot 3 ((Ty.int UL))]⟩ else bif Ja id 7 then ⟨[6,1,5,4,3],[.slot 3 ((Ty.int UL))]⟩ else bif Ja id 4 then ⟨[5,1,4,3],[.slot 3 ((Ty.int UL))]⟩ else ⟨[],[]⟩
abbrev Zzm:=Int × Int × Int × Int × Int × List Int × Int × Int × Int × List ByteArray × List (List Int)
abbrev Zja:=Zzm → Option (ByteArray × Unit)
abbrev Zzl:=Int × Int × Int × Int × Int × Int × List ByteArray × List (List Int) × List Int
abbrev ZcC:=Zzl → Option (ByteArray × Unit)
abbrev Kx:=Zi5 → Option (ByteArray × Unit)
def ZMO:Zzm → St
 | (v0,v1,v2,v3,v4,v5,v6,v7,v8,v9,v10) => St.mk (Zk [(8,Zg v0),(4,Zg v1),(3,AV.own 8192),(7,Zg v2),(6,Zg v3),(1,AV.bx 8193 0),(5,Zg v4)]) (Zj [(8192,RS.live (Res.arr (Ty.int UL) v5 false)),(8193,QG [Zg v6,Zg v7,Zg v8,AV.val (PV.sl Ty.str v9),AV.val (PV.sl (Ty.int Jx).sl v10)])])
def Zao (k:Nat) (L1:Kx) (L2:ZcC) (L3:Zja):Zja
 | (v0,v1,v2,v3,v4,v5,v6,v7,v8,v9,v10) => bif decide (v0 < v1) then bif decide (0 ≤ Jx.wrap ((8:Int) * v0)) then bif decide (v5.length + [UL.wrap (v2.fdiv ((2:Int) ^ min (Jx.wrap ((8:Int) * v0)).toNat 64))].length < 2147483648) then L3 (Jx.wrap (v0 + 1),v1,v2,v3,v4,v5 ++ [UL.wrap (v2.fdiv ((2:Int) ^ min (Jx.wrap ((8:Int) * v0)).toNat 64))],v6,v7,v8,v9,v10) else none else none else L2 (Jx.wrap (v3 + 1),v4,v1,v6,v7,v8,v9,v10,v5)
def Zjb (k:Nat) (L1:Kx) (L2:ZcC):Zja:=Ze (fun L3 => Zao k L1 L2 L3) k
noncomputable def Ztw (k:Nat) (n1 n2:Nat) (n:Nat):=Qj (Zow k) Tryz.f17 Qn Qc [1,1,1,0,1,0,0,1,0,0,1,0,0,1,0,0,1,1,0] [n1,n2] n ZMO (A:=Zov)
def ZMN:Zzl → St
 | (v0,v1,v2,v3,v4,v5,v6,v7,v8) => St.mk (Zk [(6,Zg v0),(1,AV.bx 8192 0),(5,Zg v1),(4,Zg v2),(3,AV.own 8193)]) (Zj [(8192,QG [Zg v3,Zg v4,Zg v5,AV.val (PV.sl Ty.str v6),AV.val (PV.sl (Ty.int Jx).sl v7)]),(8193,RS.live (Res.arr (Ty.int UL) v8 false))])
def Zan (k:Nat) (L3:Zja) (L1:Kx) (L2:ZcC):ZcC
 | (v0,v1,v2,v3,v4,v5,v6,v7,v8) => bif decide (v0 < UD v7.length) then bif decide (0 ≤ v0 ∧ v0 < UD v7.length) then bif decide (0 ≤ v1 ∧ v1 < UD (UK (v7.getD v0.toNat []))) then L3 (0,v2,US (v7.getD v0.toNat []) v1.toNat 0,v0,v1,v8,v3,v4,v5,v6,v7) else none else none else L1 (Jx.wrap (v1 + 1),v2,v3,v4,v5,v6,v7,v8)
def Ze4 (k:Nat) (L1:Kx):ZcC:=Ze (fun L2 => Zan k (Zjb k L1 L2) L1 L2) k
noncomputable def ZgW (k:Nat) (n1:Nat) (n:Nat):=Qj (Zow k) Tryz.f17 Qn Qc [1,1,1,0,1,0,0,1,0,0,1,0] [n1] n ZMN (A:=Zov)
def ZMM:Zi5 → St
 | (v0,v1,v2,v3,v4,v5,v6,v7) => St.mk (Zk [(5,Zg v0),(1,AV.bx 8192 0),(4,Zg v1),(3,AV.own 8193)]) (Zj [(8192,QG [Zg v2,Zg v3,Zg v4,AV.val (PV.sl Ty.str v5),AV.val (PV.sl (Ty.int Jx).sl v6)]),(8193,RS.live (Res.arr (Ty.int UL) v7 false))])
def Zam (k:Nat) (L2:ZcC) (L1:Kx):Kx
 | (v0,v1,v2,v3,v4,v5,v6,v7) => bif decide ((0:Int) ≤ 0 ∧ (0:Int) < UD v6.length) then bif decide (v0 < UD (UK (v6.getD 0 []))) then L2 (0,v0,v1,v2,v3,v4,v5,v6,v7) else (ZoC k (UJ (UT (fun n => UU n.toNat) v7).toArray,())).bind fun y => some (y.1,()) else none
def Zp2 (k:Nat):Kx:=Ze (fun L1 => Zam k (Ze4 k L1) L1) k
noncomputable def YP (k:Nat) (n:Nat):=Qj (Zow k) Tryz.f17 Qn Qc [1,1,1,0,1,0] [] n ZMM (A:=Zov)
def ZdK (k:Nat) (L1:Kx):((Int × Int × Int × Unit) × List ByteArray × List (List Int) × Unit) × Unit → Option (ByteArray × Unit)
 | (((a0,a1,a2,()),a3,a4,()),()) => L1 (0,Jx.wrap ((Jx.wrap (a1 + 7)).tdiv (8:Int)),a0,a1,a2,a3,a4,[])
def ZvV (k:Nat):=ZdK k (Zp2 k)
theorem ZCv (k:Nat) (n1 n2:Nat):∀ n,Ztw k n1 n2 n = Ze (fun L3 => Zao k (YP k n1) (ZgW k n1 n2) L3) n:=ZG
theorem ZCu (k:Nat) (n1:Nat):∀ n,ZgW k n1 n = Ze (fun L2 => Zan k (Zjb k (YP k n1) L2) (YP k n1) L2) n:=ZG (fun n v => by rw [show (Zjb k (YP k n1) (ZgW k n1 n)) = Ztw k n1 n k from (ZCv k n1 n k).symm]; kernel_rfl)
theorem ZCt (k:Nat):∀ n,YP k n = Ze (fun L1 => Zam k (Ze4 k L1) L1) n:=ZG (fun n v => by rw [show (Ze4 k (YP k n)) = ZgW k n k from (ZCu k n k).symm]; kernel_rfl)
noncomputable def ZSC (k:Nat):ZA k:=Zx 17 Tryz.f17 (Zow k) Qn Qc ZvV (A:=Zov) (h:=fun x => by show _ = ZdK k (Zp2 k) x; rw [show Zp2 k = YP k k from (ZCt k k).symm]; kernel_rfl)
def ZhL (k:Nat):((Int × Int × Int × Unit) × List ByteArray × List (List Int) × Unit) × Unit → Option (Bool × Unit)
 | (((a0,a1,a2,()),a3,a4,()),()) => bif decide ((0:Int) < UD a4.length) then bif decide ((0:Int) ≤ 0 ∧ (0:Int) < UD a4.length) then some (decide ((120:Int) < UD (UK (a4.getD 0 []))),()) else none else some (false,())
def ZvW (k:Nat):=ZhL k
noncomputable def ZSD (k:Nat):ZA k:=Zx 18 Tryz.f18 [] Qn Q1 ZvW
def ZhP (k:Nat):((Int × Int × Int × Unit) × List ByteArray × List (List Int) × Unit) × Int × Unit → Option (Int × Unit)
 | (((a0,a1,a2,()),a3,a4,()),a5,()) => bif decide ((0:Int) ≤ 0 ∧ (0:Int) < UD a4.length) then bif decide ¬a5 = (0:Int) then some (Jx.wrap ((Jx.wrap (Jx.wrap (UD (UK (a4.getD 0 [])) + a5) - 1)).tdiv a5),()) else none else none
def Zv5 (k:Nat):=ZhP k
noncomputable def ZSU (k:Nat):ZA k:=Zx 40 Tryz.f40 [] W7 Z7 Zv5
noncomputable def ZFt (k:Nat):List (ZA k):=[]
def ZFs:Nat → Ann:=fun id => bif Ja id 3 then ⟨[8,3,7,1,2,6],[.cell 7 1 ((Ty.int Jx).sl)]⟩ else ⟨[],[]⟩
abbrev ZzG:=Int × Int × Int × Int × Int × Int × List ByteArray × List (List Int) × Int × List (List Int) × Int
abbrev Zjv:=ZzG → Option ((Int × List (List Int) × Unit) × Unit)
def ZM7:ZzG → St
 | (v0,v1,v2,v3,v4,v5,v6,v7,v8,v9,v10) => St.mk (Zk [(8,Zg v0),(3,AV.bx 8192 0),(7,AV.bx 8193 0),(1,Zg v1),(2,Zg v2),(6,AV.bx 8195 0)]) (Zj [(8192,QG [Zg v3,Zg v4,Zg v5,AV.val (PV.sl Ty.str v6),AV.val (PV.sl (Ty.int Jx).sl v7)]),(8193,QG [Zg v8,AV.own 8194]),(8194,RS.live (Res.arr (Ty.int Jx).sl v9 false)),(8195,QG [Zg v10,AV.val (PV.v (V4 none (0:Nat) (0:Nat)))])])
def Zay (k:Nat) (L1:Zjv):Zjv
 | (v0,v1,v2,v3,v4,v5,v6,v7,v8,v9,v10) => bif decide (v0 < UD v7.length) then bif decide (0 ≤ v0 ∧ v0 < UD v7.length) then bif decide (0 ≤ Jx.wrap (v1 * v2) ∧ (Jx.wrap (v1 * v2) ≤ if UD (UK (v7.getD v0.toNat [])) < Jx.wrap (Jx.wrap (v1 + 1) * v2) then UD (UK (v7.getD v0.toNat [])) else Jx.wrap (Jx.wrap (v1 + 1) * v2)) ∧ (if UD (UK (v7.getD v0.toNat [])) < Jx.wrap (Jx.wrap (v1 + 1) * v2) then UD (UK (v7.getD v0.toNat [])) else Jx.wrap (Jx.wrap (v1 + 1) * v2)) ≤ UD (UK (v7.getD v0.toNat []))) then bif decide (v9.length + [UN (Jx.wrap (v1 * v2)).toNat (UO (if UD (UK (v7.getD v0.toNat [])) < Jx.wrap (Jx.wrap (v1 + 1) * v2) then UD (UK (v7.getD v0.toNat [])) else Jx.wrap (Jx.wrap (v1 + 1) * v2)).toNat (v7.getD v0.toNat []))].length < 2147483648) then L1 (Jx.wrap (v0 + 1),v1,v2,v3,v4,v5,v6,v7,v8,v9 ++ [UN (Jx.wrap (v1 * v2)).toNat (UO (if UD (UK (v7.getD v0.toNat [])) < Jx.wrap (Jx.wrap (v1 + 1) * v2) then UD (UK (v7.getD v0.toNat [])) else Jx.wrap (Jx.wrap (v1 + 1) * v2)).toNat (v7.getD v0.toNat []))],v10) else none else none else none else some ((v8,v9,()),())
def Zqc (k:Nat):Zjv:=Ze (fun L1 => Zay k L1) k
noncomputable def ZtK (k:Nat) (n:Nat):=Qj (ZFt k) Tryz.f42 Zjx Zjy [1,1,0,1,0] [] n ZM7 (A:=ZFs)
def Zqd (k:Nat) (L1:Zjv):((Int × Int × Int × Unit) × List ByteArray × List (List Int) × Unit) × Int × Int × Unit → Option ((Int × List (List Int) × Unit) × Unit)
 | (((a0,a1,a2,()),a3,a4,()),a5,a6,()) => L1 (0,a5,a6,a0,a1,a2,a3,a4,a5,[],(0:Int))
def Zv6 (k:Nat):=Zqd k (Zqc k)
theorem ZCS (k:Nat):∀ n,ZtK k n = Ze (fun L1 => Zay k L1) n:=ZG
noncomputable def ZSV (k:Nat):ZA k:=Zx 42 Tryz.f42 (ZFt k) Zjx Zjy Zv6 (A:=ZFs) (h:=fun x => by show _ = Zqd k (Zqc k) x; rw [show Zqc k = ZtK k k from (ZCS k k).symm]; kernel_rfl)
abbrev Zzo:Kd:=.tup [.view (.sl .str),.view (.int .i64)]
noncomputable def ZFb (k:Nat):List (ZA k):=[ZSu k,ZSU k,ZXY k,ZSV k]
def ZE9:Nat → Ann:=fun id => bif Ja id 8 then ⟨[8,2,1,7],[.slot 7 (Ty.str)]⟩ else ⟨[],[]⟩
abbrev Zzn:=Int × Int × Int × Int × Int × List ByteArray × List (List Int) × List ByteArray
abbrev Zjc:=Zzn → Option ((List ByteArray × Int × Unit) × Unit)
def ZMP:Zzn → St
 | (v0,v1,v2,v3,v4,v5,v6,v7) => St.mk (Zk [(8,Zg v0),(2,AV.bx 8192 0),(1,Zg v1),(7,AV.own 8193)]) (Zj [(8192,QG [Zg v2,Zg v3,Zg v4,AV.val (PV.sl Ty.str v5),AV.val (PV.sl (Ty.int Jx).sl v6)]),(8193,RS.live (Res.arr Ty.str v7 false))])
noncomputable def Zap (k:Nat) (L1:Zjc):Zjc
 | (v0,v1,v2,v3,v4,v5,v6,v7) => (Zv5 k (((v2,v3,v4,()),v5,v6,()),v1,())).bind fun y => bif decide (v0 < y.1) then (Zv6 k (((v2,v3,v4,()),v5,v6,()),v0,v1,())).bind fun y => (ZEX k ((v2,v3,v4,()),(y.1.1,y.1.2.1,()),())).bind fun y => bif decide (v7.length + [y.1.1].length < 2147483648) then L1 (Jx.wrap (v0 + 1),v1,v2,v3,v4,v5,v6,v7 ++ [y.1.1]) else none else some ((v7,0,()),())
noncomputable def Zp3 (k:Nat):Zjc:=Ze (fun L1 => Zap k L1) k
noncomputable def Ztx (k:Nat) (n:Nat):=Qj (ZFb k) Tryz.f19 W7 Zzo [1,1,1,1,1,0,1,0] [] n ZMP (A:=ZE9)
def ZdL (k:Nat) (L1:Zjc):((Int × Int × Int × Unit) × List ByteArray × List (List Int) × Unit) × Int × Unit → Option ((List ByteArray × Int × Unit) × Unit)
 | (((a0,a1,a2,()),a3,a4,()),a5,()) => (ZvT k (((a0,a1,a2,()),a3,a4,()),())).bind fun y => bif y.1 != 0 then some (([],y.1,()),()) else bif decide (a5 < 16) then some (([],1,()),()) else bif decide ((512:Int) < a5) then some (([],1,()),()) else L1 (0,a5,a0,a1,a2,a3,a4,[])
noncomputable def Zox (k:Nat):=ZdL k (Zp3 k)
theorem ZCx (k:Nat):∀ n,Ztx k n = Ze (fun L1 => Zap k L1) n:=ZG
set_option maxHeartbeats 1000000 in
noncomputable def ZFa (k:Nat):ZA k:=Zx 19 Tryz.f19 (ZFb k) W7 Zzo Zox (A:=ZE9) (h:=fun x => by show _ = ZdL k (Zp3 k) x; rw [show Zp3 k = Ztx k k from (ZCx k k).symm]; kernel_rfl)
def ZDf (k:Nat):Int × Unit → Option (ByteArray × Unit)
 | (a0,()) => some (UJ (UT (fun n => UU n.toNat) [UL.wrap a0,UL.wrap (a0.fdiv (256:Int)),UL.wrap (a0.fdiv (65536:Int)),UL.wrap (a0.fdiv (16777216:Int))]).toArray,())
def KV (k:Nat):=ZDf k
noncomputable def ZTf (k:Nat):ZA k:=Zx 100 Tryz.f100 [] Zqo Qc KV
noncomputable def ZoE (k:Nat):List (ZA k):=[ZSC k,ZmT k,ZOm k,ZTf k]
def ZoD:Nat → Ann:=fun id => bif Ja id 22 then ⟨[16,3,15,12],[]⟩ else bif Ja id 15 then ⟨[14,2,11,1,13,7,12,3],[]⟩ else bif Ja id 4 then ⟨[10,2,8,9,1,3,7],[]⟩ else ⟨[],[]⟩
abbrev ZzL:=Int × ByteArray × ByteArray × Int × Int × Int × List ByteArray × List (List Int)
abbrev Ze7:=ZzL → Option (ByteArray × Unit)
abbrev ZzK:=Int × List Int × ByteArray × Int × Int × Int × ByteArray × Int × Int × Int × List ByteArray × List (List Int)
abbrev ZjA:=ZzK → Option (ByteArray × Unit)
abbrev ZzJ:=Int × List Int × Int × Int × Int × Int × Int × Int × Int × List ByteArray × List (List Int)
abbrev Zjz:=ZzJ → Option (ByteArray × Unit)
def ZNb:ZzL → St
 | (v0,v1,v2,v3,v4,v5,v6,v7) => St.mk (Zk [(16,Zg v0),(3,AV.bx 8192 0),(15,AV.val (PV.v (UR v1))),(12,AV.val (PV.v (UR v2)))]) (Zj [(8192,QG [Zg v3,Zg v4,Zg v5,AV.val (PV.sl Ty.str v6),AV.val (PV.sl (Ty.int Jx).sl v7)])])
def ZaB (k:Nat) (L3:Ze7):Ze7
 | (v0,v1,v2,v3,v4,v5,v6,v7) => bif decide (v0 < UD v6.length) then bif decide (0 ≤ v0 ∧ v0 < UD v6.length) then (KV k (UD (UM (v6.getD v0.toNat (UJ #[]))),())).bind fun y => bif decide (v1.size + UM y.1 < 1099511627776) then bif decide (0 ≤ v0 ∧ v0 < UD v6.length) then bif decide ((v1 ++ y.1).size + UM (v6.getD v0.toNat (UJ #[])) < (1099511627776:Nat)) then L3 (Jx.wrap (v0 + 1),v1 ++ y.1 ++ v6.getD v0.toNat (UJ #[]),v2,v3,v4,v5,v6,v7) else none else none else none else none else (Qy k (132,8,())).bind fun y => (Qy k (UD v1.size,24,())).bind fun y_1 => bif decide (UM y.1 + UM y_1.1 < 1099511627776) then (ZmU k (y.1 ++ y_1.1,())).bind fun y => bif decide (v2.size + (UJ (UT (fun n => UU n.toNat) y.1).toArray).size < 1099511627776) then bif decide ((v2 ++ UJ (UT (fun n => UU n.toNat) y.1).toArray).size + v1.size < 1099511627776) then some (v2 ++ UJ (UT (fun n => UU n.toNat) y.1).toArray ++ v1,()) else none else none else none
def Xs (k:Nat):Ze7:=Ze (fun L3 => ZaB k L3) k
noncomputable def ZlT (k:Nat) (n:Nat):=Qj (ZoE k) Tryz.f45 KC Qc [1,1,1,1,1,1,1,1,0,1,0] [] n ZNb (A:=ZoD)
def ZNa:ZzK → St
 | (v0,v1,v2,v3,v4,v5,v6,v7,v8,v9,v10,v11) => St.mk (Zk [(14,Zg v0),(2,We v1),(11,AV.val (PV.v (UR v2))),(1,Zg v3),(13,Zg v4),(7,Zg v5),(12,AV.val (PV.v (UR v6))),(3,AV.bx 8192 0)]) (Zj [(8192,QG [Zg v7,Zg v8,Zg v9,AV.val (PV.sl Ty.str v10),AV.val (PV.sl (Ty.int Jx).sl v11)])])
def ZaA (k:Nat) (L3:Ze7) (L2:ZjA):ZjA
 | (v0,v1,v2,v3,v4,v5,v6,v7,v8,v9,v10,v11) => bif decide (v0 < UD v1.length) then (Qy k (Jx.wrap (v0 * v3),64,())).bind fun y => bif decide (v2.size + UM y.1 < 1099511627776) then (Qy k (v4,64,())).bind fun y_1 => bif decide ((v2 ++ y.1).size + UM y_1.1 < 1099511627776) then (Qy k (if Jx.wrap (v5 - Jx.wrap (v0 * v3)) < v3 then Jx.wrap (v5 - Jx.wrap (v0 * v3)) else v3,16,())).bind fun y_2 => bif decide ((v2 ++ y.1 ++ y_1.1).size + UM y_2.1 < 1099511627776) then bif decide (0 ≤ v0 ∧ v0 < UD v1.length) then L2 (Jx.wrap (v0 + 1),v1,v2 ++ y.1 ++ y_1.1 ++ y_2.1,v3,Jx.wrap (v4 + v1.getD v0.toNat 0),v5,v6,v7,v8,v9,v10,v11) else none else none else none else none else (ZmU k (v2,())).bind fun y => bif decide (v6.size + (UJ (UT (fun n => UU n.toNat) y.1).toArray).size < 1099511627776) then (KV k (7,())).bind fun y_1 => bif decide (UM y_1.1 + (7:Nat) < (1099511627776:Nat)) then (KV k (UD v10.length,())).bind fun y_2 => bif decide ((y_1.1 ++ UJ #[115,104,101,108,108,97,99]).size + UM y_2.1 < 1099511627776) then L3 (0,y_1.1 ++ UJ #[115,104,101,108,108,97,99] ++ y_2.1,v6 ++ UJ (UT (fun n => UU n.toNat) y.1).toArray,v7,v8,v9,v10,v11) else none else none else none
def ZcG (k:Nat):ZjA:=Ze (fun L2 => ZaA k (Xs k) L2) k
noncomputable def ZtN (k:Nat) (n:Nat):=Qj (ZoE k) Tryz.f45 KC Qc [1,1,1,1,1,1,0,1,0,1,1,0,1,0] [] n ZNa (A:=ZoD)
def ZM9:ZzJ → St
 | (v0,v1,v2,v3,v4,v5,v6,v7,v8,v9,v10) => St.mk (Zk [(10,Zg v0),(2,We v1),(8,Zg v2),(9,Zg v3),(1,Zg v4),(3,AV.bx 8192 0),(7,Zg v5)]) (Zj [(8192,QG [Zg v6,Zg v7,Zg v8,AV.val (PV.sl Ty.str v9),AV.val (PV.sl (Ty.int Jx).sl v10)])])
def YV (k:Nat) (L2:ZjA) (L3:Ze7) (L1:Zjz):Zjz
 | (v0,v1,v2,v3,v4,v5,v6,v7,v8,v9,v10) => bif decide (v0 < UD v1.length) then bif v0 == 0 then bif decide (0 ≤ v0 ∧ v0 < UD v1.length) then bif decide (0 ≤ v0 ∧ v0 < UD v1.length) then L1 (Jx.wrap (v0 + 1),v1,v1.getD v0.toNat 0,if v3 < v1.getD v0.toNat 0 then v1.getD v0.toNat 0 else v3,v4,v5,v6,v7,v8,v9,v10) else none else none else bif decide (0 ≤ v0 ∧ v0 < UD v1.length) then bif decide (v1.getD v0.toNat 0 < v2) then bif decide (0 ≤ v0 ∧ v0 < UD v1.length) then bif decide (0 ≤ v0 ∧ v0 < UD v1.length) then L1 (Jx.wrap (v0 + 1),v1,v1.getD v0.toNat 0,if v3 < v1.getD v0.toNat 0 then v1.getD v0.toNat 0 else v3,v4,v5,v6,v7,v8,v9,v10) else none else none else bif decide (0 ≤ v0 ∧ v0 < UD v1.length) then L1 (Jx.wrap (v0 + 1),v1,v2,if v3 < v1.getD v0.toNat 0 then v1.getD v0.toNat 0 else v3,v4,v5,v6,v7,v8,v9,v10) else none else none else (Qy k (0,8,())).bind fun y => (Qy k (34,24,())).bind fun y_1 => bif decide (UM y.1 + UM y_1.1 < 1099511627776) then (Qy k (v4,16,())).bind fun y_2 => bif decide ((y.1 ++ y_1.1).size + UM y_2.1 < 1099511627776) then (Qy k (v4,16,())).bind fun y_3 => bif decide ((y.1 ++ y_1.1 ++ y_2.1).size + UM y_3.1 < 1099511627776) then (Qy k (v2,24,())).bind fun y_4 => bif decide ((y.1 ++ y_1.1 ++ y_2.1 ++ y_3.1).size + UM y_4.1 < 1099511627776) then (Qy k (v3,24,())).bind fun y_5 => bif decide ((y.1 ++ y_1.1 ++ y_2.1 ++ y_3.1 ++ y_4.1).size + UM y_5.1 < 1099511627776) then (Qy k (v8,20,())).bind fun y_6 => bif decide ((y.1 ++ y_1.1 ++ y_2.1 ++ y_3.1 ++ y_4.1 ++ y_5.1).size + UM y_6.1 < 1099511627776) then (Qy k (Jx.wrap (v6 - 1),3,())).bind fun y_7 => bif decide ((y.1 ++ y_1.1 ++ y_2.1 ++ y_3.1 ++ y_4.1 ++ y_5.1 ++ y_6.1).size + UM y_7.1 < 1099511627776) then (Qy k (Jx.wrap (v7 - 1),5,())).bind fun y_8 => bif decide ((y.1 ++ y_1.1 ++ y_2.1 ++ y_3.1 ++ y_4.1 ++ y_5.1 ++ y_6.1 ++ y_7.1).size + UM y_8.1 < 1099511627776) then (Qy k (v5,36,())).bind fun y_9 => bif decide ((y.1 ++ y_1.1 ++ y_2.1 ++ y_3.1 ++ y_4.1 ++ y_5.1 ++ y_6.1 ++ y_7.1 ++ y_8.1).size + UM y_9.1 < 1099511627776) then (ZmU k (y.1 ++ y_1.1 ++ y_2.1 ++ y_3.1 ++ y_4.1 ++ y_5.1 ++ y_6.1 ++ y_7.1 ++ y_8.1 ++ y_9.1,())).bind fun y => bif decide ((4:Nat) + (UJ (UT (fun n => UU n.toNat) y.1).toArray).size < 1099511627776) then (ZvV k (((v6,v7,v8,()),v9,v10,()),())).bind fun y_10 => bif decide ((UJ #[102,76,97,67] ++ UJ (UT (fun n => UU n.toNat) y.1).toArray).size + UM y_10.1 < 1099511627776) then bif decide ((2:Int) ≤ UD v1.length) then (Qy k (3,8,())).bind fun y_11 => (Qy k (Jx.wrap ((18:Int) * UD v1.length),24,())).bind fun y_12 => bif decide (UM y_11.1 + UM y_12.1 < 1099511627776) then L2 (0,v1,y_11.1 ++ y_12.1,v4,(0:Int),v5,UJ #[102,76,97,67] ++ UJ (UT (fun n => UU n.toNat) y.1).toArray ++ y_10.1,v6,v7,v8,v9,v10) else none else (KV k (7,())).bind fun y_11 => bif decide (UM y_11.1 + (7:Nat) < (1099511627776:Nat)) then (KV k (UD v9.length,())).bind fun y_12 => bif decide ((y_11.1 ++ UJ #[115,104,101,108,108,97,99]).size + UM y_12.1 < 1099511627776) then L3 (0,y_11.1 ++ UJ #[115,104,101,108,108,97,99] ++ y_12.1,UJ #[102,76,97,67] ++ UJ (UT (fun n => UU n.toNat) y.1).toArray ++ y_10.1,v6,v7,v8,v9,v10) else none else none else none else none else none else none else none else none else none else none else none else none else none
def ZjB (k:Nat):Zjz:=Ze (fun L1 => YV k (ZcG k) (Xs k) L1) k
noncomputable def ZtM (k:Nat) (n:Nat):=Qj (ZoE k) Tryz.f45 KC Qc [1,1,1,0,1,0] [] n ZM9 (A:=ZoD)
def ZdS (k:Nat) (L1:Zjz):((Int × Int × Int × Unit) × List ByteArray × List (List Int) × Unit) × Int × List Int × Unit → Option (ByteArray × Unit)
 | (((a0,a1,a2,()),a3,a4,()),a5,a6,()) => bif decide ((0:Int) ≤ 0 ∧ (0:Int) < UD a4.length) then L1 (0,a6,(0:Int),(0:Int),a5,UD (UK (a4.getD 0 [])),a0,a1,a2,a3,a4) else none
def Zv8 (k:Nat):=ZdS k (ZjB k)
theorem Zqg (k:Nat):∀ n,ZlT k n = Ze (fun L3 => ZaB k L3) n:=ZG
theorem ZCX (k:Nat):∀ n,ZtN k n = Ze (fun L2 => ZaA k (Xs k) L2) n:=ZG (fun n v => by rw [show (Xs k) = ZlT k k from (Zqg k k).symm]; kernel_rfl)
theorem ZCW (k:Nat):∀ n,ZtM k n = Ze (fun L1 => YV k (ZcG k) (Xs k) L1) n:=ZG (fun n v => by rw [show (ZcG k) = ZtN k k from (ZCX k k).symm,show (Xs k) = ZlT k k from (Zqg k k).symm]; kernel_rfl)
noncomputable def ZS0 (k:Nat):ZA k:=Zx 45 Tryz.f45 (ZoE k) KC Qc Zv8 (A:=ZoD) (h:=fun x => by show _ = ZdS k (ZjB k) x; rw [show ZjB k = ZtM k k from (ZCW k k).symm]; kernel_rfl)
noncomputable def ZFg (k:Nat):List (ZA k):=[ZFa k,ZS0 k]
def ZFf:Nat → Ann:=fun id => bif Ja id 7 then ⟨[10,6,8,9,2,1],[.slot 8 ((Ty.int Jx))]⟩ else ⟨[],[]⟩
abbrev Zzr:=Int × List ByteArray × ByteArray × Int × List Int × Int × Int × Int × List ByteArray × List (List Int)
abbrev Zje:=Zzr → Option ((ByteArray × Int × Unit) × Unit)
def ZMR:Zzr → St
 | (v0,v1,v2,v3,v4,v5,v6,v7,v8,v9) => St.mk (Zk [(10,Zg v0),(6,AV.val (PV.sl Ty.str v1)),(8,AV.own 8192),(9,AV.val (PV.v (UR v2))),(2,AV.bx 8193 0),(1,Zg v3)]) (Zj [(8192,rsA v4 false),(8193,QG [Zg v5,Zg v6,Zg v7,AV.val (PV.sl Ty.str v8),AV.val (PV.sl (Ty.int Jx).sl v9)])])
def Zar (k:Nat) (L1:Zje):Zje
 | (v0,v1,v2,v3,v4,v5,v6,v7,v8,v9) => bif decide (v0 < UD v1.length) then bif decide (0 ≤ v0 ∧ v0 < UD v1.length) then bif decide (v4.length + [UD (UM (v1.getD v0.toNat (UJ #[])))].length < 2147483648) then bif decide (0 ≤ v0 ∧ v0 < UD v1.length) then bif decide (v2.size + UM (v1.getD v0.toNat (UJ #[])) < (1099511627776:Nat)) then L1 (Jx.wrap (v0 + 1),v1,v2 ++ v1.getD v0.toNat (UJ #[]),v3,v4 ++ [UD (UM (v1.getD v0.toNat (UJ #[])))],v5,v6,v7,v8,v9) else none else none else none else none else (Zv8 k (((v5,v6,v7,()),v8,v9,()),v3,v4,())).bind fun y => bif decide (UM y.1 + v2.size < 1099511627776) then some ((y.1 ++ v2,0,()),()) else none
def Zjf (k:Nat):Zje:=Ze (fun L1 => Zar k L1) k
noncomputable def Ztz (k:Nat) (n:Nat):=Qj (ZFg k) Tryz.f21 W7 ZcB [1,1,1,1,1,0,1,0] [] n ZMR (A:=ZFf)
noncomputable def ZdO (k:Nat) (L1:Zje):((Int × Int × Int × Unit) × List ByteArray × List (List Int) × Unit) × Int × Unit → Option ((ByteArray × Int × Unit) × Unit)
 | (((a0,a1,a2,()),a3,a4,()),a5,()) => (Zox k (((a0,a1,a2,()),a3,a4,()),a5,())).bind fun y => bif y.1.2.1 != 0 then some ((UJ #[],y.1.2.1,()),()) else L1 (0,y.1.1,UJ #[],a5,[],a0,a1,a2,a3,a4)
noncomputable def ZvX (k:Nat):=ZdO k (Zjf k)
theorem ZCz (k:Nat):∀ n,Ztz k n = Ze (fun L1 => Zar k L1) n:=ZG
noncomputable def ZSE (k:Nat):ZA k:=Zx 21 Tryz.f21 (ZFg k) W7 ZcB ZvX (A:=ZFf) (h:=fun x => by show _ = ZdO k (Zjf k) x; rw [show Zjf k = Ztz k k from (ZCz k k).symm]; kernel_rfl)
noncomputable def ZE4 (k:Nat):List (ZA k):=[ZSl k,ZSx k,ZSD k,ZFa k,ZFd k,ZSE k,ZvZ k]
def ZE3:Nat → Ann:=fun id => bif Ja id 10 then ⟨[13,5,7],[]⟩ else ⟨[],[]⟩
abbrev Zzf:=Int × List ByteArray × List (List Int)
abbrev ZiW:=Zzf → Option (Bool × Unit)
def ZMy:Zzf → St
 | (v0,v1,v2) => St.mk (Zk [(13,Zg v0),(5,AV.val (PV.sl Ty.str v1)),(7,AV.val (PV.sl (Ty.int UL).sl v2))]) (Zj [])
def Zag (k:Nat) (L1:ZiW):ZiW
 | (v0,v1,v2) => bif decide (v0 < UD v1.length) then bif decide (0 ≤ v0 ∧ v0 < UD v1.length) then bif decide (0 ≤ v0 ∧ v0 < UD v2.length) then bif !U6 (v1.getD v0.toNat (UJ #[])) == (UJ (UT (fun n => UU n.toNat) (v2.getD v0.toNat [])).toArray).toList then some (false,()) else L1 (Jx.wrap (v0 + 1),v1,v2) else none else none else some (true,())
def ZeW (k:Nat):ZiW:=Ze (fun L1 => Zag k L1) k
noncomputable def Ztm (k:Nat) (n:Nat):=Qj (ZE4 k) Tryz.f4 W7 Q1 [1,1,1,1,1,1,1,0,1,0] [] n ZMy (A:=ZE3)
noncomputable def Zdw (k:Nat) (L1:ZiW):((Int × Int × Int × Unit) × List ByteArray × List (List Int) × Unit) × Int × Unit → Option (Bool × Unit)
 | (((a0,a1,a2,()),a3,a4,()),a5,()) => (ZgS k ()).bind fun y => bif !y.1 then (ZgS k ()).bind fun y => some (y.1,()) else (ZvW k (((a0,a1,a2,()),a3,a4,()),())).bind fun y => bif y.1 then (ZgS k ()).bind fun y => some (y.1,()) else (Zox k (((a0,a1,a2,()),a3,a4,()),a5,())).bind fun y => (Zor k (((a0,a1,a2,()),a3,a4,()),())).bind fun y_1 => (Zoy k (((y_1.1.1.1,y_1.1.1.2.1,y_1.1.1.2.2.1,()),y_1.1.2.1,y_1.1.2.2.1,()),a5,())).bind fun y_2 => (ZvX k (((a0,a1,a2,()),a3,a4,()),a5,())).bind fun y_3 => (Zor k (((a0,a1,a2,()),a3,a4,()),())).bind fun y_4 => (ZvY k (((y_4.1.1.1,y_4.1.1.2.1,y_4.1.1.2.2.1,()),y_4.1.2.1,y_4.1.2.2.1,()),a5,())).bind fun y_5 => bif y.1.2.1 != y_2.1.2.1 then some (false,()) else bif UD (UK y.1.1) != UD (UK y_2.1.1) then some (false,()) else bif y_3.1.2.1 != y_5.1.2.1 then some (false,()) else bif !(UJ (UT (fun n => UU n.toNat) y_5.1.1).toArray).toList == U6 y_3.1.1 then some (false,()) else L1 (0,y.1.1,y_2.1.1)
noncomputable def f2004_F (k:Nat):=Zdw k (ZeW k)
theorem ZB9 (k:Nat):∀ n,Ztm k n = Ze (fun L1 => Zag k L1) n:=ZG
set_option maxHeartbeats 1000000 in
noncomputable def ZSk (k:Nat):ZA k:=Zx 4 Tryz.f4 (ZE4 k) W7 Q1 f2004_F (A:=ZE3) (h:=fun x => by show _ = Zdw k (ZeW k) x; rw [show ZeW k = Ztm k k from (ZB9 k k).symm]; kernel_rfl)
theorem f2004_ctr (k:Nat):Ctr Tryz.prog k 4 (mk W7 Q1 f2004_F):=(ZSk k).2
end Go.Sh
namespace Go.Sh
open Go Go.Proofs
def kT:List Nat:=[3614090360,3905402710,606105819,3250441966,4118548399,1200080426,2821735955,4249261313,1770035416,2336552879,4294925233,2304563134,1804603682,4254626195,2792965006,1236535329,4129170786,3225465664,643717713,3921069994,3593408605,38016083,3634488961,3889429448,568446438,3275163606,4107603335,1163531501,2850285829,4243563512,1735328473,2368359562,4294588738,2272392833,1839030562,4259657740,2763975236,1272893353,4139469664,3200236656,681279174,3936430074,3572445317,76029189,3654602809,3873151461,530742520,3299628645,4096336452,1126891415,2878612391,4237533241,1700485571,2399980690,4293915773,2240044497,1873313359,4264355552,2734768916,1309151649,4149444226,3174756917,718787259,3951481745]
def rT:List Nat:=[7,12,17,22,5,9,14,20,4,11,16,23,6,10,15,21]
def Zh (l:List Nat):List Int:=l.map UD
theorem ZB (l:List Nat):(Zh l).length = l.length:=by simp [Zh]
theorem ZW (l:List Nat) (i:Nat):(Zh l).getD i 0 = ((l.getD i 0:Nat):Int):=by
 grind [Zh]
def Zml (b:Nat):Nat:=4294967295 - b
def fT (t b c d:Nat):Nat:=if t / 16 = 0 then (b &&& c) ||| (Zml b &&& d) else if t / 16 = 1 then (d &&& b) ||| (Zml d &&& c) else if t / 16 = 2 then b ^^^ c ^^^ d else c ^^^ (b ||| Zml d)
def gT (t:Nat):Nat:=if t / 16 = 0 then t % 16 else if t / 16 = 1 then (5 * t + 1) % 16 else if t / 16 = 2 then (3 * t + 5) % 16 else (7 * t) % 16
def ZDU (x r:Nat):Nat:=x * 2 ^ r % 4294967296 + x / 2 ^ (32 - r)
def xT (M:List Nat) (t a b c d:Nat):Nat:=(a + fT t b c d + kT.getD t 0 + M.getD (gT t) 0) % 4294967296
def bT (M:List Nat) (t a b c d:Nat):Nat:=(b + ZDU (xT M t a b c d) (rT.getD (t % 4 + t / 16 * 4) 0)) % 4294967296
abbrev S4:=Nat × Nat × Nat × Nat
def W2 (M:List Nat):Nat → Nat → S4 → S4
 | 0,_,s => s
 | n + 1,t,(a,b,c,d) => W2 M n (t + 1) (d,bT M t a b c d,b,c)
noncomputable def n64:Nat:=Classical.choose (⟨64,rfl⟩:∃ n:Nat,n = 64)
theorem Zxw:n64 = 64:=Classical.choose_spec (⟨64,rfl⟩:∃ n:Nat,n = 64)
noncomputable def ZJO (M:List Nat):S4 → S4
 | (a,b,c,d) => (((W2 M n64 0 (a,b,c,d)).1 + a) % 4294967296,((W2 M n64 0 (a,b,c,d)).2.1 + b) % 4294967296,((W2 M n64 0 (a,b,c,d)).2.2.1 + c) % 4294967296,((W2 M n64 0 (a,b,c,d)).2.2.2 + d) % 4294967296)
theorem ZBj {a:Nat} (ha:a < 4294967296):(UH 32 (a:Int)).toNat = a:=by simp_all
theorem ZD2 {n:Nat} (h:n < 4294967296):UX.wrap (n:Int) = (n:Int):=by rw [IntKind.wrap_u32]; omega
theorem ZZh (n:Nat):UX.wrap (n:Int) = ((n % 4294967296:Nat):Int):=by rw [IntKind.wrap_u32]; omega
theorem Wm {a b:Nat} (ha:a < 4294967296):a &&& b < 4294967296:=Hd Nat.and_le_left ha
theorem Zbz {a b:Nat} (ha:a < 4294967296) (hb:b < 4294967296):a ||| b < 4294967296:=Nat.or_lt_two_pow (n:=32) ha hb
theorem Za6 {a b:Nat} (ha:a < 4294967296) (hb:b < 4294967296):a ^^^ b < 4294967296:=Nat.xor_lt_two_pow (n:=32) ha hb
theorem ZD9 {a b:Nat} (ha:a < 4294967296) (hb:b < 4294967296):UX.wrap (UD (UH 32 (a:Int) &&& UH 32 (b:Int)).toNat) = ((a &&& b:Nat):Int):=by
 rw [U8,ZBj ha,ZBj hb]; exact ZD2 (Wm ha)
theorem ZDK {a b:Nat} (ha:a < 4294967296) (hb:b < 4294967296):UX.wrap (UD (UH 32 (a:Int) ||| UH 32 (b:Int)).toNat) = ((a ||| b:Nat):Int):=by
 rw [Hi,ZBj ha,ZBj hb]; exact ZD2 (Zbz ha hb)
theorem ZQ3 {a b:Nat} (ha:a < 4294967296) (hb:b < 4294967296):UX.wrap (UD (UH 32 (a:Int) ^^^ UH 32 (b:Int)).toNat) = ((a ^^^ b:Nat):Int):=by
 rw [Hj,ZBj ha,ZBj hb]; exact ZD2 (Za6 ha hb)
theorem ZQp {b:Nat} (hb:b < 4294967296):UX.wrap (UD (UH 32 (4294967295:Int) ^^^ UH 32 (b:Int)).toNat) = ((Zml b:Nat):Int):=by
 have h:UH 32 (4294967295:Int) = Hf 32:=by decide
 rw [h,Hg,Hh,ZBj hb]
 exact ZD2 (show Zml b < 4294967296 by unfold Zml; omega)
theorem WJ (b:Nat):Zml b < 4294967296:=by unfold Zml; omega
theorem ZYI {t b c d:Nat} (hb:b < 4294967296) (hc:c < 4294967296) (hd:d < 4294967296):fT t b c d < 4294967296:=by
 unfold fT
 split
 ·exact Zbz (Wm hb) (Wm (WJ b))
 ·split
  ·exact Zbz (Wm hd) (Wm (WJ d))
  ·split
   ·exact Za6 (Za6 hb hc) hd
   ·exact Za6 hc (Zbz hb (WJ d))
theorem ZxC {x y s:Nat} (h:x < 2 ^ s):x ||| y * 2 ^ s = x + y * 2 ^ s:=by
 have:=Nat.shiftLeft_add_eq_or_of_lt (i:=s) h y
 rw [Nat.shiftLeft_eq] at this
 grind
theorem ZQB {x r:Nat} (hx:x < 4294967296) (hr:r ≤ 32):x * 2 ^ r % 4294967296 ||| x / 2 ^ (32 - r) = ZDU x r:=by
 have e:(4294967296:Nat) = 2 ^ (32 - r) * 2 ^ r:=by rw [← Nat.pow_add,show 32 - r + r = 32 by omega]
 have h1:x * 2 ^ r % 4294967296 = (x % 2 ^ (32 - r)) * 2 ^ r:=by
  conv => lhs; rw [e]
  exact Nat.mul_mod_mul_right _ _ _
 have h2:x / 2 ^ (32 - r) < 2 ^ r:=Nat.div_lt_of_lt_mul (by rw [← e]; exact hx)
 unfold ZDU
 rw [h1,Nat.or_comm,ZxC h2,Nat.add_comm]
theorem ZG2 {x r:Nat} (hx:x < 4294967296) (hr:r ≤ 32):ZDU x r < 4294967296:=by
 rw [← ZQB hx hr]
 exact Zbz (UY _ (by omega)) (Hd (Nat.div_le_self _ _) hx)
theorem ZTF:∀ r:Fin 32,UI.wrap (UD (UH 64 (UI.wrap (r.val:Int)) &&& UH 64 (31:Int)).toNat) = (r.val:Int):=by decide +kernel
theorem ZDp (k:Nat) {x r:Nat} (hx:x < 4294967296) (hr:r < 32):Zd1 k ((x:Int),(r:Int),()) = some (((ZDU x r:Nat):Int),()):=by
 show ZhW k _ = _
 simp only [ZhW]
 rw [ZTF ⟨r,hr⟩]
 simp only
 have e1:UI.wrap ((32:Int) - (r:Int)) = ((32 - r:Nat):Int):=by rw [IntKind.wrap_u64]; omega
 rw [e1,Zb (by omega)]
 have e2:min ((r:Int)).toNat 32 = r:=by omega
 have e3:min (((32 - r:Nat):Int)).toNat 32 = 32 - r:=by omega
 rw [e2,e3]
 have e4:(x:Int) * (2:Int) ^ r = ((x * 2 ^ r:Nat):Int):=by simp
 have e5:UP (x:Int) ((2:Int) ^ (32 - r)) = ((x / 2 ^ (32 - r):Nat):Int):=by
  grind
 rw [e4,e5,ZZh,ZDK (UY _ (by omega)) (Hd (Nat.div_le_self _ _) hx),ZQB hx (by omega)]
theorem tq:∀ t:Fin 64,Jx.wrap ((t.val:Int).tdiv 16) = ((t.val / 16:Nat):Int):=by decide +kernel
theorem ZYU:∀ t:Fin 64,(t.val:Int).tmod 16 = ((t.val % 16:Nat):Int):=by decide +kernel
theorem tm4:∀ t:Fin 64,(t.val:Int).tmod 4 = ((t.val % 4:Nat):Int):=by decide +kernel
theorem g1:∀ t:Fin 64,(Jx.wrap (Jx.wrap ((5:Int) * (t.val:Int)) + (1:Int))).tmod 16 = (((5 * t.val + 1) % 16:Nat):Int):=by decide +kernel
theorem g2:∀ t:Fin 64,(Jx.wrap (Jx.wrap ((3:Int) * (t.val:Int)) + (5:Int))).tmod 16 = (((3 * t.val + 5) % 16:Nat):Int):=by decide +kernel
theorem g3:∀ t:Fin 64,(Jx.wrap ((7:Int) * (t.val:Int))).tmod 16 = (((7 * t.val) % 16:Nat):Int):=by decide +kernel
theorem ZUX:∀ t:Fin 64,rT.getD (t.val % 4 + t.val / 16 * 4) 0 < 32:=by decide +kernel
theorem ZXt:∀ t:Fin 64,([7,12,17,22,5,9,14,20,4,11,16,23,6,10,15,21]:List Int).getD ((t.val % 4) + (t.val / 16 * 4 + 0)) 0 = ((rT.getD (t.val % 4 + t.val / 16 * 4) 0:Nat):Int):=by decide +kernel
theorem ZHc (a f k m:Nat):UX.wrap (UX.wrap (UX.wrap ((a:Int) + (f:Int)) + (k:Int)) + (m:Int)) = (((a + f + k + m) % 4294967296:Nat):Int):=by
 simp only [IntKind.wrap_u32]; omega
theorem Zx1 (a b:Nat):UX.wrap ((a:Int) + (b:Int)) = (((a + b) % 4294967296:Nat):Int):=by
 simp only [IntKind.wrap_u32]; omega
def Zgb:List Int:=[7,12,17,22,5,9,14,20,4,11,16,23,6,10,15,21]
abbrev L76:=Int × Int × Int × Int × Int × List Int × Int × Int × Int × Int × List Int × List Int → Option (Unit × (Int × Int × Int × Int × Unit) × Unit)
theorem ZsA {n:Nat} (h:n < 1000000):Jx.wrap ((n:Int) + 1) = ((n + 1:Nat):Int):=by rw [ZK (by omega)]; rfl
theorem ZzU (k:Nat) (L:L76) {t:Nat} (ht:t < 64) {a b c d:Nat} (ha:a < 4294967296) (hb:b < 4294967296) (hc:c < 4294967296) (hd:d < 4294967296) {M:List Nat} (hM:M.length = 16) (s0 s1 s2 s3:Int) :
  YW k L ((t:Int),(b:Int),(c:Int),(d:Int),(a:Int),Zh kT,s0,s1,s2,s3,Zh M,Zgb) =
   L (((t + 1:Nat):Int),((bT M t a b c d:Nat):Int),(b:Int),(c:Int),(d:Int),Zh kT,s0,s1,s2,s3,Zh M,Zgb):=by
 simp only [YW]
 have q:=tq ⟨t,ht⟩
 have m16:=ZYU ⟨t,ht⟩
 have m4:=tm4 ⟨t,ht⟩
 have e1:=g1 ⟨t,ht⟩
 have e2:=g2 ⟨t,ht⟩
 have e3:=g3 ⟨t,ht⟩
 have r1:=ZUX ⟨t,ht⟩
 have r2:=ZXt ⟨t,ht⟩
 simp only at q m16 m4 e1 e2 e3 r1 r2
 have hk:(Zh kT).length = 64:=by rw [ZB]; rfl
 have hm:(Zh M).length = 16:=by rw [ZB,hM]
 rw [Zb (by omega),q,m16,m4,e1,e2,e3,hk,hm]
 simp only [Yi,Nat.add_zero]
 have hx:=fun y => ZG2 (x:=y % 4294967296) (r:=rT.getD (t % 4 + t / 16 * 4) 0) (UY _ (by omega)) (by omega)
 have sp:=fun y => ZDp k (x:=y % 4294967296) (UY _ (by omega)) r1
 have r3:Zgb.getD (t % 4 + t / 16 * 4) 0 = ((rT.getD (t % 4 + t / 16 * 4) 0:Nat):Int):=r2
 have hl:Zgb.length = 16:=rfl
 rw [ZW,ZW,ZW,ZW,ZW,r3,hl]
 have done:∀ g f,g = gT t → f = fT t b c d → ∀ y,y = ((((a + f + kT.getD t 0 + M.getD g 0) % 4294967296:Nat):Int)) → ((Zd1 k (y,((rT.getD (t % 4 + t / 16 * 4) 0:Nat):Int),())).bind fun y => L (Jx.wrap ((t:Int) + 1),UX.wrap ((b:Int) + y.1),(b:Int),(c:Int),(d:Int),Zh kT,s0,s1,s2,s3,Zh M,Zgb)) =
   L (((t + 1:Nat):Int),((bT M t a b c d:Nat):Int),(b:Int),(c:Int),(d:Int),Zh kT,s0,s1,s2,s3,Zh M,Zgb):=by
  rintro g f rfl rfl y rfl
  rw [sp]
  simp only [Z9]
  rw [ZsA (by omega),Zx1]
  rfl
 by_cases h0:t / 16 = 0
 ·rw [ZC,Zb (by omega),Zb (by omega),Zb (by omega),Zb (by omega),Zb (by omega),Zb (by omega),Zb (by omega)]
  refine done (t % 16) _ (by simp [gT,h0]) rfl _ ?_
  rw [ZD9 hb hc,ZQp hb,ZD9 (WJ b) hd,ZDK (Wm hb) (Wm (WJ b)),ZHc]
  simp [fT,h0]
 rw [ZC,Zn (by omega)]
 by_cases h1:t / 16 = 1
 ·rw [ZC,Zb (by omega),Zb (by omega),Zb (by omega),Zb (by omega),Zb (by omega),Zb (by omega),Zb (by omega)]
  refine done ((5 * t + 1) % 16) _ (by simp [gT,h1]) rfl _ ?_
  rw [ZD9 hd hb,ZQp hd,ZD9 (WJ d) hc,ZDK (Wm hd) (Wm (WJ d)),ZHc]
  simp [fT,h1]
 rw [ZC,Zn (by omega)]
 by_cases h2:t / 16 = 2
 ·rw [ZC,Zb (by omega),Zb (by omega),Zb (by omega),Zb (by omega),Zb (by omega),Zb (by omega),Zb (by omega)]
  refine done ((3 * t + 5) % 16) _ (by simp [gT,h2]) rfl _ ?_
  rw [ZQ3 hb hc,ZQ3 (Za6 hb hc) hd,ZHc]
  simp [fT,h2]
 rw [ZC,Zn (by omega)]
 rw [Zb (by omega),Zb (by omega),Zb (by omega),Zb (by omega),Zb (by omega),Zb (by omega)]
 refine done ((7 * t) % 16) _ (by simp [gT,h0,h1,h2]) rfl _ ?_
 rw [ZQp hd,ZDK hb (WJ d),ZQ3 hc (Zbz hb (WJ d)),ZHc]
 simp [fT,h0,h1,h2]
end Go.Sh
namespace Go.Sh
open Go Go.Proofs
def lt4 (s:S4):Prop:=s.1 < 4294967296 ∧ s.2.1 < 4294967296 ∧ s.2.2.1 < 4294967296 ∧ s.2.2.2 < 4294967296
theorem ZGT (M:List Nat) (s:S4):lt4 (ZJO M s):=by
 obtain ⟨a,b,c,d⟩:=s
 exact ⟨UY _ (by omega),UY _ (by omega),UY _ (by omega),UY _ (by omega)⟩
def o4 (s:S4):Int × Int × Int × Int × Unit:=((s.1:Int),(s.2.1:Int),(s.2.2.1:Int),(s.2.2.2:Int),())
theorem ZFz (k:Nat) {M:List Nat} (hM:M.length = 16) (s:S4):∀ (n t fuel:Nat) (v:S4),t + n = 64 → n < fuel → lt4 v →
  Ze (fun L2 => YW k L2) fuel ((t:Int),(v.2.1:Int),(v.2.2.1:Int),(v.2.2.2:Int),(v.1:Int),Zh kT,(s.1:Int),(s.2.1:Int),(s.2.2.1:Int),(s.2.2.2:Int),Zh M,Zgb) =
   some ((),o4 (((W2 M n t v).1 + s.1) % 4294967296,((W2 M n t v).2.1 + s.2.1) % 4294967296,((W2 M n t v).2.2.1 + s.2.2.1) % 4294967296,((W2 M n t v).2.2.2 + s.2.2.2) % 4294967296),())
 | 0,t,fuel + 1,(a,b,c,d),h1,h2,h3 => by
  rw [Zd]
  simp only [YW,W2,o4]
  rw [Zn (by omega),Zx1,Zx1,Zx1,Zx1]
  simp only [Nat.add_comm]
 | n + 1,t,fuel + 1,(a,b,c,d),h1,h2,h3 => by
  rw [Zd,ZzU k _ (by omega) h3.1 h3.2.1 h3.2.2.1 h3.2.2.2 hM]
  exact ZFz k hM s n (t + 1) fuel (d,bT M t a b c d,b,c) (by omega) (by omega) ⟨h3.2.2.2,UY _ (by omega),h3.2.1,h3.2.2.1⟩
 | 0,_,0,_,_,h2,_ => absurd h2 (U1 _)
 | n + 1,_,0,_,_,h2,_ => absurd h2 (U2 _)
def ZkQ (p:List Nat) (i:Nat):Nat:=p.getD (4 * i) 0 + p.getD (4 * i + 1) 0 * 256 + p.getD (4 * i + 2) 0 * 65536 + p.getD (4 * i + 3) 0 * 16777216
def Kc (p:List Nat):List Nat:=(Jc 16).map (ZkQ p)
theorem Zr5 (p:List Nat):(Kc p).length = 16:=by simp [Kc]
def QL (p:List Nat):Prop := ∀ x ∈ p,x < 256
theorem Wk {p:List Nat} (h:QL p) (i:Nat):p.getD i 0 < 256:=by
 rw [VR]
 cases hi:p[i]? with
 | none => simp
 | some x => exact h x (Vw hi)
theorem ZT3 {a b c d:Nat} (ha:a < 256) (hb:b < 256) (hc:c < 256) (hd:d < 256) :
  UX.wrap (UD (UH 32 (UX.wrap (UD (UH 32 (UX.wrap (UD (UH 32 (UX.wrap (a:Int)) ||| UH 32 (UX.wrap (UX.wrap (b:Int) * 256))).toNat)) ||| UH 32 (UX.wrap (UX.wrap (c:Int) * 65536))).toNat)) ||| UH 32 (UX.wrap (UX.wrap (d:Int) * 16777216))).toNat) =
   ((a + b * 256 + c * 65536 + d * 16777216:Nat):Int):=by
 have e:∀ x y:Nat,x < 256 → x * y < 4294967296 → UX.wrap (UX.wrap (x:Int) * (y:Int)) = ((x * y:Nat):Int):=by
  intro x y hx hy
  rw [ZD2 (by omega),← Int.natCast_mul,ZD2 hy]
 have e1:=e b 256 hb (by omega)
 have e2:=e c 65536 hc (by omega)
 have e3:=e d 16777216 hd (by omega)
 simp only [Hk] at e1 e2 e3
 rw [e1,e2,e3,ZD2 (by omega),ZDK (by omega) (by omega)]
 have o1:=ZxC (x:=a) (y:=b) (s:=8) ha
 have o2:=ZxC (x:=a + b * 256) (y:=c) (s:=16) (by omega)
 have o3:=ZxC (x:=a + b * 256 + c * 65536) (y:=d) (s:=24) (by omega)
 simp only [Nat.reducePow] at o1 o2 o3
 rw [o1,ZDK (by omega) (by omega),o2,ZDK (by omega) (by omega),o3]
theorem ZHu (l:List Nat) (i n:Nat):(Zh l).set i (n:Int) = Zh (l.set i n):=by
 simp [Zh,List.map_set]
def Kl (p:List Nat) (i:Nat):List Nat:=(Jc 16).map fun j => if j < i then ZkQ p j else 0
theorem ZA0 (p:List Nat) {i:Nat} (hi:i < 16):(Kl p i).set i (ZkQ p i) = Kl p (i + 1):=by
 apply List.ext_getElem
 ·simp [Kl]
 ·intro j h1 h2
  simp only [Kl,JQ,List.length_map,U7] at h1
  rw [List.getElem_set]
  simp only [Kl,List.getElem_map,List.getElem_range]
  grind
theorem ZFy (k:Nat) {p:List Nat} (hp:p.length = 64) (h8:QL p) (s:S4) (L2:L76):∀ (n i fuel:Nat),i + n = 16 → n < fuel →
  Ze (fun L1 => ZaH k L2 L1) fuel ((i:Int),Zh p,Zh kT,(s.1:Int),(s.2.1:Int),(s.2.2.1:Int),(s.2.2.2:Int),Zh (Kl p i)) =
   L2 ((0:Int),(s.2.1:Int),(s.2.2.1:Int),(s.2.2.2:Int),(s.1:Int),Zh kT,(s.1:Int),(s.2.1:Int),(s.2.2.1:Int),(s.2.2.2:Int),Zh (Kc p),Zgb)
 | 0,i,fuel + 1,h1,h2 => by
  rw [Zd]
  simp only [ZaH]
  rw [Zn (by omega)]
  have:Kl p i = Kc p:=by
   unfold Kl Kc
   simp_all
  rw [this]
  rfl
 | n + 1,i,fuel + 1,h1,h2 => by
  rw [Zd]
  simp only [ZaH]
  have a0:Jx.wrap ((4:Int) * (i:Int)) = ((4 * i:Nat):Int):=by rw [ZK (by omega)]; omega
  have a1:Jx.wrap (((4 * i:Nat):Int) + 1) = ((4 * i + 1:Nat):Int):=by rw [ZK (by omega)]; omega
  have a2:Jx.wrap (((4 * i:Nat):Int) + 2) = ((4 * i + 2:Nat):Int):=by rw [ZK (by omega)]; omega
  have a3:Jx.wrap (((4 * i:Nat):Int) + 3) = ((4 * i + 3:Nat):Int):=by rw [ZK (by omega)]; omega
  have hl:(Zh p).length = 64:=by rw [ZB,hp]
  have hw:(Zh (Kl p i)).length = 16:=by rw [ZB]; simp [Kl]
  rw [a0,a1,a2,a3,hl,hw]
  simp only [Yi,Nat.add_zero,QT]
  rw [Zb (by omega),Zb (by omega),Zb (by omega),Zb (by omega),Zb (by omega),Zb (by omega),Zb (by omega)]
  rw [ZW,ZW,ZW,ZW]
  have hwd:=ZT3 (Wk h8 (4 * i)) (Wk h8 (4 * i + 1)) (Wk h8 (4 * i + 2)) (Wk h8 (4 * i + 3))
  simp only [QT] at hwd
  rw [hwd,ZsA (by omega)]
  rw [show (p.getD (4 * i) 0 + p.getD (4 * i + 1) 0 * 256 + p.getD (4 * i + 2) 0 * 65536 + p.getD (4 * i + 3) 0 * 16777216) = ZkQ p i from rfl,ZHu,ZA0 p (by omega)]
  exact ZFy k hp h8 s L2 n (i + 1) fuel (by omega) (by omega)
 | 0,_,0,_,h2 => absurd h2 (U1 _)
 | n + 1,_,0,_,h2 => absurd h2 (U2 _)
theorem ZC8 (k:Nat) (hk:100 ≤ k) {p:List Nat} (hp:p.length = 64) (h8:QL p) {s:S4} (hs:lt4 s) :
  Zwd k (o4 s,Zh p,Zh kT,()) = some ((),o4 (ZJO (Kc p) s),()):=by
 have h1:=ZFy k hp h8 s (ZjL k) 16 0 k rfl (by omega)
 have h2:=ZFz k (Zr5 p) s n64 0 k s (by rw [Zxw]) (by rw [Zxw]; omega) hs
 exact h1.trans h2
end Go.Sh
namespace Go.Sh
open Go Go.Proofs
noncomputable def mdT:Nat → List Nat → S4 → S4
 | 0,_,s => s
 | q + 1,m,s => mdT q (m.drop 64) (ZJO (Kc (m.take 64)) s)
theorem ZAD (q:Nat) (m:List Nat) (s:S4):mdT (q + 1) m s = mdT q (m.drop 64) (ZJO (Kc (m.take 64)) s):=rfl
def s0T:S4:=(1732584193,4023233417,2562383102,271733878)
def le4 (x:Nat):List Nat:=[x % 256,x / 256 % 256,x / 65536 % 256,x / 16777216 % 256]
def K6 (N:Nat) (i:Nat):List Nat:=(Jc i).map fun j => N / 2 ^ (8 * j) % 256
def zT (n:Nat):Nat:=(119 - n % 64) % 64
def Zg8 (b:List Nat):List Nat:=b ++ [128] ++ Jd (zT b.length) 0 ++ K6 (8 * b.length) 8
def ZDL (s:S4):List Nat:=le4 s.1 ++ le4 s.2.1 ++ le4 s.2.2.1 ++ le4 s.2.2.2
noncomputable def Zsn (b:List Nat):List Nat:=ZDL (mdT ((Zg8 b).length / 64) (Zg8 b) s0T)
def WG (l:List Nat):ByteArray:=UJ (UT (fun n => UU n.toNat) (Zh l)).toArray
theorem QC (a b:List Nat):Zh (a ++ b) = Zh a ++ Zh b:=by simp [Zh]
theorem Zpl (a:List Nat) (n:Nat):(Zh a).take n = Zh (a.take n):=by simp [Zh,List.map_take]
theorem ZBo (a:List Nat) (n:Nat):(Zh a).drop n = Zh (a.drop n):=by simp [Zh,List.map_drop]
theorem ZD4 (n:Nat):(n + 1 + zT n) % 64 = 56 ∧ zT n < 64:=by unfold zT; omega
theorem QJ (N i:Nat):(K6 N i).length = i:=by simp [K6]
theorem Zrh (N i:Nat):K6 N (i + 1) = K6 N i ++ [N / 2 ^ (8 * i) % 256]:=by simp [K6,Ho]
theorem ZAI (b:List Nat):(Zg8 b).length = 64 * ((Zg8 b).length / 64):=by
 have:=ZD4 b.length
 simp only [Zg8,QZ,Uq,QJ,Ur]
 omega
theorem Zry {b:List Nat} (h:QL b):QL (Zg8 b):=by
 intro x hx
 simp only [Zg8,List.mem_append,List.mem_singleton,List.mem_replicate,K6,VF] at hx
 rcases hx with ((hx | hx) | hx) | ⟨j,_,rfl⟩
 ·exact h x hx
 ·omega
 ·omega
 ·exact UY _ (by omega)
theorem u8m (n:Nat):UL.wrap (n:Int) = ((n % 256:Nat):Int):=by rw [IntKind.wrap_u8]; omega
theorem ZfJ (x y:Nat):UP (x:Int) (y:Int) = ((x / y:Nat):Int):=by
 grind
theorem Zrz {R:Type} {step:(List Int → Option R) → List Int → Option R} {out:List Int → Option R}
  (h0:∀ L (m:List Nat),m.length % 64 = 56 → step L (Zh m) = out (Zh m)) (h1:∀ L (m:List Nat),m.length % 64 ≠ 56 → m.length < 2000000000 → step L (Zh m) = L (Zh (m ++ [0]))) :
  ∀ (j fuel:Nat) (m:List Nat),(m.length + j) % 64 = 56 → j < 64 → j < fuel → m.length + j < 2000000000 → Ze step fuel (Zh m) = out (Zh (m ++ Jd j 0))
 | 0,fuel + 1,m,h2,_,_,_ => by rw [Zd,h0 _ _ h2]; simp
 | j + 1,fuel + 1,m,h2,h3,h4,h5 => by
  rw [Zd,h1 _ _ (by omega) (by omega),Zrz h0 h1 j fuel (m ++ [0]) (by simp; omega) (by omega) (by omega) (by simp; omega)]
  simp [List.replicate_succ]
 | 0,0,_,_,_,h4,_ => absurd h4 (U1 _)
 | j + 1,0,_,_,_,h4,_ => absurd h4 (U2 _)
theorem Zmf {A V R:Type} {step:(A × V → Option R) → A × V → Option R} {a:A} {st2:(V → Option R) → V → Option R} (h:∀ L L2,(∀ v,L (a,v) = L2 v) → ∀ v,step L (a,v) = st2 L2 v):∀ n v,Ze step n (a,v) = Ze st2 n v
 | 0,v => rfl
 | n + 1,v => by rw [Zd,Zd]; exact h _ _ (Zmf h n) v
theorem ZHe (n:Nat):(n:Int).tmod 64 = ((n % 64:Nat):Int):=by rfl
def kI:List Int:=[3614090360,3905402710,606105819,3250441966,4118548399,1200080426,2821735955,4249261313,1770035416,2336552879,4294925233,2304563134,1804603682,4254626195,2792965006,1236535329,4129170786,3225465664,643717713,3921069994,3593408605,38016083,3634488961,3889429448,568446438,3275163606,4107603335,1163531501,2850285829,4243563512,1735328473,2368359562,4294588738,2272392833,1839030562,4259657740,2763975236,1272893353,4139469664,3200236656,681279174,3936430074,3572445317,76029189,3654602809,3873151461,530742520,3299628645,4096336452,1126891415,2878612391,4237533241,1700485571,2399980690,4293915773,2240044497,1873313359,4264355552,2734768916,1309151649,4149444226,3174756917,718787259,3951481745]
theorem ZYM:kI = Zh kT:=by decide +kernel
section prog
variable {k:Nat}
theorem ZSL (hk:100 ≤ k) (b:List Nat) (hb:b.length < 1000000000) (m:List Nat) (L2:Int × Int × List Int → Option (ByteArray × Unit)) (j:Nat) (h1:(m.length + j) % 64 = 56) (h2:j < 64) (h3:m.length + j < 2000000000) :
  Ze (fun L1 => Xq k L2 L1) k (Zh b,Zh m) = L2 ((0:Int),((8 * b.length:Nat):Int),Zh (m ++ Jd j 0)):=by
 rw [Zmf (st2:=fun L v => Xq k L2 (fun x => L x.2) (Zh b,v)) (fun L L2' hL v => by
  simp only [Xq]
  rw [hL])]
 refine Zrz (step:=fun L v => Xq k L2 (fun x => L x.2) (Zh b,v)) (out:=fun v => L2 ((0:Int),((8 * b.length:Nat):Int),v)) (fun L m hm => ?_) (fun L m hm hl => ?_) j k m h1 h2 (by omega) h3
 ·simp only [Xq]
  rw [ZB,ZB,ZU,QT,ZHe,Zn (by omega)]
  grind [IntKind.wrap_u64]
 ·simp only [Xq]
  rw [ZB,ZU,QT,ZHe,Zb (by omega),Zb (by omega),QC]
  rfl
theorem ZMV (L3:List Int × List Int × Int × Int × Int × Int → Option (ByteArray × Unit)) (L2:Int × Int × List Int → Option (ByteArray × Unit)) (N:Int) (m:List Int):Zat k L3 L2 (((8 * 8:Nat):Int),N,m) = L3 (m,Zh kT,(1732584193:Int),(4023233417:Int),(2562383102:Int),(271733878:Int)):=by
 rfl
theorem ZFm (N:Nat) (m:List Nat) (hm:m.length < 2000000000) (L3:List Int × List Int × Int × Int × Int × Int → Option (ByteArray × Unit)):∀ (n i fuel:Nat),i + n = 8 → n < fuel →
  Ze (fun L2 => Zat k L3 L2) fuel (((8 * i:Nat):Int),(N:Int),Zh (m ++ K6 N i)) = L3 (Zh (m ++ K6 N 8),Zh kT,(1732584193:Int),(4023233417:Int),(2562383102:Int),(271733878:Int))
 | 0,i,fuel + 1,h1,h2 => by
  obtain rfl:i = 8:=by omega
  rw [Zd,ZMV]
 | n + 1,i,fuel + 1,h1,h2 => by
  rw [Zd]
  simp only [Zat]
  rw [Zb (by omega),Zb (by omega),ZB,Zb (by simp [QJ]; omega)]
  have e1:min (((8 * i:Nat):Int)).toNat 64 = 8 * i:=by omega
  have e2:Jx.wrap (((8 * i:Nat):Int) + 8) = ((8 * (i + 1):Nat):Int):=by rw [ZK (by omega)]; omega
  rw [e1,e2,show ((2:Int) ^ (8 * i)) = ((2 ^ (8 * i):Nat):Int) by simp,ZfJ,u8m]
  rw [show Zh (m ++ K6 N i) ++ [((N / 2 ^ (8 * i) % 256:Nat):Int)] = Zh (m ++ K6 N (i + 1)) by rw [Zrh,← Ju,QC (m ++ K6 N i)]; rfl]
  exact ZFm N m hm L3 n (i + 1) fuel (by omega) (by omega)
 | 0,_,0,_,h2 => absurd h2 (U1 _)
 | n + 1,_,0,_,h2 => absurd h2 (U2 _)
theorem ZFn (hk:100 ≤ k) (L4:Int × Int × Int × Int × Int × List Int → Option (ByteArray × Unit)):∀ (q fuel:Nat) (m:List Nat) (s:S4),m.length = 64 * q → q < fuel → QL m → lt4 s →
  Ze (fun L3 => Zau k L4 L3) fuel (Zh m,Zh kT,(s.1:Int),(s.2.1:Int),(s.2.2.1:Int),(s.2.2.2:Int)) =
   L4 ((0:Int),((mdT q m s).1:Int),((mdT q m s).2.1:Int),((mdT q m s).2.2.1:Int),((mdT q m s).2.2.2:Int),[])
 | 0,fuel + 1,m,s,h1,h2,h3,h4 => by
  rw [Zd]
  simp only [Zau]
  rw [ZB,Zn (by simp only [QT]; omega)]
  rfl
 | q + 1,fuel + 1,m,s,h1,h2,h3,h4 => by
  rw [Zd]
  simp only [Zau]
  have hk64:(Zh kT).length = 64:=by rw [ZB]; rfl
  rw [ZB,hk64,Zb (by simp only [QT]; omega),Zb (by simp only [QT]; omega),Zb (by omega),U5,Zpl]
  have:=ZC8 k hk (p:=m.take 64) (by rw [List.length_take]; omega) (fun x hx => h3 x (JT hx)) h4
  simp only [o4] at this
  rw [this]
  simp only [Z9]
  rw [Zb (by simp only [QT]; omega),show (UD m.length).toNat = m.length from rfl,Zpl,List.take_length,ZBo,ZAD]
  generalize hX:ZJO (Kc (m.take 64)) s = X
  have hX4:lt4 X:=hX ▸ ZGT _ _
  exact ZFn hk L4 q fuel (m.drop 64) X (by rw [Vh]; omega) (by omega) (fun x hx => h3 x (JS hx)) hX4
 | 0,0,_,_,_,h2,_,_ => absurd h2 (U1 _)
 | q + 1,0,_,_,_,h2,_,_ => absurd h2 (U2 _)
theorem ZQi (x:Nat):[UL.wrap (x:Int),UL.wrap ((x:Int).fdiv 256),UL.wrap ((x:Int).fdiv 65536),UL.wrap ((x:Int).fdiv 16777216)] = Zh (le4 x):=by
 have h1:=ZfJ x 256
 have h2:=ZfJ x 65536
 have h3:=ZfJ x 16777216
 simp only [Hk] at h1 h2 h3
 rw [h1,h2,h3,u8m,u8m,u8m,u8m]
 rfl
theorem ZSM (hk:100 ≤ k) (s:S4):ZcD k ((0:Int),(s.1:Int),(s.2.1:Int),(s.2.2.1:Int),(s.2.2.2:Int),[]) = some (WG (ZDL s),()):=by
 obtain ⟨n,rfl⟩:∃ n,k = n + 5:=⟨k - 5,by omega⟩
 obtain ⟨a,b,c,d⟩:=s
 simp only [ZcD]
 have st:∀ (i:Nat) (L:Int × Int × Int × Int × Int × List Int → Option (ByteArray × Unit)) (x:Nat) (l:List Nat),i < 4 → l.length < 100 → [(a:Int),(b:Int),(c:Int),(d:Int)].getD i 0 = (x:Int) →
   Zav (n + 5) L ((i:Int),(a:Int),(b:Int),(c:Int),(d:Int),Zh l) = L (((i + 1:Nat):Int),(a:Int),(b:Int),(c:Int),(d:Int),Zh (l ++ le4 x)):=by
  intro i L x l hi hl hx
  simp only [Zav,Yi]
  rw [Zb (by omega),Zb (by omega)]
  simp only [hx,ZQi]
  rw [Zb (by rw [ZB,ZB]; simp [le4]; omega),ZsA (by omega),← QC]
 have e0:∀ L,Zav (n + 5) L ((0:Int),(a:Int),(b:Int),(c:Int),(d:Int),[]) = _:=fun L => st 0 L a [] (by omega) (by simp) rfl
 rw [Zd,e0,Zd,st 1 _ b _ (by omega) (by simp [le4]) rfl,Zd,st 2 _ c _ (by omega) (by simp [le4]) rfl,Zd,st 3 _ d _ (by omega) (by simp [le4]) rfl,Zd]
 rfl
theorem ZCI (hk:100 ≤ k) {b:List Nat} (h8:QL b) (hb:b.length < 1000000000) (hq:b.length < k):ZoB k (Zh b,()) = some (WG (Zsn b),()):=by
 have hz:=ZD4 b.length
 show ZdQ k _ _ = _
 simp only [ZdQ]
 have h66:Zt4 k (Zh b,()) = some (Zh b,()):=by
  show ZbR _ = _
  unfold ZbR
  rw [Zb (by rw [ZB]; omega)]
 rw [h66]
 simp only [Z9]
 rw [ZB,Zb (by omega),show Zh b ++ [(128:Int)] = Zh (b ++ [128]) by rw [QC]; rfl]
 refine (ZSL hk b hb (b ++ [128]) _ (zT b.length) (by simpa using hz.1) hz.2 (by simp; omega)).trans ?_
 have h2:=ZFm (k:=k) (8 * b.length) (b ++ [128] ++ Jd (zT b.length) 0) (by simp; omega) (Zjm k) 8 0 k rfl (by omega)
 rw [show K6 (8 * b.length) 0 = [] from rfl,Vf] at h2
 refine h2.trans ?_
 have hpl:=ZAI b
 have hpl2:(Zg8 b).length < b.length + 100:=by
  simp only [Zg8,QZ,Uq,QJ,Ur]; omega
 refine (ZFn hk (ZcD k) ((Zg8 b).length / 64) k (Zg8 b) s0T hpl (by omega) (Zry h8) (by unfold lt4 s0T; simp)).trans ?_
 exact ZSM hk _
end prog
end Go.Sh
namespace Go.Sh
open Go Go.Proofs
theorem Zis {a:Nat} (ha:a < 18446744073709551616):(UH 64 (a:Int)).toNat = a:=by simp_all
theorem Zku {n:Nat} (h:n < 9223372036854775808):Jx.wrap (n:Int) = (n:Int):=ZK (by omega)
theorem ZEa {a b:Nat} (ha:a < 4294967296) (hb:b < 4294967296):Jx.wrap (UD (UH 64 (a:Int) &&& UH 64 (b:Int)).toNat) = ((a &&& b:Nat):Int):=by
 have:=Wm (b:=b) ha
 rw [U8,Zis (by omega),Zis (by omega)]; exact Zku (by omega)
theorem ZXm {a b:Nat} (ha:a < 4294967296) (hb:b < 4294967296):Jx.wrap (UD (UH 64 (a:Int) ||| UH 64 (b:Int)).toNat) = ((a ||| b:Nat):Int):=by
 have:=Zbz ha hb
 rw [Hi,Zis (by omega),Zis (by omega)]; exact Zku (by omega)
theorem ZQ4 {a b:Nat} (ha:a < 4294967296) (hb:b < 4294967296):Jx.wrap (UD (UH 64 (a:Int) ^^^ UH 64 (b:Int)).toNat) = ((a ^^^ b:Nat):Int):=by
 have:=Za6 ha hb
 rw [Hj,Zis (by omega),Zis (by omega)]; exact Zku (by omega)
theorem XY (k:Nat) {n:Nat} (h:n < 18446744073709551616):Qv k ((n:Int),()) = some (((n % 4294967296:Nat):Int),()):=by
 show some (Jx.wrap (UD (UH 64 (n:Int) &&& UH 64 (4294967295:Int)).toNat),()) = _
 have e:n &&& 4294967295 = n % 4294967296:=Hp n 32
 rw [U8,Zis h,show (UH 64 (4294967295:Int)).toNat = 4294967295 from rfl,e]
 rw [show UD (n % 4294967296) = ((n % 4294967296:Nat):Int) from rfl,Zku (by omega)]
theorem ZXl (k:Nat) {b:Nat} (hb:b < 4294967296):Qv k (Jx.wrap (UD (UH 64 (-1:Int) ^^^ UH 64 (b:Int)).toNat),()) = some (((Zml b:Nat):Int),()):=by
 show some (Jx.wrap (UD (UH 64 (Jx.wrap (UD (UH 64 (-1:Int) ^^^ UH 64 (b:Int)).toNat)) &&& UH 64 (4294967295:Int)).toNat),()) = _
 have h1:UH 64 (-1:Int) = Hf 64:=by decide
 rw [h1,Hg,Hh,Zis (by omega)]
 have h2:(UH 64 (Jx.wrap (UD (2 ^ 64 - 1 - b)))).toNat = 2 ^ 64 - 1 - b:=by
  rw [BitVec.toNat_ofInt,IntKind.wrap_i64]
  simp_all <;> omega
 have e:=Hp (2 ^ 64 - 1 - b) 32
 rw [U8,h2,show (UH 64 (4294967295:Int)).toNat = 2 ^ 32 - 1 from rfl,e]
 have e2:(2 ^ 64 - 1 - b) % 2 ^ 32 = Zml b:=by unfold Zml; omega
 have:=WJ b
 rw [e2,show UD (Zml b) = ((Zml b:Nat):Int) from rfl,Zku (by omega)]
theorem ZQR:∀ t:Fin 64,Zbo 0 ((t.val:Int),()) = some (((rT.getD (t.val % 4 + t.val / 16 * 4) 0:Nat):Int),()):=by decide +kernel
theorem ZDe (k:Nat) {t:Nat} (h:t < 64):Zbo k ((t:Int),()) = some (((rT.getD (t % 4 + t / 16 * 4) 0:Nat):Int),()):=ZQR ⟨t,h⟩
abbrev L39:=Int × Int × Int × Int × Int × List Int × Int × List Int × List Int × List Int → Option (ByteArray × Unit)
theorem ZYS {a f k m:Nat} (ha:a < 4294967296) (hf:f < 4294967296) (hk:k < 4294967296) (hm:m < 4294967296):Jx.wrap (Jx.wrap (Jx.wrap ((a:Int) + (f:Int)) + (k:Int)) + (m:Int)) = ((a + f + k + m:Nat):Int):=by
 simp only [IntKind.wrap_i64]; omega
theorem ZYN (i:Nat):kT.getD i 0 < 4294967296:=by
 rw [VR]
 cases hi:kT[i]? with
 | none => simp
 | some x =>
  have h:∀ x ∈ kT,x < 4294967296:=by decide
  exact h x (Vw hi)
def ZoW (M:List Nat):Prop := ∀ x ∈ M,x < 4294967296
theorem ZJF {p:List Nat} (h:ZoW p) (i:Nat):p.getD i 0 < 4294967296:=by
 rw [VR]
 cases hi:p[i]? with
 | none => simp
 | some x => exact h x (Vw hi)
theorem ZXw {b p q:Nat} (hb:b < 4294967296) (h:p + q < 4294967296):b + (p + q) < 18446744073709551616:=by omega
theorem ZZg {b p q:Nat} (hb:b < 4294967296) (h:p + q < 4294967296):Jx.wrap (Jx.wrap ((b:Int) + (p:Int)) + (q:Int)) = ((b + (p + q):Nat):Int):=by
 simp only [IntKind.wrap_i64]; omega
theorem ZzF (k:Nat) (L3:Int × List Int × List Int × List Int → Option (ByteArray × Unit)) (L:L39) {t:Nat} (ht:t < 64) {a b c d:Nat} (ha:a < 4294967296) (hb:b < 4294967296) (hc:c < 4294967296) (hd:d < 4294967296) {M:List Nat} (hM:M.length = 16) (hw:ZoW M) (at_:Int) (h m:List Int) :
  YT k L3 L ((t:Int),(b:Int),(c:Int),(d:Int),(a:Int),Zh kT,at_,Zh M,h,m) =
   L (((t + 1:Nat):Int),((bT M t a b c d:Nat):Int),(b:Int),(c:Int),(d:Int),Zh kT,at_,Zh M,h,m):=by
 simp only [YT]
 have q:=tq ⟨t,ht⟩
 have m16:=ZYU ⟨t,ht⟩
 have e1:=g1 ⟨t,ht⟩
 have e2:=g2 ⟨t,ht⟩
 have e3:=g3 ⟨t,ht⟩
 have r1:=ZUX ⟨t,ht⟩
 simp only at q m16 e1 e2 e3 r1
 have hk:(Zh kT).length = 64:=by rw [ZB]; rfl
 have hm:(Zh M).length = 16:=by rw [ZB,hM]
 rw [Zb (by omega),q,m16,e1,e2,e3,hk,hm]
 simp only [Yi]
 rw [show UD 64 = (64:Int) from rfl,show UD 16 = (16:Int) from rfl]
 rw [ZW,ZW,ZW,ZW,ZW]
 have done:∀ g f,g = gT t → f = fT t b c d → ∀ y,y = Jx.wrap (Jx.wrap (Jx.wrap ((a:Int) + (f:Int)) + ((kT.getD t 0:Nat):Int)) + ((M.getD g 0:Nat):Int)) →
   ((Qv k (y,())).bind fun y => (Zbo k ((t:Int),())).bind fun y_1 => bif decide ((0:Int) ≤ y_1.1) then (Qv k (Jx.wrap (y.1 * (2:Int) ^ min (U3 y_1.1) (64:Nat)),())).bind fun y_2 => bif decide ((0:Int) ≤ Jx.wrap ((32:Int) - y_1.1)) then (Qv k (Jx.wrap (Jx.wrap ((b:Int) + y_2.1) + UP y.1 ((2:Int) ^ min (Jx.wrap ((32:Int) - y_1.1)).toNat (64:Nat))),())).bind fun y => L (Jx.wrap ((t:Int) + (1:Int)),y.1,(b:Int),(c:Int),(d:Int),Zh kT,at_,Zh M,h,m) else none else none) =
   L (((t + 1:Nat):Int),((bT M t a b c d:Nat):Int),(b:Int),(c:Int),(d:Int),Zh kT,at_,Zh M,h,m):=by
  rintro g f rfl rfl y rfl
  have hf:=ZYI (t:=t) hb hc hd
  have k1:=ZYN t
  have k2:=ZJF hw (gT t)
  rw [ZYS ha hf k1 k2,XY k (by omega)]
  simp only [Z9]
  rw [show (a + fT t b c d + kT.getD t 0 + M.getD (gT t) 0) % 4294967296 = xT M t a b c d from rfl]
  have hx:xT M t a b c d < 4294967296:=UY _ (by omega)
  have hbt:bT M t a b c d = (b + ZDU (xT M t a b c d) (rT.getD (t % 4 + t / 16 * 4) 0)) % 4294967296:=rfl
  rw [ZDe k ht,hbt]
  generalize xT M t a b c d = x at hx
  generalize rT.getD (t % 4 + t / 16 * 4) 0 = r at r1
  simp only [Z9]
  have hr:=ZG2 hx (show r ≤ 32 by omega)
  unfold ZDU at hr ⊢
  have e4:min ((r:Int)).toNat 64 = r:=by omega
  have e5:Jx.wrap ((32:Int) - (r:Int)) = ((32 - r:Nat):Int):=by rw [ZK (by omega)]; omega
  rw [Zb (by omega),e4,e5]
  have e6:min (((32 - r:Nat):Int)).toNat 64 = 32 - r:=by omega
  rw [e6]
  have h2r:2 ^ r < 2 ^ 31 + 1:=by
   have:2 ^ r ≤ 2 ^ 31:=He (by omega) (by omega)
   omega
  have hxr:x * 2 ^ r < 4294967296 * 2147483649:=Nat.mul_lt_mul'' hx (by simpa using h2r)
  have e7:Jx.wrap ((x:Int) * (2:Int) ^ r) = ((x * 2 ^ r:Nat):Int) ∨ x * 2 ^ r ≥ 9223372036854775808:=by
   rcases VM (x * 2 ^ r) 9223372036854775808 with h | h
   ·left
    rw [show (x:Int) * (2:Int) ^ r = ((x * 2 ^ r:Nat):Int) by simp,Zku h]
   ·exact .inr h
  have h3:x * 2 ^ r < 9223372036854775808:=by
   have:x * 2 ^ r ≤ 4294967295 * 2 ^ 31:=J3 (by omega) (He (by omega) (by omega))
   omega
  rcases e7 with e7 | e7
  ·rw [e7,XY k (Nat.lt_trans h3 (by decide))]
   simp only [Z9]
   rw [Zb (by omega),show ((2:Int) ^ (32 - r)) = ((2 ^ (32 - r):Nat):Int) by simp,ZfJ]
   rw [ZZg hb hr,XY k (ZXw hb hr)]
   simp only [Z9]
   rw [ZsA (by omega)]
  ·omega
 by_cases h0:t / 16 = 0
 ·rw [ZC,Zb (by omega),ZXl k hb]
  simp only [Z9]
  rw [Zb (by omega),Zb (by omega),Zb (by omega)]
  refine done (t % 16) _ (by simp [gT,h0]) rfl _ ?_
  rw [ZEa hb hc,ZEa (WJ b) hd,ZXm (Wm hb) (Wm (WJ b))]
  simp [fT,h0]
 rw [ZC,Zn (by omega)]
 by_cases h1:t / 16 = 1
 ·rw [ZC,Zb (by omega),ZXl k hd]
  simp only [Z9]
  rw [Zb (by omega),Zb (by omega),Zb (by omega)]
  refine done ((5 * t + 1) % 16) _ (by simp [gT,h1]) rfl _ ?_
  rw [ZEa hd hb,ZEa (WJ d) hc,ZXm (Wm hd) (Wm (WJ d))]
  simp [fT,h1]
 rw [ZC,Zn (by omega)]
 by_cases h2:t / 16 = 2
 ·rw [ZC,Zb (by omega),Zb (by omega),Zb (by omega),Zb (by omega)]
  refine done ((3 * t + 5) % 16) _ (by simp [gT,h2]) rfl _ ?_
  rw [ZQ4 hb hc,ZQ4 (Za6 hb hc) hd]
  simp [fT,h2]
 rw [ZC,Zn (by omega),ZXl k hd]
 simp only [Z9]
 rw [Zb (by omega),Zb (by omega),Zb (by omega)]
 refine done ((7 * t) % 16) _ (by simp [gT,h0,h1,h2]) rfl _ ?_
 rw [ZXm hb (WJ d),ZQ4 hc (Zbz hb (WJ d))]
 simp [fT,h0,h1,h2]
end Go.Sh
namespace Go.Sh
open Go Go.Proofs
def h4 (s:S4):List Int:=[(s.1:Int),(s.2.1:Int),(s.2.2.1:Int),(s.2.2.2:Int)]
abbrev L3T:=Int × List Int × List Int × List Int → Option (ByteArray × Unit)
theorem ZRc {a b:Nat} (ha:a < 4294967296) (hb:b < 4294967296):Jx.wrap ((b:Int) + (a:Int)) = ((a + b:Nat):Int):=by rw [ZK (by omega)]; omega
theorem ZFr (k:Nat) (L3:L3T) {M:List Nat} (hM:M.length = 16) (hw:ZoW M) (at_:Int) {s:S4} (hs:lt4 s) (m:List Int):∀ (n t fuel:Nat) (v:S4),t + n = 64 → n < fuel → lt4 v →
  Ze (fun L6 => YT k L3 L6) fuel ((t:Int),(v.2.1:Int),(v.2.2.1:Int),(v.2.2.2:Int),(v.1:Int),Zh kT,at_,Zh M,h4 s,m) =
   L3 (Jx.wrap (at_ + 64),Zh kT,m,h4 (((W2 M n t v).1 + s.1) % 4294967296,((W2 M n t v).2.1 + s.2.1) % 4294967296,((W2 M n t v).2.2.1 + s.2.2.1) % 4294967296,((W2 M n t v).2.2.2 + s.2.2.2) % 4294967296))
 | 0,t,fuel + 1,(a,b,c,d),h1,h2,h3 => by
  rw [Zd]
  simp only [YT,W2,h4]
  obtain ⟨a1,b1,c1,d1⟩:=h3
  obtain ⟨a2,b2,c2,d2⟩:=hs
  simp only at a1 b1 c1 d1
  rw [Zn (by omega)]
  simp only [JF,List.length_nil,List.getD_cons_zero,List.getD_cons_succ,JQ,Nat.zero_add,Nat.reduceAdd,List.set_cons_zero,List.set_cons_succ]
  rw [show UD 4 = (4:Int) from rfl,Zb (by omega),Zb (by omega),ZRc a1 a2,XY k (by omega)]
  simp only [Z9]
  rw [Zb (by omega),Zb (by omega),ZRc b1 b2,XY k (by omega)]
  simp only [Z9]
  rw [Zb (by omega),Zb (by omega),ZRc c1 c2,XY k (by omega)]
  simp only [Z9]
  rw [Zb (by omega),Zb (by omega),ZRc d1 d2,XY k (by omega)]
  rfl
 | n + 1,t,fuel + 1,(a,b,c,d),h1,h2,h3 => by
  rw [Zd,ZzF k L3 _ (by omega) h3.1 h3.2.1 h3.2.2.1 h3.2.2.2 hM hw]
  exact ZFr k L3 hM hw at_ hs m n (t + 1) fuel (d,bT M t a b c d,b,c) (by omega) (by omega) ⟨h3.2.2.2,UY _ (by omega),h3.2.1,h3.2.2.1⟩
 | 0,_,0,_,_,h2,_ => absurd h2 (U1 _)
 | n + 1,_,0,_,_,h2,_ => absurd h2 (U2 _)
def YG (m:List Nat) (j:Nat):List Nat:=(m.drop (64 * j)).take 64
theorem Zdj (m:List Nat) (j:Nat) {i:Nat} (hi:i < 64):(YG m j).getD i 0 = m.getD (64 * j + i) 0:=by
 simp only [YG,VR,List.getElem?_take,List.getElem?_drop,hi,if_true]
theorem ZQ0 {p:List Nat} (h:QL p) (i:Nat):ZkQ p i < 4294967296:=by
 have h1:=Wk h (4 * i)
 have h2:=Wk h (4 * i + 1)
 have h3:=Wk h (4 * i + 2)
 have h4:=Wk h (4 * i + 3)
 unfold ZkQ; omega
theorem ZKf {p:List Nat} (h:QL p):ZoW (Kc p):=by
 intro x hx
 obtain ⟨i,_,rfl⟩:=VF.1 hx
 exact ZQ0 h i
def Zr4 (p:List Nat) (i:Nat):List Nat:=(Jc i).map (ZkQ p)
theorem ZQ1 {a b c d:Nat} (ha:a < 256) (hb:b < 256) (hc:c < 256) (hd:d < 256) :
  Jx.wrap (Jx.wrap (Jx.wrap (Jx.wrap (a:Int) + Jx.wrap (Jx.wrap (b:Int) * 256)) + Jx.wrap (Jx.wrap (c:Int) * 65536)) + Jx.wrap (Jx.wrap (d:Int) * 16777216)) = ((a + b * 256 + c * 65536 + d * 16777216:Nat):Int):=by
 rw [ZK (n:=(a:Int)) (by omega),ZK (n:=(b:Int)) (by omega),ZK (n:=(c:Int)) (by omega),ZK (n:=(d:Int)) (by omega),ZK (n:=(b:Int) * 256) (by omega),ZK (n:=(c:Int) * 65536) (by omega),ZK (n:=(d:Int) * 16777216) (by omega),ZK (n:=(a:Int) + (b:Int) * 256) (by omega),ZK (n:=(a:Int) + (b:Int) * 256 + (c:Int) * 65536) (by omega),ZK (by omega)]
 omega
theorem ZFq (k:Nat) (L3:L3T) (L6:L39) {m:List Nat} (h8:QL m) {j:Nat} (hj:64 * (j + 1) ≤ m.length) (hm:m.length < 2000000000) (s:S4):∀ (n i fuel:Nat),i + n = 16 → n < fuel →
  Ze (fun L4 => Zax k L6 L3 L4) fuel (((64 * j + 4 * i:Nat):Int),((64 * j:Nat):Int),Zh kT,Zh (Zr4 (YG m j) i),Zh m,h4 s) =
   L6 ((0:Int),(s.2.1:Int),(s.2.2.1:Int),(s.2.2.2:Int),(s.1:Int),Zh kT,((64 * j:Nat):Int),Zh (Kc (YG m j)),h4 s,Zh m)
 | 0,i,fuel + 1,h1,h2 => by
  obtain rfl:i = 16:=by omega
  rw [Zd]
  simp only [Zax]
  rw [Zn (by rw [ZK (by omega)]; omega)]
  rfl
 | n + 1,i,fuel + 1,h1,h2 => by
  rw [Zd]
  simp only [Zax]
  have a1:Jx.wrap (((64 * j + 4 * i:Nat):Int) + 1) = ((64 * j + (4 * i + 1):Nat):Int):=by rw [ZK (by omega)]; omega
  have a2:Jx.wrap (((64 * j + 4 * i:Nat):Int) + 2) = ((64 * j + (4 * i + 2):Nat):Int):=by rw [ZK (by omega)]; omega
  have a3:Jx.wrap (((64 * j + 4 * i:Nat):Int) + 3) = ((64 * j + (4 * i + 3):Nat):Int):=by rw [ZK (by omega)]; omega
  have a4:Jx.wrap (((64 * j + 4 * i:Nat):Int) + 4) = ((64 * j + 4 * (i + 1):Nat):Int):=by rw [ZK (by omega)]; omega
  have a5:Jx.wrap (((64 * j:Nat):Int) + 64) = ((64 * j + 64:Nat):Int):=by rw [ZK (by omega)]; omega
  rw [a1,a2,a3,a4,a5,ZB,ZB]
  simp only [Yi]
  rw [show UD m.length = (m.length:Int) from rfl]
  rw [Zb (by omega),Zb (by omega),Zb (by omega),Zb (by omega),Zb (by omega),Zb (by omega),Zb (by omega),Zb (by omega),Zb (by omega),Zb (by simp [Zr4]; omega)]
  rw [ZW,ZW,ZW,ZW,← Zdj m j (by omega),← Zdj m j (by omega),← Zdj m j (by omega),← Zdj m j (by omega)]
  have hb:QL (YG m j):=fun x hx => h8 x (JS (JT hx))
  rw [ZQ1 (Wk hb (4 * i)) (Wk hb (4 * i + 1)) (Wk hb (4 * i + 2)) (Wk hb (4 * i + 3))]
  rw [show ((YG m j).getD (4 * i) 0 + (YG m j).getD (4 * i + 1) 0 * 256 + (YG m j).getD (4 * i + 2) 0 * 65536 + (YG m j).getD (4 * i + 3) 0 * 16777216) = ZkQ (YG m j) i from rfl]
  rw [show Zh (Zr4 (YG m j) i) ++ [(ZkQ (YG m j) i:Int)] = Zh (Zr4 (YG m j) (i + 1)) by simp [Zr4,Ho,Zh]]
  exact ZFq k L3 L6 h8 hj hm s n (i + 1) fuel (by omega) (by omega)
 | 0,_,0,_,h2 => absurd h2 (U1 _)
 | n + 1,_,0,_,h2 => absurd h2 (U2 _)
section doc
variable {k:Nat}
theorem ZFp (hk:100 ≤ k) (L5:Int × List Int × List Int → Option (ByteArray × Unit)) {m:List Nat} (h8:QL m) (hm:m.length < 2000000000):∀ (q j fuel:Nat) (s:S4),m.length = 64 * (j + q) → q < fuel → lt4 s →
  Ze (fun L3 => YR k (Ze5 k L3) L5 L3) fuel (((64 * j:Nat):Int),Zh kT,Zh m,h4 s) = L5 ((0:Int),[],h4 (mdT q (m.drop (64 * j)) s))
 | 0,j,fuel + 1,s,h1,h2,h3 => by
  rw [Zd]
  simp only [YR]
  rw [ZB,Zn (by simp only [QT]; omega)]
  rfl
 | q + 1,j,fuel + 1,s,h1,h2,h3 => by
  rw [Zd]
  simp only [YR]
  rw [ZB,Zb (by simp only [QT]; omega)]
  generalize hL3:Ze (fun L3 => YR k (Ze5 k L3) L5 L3) fuel = L3
  have hb:QL (YG m j):=fun x hx => h8 x (JS (JT hx))
  have e4:=ZFq k L3 (Zju k L3) h8 (j:=j) (by omega) hm s 16 0 k rfl (by omega)
  refine U4 e4 ?_
  have e6:=ZFr k L3 (Zr5 (YG m j)) (ZKf hb) ((64 * j:Nat):Int) h3 (Zh m) n64 0 k s (by rw [Zxw]) (by rw [Zxw]; omega) h3
  refine U4 e6 ?_
  rw [show Jx.wrap (((64 * j:Nat):Int) + 64) = ((64 * (j + 1):Nat):Int) by rw [ZK (by omega)]; omega,ZAD,List.drop_drop,← hL3]
  rw [show (m.drop (64 * j)).take 64 = YG m j from rfl,show 64 * j + 64 = 64 * (j + 1) by omega]
  have hX4:=ZGT (Kc (YG m j)) s
  exact ZFp hk L5 h8 hm q (j + 1) fuel (ZJO (Kc (YG m j)) s) (by omega) (by omega) hX4
 | 0,_,0,_,_,h2,_ => absurd h2 (U1 _)
 | q + 1,_,0,_,_,h2,_ => absurd h2 (U2 _)
theorem sh8 (x i:Nat) (hi:i < 4):UL.wrap (UP (x:Int) ((2:Int) ^ min (Jx.wrap ((8:Int) * (i:Int))).toNat 64)) = ((x / 2 ^ (8 * i) % 256:Nat):Int):=by
 have e:Jx.wrap ((8:Int) * (i:Int)) = ((8 * i:Nat):Int):=by rw [ZK (by omega)]; omega
 have e1:min (((8 * i:Nat):Int)).toNat 64 = 8 * i:=by omega
 rw [e,e1,show ((2:Int) ^ (8 * i)) = ((2 ^ (8 * i):Nat):Int) by simp,ZfJ,u8m]
theorem ZSS (hk:100 ≤ k) (L5:Int × List Int × List Int → Option (ByteArray × Unit)) (s:S4) {i:Nat} (hi:i < 4) {x:Nat} (hx:(h4 s).getD i 0 = (x:Int)) (l:List Nat) (hl:l.length < 1000):KB k L5 ((0:Int),(i:Int),Zh l,h4 s) = L5 (((i + 1:Nat):Int),Zh (l ++ le4 x),h4 s):=by
 obtain ⟨n,rfl⟩:∃ n,k = n + 5:=⟨k - 5,by omega⟩
 simp only [KB]
 have st:∀ (j:Nat) (L:Int × Int × List Int × List Int → Option (ByteArray × Unit)) (l:List Nat),j < 4 → l.length < 2000 →
   YU (n + 5) L5 L ((j:Int),(i:Int),Zh l,h4 s) = L (((j + 1:Nat):Int),(i:Int),Zh (l ++ [x / 2 ^ (8 * j) % 256]),h4 s):=by
  intro j L l hj hl
  simp only [YU,Yi]
  have e:(0:Int) ≤ Jx.wrap ((8:Int) * (j:Int)):=by rw [ZK (by omega)]; omega
  rw [show (h4 s).length = 4 from rfl,show UD 4 = (4:Int) from rfl,Zb (by omega),Zb (by omega),Zb (by omega),Zb e]
  simp only [hx,sh8 x j hj]
  rw [Zb (by simp [ZB]; omega),ZsA (by omega),QC]
  rfl
 have e0:∀ L,YU (n + 5) L5 L ((0:Int),(i:Int),Zh l,h4 s) = _:=fun L => st 0 L l (by omega) (by omega)
 rw [Zd,e0,Zd,st 1 _ _ (by omega) (by simp; omega),Zd,st 2 _ _ (by omega) (by simp; omega),Zd,st 3 _ _ (by omega) (by simp; omega),Zd]
 simp only [YU]
 rw [Zn (by omega),ZsA (by omega)]
 simp [le4]
theorem ZSR (hk:100 ≤ k) (s:S4):Ze6 k ((0:Int),[],h4 s) = some (WG (ZDL s),()):=by
 obtain ⟨n,hn⟩:∃ n,k = n + 5:=⟨k - 5,by omega⟩
 have st:∀ (i:Nat) (L:Int × List Int × List Int → Option (ByteArray × Unit)) (x:Nat) (l:List Nat),i < 4 → l.length < 1000 → (h4 s).getD i 0 = (x:Int) → YS k (KB k L) L ((i:Int),Zh l,h4 s) = L (((i + 1:Nat):Int),Zh (l ++ le4 x),h4 s):=by
  intro i L x l hi hl hx
  simp only [YS]
  rw [Zb (by omega)]
  exact ZSS hk L s hi hx l hl
 have e0:∀ L,YS k (KB k L) L ((0:Int),[],h4 s) = _:=fun L => st 0 L s.1 [] (by omega) (by simp) rfl
 have key:Ze (fun L5 => YS k (KB k L5) L5) (n + 5) ((0:Int),[],h4 s) = some (WG (ZDL s),()):=by
  rw [Zd,e0,Zd,st 1 _ s.2.1 _ (by omega) (by simp [le4]) rfl,Zd,st 2 _ s.2.2.1 _ (by omega) (by simp [le4]) rfl,Zd,st 3 _ s.2.2.2 _ (by omega) (by simp [le4]) rfl,Zd]
  rfl
 rw [← hn] at key
 exact key
end doc
end Go.Sh
namespace Go.Sh
open Go Go.Proofs
def az (b:UInt8):Bool:=Jb 97 b.toNat && Jb b.toNat 122
def vis (b:UInt8):Bool:=Jb 33 b.toNat && Jb b.toNat 126
def ZKd:List UInt8 → Bool
 | b :: v => b == 61 && (!v.isEmpty && v.all vis)
 | [] => false
def Zsz (n:Nat) (l:List UInt8):Bool:=bif Ja (l.dropWhile az).length n then false else ZKd (l.dropWhile az)
def Zim (s:ByteArray):Bool:=Jb 3 s.size && (Jb s.size 12 && Zsz s.size s.data.toList)
theorem ZU5 (b:UInt8):az b = decide ((97:Int) ≤ UD b.toNat ∧ UD b.toNat ≤ (122:Int)):=by
 unfold az
 rw [U9,Jh,Hb,Hb,decide_eq_true_eq]
 grind
theorem ZSo (k:Nat) (s:ByteArray) (hs:s.size ≤ 12) (hk:100 ≤ k) (i:Nat) (hi:i ≤ s.size):Zcz k (UD i,s) = some ((s.data.toList.drop i).all vis,()):=by
 have hl:=QY s
 refine Qm (A:=Unit) (fun i _ => (UD i,s)) s.data.toList (fun l _ => some (l.all vis,())) (fun L a => ?_) (fun L i hi a hL => ?_) k i () (by omega) (by omega)
 ·grind [Zdy]
 ·rw [hl] at hi
  simp only [Zdy]
  rw [Zb (W9 hi),Zb (QV hi),Zb (QV hi),Zs (by omega),ZL hi (by omega),hL ()]
  simp only [UA,vis]
  generalize s.data.toList[i].toNat = n
  by_cases h1:(UD n < (33:Int))
  ·simp_all <;> omega
  ·rw [Zn h1]
   have:Jb 33 n = true:=U0 (by grind)
   rw [this]
   by_cases h2:((126:Int) < UD n)
   ·simp_all <;> omega
   ·rw [Zn h2]
    simp_all <;> omega
theorem ZSn (k:Nat) (s:ByteArray) (hs:s.size ≤ 12) (h3:3 ≤ s.size) (hk:100 ≤ k):ZeX k (0,s) = some (Zsz s.size s.data.toList,()):=by
 have hl:=QY s
 have key:=Qm (step:=fun L1 => Zah k (Zcz k) L1) (A:=Unit) (fun i _ => (UD i,s)) s.data.toList (fun l _ => some (Zsz s.size l,())) (fun L a => ?_) (fun L i hi a hL => ?_) k 0 () (by omega) (by omega)
 ·rw [U5] at key
  exact key
 ·rw [hl]
  simp only [Zah]
  rw [Zn (XJ _),ZC,Zn (by simp only [QT]; omega),Zb (by rw [ZK (by simp only [QT]; omega)]; simp only [QT]; omega)]
  have:Zsz s.size [] = false:=by
   unfold Zsz
   cases Ja (List.dropWhile az []).length s.size <;> rfl
  rw [this]
 ·rw [hl] at hi
  simp only [Zah]
  rw [Zb (W9 hi),Zb (QV hi),Zb (QV hi),Zs (by omega),ZL hi (by omega),hL ()]
  have hlen:(s.data.toList.drop (i + 1)).length = s.size - (i + 1):=by rw [Vh,hl]
  have hsame:Zsz s.size (s.data.toList[i] :: s.data.toList.drop (i + 1)) = bif az s.data.toList[i] then Zsz s.size (s.data.toList.drop (i + 1)) else (bif Ja i 0 then false else ZKd (s.data.toList[i] :: s.data.toList.drop (i + 1))):=by
   unfold Zsz
   rw [Hc]
   cases haz:az s.data.toList[i] with
   | true => rfl
   | false =>
    simp only [JJ,if_false,cond_false,JF,hlen]
    have:Ja (s.size - (i + 1) + 1) s.size = Ja i 0:=by
     rw [U9,Nat.beq_eq,Nat.beq_eq]; omega
    rw [this]
  rw [hsame,ZU5]
  have rest:(bif UD i == (0:Int) then some (false,()) else bif decide (UD s.size ≤ UD (i + 1)) then some (false,()) else bif decide ((0:Int) ≤ UD i ∧ UD i < UD s.size) then bif UD s.data.toList[i].toNat != (61:Int) then some (false,()) else Zcz k (UD (i + 1),s) else none)
    = some ((bif Ja i 0 then false else ZKd (s.data.toList[i] :: s.data.toList.drop (i + 1))),()):=by
   rw [ZC]
   by_cases h0:i = 0
   ·subst h0; rfl
   ·rw [Zn (by simp only [QT]; omega)]
    have hb:Ja i 0 = false:=by cases hb:Ja i 0 with | false => rfl | true => simp_all
    rw [hb]
    simp only [cond_false,ZKd]
    by_cases h1:s.size ≤ i + 1
    ·grind
    ·rw [Zn (by simp only [QT]; omega),Zb (QV hi),ZSo k s hs hk _ (by omega),ZU]
     have hne:(s.data.toList.drop (i + 1)).isEmpty = false:=by
      simp_all
     rw [hne]
     by_cases h2:s.data.toList[i] = 61
     ·rw [h2]; rfl
     ·rw [Zb (by
       intro e
       apply h2
       apply UInt8.toNat_inj.1
       grind)]
      rw [beq_false_of_ne h2]; rfl
  grind
theorem ZCe (k:Nat) (s:ByteArray) (hk:100 ≤ k):ZvR k (s,()) = some (Zim s,()):=by
 show Zdx k (ZeX k) (s,()) = _
 simp only [Zdx]
 unfold Zim
 by_cases h1:s.size < 3
 ·rw [Zb (by simp only [QT]; omega)]
  simp_all <;> omega
 ·rw [Zn (by simp only [QT]; omega),U0 (show 3 ≤ s.size by omega)]
  by_cases h2:12 < s.size
  ·rw [Zb (by simp only [QT]; omega)]
   simp_all <;> omega
  ·rw [Zn (by simp only [QT]; omega),U0 (show s.size ≤ 12 by omega)]
   exact ZSn k s (by omega) (by omega) hk
end Go.Sh
namespace Go.Sh
open Go Go.Proofs
def Ziz:List UInt8 → Option (List UInt8 × List UInt8)
 | [] => none
 | b :: l => if b == 61 then some ([],l) else (Ziz l).map fun p => (b :: p.1,p.2)
theorem ZhD:∀ l:List UInt8,(Ziz l = none ∧ Lib.indexByte l 61 = -1) ∨ (∃ x y,Ziz l = some (x,y) ∧ Lib.indexByte l 61 = (x.length:Int) ∧ l = x ++ 61 :: y)
 | [] => .inl ⟨rfl,rfl⟩
 | b :: l => by
  simp only [Ziz,Lib.indexByte]
  by_cases hb:b = 61
  ·grind
  ·have hb':(b == 61) = false:=beq_false_of_ne hb
   rw [hb']
   simp only [JJ,if_false]
   rcases ZhD l with ⟨h1,h2⟩ | ⟨x,y,h1,h2,h3⟩
   ·rw [h1,h2]; exact .inl ⟨rfl,rfl⟩
   grind
def ZEj:Option (List UInt8 × List UInt8) → Bool
 | none => false
 | some (x,y) => x.all az && (!y.isEmpty && y.all vis)
theorem ZAY:∀ l:List UInt8,ZKd (l.dropWhile az) = ZEj (Ziz l)
 | [] => rfl
 | b :: l => by
  rw [Hc]
  simp only [Ziz]
  by_cases hb:b = 61
  ·subst hb
   rfl
  ·rw [beq_false_of_ne hb]
   simp only [JJ,if_false]
   cases ha:az b with
   | true =>
    simp only [if_true]
    rw [ZAY l]
    cases hc:Ziz l with
    | none => rfl
    | some p => simp [ZEj,ha]
   | false =>
    simp only [JJ,if_false,ZKd,beq_false_of_ne hb,Bool.false_and]
    cases hc:Ziz l with
    | none => rfl
    | some p => simp [ZEj,ha]
def Zk4:Option (List UInt8 × List UInt8) → Bool
 | none => false
 | some (x,y) => !x.isEmpty && (x.all az && (!y.isEmpty && y.all vis))
theorem ZQK (l:List UInt8):Zsz l.length l = Zk4 (Ziz l):=by
 unfold Zsz
 rw [ZAY]
 match l with
 | [] => rfl
 | b :: l =>
  rw [Hc]
  have hsuf:(l.dropWhile az).length ≤ l.length:=(List.dropWhile_suffix az).length_le
  by_cases hb:b = 61
  ·subst hb
   have:az 61 = false:=rfl
   rw [this]
   simp only [JJ,if_false]
   rw [show Ja (61 :: l).length (61 :: l).length = true from Nat.beq_refl _]
   rfl
  ·simp only [Ziz,beq_false_of_ne hb,JJ,if_false]
   cases ha:az b with
   | true =>
    simp only [if_true]
    have:Ja (l.dropWhile az).length (b :: l).length = false:=by
     cases hq:Ja (l.dropWhile az).length (b :: l).length with
     | false => rfl
     | true => simp_all <;> omega
    rw [this]
    cases hc:Ziz l with
    | none => rfl
    | some p => simp [ZEj,Zk4,ha]
   | false =>
    simp only [JJ,if_false]
    rw [show Ja (b :: l).length (b :: l).length = true from Nat.beq_refl _]
    cases hc:Ziz l with
    | none => rfl
    | some p => simp [Zk4,ha]
def ZkY (l:List UInt8):ByteArray:=⟨l.toArray⟩
theorem ZkZ (l:List UInt8):(ZkY l).data.toList = l:=rfl
theorem ZHo (l:List UInt8):(ZkY l).size = l.length:=by rw [← QY]; rfl
theorem ZmG (l:List UInt8):(ZkY l).toList = l:=by rw [toList_eq]; rfl
theorem ZiC (s:ByteArray) (a b:Nat):s.extract a b = ZkY ((s.data.toList.take b).drop a):=by
 apply Zhv
 rw [ZkZ,ByteArray.data_extract,Array.toList_extract,List.extract_eq_take_drop,List.drop_take]
theorem ZKO:(UJ #[]) = ZkY []:=rfl
def abc:List UInt8:=[97,98,99,100,101,102,103,104,105,106,107,108,109,110,111,112,113,114,115,116,117,118,119,120,121,122]
theorem ZRb:∀ n:Nat,n < 256 → (abc.contains (UU n)) = az (UU n):=by
 have h:(Jc 256).all (fun n => abc.contains (UU n) == az (UU n)) = true:=by kernel_rfl
 simp_all
theorem ZU0 (b:UInt8):abc.contains b = az b:=by
 have:=ZRb b.toNat b.toNat_lt
 rwa [UInt8.ofNat_toNat] at this
theorem ZJm (b:UInt8):(!Ki b.toNat) = vis b:=by
 unfold Ki vis
 rw [U9,Bool.not_eq_true',Bool.or_eq_false_iff,Jh,Hb,Hb]
 constructor
 ·rintro ⟨h1,h2⟩
  constructor
  ·rcases VM b.toNat 33 with h | h
   ·rw [show UZ b.toNat 33 = true from U0 h] at h1; cases h1
   ·exact h
  ·rcases VM 126 b.toNat with h | h
   ·rw [show UZ 126 b.toNat = true from U0 h] at h2; cases h2
   ·exact h
 ·rintro ⟨h1,h2⟩
  constructor
  ·cases h:UZ b.toNat 33 with
   | false => rfl
   | true => have:=Jt h; omega
  ·cases h:UZ 126 b.toNat with
   | false => rfl
   | true => have:=Jt h; omega
theorem ZC4 (k:Nat) (s:ByteArray) (hs:s.size ≤ 4294967296):ZoI k (s,UJ #[61],()) = some (match Ziz s.data.toList with
  | none => ((s,ZkY [],false,()),())
  | some (x,y) => ((ZkY x,ZkY y,true,()),())):=by
 have hl:=QY s
 show ZhQ k (s,UJ #[61],()) = _
 simp only [ZhQ]
 rw [show ZoL k (s,UJ #[61],()) = some (Lib.indexByte s.data.toList 61,()) from rfl,Z9]
 rcases ZhD s.data.toList with ⟨h1,h2⟩ | ⟨x,y,h1,h2,h3⟩
 ·simp only [h1,h2]
  rfl
 ·simp only [h1,h2]
  have hlen:x.length + (y.length + 1) = s.size:=by rw [← hl,h3]; simp
  have hw:Jx.wrap ((x.length:Int) + UD (UJ #[61]).size) = ((x.length + 1:Nat):Int):=by
   rw [show (UJ #[61]).size = 1 from rfl,ZK (by simp only [QT]; omega)]; simp only [QT]; omega
  rw [Zb (by omega),Zb (by simp only [QT]; omega),hw,Zb (by simp only [QT]; omega)]
  rw [ZiC,ZiC]
  have e1:(U3 (x.length:Int)) = x.length:=by omega
  have e2:(U3 ((x.length + 1:Nat):Int)) = x.length + 1:=by omega
  have e3:(U3 (UD s.size)) = s.size:=rfl
  rw [e1,e2,e3,h3]
  have t1:(UO x.length (x ++ 61 :: y)) = x:=by simp
  have t2:(UO s.size (x ++ 61 :: y)) = x ++ 61 :: y:=List.take_of_length_le (by simp; omega)
  simp_all
theorem ZCb (k:Nat) (s:ByteArray) (hs:s.size ≤ 1048576):Zoo k (s,()) = some (Zim s,()):=by
 have hl:=QY s
 show ZhK k (s,()) = _
 simp only [ZhK]
 rw [show Zv0 k (s,UJ #[OfNat.ofNat (61:Nat)],()) = (ZoI k (s,UJ #[61],())).bind fun y => some ((y.1.1,y.1.2.1,y.1.2.2.1,()),()) from rfl,ZC4 k s (by omega)]
 have htag:Zim s = (Jb 3 s.size && (Jb s.size 12 && Zk4 (Ziz s.data.toList))):=by
  unfold Zim
  rw [← hl,ZQK]
 rcases ZhD s.data.toList with ⟨h1,h2⟩ | ⟨x,y,h1,h2,h3⟩
 ·simp_all [h1,Z9,Zk4,Bool.and_false]
 ·rw [htag]
  have hlen:x.length + (y.length + 1) = s.size:=by rw [← hl,h3]; simp
  simp only [h1,Z9,Zk4,ZKO,ZmG]
  simp only [cond_true,bne,ZKJ]
  cases hx:x with
  | nil => simp
  | cons a x' =>
   rw [← hx]
   have hx0:(x == ([]:List UInt8)) = false:=by rw [hx]; rfl
   rw [hx0]
   simp only [Bool.not_false,cond_true,cond_false]
   cases hy:y with
   | nil => simp
   | cons c y' =>
    rw [← hy]
    have hy0:(y == ([]:List UInt8)) = false:=by rw [hy]; rfl
    have hx1:x.isEmpty = false:=by rw [hx]; rfl
    have hy1:y.isEmpty = false:=by rw [hy]; rfl
    have hlx:1 ≤ x.length:=by rw [hx]; simp
    have hly:1 ≤ y.length:=by rw [hy]; simp
    rw [hy0,hx1,hy1,U0 (show 3 ≤ s.size by omega)]
    simp only [Bool.not_false,cond_true,cond_false,UC]
    by_cases h12:s.size ≤ 12
    ·rw [Zb (by simp only [QT]; omega),U0 h12]
     have htr:Zoz k (ZkY x,UJ #[OfNat.ofNat (97:Nat),OfNat.ofNat (98:Nat),OfNat.ofNat (99:Nat),OfNat.ofNat (100:Nat),OfNat.ofNat (101:Nat),OfNat.ofNat (102:Nat),OfNat.ofNat (103:Nat),OfNat.ofNat (104:Nat),OfNat.ofNat (105:Nat),OfNat.ofNat (106:Nat),OfNat.ofNat (107:Nat),OfNat.ofNat (108:Nat),OfNat.ofNat (109:Nat),OfNat.ofNat (110:Nat),OfNat.ofNat (111:Nat),OfNat.ofNat (112:Nat),OfNat.ofNat (113:Nat),OfNat.ofNat (114:Nat),OfNat.ofNat (115:Nat),OfNat.ofNat (116:Nat),OfNat.ofNat (117:Nat),OfNat.ofNat (118:Nat),OfNat.ofNat (119:Nat),OfNat.ofNat (120:Nat),OfNat.ofNat (121:Nat),OfNat.ofNat (122:Nat)],()) = some (ZkY (Lib.trimS x abc),()):=by
      show ZAX (ZkY x,ZkY abc,()) = _
      unfold ZAX
      simp only [ZHo,ZkZ]
      rw [show UZ x.length 1099511627776 = true from U0 (by omega)]
      rfl
     rw [htr,Z9]
     simp only [ZmG]
     have hall:(Lib.trimS x abc == ([]:List UInt8)) = x.all az:=by
      rw [U9,beq_iff_eq,ZKa]
      rw [show (fun b => abc.contains b) = az from funext ZU0]
     rw [hall]
     cases x.all az with
     | false => rfl
     | true =>
      simp only [cond_true,UC]
      show ((ZTA Ki (ZkY y,(),())).bind fun y => some (decide (y.1 < (0:Int)),())) = _
      simp only [ZTA,Z9]
      rw [ZAw Ki (fun n hn => by
       unfold Ki
       simp_all <;> omega),ZkZ]
      rw [show (fun b:UInt8 => !Ki b.toNat) = vis from funext ZJm]
    ·rw [Zn (by simp only [QT]; omega)]
     simp_all <;> omega
end Go.Sh
namespace Go.Sh
open Go Go.Proofs
structure Small (tags:List ByteArray) (ch:List (List Int)):Prop where
 tl:tags.length ≤ 1048576
 tag:∀ t ∈ tags,t.size ≤ 1048576
 cl:ch.length ≤ 1048576
 chan:∀ c ∈ ch,c.length ≤ 1048576
def Zef (c d r:Int):Bool:=decide (1 ≤ c ∧ c ≤ 2 ∧ 4 ≤ d ∧ d ≤ 24 ∧ 1 ≤ r ∧ r ≤ 655350)
def Zha (d x:Int):Bool:=decide (-((2:Int) ^ (d - 1).toNat) ≤ x ∧ x < (2:Int) ^ (d - 1).toNat)
def ZmM (ch:List (List Int)) (x:List Int):Bool:=decide (x.length ≤ 4096 ∧ x.length = (ch.getD 0 []).length)
def chk (c d r:Int) (tags:List ByteArray) (ch:List (List Int)):Int :=
 bif Zef c d r then
  bif decide (8 < tags.length) then 1 else
  bif decide (¬ UD ch.length = c) then 1 else
  bif tags.all Zim then
   bif ch.all (ZmM ch) then
    bif ch.all (fun x => x.all (Zha d)) then 0 else 12
   else 1
  else 1
 else 2
theorem ZHg {n:Nat} (h:n ≤ 24):1 ≤ (2:Int) ^ n ∧ (2:Int) ^ n ≤ 16777216:=by
 have h1:1 ≤ 2 ^ n:=Nat.one_le_two_pow
 have h2:2 ^ n ≤ 2 ^ 24:=He (by omega) h
 grind
theorem ZQ2 {d:Int} (h:4 ≤ d ∧ d ≤ 24):Jx.wrap (d - 1) = d - 1:=ZK (by omega)
theorem ZUU {d:Int} (h:4 ≤ d ∧ d ≤ 24):min (d - 1).toNat 64 = (d - 1).toNat:=by omega
theorem ZJp (k:Nat) (x d:Int) (h:4 ≤ d ∧ d ≤ 24):ZqA k (x,d,()) = some (Zha d x,()):=by
 show Zfc k (x,d,()) = _
 simp only [Zfc]
 rw [ZC,Zn (by omega),ZQ2 h,Zb (by omega),ZUU h,Int.one_mul]
 have hp:=ZHg (n:=(d - 1).toNat) (by omega)
 unfold Zha
 generalize (2:Int) ^ (d - 1).toNat = p at hp ⊢
 have e1:Jx.wrap p = p:=ZK (by omega)
 have e2:Jx.wrap (0 - p) = 0 - p:=ZK (by omega)
 grind
theorem ZIj (k:Nat) (c d r:Int):ZyK k ((c,d,r,()),()) = some (Zef c d r,()):=by
 show ZeT k ((c,d,r,()),()) = _
 simp only [ZeT]
 unfold Zef
 have tail:(bif decide ((4:Int) ≤ d) then bif decide (d ≤ (24:Int)) then bif decide ((1:Int) ≤ r) then some (decide (r ≤ (655350:Int)),()) else some (false,()) else some (false,()) else some (false,())) = some (decide (4 ≤ d ∧ d ≤ 24 ∧ 1 ≤ r ∧ r ≤ 655350),()):=by
  grind
 rw [tail,ZC,ZC]
 by_cases h1:c = 1
 ·simp_all
 ·rw [Zn h1]
  by_cases h2:c = 2
  ·simp_all
  simp_all <;> omega
theorem ZH8 (k:Nat) (c d r:Int):ZyD k ((c,d,r,()),()) = some ((bif Zef c d r then 0 else 2),()):=by
 show ZeS k ((c,d,r,()),()) = _
 simp only [ZeS]
 unfold Zef
 grind
section ref
variable {k:Nat} (hk:16777216 ≤ k) {c d r:Int} {tags:List ByteArray} {ch:List (List Int)} (hS:Small tags ch) (hd:4 ≤ d ∧ d ≤ 24)
include hk hS hd
theorem ZSt (L3:Int × Int × Int × Int × List ByteArray × List (List Int) → Option (Int × Unit)) (i:Nat) (hi:i < ch.length) :
  ZiZ k L3 (0,UD i,c,d,r,tags,ch) = bif ch[i].all (Zha d) then L3 (UD (i + 1),c,d,r,tags,ch) else some (12,()):=by
 have hl:=hS.chan ch[i] (Ha _)
 have hcl:=hS.cl
 refine QN (fun j => (UD j,UD i,c,d,r,tags,ch)) ch[i] (Zha d) _ _ (fun L => ?_) (fun L j hj => ?_) k (by omega)
 ·simp only [ZdD]
  rw [Zb (QV hi),Zs hi,Zn (XJ _),ZL hi (by omega)]
 ·simp only [ZdD]
  rw [Zb (QV hi),Zs hi,Zb (W9 hj),Zb (QV hi),Zb (QV hj),Zs hj,ZJp k _ _ hd,ZL hj (by omega)]
  simp only [Z9,ZKJ]
theorem ZSs:Ze0 k (0,c,d,r,tags,ch) = bif ch.all (fun x => x.all (Zha d)) then some (0,()) else some (12,()):=by
 have hcl:=hS.cl
 refine QN (fun j => (UD j,c,d,r,tags,ch)) ch (fun x => x.all (Zha d)) _ _ (fun L => ?_) (fun L j hj => ?_) k (by omega)
 ·grind [ZdC]
 ·simp only [ZdC]
  rw [Zb (W9 hj)]
  exact ZSt hk hS hd L j hj
theorem ZSr (hc:1 ≤ ch.length):ZeZ k (0,c,d,r,tags,ch) = bif ch.all (ZmM ch) then Ze0 k (0,c,d,r,tags,ch) else some (1,()):=by
 have hcl:=hS.cl
 refine QN (fun j => (UD j,c,d,r,tags,ch)) ch (ZmM ch) _ _ (fun L => ?_) (fun L j hj => ?_) k (by omega)
 ·grind [ZdB]
 ·simp only [ZdB]
  rw [Zb (W9 hj),Zb (QV hj),Zs hj]
  unfold ZmM
  generalize hz:(ch.getD 0 []).length = z
  by_cases h1:(4096:Int) < UD ch[j].length
  ·grind
  ·rw [Zn h1,Zb (QV hj),Zb (by simp only [QT]; omega),ZU,ZL hj (by omega)]
   grind
theorem ZSq:ZeY k (0,c,d,r,tags,ch) = bif tags.all Zim then ZeZ k (0,c,d,r,tags,ch) else some (1,()):=by
 have htl:=hS.tl
 refine QN (fun j => (UD j,c,d,r,tags,ch)) tags Zim _ _ (fun L => ?_) (fun L j hj => ?_) k (by omega)
 ·grind [ZdA]
 ·simp only [ZdA]
  rw [Zb (W9 hj),Zb (QV hj),Zs hj,ZCe k _ (by omega),ZL hj (by omega)]
  simp only [Z9,ZKJ]
end ref
theorem ZCj {k:Nat} (hk:16777216 ≤ k) {c d r:Int} {tags:List ByteArray} {ch:List (List Int)} (hS:Small tags ch):ZvT k (((c,d,r,()),tags,ch,()),()) = some (chk c d r tags ch,()):=by
 show Zdz k (ZeY k) (((c,d,r,()),tags,ch,()),()) = _
 simp only [Zdz]
 rw [ZIj,Z9,ZKJ,ZU]
 unfold chk
 cases hs:Zef c d r with
 | false => rfl
 | true =>
  have hs':=of_decide_eq_true hs
  simp only [cond_true]
  by_cases h8:8 < tags.length
  ·grind
  ·rw [Zn (by simp only [QT]; omega),Zn h8]
   by_cases hc:UD ch.length = c
   ·rw [Zn (fun h => h hc),Zn (fun h => h hc),ZSq hk hS ⟨hs'.2.2.1,hs'.2.2.2.1⟩,ZSr hk hS ⟨hs'.2.2.1,hs'.2.2.2.1⟩ (by grind),ZSs hk hS ⟨hs'.2.2.1,hs'.2.2.2.1⟩]
    grind
   ·rw [Zb hc,Zb hc]
theorem ZDa {k:Nat} (hk:16777216 ≤ k) {tags:List ByteArray} (h1:tags.length ≤ 1048576) (h2:∀ t ∈ tags,t.size ≤ 1048576):Zv3 k (tags,(),()) = some (!(tags.all Zim),()):=by
 show ZhO k (tags,(),()) = _
 simp only [ZhO]
 have:∃ n:Int,Zwg k (tags,(),()) = some (n,()) ∧ decide (0 ≤ n) = !(tags.all Zim):=by
  show ∃ n:Int,ZdV k (ZjN k) (tags,(),()) = some (n,()) ∧ _
  simp only [ZdV]
  have key:∀ (m i:Nat),tags.length < m + i → i ≤ tags.length → ∃ n:Int,Ze (fun L1 => ZaI k L1) m (UD tags.length,UD i,tags) = some (n,()) ∧ decide (0 ≤ n) = !((tags.drop i).all Zim):=by
   intro m
   induction m with
   | zero => intro i h h'; omega
   | succ m ih =>
    intro i h h'
    rw [Zd]
    by_cases he:i = tags.length
    ·simp_all [ZaI]
    ·have hi:i < tags.length:=by omega
     simp only [ZaI]
     rw [Zb (W9 hi),Zb (QV hi),Zs hi]
     rw [show Zv4 k (tags[i],()) = (Zoo k (tags[i],())).bind fun y => some (!y.1,()) from rfl,ZCb k _ (h2 _ (Ha _)),Z9,Z9,ZL hi (by omega),List.drop_eq_getElem_cons hi,UA]
     grind
  have:=key k 0 (by omega) (by omega)
  rwa [U5] at this
 grind
theorem XX (k:Nat) (c d r:Int) (tags:List ByteArray) (ch:List (List Int)):Zbl k (((c,d,r,()),tags,ch,()),()) = some (UD (ch.getD 0 []).length,()):=by
 show ZhN k (((c,d,r,()),tags,ch,()),()) = _
 grind [ZhN,QT,JF]
theorem ZJx {x p:Int} (hp:1 ≤ p):(UP x p = 0 ∨ UP x p = -1) ↔ (-p ≤ x ∧ x < p):=by
 have h1:=Int.mul_fdiv_add_fmod x p
 have h2:0 ≤ Int.fmod x p:=Int.fmod_nonneg_of_pos _ (by omega)
 have h3:Int.fmod x p < p:=Int.fmod_lt_of_pos _ (by omega)
 generalize UP x p = q at *
 generalize Int.fmod x p = m at *
 constructor
 ·grind
 ·intro h
  rcases Hl q (-1) with hq | hq | hq
  ·exfalso
   have:p * q ≤ p * (-2):=Hm (by omega) (by omega)
   omega
  ·exact .inr hq
  ·rcases Hl q 0 with hq' | hq' | hq'
   ·omega
   ·exact .inl hq'
   ·exfalso
    have:p * 1 ≤ p * q:=Hm (by omega) (by omega)
    omega
section prog
variable {k:Nat} (hk:16777216 ≤ k) {c d r:Int} {tags:List ByteArray} {ch:List (List Int)} (hS:Small tags ch) (hd:4 ≤ d ∧ d ≤ 24)
include hk hS hd
theorem ZSA (L2:Int × Int × List (List Int) × Int × Int × Int × List ByteArray × List (List Int) → Option (Int × Unit)) (i:Nat) (hi:i < ch.length) :
  Zi9 k L2 (UD ch[i].length,0,ch[i],UD i,UD ch.length,ch,c,d,r,tags,ch) = bif ch[i].all (Zha d) then L2 (UD ch.length,UD (i + 1),ch,c,d,r,tags,ch) else some (12,()):=by
 have hl:=hS.chan ch[i] (Ha _)
 have hcl:=hS.cl
 refine QN (fun j => (UD ch[i].length,UD j,ch[i],UD i,UD ch.length,ch,c,d,r,tags,ch)) ch[i] (Zha d) _ _ (fun L => ?_) (fun L j hj => ?_) k (by omega)
 ·simp only [ZdJ]
  rw [Zn (XJ _),ZL hi (by omega)]
 ·simp only [ZdJ]
  rw [Zb (W9 hj),Zb (QV hj),Zs hj,ZQ2 hd,Zb (by omega),ZUU hd,ZL hj (by omega),ZU,ZU]
  have hp:=ZHg (n:=(d - 1).toNat) (by omega)
  have hf:=ZJx (x:=ch[i][j]) hp.1
  unfold Zha
  grind
theorem ZSz:Ze3 k (UD ch.length,0,ch,c,d,r,tags,ch) = bif ch.all (fun x => x.all (Zha d)) then some (0,()) else some (12,()):=by
 have hcl:=hS.cl
 refine QN (fun j => (UD ch.length,UD j,ch,c,d,r,tags,ch)) ch (fun x => x.all (Zha d)) _ _ (fun L => ?_) (fun L j hj => ?_) k (by omega)
 ·grind [ZdI]
 ·simp only [ZdI]
  rw [Zb (W9 hj),Zb (QV hj),Zs hj]
  exact ZSA hk hS hd L j hj
theorem ZSy:Ze2 k (UD ch.length,0,ch,c,d,r,tags,ch) = bif ch.all (ZmM ch) then Ze3 k (UD ch.length,0,ch,c,d,r,tags,ch) else some (1,()):=by
 have hcl:=hS.cl
 refine QN (fun j => (UD ch.length,UD j,ch,c,d,r,tags,ch)) ch (ZmM ch) _ _ (fun L => ?_) (fun L j hj => ?_) k (by omega)
 ·grind [ZdH]
 ·simp only [ZdH]
  rw [Zb (W9 hj),Zb (QV hj),Zs hj,XX,ZL hj (by omega)]
  simp only [Z9]
  rw [ZU]
  unfold ZmM
  grind
end prog
theorem Zp1 {k:Nat} (hk:16777216 ≤ k) {c d r:Int} {tags:List ByteArray} {ch:List (List Int)} (hS:Small tags ch):Zot k (((c,d,r,()),tags,ch,()),()) = some (chk c d r tags ch,()):=by
 show ZdG k (Ze2 k) (((c,d,r,()),tags,ch,()),()) = _
 simp only [ZdG]
 rw [ZH8,Z9,ZU]
 unfold chk
 cases hs:Zef c d r with
 | false => rfl
 | true =>
  have hs':=of_decide_eq_true hs
  have hd:4 ≤ d ∧ d ≤ 24:=⟨hs'.2.2.1,hs'.2.2.2.1⟩
  simp only [cond_true]
  rw [ZU,Zn (by simp)]
  by_cases h8:8 < tags.length
  ·grind
  ·rw [Zn (by simp only [QT]; omega),Zn h8]
   by_cases hc:UD ch.length = c
   ·rw [Zn (fun h => h hc),Zn (fun h => h hc),ZDa hk hS.tl hS.tag,Z9,ZKJ,ZSy hk hS hd,ZSz hk hS hd]
    grind
   ·rw [Zb hc,Zb hc]
end Go.Sh
namespace Go.Sh
open Go Go.Proofs
def WO (s:ByteArray):List Nat:=s.data.toList.map UInt8.toNat
theorem ZDI (s:ByteArray):UT (fun b:UInt8 => UD b.toNat) s.data.toList = Zh (WO s):=by simp [Zh,WO]
theorem Y5 (s:ByteArray):(WO s).length = s.size:=by simp [WO]
theorem Zm7 (s:ByteArray):QL (WO s):=by
 intro x hx
 obtain ⟨b,_,rfl⟩:=VF.1 hx
 exact b.toNat_lt
theorem Zh6 {l:List Nat} (h:QL l):WO (WG l) = l:=by
 simp only [WO,WG,Zh,List.map_map]
 conv => rhs; rw [← List.map_id l]
 apply List.map_congr_left
 intro x hx
 have:=h x hx
 simp [Function.comp,UInt8.toNat_ofNat_of_lt' this]
section doc
variable {k:Nat}
theorem ZSQ (hk:100 ≤ k) (s:ByteArray) (hb:s.size < 1000000000) (m:List Nat) (L2:Int × Int × List Int → Option (ByteArray × Unit)) (j:Nat) (h1:(m.length + j) % 64 = 56) (h2:j < 64) (h3:m.length + j < 2000000000) :
  Ze (fun L1 => Xr k L2 L1) k (s,Zh m) = L2 ((0:Int),((8 * s.size:Nat):Int),Zh (m ++ Jd j 0)):=by
 rw [Zmf (st2:=fun L v => Xr k L2 (fun x => L x.2) (s,v)) (fun L L2' hL v => by
  simp only [Xr]
  rw [hL])]
 refine Zrz (step:=fun L v => Xr k L2 (fun x => L x.2) (s,v)) (out:=fun v => L2 ((0:Int),((8 * s.size:Nat):Int),v)) (fun L m hm => ?_) (fun L m hm hl => ?_) j k m h1 h2 (by omega) h3
 ·simp only [Xr]
  rw [ZB,ZU,QT,ZHe,Zn (by omega)]
  have:Jx.wrap ((8:Int) * (s.size:Int)) = ((8 * s.size:Nat):Int):=by rw [ZK (by omega)]; omega
  rw [← this]
  rfl
 ·simp only [Xr]
  rw [ZB,ZU,QT,ZHe,Zb (by omega),Zb (by omega),QC]
  rfl
theorem ZDb:Zwh k () = some (Zh kT,()):=by
 show ZhR k () = _
 simp only [ZhR]
 rw [← ZYM]
 rfl
theorem shN (N i:Nat) (hi:i < 8):UL.wrap (UP (N:Int) ((2:Int) ^ min (Jx.wrap ((8:Int) * (i:Int))).toNat 64)) = ((N / 2 ^ (8 * i) % 256:Nat):Int):=by
 have e:Jx.wrap ((8:Int) * (i:Int)) = ((8 * i:Nat):Int):=by rw [ZK (by omega)]; omega
 have e1:min (((8 * i:Nat):Int)).toNat 64 = 8 * i:=by omega
 rw [e,e1,show ((2:Int) ^ (8 * i)) = ((2 ^ (8 * i):Nat):Int) by simp,ZfJ,u8m]
theorem ZFo (N:Nat) (m:List Nat) (hm:m.length < 2000000000) (L3:L3T):∀ (n i fuel:Nat),i + n = 8 → n < fuel →
  Ze (fun L2 => Zaw k L3 L2) fuel ((i:Int),(N:Int),Zh (m ++ K6 N i)) = L3 ((0:Int),Zh kT,Zh (m ++ K6 N 8),h4 s0T)
 | 0,i,fuel + 1,h1,h2 => by
  obtain rfl:i = 8:=by omega
  rw [Zd]
  simp only [Zaw]
  rw [Zn (by omega),ZDb]
  rfl
 | n + 1,i,fuel + 1,h1,h2 => by
  rw [Zd]
  simp only [Zaw]
  have e:(0:Int) ≤ Jx.wrap ((8:Int) * (i:Int)):=by rw [ZK (by omega)]; omega
  rw [Zb (by omega),Zb e]
  simp only [shN N i (by omega)]
  rw [ZB,Zb (by simp [QJ]; omega),ZsA (by omega)]
  rw [show Zh (m ++ K6 N i) ++ [((N / 2 ^ (8 * i) % 256:Nat):Int)] = Zh (m ++ K6 N (i + 1)) by rw [Zrh,← Ju,QC (m ++ K6 N i)]; rfl]
  exact ZFo N m hm L3 n (i + 1) fuel (by omega) (by omega)
 | 0,_,0,_,h2 => absurd h2 (U1 _)
 | n + 1,_,0,_,h2 => absurd h2 (U2 _)
theorem ZCR (hk:100 ≤ k) {s:ByteArray} (hb:s.size < 1000000000) (hq:s.size < k):ZoC k (s,()) = some (WG (Zsn (WO s)),()):=by
 have hl:=Y5 s
 have hz:=ZD4 s.size
 show ZdR k _ _ = _
 simp only [ZdR]
 rw [Zb (by omega),ZDI,ZB,hl,Zb (by omega),show Zh (WO s) ++ [(128:Int)] = Zh (WO s ++ [128]) by rw [QC]; rfl]
 refine (ZSQ hk s hb (WO s ++ [128]) _ (zT s.size) (by simpa [hl] using hz.1) hz.2 (by simp [hl]; omega)).trans ?_
 have h2:=ZFo (k:=k) (8 * s.size) (WO s ++ [128] ++ Jd (zT s.size) 0) (by simp [hl]; omega) (Zjt k) 8 0 k rfl (by omega)
 rw [show K6 (8 * s.size) 0 = [] from rfl,Vf] at h2
 refine h2.trans ?_
 have hpl:=ZAI (WO s)
 have hpl2:(Zg8 (WO s)).length < s.size + 100:=by
  simp only [Zg8,QZ,Uq,QJ,Ur,hl]; omega
 have h8:=Zry (Zm7 s)
 have e:WO s ++ [128] ++ Jd (zT s.size) 0 ++ K6 (8 * s.size) 8 = Zg8 (WO s):=by unfold Zg8; rw [hl]
 rw [e]
 have h3:=ZFp hk (Ze6 k) h8 (by omega) ((Zg8 (WO s)).length / 64) 0 k s0T (by rw [Nat.zero_add]; exact hpl) (by omega) (by unfold lt4 s0T; simp)
 refine U4 h3 ?_
 rw [Nat.mul_zero,U5]
 exact ZSR hk _
end doc
end Go.Sh
namespace Go.Sh
open Go Go.Proofs
def Zen (x:Int) (j:Nat):Nat:=(UP x ((2:Int) ^ (8 * j)) % 256).toNat
def Q4 (x:Int):Nat → Nat → List Nat
 | _,0 => []
 | j,n + 1 => Zen x j :: Q4 x (j + 1) n
def ZmD (nb:Nat) (ch:List (List Int)) (i:Nat):List Nat:=ch.flatMap fun c => Q4 (c.getD i 0) 0 nb
def Za3 (nb:Nat) (ch:List (List Int)) (n:Nat):List Nat:=(Jc n).flatMap (ZmD nb ch)
theorem ZKF (x:Int) (j:Nat):Zen x j < 256:=by
 unfold Zen
 omega
theorem ZmH (x:Int):∀ n j,QL (Q4 x j n)
 | 0,j => by intro y hy; cases hy
 | n + 1,j => by
  intro y hy
  cases hy with
  | head => exact ZKF x j
  | tail _ hy => exact ZmH x n (j + 1) y hy
theorem Xd (x:Int):∀ n j,(Q4 x j n).length = n
 | 0,_ => rfl
 | n + 1,j => by simp [Q4,Xd x n]
theorem ZDY (nb:Nat) (ch:List (List Int)) (n:Nat):QL (Za3 nb ch n):=by
 intro y hy
 simp only [Za3,ZmD,List.mem_flatMap] at hy
 obtain ⟨i,_,c,_,h⟩:=hy
 exact ZmH _ _ _ y h
theorem ZcU {α β:Type} {f:α → List β} {B:Nat}:∀ {l:List α},(∀ x ∈ l,(f x).length = B) → (l.flatMap f).length = l.length * B
 | [],_ => by simp
 | x :: l,h => by
  rw [Hn,QZ,h x (Jl ..),ZcU fun y hy => h y (List.mem_cons_of_mem _ hy),JF,Nat.add_mul]; omega
theorem ZAQ (nb:Nat) (ch:List (List Int)) (n:Nat):(Za3 nb ch n).length = n * (ch.length * nb):=by
 unfold Za3
 rw [ZcU (B:=ch.length * nb) fun i _ => by unfold ZmD; exact ZcU fun c _ => Xd _ _ _,U7]
theorem ZYR (x:Int) (j:Nat) (hj:j < 8):UL.wrap (UP x ((2:Int) ^ min (((8 * j:Nat):Int)).toNat 64)) = ((Zen x j:Nat):Int):=by
 have e1:min (((8 * j:Nat):Int)).toNat 64 = 8 * j:=by omega
 rw [e1]
 unfold Zen
 generalize UP x ((2:Int) ^ (8 * j)) = y
 rw [IntKind.wrap_u8]; omega
structure Good0 (c d:Int) (ch:List (List Int)) (n:Nat):Prop where
 d4:4 ≤ d ∧ d ≤ 24
 c1:1 ≤ ch.length ∧ ch.length ≤ 2
 cl:(ch.length:Int) = c
 n4:n ≤ 4096
 len:∀ x ∈ ch,x.length = n
theorem XM {c d r:Int} {tags:List ByteArray} {ch:List (List Int)} (h:chk c d r tags ch = 0):Good0 c d ch (ch.getD 0 []).length ∧ Zef c d r = true ∧ (∀ x ∈ ch,x.all (Zha d) = true) ∧ tags.all Zim = true ∧ tags.length ≤ 8:=by
 unfold chk at h
 cases h1:Zef c d r with
 | false => rw [h1] at h; exact absurd h (by simp)
 | true =>
  rw [h1] at h
  simp only [cond_true] at h
  by_cases h2:8 < tags.length
  ·rw [Zb h2] at h; cases h
  rw [Zn h2] at h
  by_cases h3:UD ch.length = c
  ·rw [Zn (by simpa using h3)] at h
   cases h4:tags.all Zim with
   | false => rw [h4] at h; cases h
   | true =>
    rw [h4] at h
    cases h5:ch.all (ZmM ch) with
    | false => rw [h5] at h; cases h
    | true =>
     rw [h5] at h
     cases h6:ch.all (fun x => x.all (Zha d)) with
     | false => rw [h6] at h; cases h
     | true =>
      have hs:=of_decide_eq_true h1
      have hev:=Ve.1 h5
      simp only [QT] at h3
      have hc1:1 ≤ ch.length:=by omega
      refine ⟨⟨by omega,by omega,h3,?_,fun x hx => (of_decide_eq_true (hev x hx)).2⟩,rfl,fun x hx => Ve.1 h6 x hx,rfl,by omega⟩
      match ch,hc1 with
      | x :: l,_ => exact (of_decide_eq_true (hev x (Jl ..))).1
  simp_all
def nbD (d:Int):Nat:=((d + 7) / 8).toNat
section prog
variable {k:Nat} {c d r:Int} {tags:List ByteArray} {ch:List (List Int)} {n:Nat}
theorem ZE5 (hd:4 ≤ d ∧ d ≤ 24) (L1:Int × Int × Int × Int × Int × List ByteArray × List (List Int) × List Int → Option ((ByteArray × Int × Unit) × Unit)) (L2:Int × Int × List (List Int) × Int × Int × Int × Int × Int × Int × List ByteArray × List (List Int) × List Int → Option ((ByteArray × Int × Unit) × Unit))
  (col:List Int) (i:Nat) (hi:i < col.length) (ci len:Int) (cols:List (List Int)) (z nn:Int):∀ (m j fuel:Nat) (acc:List Nat),j + m = nbD d → m < fuel → acc.length + m < 1000000000 →
  Ze (fun L3 => Zak k L1 L2 L3) fuel (((8 * j:Nat):Int),col,(i:Int),ci,len,cols,z,nn,c,d,r,tags,ch,Zh acc) =
   L2 (len,Jx.wrap (ci + 1),cols,(i:Int),z,nn,c,d,r,tags,ch,Zh (acc ++ Q4 (col.getD i 0) j m))
 | 0,j,fuel + 1,acc,h1,h2,h3 => by
  rw [Zd]
  simp only [Zak]
  rw [Zn (by unfold nbD at h1; omega)]
  simp [Q4]
 | m + 1,j,fuel + 1,acc,h1,h2,h3 => by
  rw [Zd]
  simp only [Zak]
  have hj:j < 8:=by unfold nbD at h1; omega
  rw [Zb (by unfold nbD at h1; omega),Zb (by simp only [QT]; omega),Zb (by omega)]
  simp only [Yi (n:=i),ZYR _ j hj]
  rw [ZB,Zb (by simp; omega)]
  have e2:Jx.wrap (((8 * j:Nat):Int) + 8) = ((8 * (j + 1):Nat):Int):=by rw [ZK (by omega)]; omega
  rw [e2,show Zh acc ++ [(Zen (col.getD i 0) j:Int)] = Zh (acc ++ [Zen (col.getD i 0) j]) by rw [QC]; rfl]
  rw [ZE5 hd L1 L2 col i hi ci len cols z nn m (j + 1) fuel (acc ++ [Zen (col.getD i 0) j]) (by omega) (by omega) (by simp; omega)]
  simp [Q4]
 | 0,_,0,_,_,h2,_ => absurd h2 (U1 _)
 | m + 1,_,0,_,_,h2,_ => absurd h2 (U2 _)
theorem Zxx (hd:4 ≤ d ∧ d ≤ 24):nbD d ≤ 3 ∧ 1 ≤ nbD d:=by unfold nbD; omega
theorem ZSv (hk:100 ≤ k) (hg:Good0 c d ch n) (L1:Int × Int × Int × Int × Int × List ByteArray × List (List Int) × List Int → Option ((ByteArray × Int × Unit) × Unit)) (i:Nat) (hi:i < n) (acc:List Nat) (ha:acc.length < 900000000) :
  Ze1 k L1 (UD ch.length,(0:Int),ch,(i:Int),(i:Int),(n:Int),c,d,r,tags,ch,Zh acc) = L1 ((n:Int),Jx.wrap ((i:Int) + 1),c,d,r,tags,ch,Zh (acc ++ ZmD (nbD d) ch i)):=by
 have hnb:=Zxx hg.d4
 have hc:=hg.c1
 have key:=Zi (A:=List Nat) (step:=fun L2 => Zaj k (Zi4 k L1 L2) L1 L2) (fun q a => (UD ch.length,UD q,ch,(i:Int),(i:Int),(n:Int),c,d,r,tags,ch,Zh a)) ch
  (fun rest a => L1 ((n:Int),Jx.wrap ((i:Int) + 1),c,d,r,tags,ch,Zh (a ++ rest.flatMap fun c => Q4 (c.getD i 0) 0 (nbD d)))) (fun q a => a.length ≤ acc.length + 3 * q)
  (fun L a _ => by
   grind [Zaj])
  (fun L q hq a hI hL => by
   simp only [Zaj]
   rw [Zb (W9 hq),Zb (QV hq),Zs hq]
   have h3:=ZE5 (k:=k) (c:=c) (r:=r) (tags:=tags) (ch:=ch) hg.d4 L1 L ch[q] i (by rw [hg.len _ (Ha hq)]; exact hi) (UD q) (UD ch.length) ch (i:Int) (n:Int) (nbD d) 0 k a (by omega) (by omega) (by omega)
   refine U4 h3 ?_
   rw [ZL hq (by omega),hL _ (by simp [Xd]; omega),Hn,Ju])
  k 0 acc (by omega) (by omega) (by omega)
 rw [U5] at key
 exact key
theorem ZCn (hk:16777216 ≤ k) (hS:Small tags ch):Zi2 k (((c,d,r,()),tags,ch,()),()) = (if chk c d r tags ch = 0 then some ((WG (Zsn (Za3 (nbD d) ch (ch.getD 0 []).length)),0,()),()) else some ((⟨#[]⟩,chk c d r tags ch,()),())):=by
 show ZdE k _ _ = _
 simp only [ZdE]
 rw [Zp1 hk hS]
 simp only [Z9]
 by_cases h0:chk c d r tags ch = 0
 ·rw [if_pos h0,h0,ZU,Zn (by simp),XX]
  simp only [Z9]
  obtain ⟨hg,-⟩:=XM h0
  generalize (ch.getD 0 []).length = n at hg
  have hnb:=Zxx hg.d4
  have hc:=hg.c1
  have hn:=hg.n4
  have hmul:∀ i,i * (ch.length * nbD d) ≤ i * 6:=fun i => Nat.mul_le_mul_left i (Nat.le_trans (J3 hc.2 hnb.1) (by omega))
  have key:=Zi (A:=List Nat) (step:=fun L1 => Zai k (Ze1 k L1) L1) (fun q a => (UD n,UD q,c,d,r,tags,ch,Zh a)) (Jc n)
   (fun rest a => (ZoB k (Zh (a ++ rest.flatMap (ZmD (nbD d) ch)),())).bind fun y => some ((y.1,(0:Int),()),())) (fun q a => a.length = q * (ch.length * nbD d))
   (fun L a _ => by
    grind [Zai,U7])
   (fun L q hq a hI hL => by
    rw [U7] at hq
    simp only [Zai]
    have:=hmul q
    rw [Zb (W9 hq)]
    refine U4 (ZSv (by omega) hg L q hq a (by omega)) ?_
    rw [show Jx.wrap ((q:Int) + 1) = UD (q + 1) from ZL hq (by omega)]
    have hq6:(ZmD (nbD d) ch q).length = ch.length * nbD d:=by unfold ZmD; exact ZcU fun c _ => Xd _ _ _
    grind)
   k 0 [] (by simp) (by rw [U7]; omega) (by omega)
  rw [U5,List.nil_append] at key
  refine U4 key ?_
  have hl:=ZAQ (nbD d) ch n
  have:=hmul n
  rw [show (Jc n).flatMap (ZmD (nbD d) ch) = Za3 (nbD d) ch n from rfl,ZCI (by omega) (ZDY _ _ _) (by omega) (by omega)]
  rfl
 ·rw [if_neg h0,ZU,Zb h0]
end prog
end Go.Sh
