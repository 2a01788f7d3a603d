/-
  What the row needs, part 11.
-/
import Derived.Test.YtgbhjfacjekhcaaGreatDoorXStreamApart10
import Derived.Test.YtgbhjfacjekhcaaGreatDoorProg
set_option linter.unusedSimpArgs false
set_option linter.unusedVariables false
set_option linter.unusedSectionVars false
open BitVec renaming ofInt→UN
open Bool renaming false_eq_true→JJ,eq_iff_iff→Hc,true_and→UC
open ByteArray renaming mk→UZ,toList→U7,size→Hd
open Int renaming ofNat→UJ,fdiv→UT,toNat→UV,tdiv→UU,cast_ofNat_Int→He,lt_trichotomy→Hf,mul_le_mul_of_nonneg_left→Hg
open Go.IntKind renaming i64→Jx,u32→UY,u8→UQ,u64→UO
open List renaming length→UP,take→UR,drop→US,range→Jc,map→U4,length_range→U8,replicate→Jd,drop_zero→U9,getElem_mem→Ha,all_eq_true→Vf,append_assoc→Ju,dropWhile_cons→Hh,flatMap_cons→Hi,length_cons→JF,length_replicate→Ur,length_singleton→Us,mem_cons_self→Jm,mem_map→VG
open Nat renaming beq→Ja,blt→U0,mod_lt→U1,ble→Jb,ble_eq_true_of_le→U3,lt_irrefl→U5,not_lt_zero→U6,le_of_ble_eq_true→Jt,lt_of_le_of_lt→Hb
open UInt8 renaming ofNat→U2
open Go.Value renaming int→Jv,slice→V5
namespace Go.Sh
open Go Go.Proofs
abbrev trackT:Ty:=.pair ZlM (.pair (.sl .str) (.pair (.sl (.sl (.int .i64))) .unit))
abbrev QU:List Kd:=[.view trackT]
abbrev QP:Kd:=.view (.int .i64)
def Zhc (k:Nat):((Int × Int × Int × Unit) × List ByteArray × List (List Int) × Unit) × Unit → Option (Int × Unit)
 | (((a0,a1,a2,()),a3,a4,()),()) => bif UJ a4.length == (0:Int) then some (0,()) else bif decide ((0:Int) ≤ 0 ∧ (0:Int) < UJ a4.length) then some (UJ (UP (a4.getD 0 [])),()) else none
def Zbt (k:Nat):=Zhc k
noncomputable def Znw (k:Nat):ZI k:=Zv 34 Tryz.f34 [] QU QP Zbt
def ZUL:Go.Shelf.Ren:=⟨fun n => match n with | 219 => 131 | 217 => 177 | 225 => 178 | 224 => 179 | 267 => 180 | 266 => 228 | 314 => 229 | _ => 0,fun n => match n with | 9 => 9 | 3 => 3 | 4 => 4 | 5 => 5 | 46 => 62 | 146 => 270 | 51 => 125 | _ => 0,fun n => match n with | 1 => 0 | _ => 0⟩
abbrev Zcz:List Kd:=[.view .str,.view .str]
def ZnF (k:Nat):ByteArray × ByteArray × Unit → Option (Int × Unit):=fun x => ZB9 x
theorem ZNJ:Go.Proofs.Lays.n219 Tryz.prog ZUL:=by
 constructor <;> first | kernel_rfl | (intro w; kernel_rfl)
theorem ZHh (k:Nat):Ctr Tryz.prog k 131 (mk Zcz QP ZnF):=ZHD ZNJ rfl (fn:=Tryz.f131) (by kernel_rfl) (by kernel_rfl) (by kernel_rfl)
noncomputable def ZPo (k:Nat):ZI k:=⟨(131,mk Zcz QP ZnF),ZHh k⟩
abbrev Zx7:Kd:=.tup [.view .str,.view .str,.view .bool]
def Zhe (k:Nat):ByteArray × ByteArray × Unit → Option ((ByteArray × ByteArray × Bool × Unit) × Unit)
 | (a0,a1,()) => (ZnF k (a0,a1,())).bind fun y => bif decide ((0:Int) ≤ y.1) then bif decide ((0:Int) ≤ 0 ∧ (0:Int) ≤ y.1 ∧ y.1 ≤ UJ a0.size) then bif decide (0 ≤ Jx.wrap (y.1 + UJ a1.size) ∧ Jx.wrap (y.1 + UJ a1.size) ≤ UJ a0.size ∧ UJ a0.size ≤ UJ a0.size) then some ((a0.extract (0:Nat) (UV y.1),a0.extract (Jx.wrap (y.1 + UJ a1.size)).toNat (UJ a0.size).toNat,true,()),()) else none else none else some ((a0,UZ #[],false,()),())
def ZnC (k:Nat):=Zhe k
set_option maxHeartbeats 1000000 in
noncomputable def ZPb (k:Nat):ZI k:=Zv 65 Tryz.f65 [ZPo k] Zcz Zx7 ZnC
def ZBp (k:Nat):ByteArray × ByteArray × Unit → Option ((ByteArray × ByteArray × Bool × Unit) × Unit)
 | (a0,a1,()) => (ZnC k (a0,a1,())).bind fun y => some ((y.1.1,y.1.2.1,y.1.2.2.1,()),())
def ZuJ (k:Nat):=ZBp k
noncomputable def ZOV (k:Nat):ZI k:=Zv 28 Tryz.f28 [ZPb k] Zcz Zx7 ZuJ
def ZUM:Go.Shelf.Ren:=⟨fun n => match n with | 160 => 30 | 232 => 67 | 231 => 66 | 227 => 68 | 234 => 70 | 233 => 69 | 236 => 72 | 235 => 71 | 228 => 132 | 271 => 135 | 151 => 134 | 197 => 133 | 120 => 183 | 152 => 182 | 260 => 181 | 137 => 230 | 119 => 231 | 224 => 179 | 225 => 178 | 217 => 177 | 266 => 228 | _ => 0,fun n => match n with | 9 => 9 | 4 => 4 | 3 => 3 | 5 => 5 | 117 => 118 | 116 => 117 | 0 => 0 | 124 => 121 | 21 => 21 | 105 => 189 | 46 => 62 | 119 => 272 | 139 => 275 | 138 => 274 | _ => 0,fun n => match n with | 3 => 2 | 4 => 3 | _ => 0⟩
abbrev ZaC:Kd:=.view .str
def Znv (k:Nat):ByteArray × ByteArray × Unit → Option (ByteArray × Unit):=fun x => ZzN x
theorem ZNK:Go.Proofs.Lays.n160 Tryz.prog ZUM:=by
 constructor <;> first | kernel_rfl | (intro w; kernel_rfl)
theorem ZHc (k:Nat):Ctr Tryz.prog k 30 (mk Zcz ZaC Znv):=ZNy ZNK (by kernel_rfl) rfl (fn:=Tryz.f30) (by kernel_rfl) (by kernel_rfl) (by kernel_rfl)
noncomputable def ZOX (k:Nat):ZI k:=⟨(30,mk Zcz ZaC Znv),ZHc k⟩
abbrev ZxR:List Kd:=[.view (.int .i32)]
abbrev Wt:Kd:=.view .bool
def ZBq (k:Nat):Int × Unit → Option (Bool × Unit)
 | (a0,()) => bif decide (a0 < 33) then some (true,()) else some (decide ((126:Int) < a0),())
def ZuK (k:Nat):=ZBq k
noncomputable def ZOW (k:Nat):ZI k:=Zv 29 Tryz.f29 [] ZxR Wt ZuK
theorem ZHb (k:Nat):Ctr Tryz.prog k 29 (mk ZxR Wt ZuK):=(ZOW k).2
def ZUJ:Go.Shelf.Ren:=⟨fun n => match n with | 15 => 31 | 20 => 73 | _ => 0,fun n => match n with | 9 => 9 | 23 => 65 | 3 => 3 | 4 => 4 | 0 => 0 | 21 => 21 | _ => 0,fun n => n⟩
abbrev ZxS:List Kd:=[.view .str,.fn 29]
def Kt (n:Nat):Bool:=U0 n 33 || U0 126 n
def ZuL (k:Nat):ByteArray × Unit × Unit → Option (Int × Unit):=fun x => ZPz Kt x
theorem ZNH:Go.Proofs.LaysGw.n15 Tryz.prog ZUJ:=by
 constructor <;> first | kernel_rfl | (intro w; kernel_rfl)
theorem ZHe (k n:Nat):ZuK k ((n:Int),()) = some (Kt n,()):=by
 show (bif decide ((n:Int) < 33) then some (true,()) else some (decide ((126:Int) < (n:Int)),())) = some (Kt n,())
 unfold Kt
 cases h:U0 n 33 with
 | true =>
  have:n < 33:=Jt h
  rw [decide_eq_true (by omega)]; rfl
 | false =>
  have:¬ n < 33:=fun h' => by rw [U3 (show n + 1 ≤ 33 from h') |> (fun e => (show U0 n 33 = true from e))] at h; cases h
  rw [decide_eq_false (by omega)]
  cases h2:U0 126 n with
  | true =>
   have:126 < n:=Jt h2
   rw [decide_eq_true (by omega)]; rfl
  | false =>
   have:¬ 126 < n:=fun h' => by rw [show U0 126 n = true from U3 h'] at h2; cases h2
   rw [decide_eq_false (by omega)]; rfl
theorem ZHd (k:Nat):Ctr Tryz.prog k 31 (mk ZxS QP ZuL):=ZPA ZNH (ZHb k) (ZHe k) rfl (fn:=Tryz.f31) (by kernel_rfl) (by kernel_rfl) (by kernel_rfl)
noncomputable def ZOY (k:Nat):ZI k:=⟨(31,mk ZxS QP ZuL),ZHd k⟩
abbrev ZxG:List Kd:=[.view .str]
def Zg9 (k:Nat):ByteArray × Unit → Option (Bool × Unit)
 | (a0,()) => (ZuJ k (a0,UZ #[61],())).bind fun y => bif y.1.2.2.1 then bif !U7 y.1.1 == (UZ #[]).toList then bif !U7 y.1.2.1 == (UZ #[]).toList then bif decide (UJ a0.size ≤ (12:Int)) then (Znv k (y.1.1,UZ #[97,98,99,100,101,102,103,104,105,106,107,108,109,110,111,112,113,114,115,116,117,118,119,120,121,122],())).bind fun y_1 => bif U7 y_1.1 == (UZ #[]).toList then (ZuL k (y.1.2.1,(),())).bind fun y => some (decide (y.1 < 0),()) else some (false,()) else some (false,()) else some (false,()) else some (false,()) else some (false,())
def Znn (k:Nat):=Zg9 k
set_option maxHeartbeats 1000000 in
noncomputable def ZON (k:Nat):ZI k:=Zv 11 Tryz.f11 [ZOV k,ZOX k,ZOY k] ZxG Wt Znn
def ZBw (k:Nat):ByteArray × Unit → Option (Bool × Unit)
 | (a0,()) => (Znn k (a0,())).bind fun y => some (!y.1,())
def ZuN (k:Nat):=ZBw k
noncomputable def ZO3 (k:Nat):ZI k:=Zv 38 Tryz.f38 [ZON k] ZxG Wt ZuN
abbrev Zpj:List Kd:=[.view (.sl .str),.fn 38]
noncomputable def ZDZ (k:Nat):List (ZI k):=[ZO3 k]
def ZDY:Nat → Ann:=fun id => bif Ja id 2 then ⟨[7,8,1,0],[]⟩ else ⟨[],[]⟩
abbrev Zyb:=Int × Int × List ByteArray
abbrev ZiU:=Zyb → Option (Int × Unit)
def ZKE:Zyb → St
 | (v0,v1,v2) => St.mk (Zp [(7,Zf v0),(8,Zf v1),(1,AV.fn 38),(0,AV.val (PV.sl Ty.str v2))]) (Zo [])
def ZaO (k:Nat) (L1:ZiU):ZiU
 | (v0,v1,v2) => bif decide (v1 < v0) then bif decide (0 ≤ v1 ∧ v1 < UJ v2.length) then (ZuN k (v2.getD v1.toNat (UZ #[]),())).bind fun y => bif y.1 then some (v1,()) else L1 (v0,Jx.wrap (v1 + 1),v2) else none else some ((-1:Int),())
def ZiV (k:Nat):ZiU:=Zh (fun L1 => ZaO k L1) k
noncomputable def ZsH (k:Nat) (n:Nat):=Wb (ZDZ k) Tryz.f77 Zpj QP [1,0,1,0] [] n ZKE (A:=ZDY)
def Zdu (k:Nat) (L1:ZiU):List ByteArray × Unit × Unit → Option (Int × Unit)
 | (a0,(),()) => L1 (UJ a0.length,(0:Int),a0)
def ZuZ (k:Nat):=Zdu k (ZiV k)
theorem ZBL (k:Nat):∀ n,ZsH k n = Zh (fun L1 => ZaO k L1) n:=ZV
noncomputable def ZPf (k:Nat):ZI k:=Zv 77 Tryz.f77 (ZDZ k) Zpj QP ZuZ (A:=ZDY) (h:=fun x => by show _ = Zdu k (ZiV k) x; rw [show ZiV k = ZsH k k from (ZBL k k).symm]; kernel_rfl)
def Zhd (k:Nat):List ByteArray × Unit × Unit → Option (Bool × Unit)
 | (a0,(),()) => (ZuZ k (a0,(),())).bind fun y => some (decide ((0:Int) ≤ y.1),())
def ZuM (k:Nat):=Zhd k
noncomputable def ZO2 (k:Nat):ZI k:=Zv 37 Tryz.f37 [ZPf k] Zpj Wt ZuM
noncomputable def Zns (k:Nat):List (ZI k):=[Znw k,ZDf k,ZO2 k]
def Znr:Nat → Ann:=fun id => bif Ja id 16 then ⟨[61,62,60,1,56,55,54],[]⟩ else bif Ja id 13 then ⟨[55,56,54,1],[]⟩ else bif Ja id 7 then ⟨[37,38,36,1],[]⟩ else ⟨[],[]⟩
abbrev ZxL:=Int × Int × List Int × Int × Int × List (List Int) × Int × Int × Int × List ByteArray × List (List Int)
abbrev Zio:=ZxL → Option (Int × Unit)
abbrev Zo0:=Int × Int × List (List Int) × Int × Int × Int × List ByteArray × List (List Int)
abbrev XT:=Zo0 → Option (Int × Unit)
def ZKg:ZxL → St
 | (v0,v1,v2,v3,v4,v5,v6,v7,v8,v9,v10) => St.mk (Zp [(61,Zf v0),(62,Zf v1),(60,X6 v2),(1,AV.bx 8192 0),(56,Zf v3),(55,Zf v4),(54,AV.val (PV.sl (Ty.int Jx).sl v5))]) (Zo [(8192,QK [Zf v6,Zf v7,Zf v8,AV.val (PV.sl Ty.str v9),AV.val (PV.sl (Ty.int Jx).sl v10)])])
def Zdk (k:Nat) (L2:XT) (L3:Zio):Zio
 | (v0,v1,v2,v3,v4,v5,v6,v7,v8,v9,v10) => bif decide (v1 < v0) then bif decide (0 ≤ v1 ∧ v1 < UJ v2.length) then bif decide (0 ≤ Jx.wrap (v7 - 1)) then bif UT (v2.getD v1.toNat 0) ((2:Int) ^ min (Jx.wrap (v7 - 1)).toNat 64) != (0:Int) then bif UT (v2.getD v1.toNat 0) ((2:Int) ^ min (Jx.wrap (v7 - 1)).toNat 64) != (-1:Int) then some (12,()) else L3 (v0,Jx.wrap (v1 + 1),v2,v3,v4,v5,v6,v7,v8,v9,v10) else L3 (v0,Jx.wrap (v1 + 1),v2,v3,v4,v5,v6,v7,v8,v9,v10) else none else none else L2 (v4,Jx.wrap (v3 + 1),v5,v6,v7,v8,v9,v10)
def Zip (k:Nat) (L2:XT):Zio:=Zh (fun L3 => Zdk k L2 L3) k
noncomputable def Zsn (k:Nat) (n2:Nat) (n:Nat):=Wb (Zns k) Tryz.f16 QU QP [1,1,1,1,0,1,0,0,1,1,0,0,1,1,0] [n2] n ZKg (A:=Znr)
def ZKf:Zo0 → St
 | (v0,v1,v2,v3,v4,v5,v6,v7) => St.mk (Zp [(55,Zf v0),(56,Zf v1),(54,AV.val (PV.sl (Ty.int Jx).sl v2)),(1,AV.bx 8192 0)]) (Zo [(8192,QK [Zf v3,Zf v4,Zf v5,AV.val (PV.sl Ty.str v6),AV.val (PV.sl (Ty.int Jx).sl v7)])])
def Zdj (k:Nat) (L3:Zio) (L2:XT):XT
 | (v0,v1,v2,v3,v4,v5,v6,v7) => bif decide (v1 < v0) then bif decide (0 ≤ v1 ∧ v1 < UJ v2.length) then L3 (UJ (UP (v2.getD v1.toNat [])),(0:Int),v2.getD v1.toNat [],v1,v0,v2,v3,v4,v5,v6,v7) else none else some (0,())
def Zez (k:Nat):XT:=Zh (fun L2 => Zdj k (Zip k L2) L2) k
noncomputable def Zf8 (k:Nat) (n:Nat):=Wb (Zns k) Tryz.f16 QU QP [1,1,1,1,0,1,0] [] n ZKf (A:=Znr)
def ZKe:Zo0 → St
 | (v0,v1,v2,v3,v4,v5,v6,v7) => St.mk (Zp [(37,Zf v0),(38,Zf v1),(36,AV.val (PV.sl (Ty.int Jx).sl v2)),(1,AV.bx 8192 0)]) (Zo [(8192,QK [Zf v3,Zf v4,Zf v5,AV.val (PV.sl Ty.str v6),AV.val (PV.sl (Ty.int Jx).sl v7)])])
def Zdi (k:Nat) (L2:XT) (L1:XT):XT
 | (v0,v1,v2,v3,v4,v5,v6,v7) => bif decide (v1 < v0) then bif decide (0 ≤ v1 ∧ v1 < UJ v2.length) then bif decide ((4096:Int) < UJ (UP (v2.getD v1.toNat []))) then some (1,()) else (Zbt k (((v3,v4,v5,()),v6,v7,()),())).bind fun y => bif UJ (UP (v2.getD v1.toNat [])) != y.1 then some (1,()) else L1 (v0,Jx.wrap (v1 + 1),v2,v3,v4,v5,v6,v7) else none else L2 (UJ v7.length,(0:Int),v7,v3,v4,v5,v6,v7)
def Zey (k:Nat):XT:=Zh (fun L1 => Zdi k (Zez k) L1) k
noncomputable def Zsm (k:Nat) (n:Nat):=Wb (Zns k) Tryz.f16 QU QP [1,1,1,0,1,0] [] n ZKe (A:=Znr)
def Zdh (k:Nat) (L1:XT):((Int × Int × Int × Unit) × List ByteArray × List (List Int) × Unit) × Unit → Option (Int × Unit)
 | (((a0,a1,a2,()),a3,a4,()),()) => (ZoG k ((a0,a1,a2,()),())).bind fun y => bif y.1 != 0 then some (y.1,()) else bif decide ((8:Int) < UJ a3.length) then some (1,()) else bif UJ a4.length != a0 then some (1,()) else (ZuM k (a3,(),())).bind fun y => bif y.1 then some (1,()) else L1 (UJ a4.length,(0:Int),a4,a0,a1,a2,a3,a4)
def Zin (k:Nat):=Zdh k (Zey k)
theorem ZBd (k:Nat) (n2:Nat):∀ n,Zsn k n2 n = Zh (fun L3 => Zdk k (Zf8 k n2) L3) n:=ZV
theorem ZBc (k:Nat):∀ n,Zf8 k n = Zh (fun L2 => Zdj k (Zip k L2) L2) n:=ZV (fun n v => by rw [show (Zip k (Zf8 k n)) = Zsn k n k from (ZBd k n k).symm]; kernel_rfl)
theorem ZBb (k:Nat):∀ n,Zsm k n = Zh (fun L1 => Zdi k (Zez k) L1) n:=ZV (fun n v => by rw [show (Zez k) = Zf8 k k from (ZBc k k).symm]; kernel_rfl)
set_option maxHeartbeats 1000000 in
noncomputable def Zuz (k:Nat):ZI k:=Zv 16 Tryz.f16 (Zns k) QU QP Zin (A:=Znr) (h:=fun x => by show _ = Zdh k (Zey k) x; rw [show Zey k = Zsm k k from (ZBb k k).symm]; kernel_rfl)
abbrev ZxY:List Kd:=[.view trackT,.view (.int .i64),.view (.int .i64)]
abbrev ZxZ:Kd:=.view Zll
noncomputable def ZDS (k:Nat):List (ZI k):=[]
def ZDR:Nat → Ann:=fun id => bif Ja id 3 then ⟨[14,15,13,7,1,2,6],[.cell 7 1 ((Ty.int Jx).sl)]⟩ else ⟨[],[]⟩
abbrev ZxX:=Int × Int × List (List Int) × Int × Int × Int × List (List Int) × Int
abbrev ZiG:=ZxX → Option ((Int × List (List Int) × Unit) × Unit)
def ZKr:ZxX → St
 | (v0,v1,v2,v3,v4,v5,v6,v7) => St.mk (Zp [(14,Zf v0),(15,Zf v1),(13,AV.val (PV.sl (Ty.int Jx).sl v2)),(7,AV.bx 8192 0),(1,Zf v3),(2,Zf v4),(6,AV.bx 8194 0)]) (Zo [(8192,QK [Zf v5,AV.own 8193]),(8193,RS.live (Res.arr (Ty.int Jx).sl v6 false)),(8194,QK [Zf v7,AV.val (PV.v (V5 none (0:Nat) (0:Nat)))])])
def ZaG (k:Nat) (L1:ZiG):ZiG
 | (v0,v1,v2,v3,v4,v5,v6,v7) => bif decide (v1 < v0) then bif decide (0 ≤ v1 ∧ v1 < UJ v2.length) then bif decide (0 ≤ Jx.wrap (v3 * v4) ∧ (Jx.wrap (v3 * v4) ≤ if UJ (UP (v2.getD v1.toNat [])) < Jx.wrap (Jx.wrap (v3 + 1) * v4) then UJ (UP (v2.getD v1.toNat [])) else Jx.wrap (Jx.wrap (v3 + 1) * v4)) ∧ (if UJ (UP (v2.getD v1.toNat [])) < Jx.wrap (Jx.wrap (v3 + 1) * v4) then UJ (UP (v2.getD v1.toNat [])) else Jx.wrap (Jx.wrap (v3 + 1) * v4)) ≤ UJ (UP (v2.getD v1.toNat []))) then bif decide (v6.length + [US (Jx.wrap (v3 * v4)).toNat (UR (if UJ (UP (v2.getD v1.toNat [])) < Jx.wrap (Jx.wrap (v3 + 1) * v4) then UJ (UP (v2.getD v1.toNat [])) else Jx.wrap (Jx.wrap (v3 + 1) * v4)).toNat (v2.getD v1.toNat []))].length < 2147483648) then L1 (v0,Jx.wrap (v1 + 1),v2,v3,v4,v5,v6 ++ [US (Jx.wrap (v3 * v4)).toNat (UR (if UJ (UP (v2.getD v1.toNat [])) < Jx.wrap (Jx.wrap (v3 + 1) * v4) then UJ (UP (v2.getD v1.toNat [])) else Jx.wrap (Jx.wrap (v3 + 1) * v4)).toNat (v2.getD v1.toNat []))],v7) else none else none else none else some ((v5,v6,()),())
def Zo8 (k:Nat):ZiG:=Zh (fun L1 => ZaG k L1) k
noncomputable def Zsz (k:Nat) (n:Nat):=Wb (ZDS k) Tryz.f44 ZxY ZxZ [1,1,0,1,0] [] n ZKr (A:=ZDR)
def Zo9 (k:Nat) (L1:ZiG):((Int × Int × Int × Unit) × List ByteArray × List (List Int) × Unit) × Int × Int × Unit → Option ((Int × List (List Int) × Unit) × Unit)
 | (((a0,a1,a2,()),a3,a4,()),a5,a6,()) => L1 (UJ a4.length,(0:Int),a4,a5,a6,a5,[],(0:Int))
def ZuO (k:Nat):=Zo9 k (Zo8 k)
theorem ZBx (k:Nat):∀ n,Zsz k n = Zh (fun L1 => ZaG k L1) n:=ZV
noncomputable def ZO4 (k:Nat):ZI k:=Zv 44 Tryz.f44 (ZDS k) ZxY ZxZ ZuO (A:=ZDR) (h:=fun x => by show _ = Zo9 k (Zo8 k) x; rw [show Zo8 k = Zsz k k from (ZBx k k).symm]; kernel_rfl)
abbrev Zcv:List Kd:=[.view trackT,.view (.int .i64)]
abbrev Zo2:Kd:=.tup [.view (.sl (.sl (.int .u8))),.view (.int .i64)]
noncomputable def ZDK (k:Nat):List (ZI k):=[Zuz k,Znw k,ZTH k,ZO4 k]
def ZDI:Nat → Ann:=fun id => bif Ja id 8 then ⟨[8,1,2,7],[.slot 7 ((Ty.int UQ).sl)]⟩ else ⟨[],[]⟩
abbrev ZxM:=Int × Int × Int × Int × Int × List ByteArray × List (List Int) × List (List Int)
abbrev Zir:=ZxM → Option ((List (List Int) × Int × Unit) × Unit)
def ZKh:ZxM → St
 | (v0,v1,v2,v3,v4,v5,v6,v7) => St.mk (Zp [(8,Zf v0),(1,Zf v1),(2,AV.bx 8192 0),(7,AV.own 8193)]) (Zo [(8192,QK [Zf v2,Zf v3,Zf v4,AV.val (PV.sl Ty.str v5),AV.val (PV.sl (Ty.int Jx).sl v6)]),(8193,RS.live (Res.arr (Ty.int UQ).sl v7 false))])
noncomputable def Zay (k:Nat) (L1:Zir):Zir
 | (v0,v1,v2,v3,v4,v5,v6,v7) => (Zbt k (((v2,v3,v4,()),v5,v6,()),())).bind fun y => bif decide (Jx.wrap (v0 * v1) < y.1) then (ZuO k (((v2,v3,v4,()),v5,v6,()),v0,v1,())).bind fun y => (ZJC k ((v2,v3,v4,()),(y.1.1,y.1.2.1,()),())).bind fun y => bif y.1.2.1 != 0 then some (([],y.1.2.1,()),()) else bif decide (v7.length + [y.1.1].length < 2147483648) then L1 (Jx.wrap (v0 + 1),v1,v2,v3,v4,v5,v6,v7 ++ [y.1.1]) else none else some ((v7,0,()),())
noncomputable def Zo1 (k:Nat):Zir:=Zh (fun L1 => Zay k L1) k
noncomputable def Zsp (k:Nat) (n:Nat):=Wb (ZDK k) Tryz.f20 Zcv Zo2 [1,1,1,1,0,1,0] [] n ZKh (A:=ZDI)
def Zdl (k:Nat) (L1:Zir):((Int × Int × Int × Unit) × List ByteArray × List (List Int) × Unit) × Int × Unit → Option ((List (List Int) × Int × Unit) × Unit)
 | (((a0,a1,a2,()),a3,a4,()),a5,()) => (Zin k (((a0,a1,a2,()),a3,a4,()),())).bind fun y => bif y.1 != 0 then some (([],y.1,()),()) else bif decide (a5 < 16) then some (([],1,()),()) else bif decide ((512:Int) < a5) then some (([],1,()),()) else L1 (0,a5,a0,a1,a2,a3,a4,[])
noncomputable def Ziq (k:Nat):=Zdl k (Zo1 k)
theorem ZBe (k:Nat):∀ n,Zsp k n = Zh (fun L1 => Zay k L1) n:=ZV
set_option maxHeartbeats 1000000 in
noncomputable def ZDJ (k:Nat):ZI k:=Zv 20 Tryz.f20 (ZDK k) Zcv Zo2 Ziq (A:=ZDI) (h:=fun x => by show _ = Zdl k (Zo1 k) x; rw [show Zo1 k = Zsp k k from (ZBe k k).symm]; kernel_rfl)
theorem Zsq (k:Nat):Ctr Tryz.prog k 20 (mk Zcv Zo2 Ziq):=(ZDJ k).2
def ZUK:Go.Shelf.Ren:=⟨fun n => match n with | 4 => 101 | _ => 0,fun n => match n with | 22 => 46 | 25 => 5 | 3 => 3 | 4 => 4 | 9 => 9 | 20 => 20 | 0 => 0 | _ => 0,fun n => n⟩
abbrev Zyc:List Kd:=[.view .raw,.view (.int .i64)]
abbrev YK:Kd:=.own (.int .u8) false
def ZnD (k:Nat):Value × Int × Unit → Option (List Int × Unit):=fun x => ZyW x
theorem ZNI:Go.Proofs.Lays8.n4 Tryz.prog ZUK:=by
 constructor <;> first | kernel_rfl | (intro w; kernel_rfl) | exact ⟨"slices.Grow[[]byte,byte]",by kernel_rfl,by kernel_rfl⟩
theorem ZHg (k:Nat):Ctr Tryz.prog k 101 (mk Zyc YK ZnD):=ZMt ZNI Tryz.t5 (by kernel_rfl) (by kernel_rfl) (by kernel_rfl) (by kernel_rfl) rfl rfl (fn:=Tryz.f101) (by kernel_rfl) (by kernel_rfl) (by kernel_rfl)
noncomputable def ZPg (k:Nat):ZI k:=⟨(101,mk Zyc YK ZnD),ZHg k⟩
abbrev Zpa:List Kd:=[.view (.sl (.sl (.int .u8)))]
noncomputable def ZuQ (k:Nat):List (ZI k):=[ZPg k]
def ZuP:Nat → Ann:=fun id => bif Ja id 11 then ⟨[26,27,25,6],[]⟩ else bif Ja id 3 then ⟨[10,11,9,3,0],[]⟩ else ⟨[],[]⟩
abbrev Zx1:=Int × Int × List (List Int) × List Int
abbrev ZiI:=Zx1 → Option (List Int × Unit)
abbrev Zx0:=Int × Int × List (List Int) × Int × List (List Int)
abbrev ZiH:=Zx0 → Option (List Int × Unit)
def ZKt:Zx1 → St
 | (v0,v1,v2,v3) => St.mk (Zp [(26,Zf v0),(27,Zf v1),(25,AV.val (PV.sl (Ty.int UQ).sl v2)),(6,AV.own 8192)]) (Zo [(8192,RS.live (Res.arr (Ty.int UQ) v3 false))])
def ZaI (k:Nat) (L2:ZiI):ZiI
 | (v0,v1,v2,v3) => bif decide (v1 < v0) then bif decide (0 ≤ v1 ∧ v1 < UJ v2.length) then bif decide (v3.length + UP (v2.getD v1.toNat []) < 2147483648) then L2 (v0,Jx.wrap (v1 + 1),v2,v3 ++ v2.getD v1.toNat []) else none else none else some (v3,())
def ZiK (k:Nat):ZiI:=Zh (fun L2 => ZaI k L2) k
noncomputable def ZsB (k:Nat) (n:Nat):=Wb (ZuQ k) Tryz.f46 Zpa YK [1,1,1,1,0,1,0] [] n ZKt (A:=ZuP)
def ZKs:Zx0 → St
 | (v0,v1,v2,v3,v4) => St.mk (Zp [(10,Zf v0),(11,Zf v1),(9,AV.val (PV.sl (Ty.int UQ).sl v2)),(3,Zf v3),(0,AV.val (PV.sl (Ty.int UQ).sl v4))]) (Zo [])
def ZaH (k:Nat) (L2:ZiI) (L1:ZiH):ZiH
 | (v0,v1,v2,v3,v4) => bif decide (v1 < v0) then bif decide (0 ≤ v1 ∧ v1 < UJ v2.length) then bif decide (Jx.wrap (v3 + UJ (UP (v2.getD v1.toNat []))) < (0:Int)) then none else L1 (v0,Jx.wrap (v1 + 1),v2,Jx.wrap (v3 + UJ (UP (v2.getD v1.toNat []))),v4) else none else (ZnD k (V5 none (0:Nat) (0:Nat),v3,())).bind fun y => L2 (UJ v4.length,(0:Int),v4,y.1)
def ZiJ (k:Nat):ZiH:=Zh (fun L1 => ZaH k (ZiK k) L1) k
noncomputable def ZsA (k:Nat) (n:Nat):=Wb (ZuQ k) Tryz.f46 Zpa YK [1,1,0,1,0] [] n ZKs (A:=ZuP)
def Zdr (k:Nat) (L1:ZiH):List (List Int) × Unit → Option (List Int × Unit)
 | (a0,()) => L1 (UJ a0.length,(0:Int),a0,(0:Int),a0)
def Zny (k:Nat):=Zdr k (ZiJ k)
theorem ZBA (k:Nat):∀ n,ZsB k n = Zh (fun L2 => ZaI k L2) n:=ZV
theorem ZBz (k:Nat):∀ n,ZsA k n = Zh (fun L1 => ZaH k (ZiK k) L1) n:=ZV (fun n v => by rw [show (ZiK k) = ZsB k k from (ZBA k k).symm]; kernel_rfl)
noncomputable def ZO5 (k:Nat):ZI k:=Zv 46 Tryz.f46 (ZuQ k) Zpa YK Zny (A:=ZuP) (h:=fun x => by show _ = Zdr k (ZiJ k) x; rw [show ZiJ k = ZsA k k from (ZBz k k).symm]; kernel_rfl)
abbrev ZiQ:List Kd:=[]
abbrev ZKB:Kd:=.agg [.view (.int .u32),.view (.int .u32),.view (.int .u32),.view (.int .u32),.view (.int .u32),.view (.int .u32),.view (.int .u32),.view (.int .u32),.view (.int .u32),.view (.int .u32),.view (.int .u32),.view (.int .u32),.view (.int .u32),.view (.int .u32),.view (.int .u32),.view (.int .u32),.view (.int .u32),.view (.int .u32),.view (.int .u32),.view (.int .u32),.view (.int .u32),.view (.int .u32),.view (.int .u32),.view (.int .u32),.view (.int .u32),.view (.int .u32),.view (.int .u32),.view (.int .u32),.view (.int .u32),.view (.int .u32),.view (.int .u32),.view (.int .u32),.view (.int .u32),.view (.int .u32),.view (.int .u32),.view (.int .u32),.view (.int .u32),.view (.int .u32),.view (.int .u32),.view (.int .u32),.view (.int .u32),.view (.int .u32),.view (.int .u32),.view (.int .u32),.view (.int .u32),.view (.int .u32),.view (.int .u32),.view (.int .u32),.view (.int .u32),.view (.int .u32),.view (.int .u32),.view (.int .u32),.view (.int .u32),.view (.int .u32),.view (.int .u32),.view (.int .u32),.view (.int .u32),.view (.int .u32),.view (.int .u32),.view (.int .u32),.view (.int .u32),.view (.int .u32),.view (.int .u32),.view (.int .u32)]
def ZBH (k:Nat):Unit → Option ((Int × Int × Int × Int × Int × Int × Int × Int × Int × Int × Int × Int × Int × Int × Int × Int × Int × Int × Int × Int × Int × Int × Int × Int × Int × Int × Int × Int × Int × Int × Int × Int × Int × Int × Int × Int × Int × Int × Int × Int × Int × Int × Int × Int × Int × Int × Int × Int × Int × Int × Int × Int × Int × Int × Int × Int × Int × Int × Int × Int × Int × Int × Int × Int × Unit) × Unit)
 | () => some ((3614090360,3905402710,606105819,3250441966,4118548399,1200080426,2821735955,4249261313,1770035416,2336552879,4294925233,2304563134,1804603682,4254626195,2792965006,1236535329,4129170786,3225465664,643717713,3921069994,3593408605,38016083,3634488961,3889429448,568446438,3275163606,4107603335,1163531501,2850285829,4243563512,1735328473,2368359562,4294588738,2272392833,1839030562,4259657740,2763975236,1272893353,4139469664,3200236656,681279174,3936430074,3572445317,76029189,3654602809,3873151461,530742520,3299628645,4096336452,1126891415,2878612391,4237533241,1700485571,2399980690,4293915773,2240044497,1873313359,4264355552,2734768916,1309151649,4149444226,3174756917,718787259,3951481745,()),())
def ZPc (k:Nat):=ZBH k
set_option maxHeartbeats 1000000 in
noncomputable def ZPd (k:Nat):ZI k:=Zv 75 Tryz.f75 [] ZiQ ZKB ZPc
abbrev ZKR:List Kd:=[.view (.int .u32),.view (.int .i64)]
abbrev ZKS:Kd:=.view (.int .u32)
def Zhj (k:Nat):Int × Int × Unit → Option (Int × Unit)
 | (a0,a1,()) => bif decide (0 ≤ UO.wrap ((32:Int) - UO.wrap (UJ (UN 64 (UO.wrap a1) &&& UN 64 (31:Int)).toNat))) then some (UY.wrap (UJ (UN 32 (UY.wrap (a0 * (2:Int) ^ min (UO.wrap (UJ (UN 64 (UO.wrap a1) &&& UN 64 (31:Int)).toNat)).toNat 32)) ||| UN 32 (a0.fdiv ((2:Int) ^ min (UO.wrap ((32:Int) - UO.wrap (UJ (UN 64 (UO.wrap a1) &&& UN 64 (31:Int)).toNat))).toNat 32))).toNat),()) else none
def ZdB (k:Nat):=Zhj k
set_option maxHeartbeats 1000000 in
noncomputable def ZPp (k:Nat):ZI k:=Zv 136 Tryz.f136 [] ZKR ZKS ZdB
abbrev Zph:List Kd:=[.box [.view (.int .u32),.view (.int .u32),.view (.int .u32),.view (.int .u32)],.view (.sl (.int .u8)),.vp (.int .u32)]
abbrev XU:Kd:=.tup []
noncomputable def ZuX (k:Nat):List (ZI k):=[ZPp k]
def ZuY:Nat → List Nat:=fun r => bif Ja r 999997 then [193,195] else []
def ZuV:Nat → Ann:=fun id => bif Ja id 9 then ⟨[76,10,11,12,9,2,6,8,0],[]⟩ else bif Ja id 2 then ⟨[16,1,6,0,2],[]⟩ else ⟨[],[]⟩
abbrev Zx9:=Int × Int × Int × Int × Int × List Int × Int × Int × Int × Int × List Int × List Int
abbrev ZiS:=Zx9 → Option (Unit × (Int × Int × Int × Int × Unit) × Unit)
abbrev Zx8:=Int × List Int × List Int × Int × Int × Int × Int × List Int
abbrev ZiR:=Zx8 → Option (Unit × (Int × Int × Int × Int × Unit) × Unit)
def ZKD:Zx9 → St
 | (v0,v1,v2,v3,v4,v5,v6,v7,v8,v9,v10,v11) => St.mk (Zp [(76,Zf v0),(10,AV.val (PV.v (Jv UY v1))),(11,AV.val (PV.v (Jv UY v2))),(12,AV.val (PV.v (Jv UY v3))),(9,AV.val (PV.v (Jv UY v4))),(2,AV.vp (Ty.int UY) v5),(6,AV.el 8192 (Ty.int UY) 0 0),(8,AV.el 8193 (Ty.int Jx) 0 0),(0,AV.bx 0 0)]) (Zo [(0,QK [AV.val (PV.v (Jv UY v6)),AV.val (PV.v (Jv UY v7)),AV.val (PV.v (Jv UY v8)),AV.val (PV.v (Jv UY v9))]),(8192,RS.live (Res.arr (Ty.int UY) v10 false)),(8193,rsA v11 true)])
def Y8 (k:Nat) (L2:ZiS):ZiS
 | (v0,v1,v2,v3,v4,v5,v6,v7,v8,v9,v10,v11) => bif decide (v0 < 64) then bif Jx.wrap (v0.tdiv (16:Int)) == (0:Int) then bif decide (0 ≤ v0 ∧ v0 < 64 ∧ v0.toNat < v5.length) then bif decide (0 ≤ v0.tmod (16:Int) ∧ v0.tmod (16:Int) < 16) then bif decide ((v0.tmod (16:Int)).toNat + (0:Nat) < v10.length) then bif decide (0 ≤ Jx.wrap (v0.tdiv (16:Int)) ∧ Jx.wrap (v0.tdiv (16:Int)) < (4:Int)) then bif decide (0 ≤ v0.tmod (4:Int) ∧ v0.tmod (4:Int) < 4) then bif decide ((v0.tmod (4:Int)).toNat + ((Jx.wrap (v0.tdiv (16:Int))).toNat * (4:Nat) + (0:Nat)) < v11.length) then (ZdB k (UY.wrap (UY.wrap (UY.wrap (v4 + UY.wrap (UJ (UN 32 (UY.wrap (UJ (UN 32 v1 &&& UN 32 v2).toNat)) ||| UN 32 (UY.wrap (UJ (UN 32 (UY.wrap (UJ (UN 32 (4294967295:Int) ^^^ UN 32 v1).toNat)) &&& UN 32 v3).toNat))).toNat)) + v5.getD v0.toNat 0) + v10.getD ((v0.tmod (16:Int)).toNat + (0:Nat)) 0),v11.getD ((v0.tmod (4:Int)).toNat + ((Jx.wrap (v0.tdiv (16:Int))).toNat * (4:Nat) + (0:Nat))) 0,())).bind fun y => L2 (Jx.wrap (v0 + 1),UY.wrap (v1 + y.1),v1,v2,v3,v5,v6,v7,v8,v9,v10,v11) else none else none else none else none else none else none else bif Jx.wrap (v0.tdiv (16:Int)) == (1:Int) then bif decide (0 ≤ v0 ∧ v0 < 64 ∧ v0.toNat < v5.length) then bif decide ((0:Int) ≤ (Jx.wrap (Jx.wrap ((5:Int) * v0) + 1)).tmod (16:Int) ∧ (Jx.wrap (Jx.wrap ((5:Int) * v0) + 1)).tmod (16:Int) < 16) then bif decide (((Jx.wrap (Jx.wrap ((5:Int) * v0) + 1)).tmod (16:Int)).toNat + (0:Nat) < v10.length) then bif decide (0 ≤ Jx.wrap (v0.tdiv (16:Int)) ∧ Jx.wrap (v0.tdiv (16:Int)) < (4:Int)) then bif decide (0 ≤ v0.tmod (4:Int) ∧ v0.tmod (4:Int) < 4) then bif decide ((v0.tmod (4:Int)).toNat + ((Jx.wrap (v0.tdiv (16:Int))).toNat * (4:Nat) + (0:Nat)) < v11.length) then (ZdB k (UY.wrap (UY.wrap (UY.wrap (v4 + UY.wrap (UJ (UN 32 (UY.wrap (UJ (UN 32 v3 &&& UN 32 v1).toNat)) ||| UN 32 (UY.wrap (UJ (UN 32 (UY.wrap (UJ (UN 32 (4294967295:Int) ^^^ UN 32 v3).toNat)) &&& UN 32 v2).toNat))).toNat)) + v5.getD v0.toNat 0) + v10.getD (((Jx.wrap (Jx.wrap ((5:Int) * v0) + 1)).tmod (16:Int)).toNat + (0:Nat)) 0),v11.getD ((v0.tmod (4:Int)).toNat + ((Jx.wrap (v0.tdiv (16:Int))).toNat * (4:Nat) + (0:Nat))) 0,())).bind fun y => L2 (Jx.wrap (v0 + 1),UY.wrap (v1 + y.1),v1,v2,v3,v5,v6,v7,v8,v9,v10,v11) else none else none else none else none else none else none else bif Jx.wrap (v0.tdiv (16:Int)) == (2:Int) then bif decide (0 ≤ v0 ∧ v0 < 64 ∧ v0.toNat < v5.length) then bif decide ((0:Int) ≤ (Jx.wrap (Jx.wrap ((3:Int) * v0) + 5)).tmod (16:Int) ∧ (Jx.wrap (Jx.wrap ((3:Int) * v0) + 5)).tmod (16:Int) < 16) then bif decide (((Jx.wrap (Jx.wrap ((3:Int) * v0) + 5)).tmod (16:Int)).toNat + (0:Nat) < v10.length) then bif decide (0 ≤ Jx.wrap (v0.tdiv (16:Int)) ∧ Jx.wrap (v0.tdiv (16:Int)) < (4:Int)) then bif decide (0 ≤ v0.tmod (4:Int) ∧ v0.tmod (4:Int) < 4) then bif decide ((v0.tmod (4:Int)).toNat + ((Jx.wrap (v0.tdiv (16:Int))).toNat * (4:Nat) + (0:Nat)) < v11.length) then (ZdB k (UY.wrap (UY.wrap (UY.wrap (v4 + UY.wrap (UJ (UN 32 (UY.wrap (UJ (UN 32 v1 ^^^ UN 32 v2).toNat)) ^^^ UN 32 v3).toNat)) + v5.getD v0.toNat 0) + v10.getD (((Jx.wrap (Jx.wrap ((3:Int) * v0) + 5)).tmod (16:Int)).toNat + (0:Nat)) 0),v11.getD ((v0.tmod (4:Int)).toNat + ((Jx.wrap (v0.tdiv (16:Int))).toNat * (4:Nat) + (0:Nat))) 0,())).bind fun y => L2 (Jx.wrap (v0 + 1),UY.wrap (v1 + y.1),v1,v2,v3,v5,v6,v7,v8,v9,v10,v11) else none else none else none else none else none else none else bif decide (0 ≤ v0 ∧ v0 < 64 ∧ v0.toNat < v5.length) then bif decide ((0:Int) ≤ (Jx.wrap ((7:Int) * v0)).tmod (16:Int) ∧ (Jx.wrap ((7:Int) * v0)).tmod (16:Int) < 16) then bif decide (((Jx.wrap ((7:Int) * v0)).tmod (16:Int)).toNat + (0:Nat) < v10.length) then bif decide (0 ≤ Jx.wrap (v0.tdiv (16:Int)) ∧ Jx.wrap (v0.tdiv (16:Int)) < (4:Int)) then bif decide (0 ≤ v0.tmod (4:Int) ∧ v0.tmod (4:Int) < 4) then bif decide ((v0.tmod (4:Int)).toNat + ((Jx.wrap (v0.tdiv (16:Int))).toNat * (4:Nat) + (0:Nat)) < v11.length) then (ZdB k (UY.wrap (UY.wrap (UY.wrap (v4 + UY.wrap (UJ (UN 32 v2 ^^^ UN 32 (UY.wrap (UJ (UN 32 v1 ||| UN 32 (UY.wrap (UJ (UN 32 (4294967295:Int) ^^^ UN 32 v3).toNat))).toNat))).toNat)) + v5.getD v0.toNat 0) + v10.getD (((Jx.wrap ((7:Int) * v0)).tmod (16:Int)).toNat + (0:Nat)) 0),v11.getD ((v0.tmod (4:Int)).toNat + ((Jx.wrap (v0.tdiv (16:Int))).toNat * (4:Nat) + (0:Nat))) 0,())).bind fun y => L2 (Jx.wrap (v0 + 1),UY.wrap (v1 + y.1),v1,v2,v3,v5,v6,v7,v8,v9,v10,v11) else none else none else none else none else none else none else some ((),(UY.wrap (v6 + v4),UY.wrap (v7 + v1),UY.wrap (v8 + v2),UY.wrap (v9 + v3),()),())
def ZiT (k:Nat):ZiS:=Zh (fun L2 => Y8 k L2) k
noncomputable def ZsG (k:Nat) (n:Nat):=Wb (ZuX k) Tryz.f76 Zph XU [1,1,1,1,0,1,0] [] n ZKD (A:=ZuV) (live:=ZuY) (a:=[AV.bx (nat_lit 0) (nat_lit 0)]) (b:=[[]]) (q:=[0])
def ZKC:Zx8 → St
 | (v0,v1,v2,v3,v4,v5,v6,v7) => St.mk (Zp [(16,Zf v0),(1,AV.val (PV.sl (Ty.int UQ) v1)),(6,AV.el 8192 (Ty.int UY) 0 0),(0,AV.bx 0 0),(2,AV.vp (Ty.int UY) v2)]) (Zo [(0,QK [AV.val (PV.v (Jv UY v3)),AV.val (PV.v (Jv UY v4)),AV.val (PV.v (Jv UY v5)),AV.val (PV.v (Jv UY v6))]),(8192,RS.live (Res.arr (Ty.int UY) v7 false))])
def ZaN (k:Nat) (L2:ZiS) (L1:ZiR):ZiR
 | (v0,v1,v2,v3,v4,v5,v6,v7) => bif decide (v0 < 16) then bif decide (0 ≤ Jx.wrap ((4:Int) * v0) ∧ Jx.wrap ((4:Int) * v0) < UJ v1.length) then bif decide (0 ≤ Jx.wrap (Jx.wrap ((4:Int) * v0) + 1) ∧ Jx.wrap (Jx.wrap ((4:Int) * v0) + 1) < UJ v1.length) then bif decide (0 ≤ Jx.wrap (Jx.wrap ((4:Int) * v0) + 2) ∧ Jx.wrap (Jx.wrap ((4:Int) * v0) + 2) < UJ v1.length) then bif decide (0 ≤ Jx.wrap (Jx.wrap ((4:Int) * v0) + 3) ∧ Jx.wrap (Jx.wrap ((4:Int) * v0) + 3) < UJ v1.length) then bif decide (0 ≤ v0 ∧ v0 < 16) then bif decide (v0.toNat + (0:Nat) < v7.length) then L1 (Jx.wrap (v0 + 1),v1,v2,v3,v4,v5,v6,v7.set (v0.toNat + (0:Nat)) (UY.wrap (UJ (UN 32 (UY.wrap (UJ (UN 32 (UY.wrap (UJ (UN 32 (UY.wrap (v1.getD (Jx.wrap ((4:Int) * v0)).toNat 0)) ||| UN 32 (UY.wrap (UY.wrap (v1.getD (Jx.wrap (Jx.wrap ((4:Int) * v0) + 1)).toNat 0) * (256:Int)))).toNat)) ||| UN 32 (UY.wrap (UY.wrap (v1.getD (Jx.wrap (Jx.wrap ((4:Int) * v0) + 2)).toNat 0) * (65536:Int)))).toNat)) ||| UN 32 (UY.wrap (UY.wrap (v1.getD (Jx.wrap (Jx.wrap ((4:Int) * v0) + 3)).toNat 0) * (16777216:Int)))).toNat))) else none else none else none else none else none else none else L2 (0,v4,v5,v6,v3,v2,v3,v4,v5,v6,v7,[(7:Int),(12:Int),(17:Int),(22:Int),(5:Int),(9:Int),(14:Int),(20:Int),(4:Int),(11:Int),(16:Int),(23:Int),(6:Int),(10:Int),(15:Int),(21:Int)])
def Zpg (k:Nat):ZiR:=Zh (fun L1 => ZaN k (ZiT k) L1) k
noncomputable def ZsF (k:Nat) (n:Nat):=Wb (ZuX k) Tryz.f76 Zph XU [1,0,1,0] [] n ZKC (A:=ZuV) (live:=ZuY) (a:=[AV.bx (nat_lit 0) (nat_lit 0)]) (b:=[[]]) (q:=[0])
def Zpi (k:Nat) (L1:ZiR):(Int × Int × Int × Int × Unit) × List Int × List Int × Unit → Option (Unit × (Int × Int × Int × Int × Unit) × Unit)
 | ((a0,a1,a2,a3,()),a4,a5,()) => L1 (0,a4,a5,a0,a1,a2,a3,[(0:Int),(0:Int),(0:Int),(0:Int),(0:Int),(0:Int),(0:Int),(0:Int),(0:Int),(0:Int),(0:Int),(0:Int),(0:Int),(0:Int),(0:Int),(0:Int)])
def ZuW (k:Nat):=Zpi k (Zpg k)
theorem ZBJ (k:Nat):∀ n,ZsG k n = Zh (fun L2 => Y8 k L2) n:=ZV
theorem ZBI (k:Nat):∀ n,ZsF k n = Zh (fun L1 => ZaN k (ZiT k) L1) n:=ZV (fun n v => by rw [show (ZiT k) = ZsG k k from (ZBJ k k).symm]; kernel_rfl)
noncomputable def ZPe (k:Nat):ZI k:=Zv 76 Tryz.f76 (ZuX k) Zph XU ZuW (A:=ZuV) (live:=ZuY) (h:=fun x => by show _ = Zpi k (Zpg k) x; rw [show Zpg k = ZsF k k from (ZBI k k).symm]; kernel_rfl)
abbrev YI:List Kd:=[.view (.sl (.int .u8))]
noncomputable def ZiE (k:Nat):List (ZI k):=[ZLT k,ZPd k,ZPe k]
def ZiF:Nat → List Nat:=fun r => bif Ja r 999997 then [128] else []
def Ziy:Nat → Ann:=fun id => bif Ja id 15 then ⟨[48,47,8],[.slot 8 ((Ty.int UQ))]⟩ else bif Ja id 10 then ⟨[3,7,6],[.see 3]⟩ else bif Ja id 6 then ⟨[5,3,4],[]⟩ else bif Ja id 2 then ⟨[3,0],[]⟩ else ⟨[],[]⟩
abbrev ZxW:=Int × Int × Int × Int × Int × List Int
abbrev ZiC:=ZxW → Option (ByteArray × Unit)
abbrev ZxV:=List Int × List Int × Int × Int × Int × Int
abbrev ZiB:=ZxV → Option (ByteArray × Unit)
abbrev ZxU:=Int × Int × List Int
abbrev ZiA:=ZxU → Option (ByteArray × Unit)
abbrev ZxT:=List Int × List Int
abbrev Ziz:=ZxT → Option (ByteArray × Unit)
def ZKq:ZxW → St
 | (v0,v1,v2,v3,v4,v5) => St.mk (Zp [(48,Zf v0),(47,AV.agg [AV.val (PV.v (Jv UY v1)),AV.val (PV.v (Jv UY v2)),AV.val (PV.v (Jv UY v3)),AV.val (PV.v (Jv UY v4))]),(8,AV.own 8192)]) (Zo [(8192,RS.live (Res.arr (Ty.int UQ) v5 false))])
def ZaF (k:Nat) (L4:ZiC):ZiC
 | (v0,v1,v2,v3,v4,v5) => bif decide (v0 < 4) then bif decide (0 ≤ v0 ∧ v0 < 4) then bif decide (v5.length + [UQ.wrap ([v1,v2,v3,v4].getD v0.toNat (0:Int)),UQ.wrap (([v1,v2,v3,v4].getD v0.toNat (0:Int)).fdiv (256:Int)),UQ.wrap (([v1,v2,v3,v4].getD v0.toNat (0:Int)).fdiv (65536:Int)),UQ.wrap (([v1,v2,v3,v4].getD v0.toNat (0:Int)).fdiv (16777216:Int))].length < 2147483648) then L4 (Jx.wrap (v0 + 1),v1,v2,v3,v4,v5 ++ [UQ.wrap ([v1,v2,v3,v4].getD v0.toNat (0:Int)),UQ.wrap (([v1,v2,v3,v4].getD v0.toNat (0:Int)).fdiv (256:Int)),UQ.wrap (([v1,v2,v3,v4].getD v0.toNat (0:Int)).fdiv (65536:Int)),UQ.wrap (([v1,v2,v3,v4].getD v0.toNat (0:Int)).fdiv (16777216:Int))]) else none else none else some (UZ (U4 (fun n => U2 n.toNat) v5).toArray,())
def Zcx (k:Nat):ZiC:=Zh (fun L4 => ZaF k L4) k
noncomputable def Zsy (k:Nat) (n:Nat):=Wb (ZiE k) Tryz.f35 YI ZaC [1,1,1,1,1,1,1,1,0,1,0] [] n ZKq (A:=Ziy) (live:=ZiF)
def ZKp:ZxV → St
 | (v0,v1,v2,v3,v4,v5) => St.mk (Zp [(3,AV.val (PV.sl (Ty.int UQ) v0)),(7,AV.el 8192 (Ty.int UY) 0 0),(6,AV.bx 8193 0)]) (Zo [(8192,RS.live (Res.arr (Ty.int UY) v1 true)),(8193,QK [AV.val (PV.v (Jv UY v2)),AV.val (PV.v (Jv UY v3)),AV.val (PV.v (Jv UY v4)),AV.val (PV.v (Jv UY v5))])])
def ZaE (k:Nat) (L4:ZiC) (L3:ZiB):ZiB
 | (v0,v1,v2,v3,v4,v5) => bif decide ((0:Int) < UJ v0.length) then bif decide ((0:Int) ≤ 0 ∧ (0:Int) ≤ 64 ∧ (64:Int) ≤ UJ v0.length) then bif decide ((0:Nat) < v1.length) then (ZuW k ((v2,v3,v4,v5,()),US 0 (UR 64 v0),v1,())).bind fun y => bif decide ((0:Int) ≤ 64 ∧ (64:Int) ≤ UJ v0.length ∧ UJ v0.length ≤ UJ v0.length) then L3 (US 64 (UR (UJ v0.length).toNat v0),v1,y.2.1.1,y.2.1.2.1,y.2.1.2.2.1,y.2.1.2.2.2.1) else none else none else none else L4 (0,v2,v3,v4,v5,[])
def ZiD (k:Nat):ZiB:=Zh (fun L3 => ZaE k (Zcx k) L3) k
noncomputable def Zsx (k:Nat) (n:Nat):=Wb (ZiE k) Tryz.f35 YI ZaC [1,1,1,1,1,1,0,0] [] n ZKp (A:=Ziy) (live:=ZiF)
def ZKo:ZxU → St
 | (v0,v1,v2) => St.mk (Zp [(5,Zf v0),(3,AV.own 8192),(4,AV.val (PV.v (Jv UO v1)))]) (Zo [(8192,RS.live (Res.arr (Ty.int UQ) v2 false))])
def ZaD (k:Nat) (L3:ZiB) (L2:ZiA):ZiA
 | (v0,v1,v2) => bif decide (v0 < 64) then bif decide (0 ≤ v0) then bif decide (v2.length + [UQ.wrap (v1.fdiv ((2:Int) ^ min v0.toNat 64))].length < 2147483648) then L2 (Jx.wrap (v0 + 8),v1,v2 ++ [UQ.wrap (v1.fdiv ((2:Int) ^ min v0.toNat 64))]) else none else none else L3 (v2,[3614090360,3905402710,606105819,3250441966,4118548399,1200080426,2821735955,4249261313,1770035416,2336552879,4294925233,2304563134,1804603682,4254626195,2792965006,1236535329,4129170786,3225465664,643717713,3921069994,3593408605,38016083,3634488961,3889429448,568446438,3275163606,4107603335,1163531501,2850285829,4243563512,1735328473,2368359562,4294588738,2272392833,1839030562,4259657740,2763975236,1272893353,4139469664,3200236656,681279174,3936430074,3572445317,76029189,3654602809,3873151461,530742520,3299628645,4096336452,1126891415,2878612391,4237533241,1700485571,2399980690,4293915773,2240044497,1873313359,4264355552,2734768916,1309151649,4149444226,3174756917,718787259,3951481745],(1732584193:Int),(4023233417:Int),(2562383102:Int),(271733878:Int))
def Zo7 (k:Nat):ZiA:=Zh (fun L2 => ZaD k (ZiD k) L2) k
noncomputable def Zsw (k:Nat) (n:Nat):=Wb (ZiE k) Tryz.f35 YI ZaC [1,1,1,1,0,1,0] [] n ZKo (A:=Ziy) (live:=ZiF)
def ZKn:ZxT → St
 | (v0,v1) => St.mk (Zp [(3,AV.own 8192),(0,AV.val (PV.sl (Ty.int UQ) v0))]) (Zo [(8192,RS.live (Res.arr (Ty.int UQ) v1 false))])
def Xq (k:Nat) (L2:ZiA) (L1:Ziz):Ziz
 | (v0,v1) => bif (UJ v1.length).tmod (64:Int) != 56 then bif decide (v1.length + (1:Nat) < (2147483648:Nat)) then L1 (v0,v1 ++ [(0:Int)]) else none else L2 (0,UO.wrap (UO.wrap (UJ v0.length) * (8:Int)),v1)
def Zo6 (k:Nat):Ziz:=Zh (fun L1 => Xq k (Zo7 k) L1) k
noncomputable def Zsv (k:Nat) (n:Nat):=Wb (ZiE k) Tryz.f35 YI ZaC [1,1,0,0] [] n ZKn (A:=Ziy) (live:=ZiF)
def Zdq (k:Nat) (L1:Ziz):List Int × Unit → Option (ByteArray × Unit)
 | (a0,()) => (Zjh k (a0,())).bind fun y => bif decide (UP y.1 + (1:Nat) < 2147483648) then L1 (a0,y.1 ++ [(128:Int)]) else none
def Znx (k:Nat):=Zdq k (Zo6 k)
theorem ZBu (k:Nat):∀ n,Zsy k n = Zh (fun L4 => ZaF k L4) n:=ZV
theorem ZBt (k:Nat):∀ n,Zsx k n = Zh (fun L3 => ZaE k (Zcx k) L3) n:=ZV (fun n v => by rw [show (Zcx k) = Zsy k k from (ZBu k k).symm]; kernel_rfl)
theorem ZBs (k:Nat):∀ n,Zsw k n = Zh (fun L2 => ZaD k (ZiD k) L2) n:=ZV (fun n v => by rw [show (ZiD k) = Zsx k k from (ZBt k k).symm]; kernel_rfl)
theorem ZBr (k:Nat):∀ n,Zsv k n = Zh (fun L1 => Xq k (Zo7 k) L1) n:=ZV (fun n v => by rw [show (Zo7 k) = Zsw k k from (ZBs k k).symm]; kernel_rfl)
noncomputable def ZO1 (k:Nat):ZI k:=Zv 35 Tryz.f35 (ZiE k) YI ZaC Znx (A:=Ziy) (live:=ZiF) (h:=fun x => by show _ = Zdq k (Zo6 k) x; rw [show Zo6 k = Zsv k k from (ZBr k k).symm]; kernel_rfl)
abbrev Zex:Kd:=.tup [.view .str,.view (.int .i64)]
noncomputable def Znp (k:Nat):List (ZI k):=[Zuz k,Znw k,ZO1 k]
def Zno:Nat → Ann:=fun id => bif Ja id 12 then ⟨[9,1,5,8,6,23,22,21,17,16],[.slot 5 ((Ty.int UQ))]⟩ else bif Ja id 9 then ⟨[22,23,21,1,5,6,17,16],[.slot 5 ((Ty.int UQ))]⟩ else bif Ja id 6 then ⟨[16,17,1,5],[.slot 5 ((Ty.int UQ))]⟩ else ⟨[],[]⟩
abbrev ZxJ:=Int × List Int × Int × Int × Int × List (List Int) × Int × Int × Int × Int × Int × List ByteArray × List (List Int) × List Int
abbrev Zij:=ZxJ → Option ((ByteArray × Int × Unit) × Unit)
abbrev ZxI:=Int × Int × List (List Int) × Int × Int × Int × Int × Int × Int × List ByteArray × List (List Int) × List Int
abbrev Zcu:=ZxI → Option ((ByteArray × Int × Unit) × Unit)
abbrev ZxH:=Int × Int × Int × Int × Int × List ByteArray × List (List Int) × List Int
abbrev KH:=ZxH → Option ((ByteArray × Int × Unit) × Unit)
def ZKc:ZxJ → St
 | (v0,v1,v2,v3,v4,v5,v6,v7,v8,v9,v10,v11,v12,v13) => St.mk (Zp [(9,Zf v0),(1,AV.bx 8192 0),(5,AV.own 8193),(8,X6 v1),(6,Zf v2),(23,Zf v3),(22,Zf v4),(21,AV.val (PV.sl (Ty.int Jx).sl v5)),(17,Zf v6),(16,Zf v7)]) (Zo [(8192,QK [Zf v8,Zf v9,Zf v10,AV.val (PV.sl Ty.str v11),AV.val (PV.sl (Ty.int Jx).sl v12)]),(8193,RS.live (Res.arr (Ty.int UQ) v13 false))])
def Zaw (k:Nat) (L1:KH) (L2:Zcu) (L3:Zij):Zij
 | (v0,v1,v2,v3,v4,v5,v6,v7,v8,v9,v10,v11,v12,v13) => bif decide (v0 < v9) then bif decide (0 ≤ v2 ∧ v2 < UJ v1.length) then bif decide (0 ≤ v0) then bif decide (v13.length + [UQ.wrap (UT (v1.getD v2.toNat 0) ((2:Int) ^ min v0.toNat 64))].length < 2147483648) then L3 (Jx.wrap (v0 + 8),v1,v2,v3,v4,v5,v6,v7,v8,v9,v10,v11,v12,v13 ++ [UQ.wrap (UT (v1.getD v2.toNat 0) ((2:Int) ^ min v0.toNat 64))]) else none else none else none else L2 (v4,Jx.wrap (v3 + 1),v5,v2,v6,v7,v8,v9,v10,v11,v12,v13)
def Zik (k:Nat) (L1:KH) (L2:Zcu):Zij:=Zh (fun L3 => Zaw k L1 L2 L3) k
noncomputable def Zsi (k:Nat) (n1 n2:Nat) (n:Nat):=Wb (Znp k) Tryz.f14 QU Zex [1,1,1,0,1,0,0,1,1,0,0,1,1,0,0,1,1,0,0,1,1,0] [n1,n2] n ZKc (A:=Zno)
def ZKb:ZxI → St
 | (v0,v1,v2,v3,v4,v5,v6,v7,v8,v9,v10,v11) => St.mk (Zp [(22,Zf v0),(23,Zf v1),(21,AV.val (PV.sl (Ty.int Jx).sl v2)),(1,AV.bx 8192 0),(5,AV.own 8193),(6,Zf v3),(17,Zf v4),(16,Zf v5)]) (Zo [(8192,QK [Zf v6,Zf v7,Zf v8,AV.val (PV.sl Ty.str v9),AV.val (PV.sl (Ty.int Jx).sl v10)]),(8193,RS.live (Res.arr (Ty.int UQ) v11 false))])
def Zav (k:Nat) (L3:Zij) (L1:KH) (L2:Zcu):Zcu
 | (v0,v1,v2,v3,v4,v5,v6,v7,v8,v9,v10,v11) => bif decide (v1 < v0) then bif decide (0 ≤ v1 ∧ v1 < UJ v2.length) then L3 (0,v2.getD v1.toNat [],v3,v1,v0,v2,v4,v5,v6,v7,v8,v9,v10,v11) else none else L1 (v5,Jx.wrap (v4 + 1),v6,v7,v8,v9,v10,v11)
def Zew (k:Nat) (L1:KH):Zcu:=Zh (fun L2 => Zav k (Zik k L1 L2) L1 L2) k
noncomputable def Zf7 (k:Nat) (n1:Nat) (n:Nat):=Wb (Znp k) Tryz.f14 QU Zex [1,1,1,0,1,0,0,1,1,0,0,1,1,0] [n1] n ZKb (A:=Zno)
def ZKa:ZxH → St
 | (v0,v1,v2,v3,v4,v5,v6,v7) => St.mk (Zp [(16,Zf v0),(17,Zf v1),(1,AV.bx 8192 0),(5,AV.own 8193)]) (Zo [(8192,QK [Zf v2,Zf v3,Zf v4,AV.val (PV.sl Ty.str v5),AV.val (PV.sl (Ty.int Jx).sl v6)]),(8193,RS.live (Res.arr (Ty.int UQ) v7 false))])
def Zau (k:Nat) (L2:Zcu) (L1:KH):KH
 | (v0,v1,v2,v3,v4,v5,v6,v7) => bif decide (v1 < v0) then L2 (UJ v6.length,(0:Int),v6,v1,v1,v0,v2,v3,v4,v5,v6,v7) else (Znx k (v7,())).bind fun y => some ((y.1,0,()),())
def ZoY (k:Nat):KH:=Zh (fun L1 => Zau k (Zew k L1) L1) k
noncomputable def Y6 (k:Nat) (n:Nat):=Wb (Znp k) Tryz.f14 QU Zex [1,1,1,0,1,0] [] n ZKa (A:=Zno)
def Zdf (k:Nat) (L1:KH):((Int × Int × Int × Unit) × List ByteArray × List (List Int) × Unit) × Unit → Option ((ByteArray × Int × Unit) × Unit)
 | (((a0,a1,a2,()),a3,a4,()),()) => (Zin k (((a0,a1,a2,()),a3,a4,()),())).bind fun y => bif y.1 != 0 then some ((UZ #[],y.1,()),()) else (Zbt k (((a0,a1,a2,()),a3,a4,()),())).bind fun y => L1 (y.1,(0:Int),a0,a1,a2,a3,a4,[])
def Zde (k:Nat):=Zdf k (ZoY k)
theorem ZA8 (k:Nat) (n1 n2:Nat):∀ n,Zsi k n1 n2 n = Zh (fun L3 => Zaw k (Y6 k n1) (Zf7 k n1 n2) L3) n:=ZV
theorem ZA7 (k:Nat) (n1:Nat):∀ n,Zf7 k n1 n = Zh (fun L2 => Zav k (Zik k (Y6 k n1) L2) (Y6 k n1) L2) n:=ZV (fun n v => by rw [show (Zik k (Y6 k n1) (Zf7 k n1 n)) = Zsi k n1 n k from (ZA8 k n1 n k).symm]; kernel_rfl)
theorem ZA6 (k:Nat):∀ n,Y6 k n = Zh (fun L1 => Zau k (Zew k L1) L1) n:=ZV (fun n v => by rw [show (Zew k (Y6 k n)) = Zf7 k n k from (ZA7 k n k).symm]; kernel_rfl)
noncomputable def ZDF (k:Nat):ZI k:=Zv 14 Tryz.f14 (Znp k) QU Zex Zde (A:=Zno) (h:=fun x => by show _ = Zdf k (ZoY k) x; rw [show ZoY k = Y6 k k from (ZA6 k k).symm]; kernel_rfl)
theorem Zsj (k:Nat):Ctr Tryz.prog k 14 (mk QU Zex Zde):=(ZDF k).2
abbrev Zye:List Kd:=[.box [.own (.int .u8) false,.view (.int .i64)],.view .str]
noncomputable def ZD2 (k:Nat):List (ZI k):=[Zpx k]
def ZD1:Nat → Ann:=fun id => bif Ja id 1 then ⟨[6,7,0,1],[]⟩ else ⟨[],[]⟩
abbrev Zyd:=Int × Int × ByteArray × Int × List Int
abbrev ZiX:=Zyd → Option (Unit × (List Int × Int × Unit) × Unit)
def ZKK:Zyd → St
 | (v0,v1,v2,v3,v4) => St.mk (Zp [(6,Zf v0),(7,Zf v1),(0,AV.bx 0 0),(1,AV.val (PV.v (Value.string v2)))]) (Zo [(0,QK [AV.own 8192,Zf v3]),(8192,RS.live (Res.arr (Ty.int UQ) v4 false))])
def ZaP (k:Nat) (L1:ZiX):ZiX
 | (v0,v1,v2,v3,v4) => bif decide (v1 < v0) then bif decide (0 ≤ v1 ∧ v1 < UJ v2.size) then (ZO k ((v4,v3,()),Jx.wrap (UJ (v2.data.toList.getD v1.toNat 0).toNat),8,())).bind fun y => L1 (v0,Jx.wrap (v1 + 1),v2,y.2.1.2.1,y.2.1.1) else none else some ((),(v4,v3,()),())
def Zpk (k:Nat):ZiX:=Zh (fun L1 => ZaP k L1) k
noncomputable def ZsI (k:Nat) (n:Nat):=Wb (ZD2 k) Tryz.f102 Zye XU [1,0] [] n ZKK (A:=ZD1) (a:=[AV.bx (nat_lit 0) (nat_lit 0)]) (b:=[[]]) (q:=[0])
def Zpl (k:Nat) (L1:ZiX):(List Int × Int × Unit) × ByteArray × Unit → Option (Unit × (List Int × Int × Unit) × Unit)
 | ((a0,a1,()),a2,()) => L1 (UJ a2.size,(0:Int),a2,a1,a0)
def Zbu (k:Nat):=Zpl k (Zpk k)
theorem ZBN (k:Nat):∀ n,ZsI k n = Zh (fun L1 => ZaP k L1) n:=ZV
noncomputable def ZPh (k:Nat):ZI k:=Zv 102 Tryz.f102 (ZD2 k) Zye XU Zbu (A:=ZD1) (h:=fun x => by show _ = Zpl k (Zpk k) x; rw [show Zpk k = ZsI k k from (ZBN k k).symm]; kernel_rfl)
abbrev ZKL:List Kd:=[.box [.own (.int .u8) false,.view (.int .i64)],.view (.int .i64),.view (.int .i64),.view (.int .i64)]
def Zhf (k:Nat):(List Int × Int × Unit) × Int × Int × Int × Unit → Option (Unit × (List Int × Int × Unit) × Unit)
 | ((a0,a1,()),a2,a3,a4,()) => (ZO k ((a0,a1,()),a2,1,())).bind fun y => (ZO k ((y.2.1.1,y.2.1.2.1,()),a3,7,())).bind fun y => (ZO k ((y.2.1.1,y.2.1.2.1,()),a4,24,())).bind fun y => some ((),(y.2.1.1,y.2.1.2.1,()),())
def Zdw (k:Nat):=Zhf k
noncomputable def ZPi (k:Nat):ZI k:=Zv 103 Tryz.f103 [Zpx k] ZKL XU Zdw
abbrev ZiZ:List Kd:=[.view (.sl (.int .i64))]
noncomputable def ZD3 (k:Nat):List (ZI k):=[]
def ZnE:Nat → Ann:=fun id => bif Ja id 5 then ⟨[4,0,3],[]⟩ else ⟨[],[]⟩
abbrev Zpm:=Int × List Int × Int
abbrev KJ:=Zpm → Option (Int × Unit)
def ZKM:Zpm → St
 | (v0,v1,v2) => St.mk (Zp [(4,Zf v0),(0,X6 v1),(3,Zf v2)]) (Zo [])
def ZaQ (k:Nat) (L1:KJ):KJ
 | (v0,v1,v2) => bif decide (v0 < UJ v1.length) then bif decide (0 ≤ v0 ∧ v0 < UJ v1.length) then L1 (Jx.wrap (v0 + 1),v1,if v1.getD v0.toNat 0 < v2 then v1.getD v0.toNat 0 else v2) else none else some (v2,())
def ZiY (k:Nat):KJ:=Zh (fun L1 => ZaQ k L1) k
noncomputable def ZsJ (k:Nat) (n:Nat):=Wb (ZD3 k) Tryz.f104 ZiZ QP [1,1,1,0,1,0] [] n ZKM (A:=ZnE)
def Zdx (k:Nat) (L1:KJ):List Int × Unit → Option (Int × Unit)
 | (a0,()) => bif decide (UJ a0.length < (1:Int)) then none else bif decide ((0:Int) ≤ 0 ∧ (0:Int) < UJ a0.length) then L1 (1,a0,a0.getD 0 0) else none
def Zu2 (k:Nat):=Zdx k (ZiY k)
theorem ZBO (k:Nat):∀ n,ZsJ k n = Zh (fun L1 => ZaQ k L1) n:=ZV
noncomputable def ZPj (k:Nat):ZI k:=Zv 104 Tryz.f104 (ZD3 k) ZiZ QP Zu2 (A:=ZnE) (h:=fun x => by show _ = Zdx k (ZiY k) x; rw [show ZiY k = ZsJ k k from (ZBO k k).symm]; kernel_rfl)
noncomputable def ZD4 (k:Nat):List (ZI k):=[]
def ZKN:Zpm → St
 | (v0,v1,v2) => St.mk (Zp [(4,Zf v0),(0,X6 v1),(3,Zf v2)]) (Zo [])
def ZaR (k:Nat) (L1:KJ):KJ
 | (v0,v1,v2) => bif decide (v0 < UJ v1.length) then bif decide (0 ≤ v0 ∧ v0 < UJ v1.length) then L1 (Jx.wrap (v0 + 1),v1,if v2 < v1.getD v0.toNat 0 then v1.getD v0.toNat 0 else v2) else none else some (v2,())
def Zi0 (k:Nat):KJ:=Zh (fun L1 => ZaR k L1) k
noncomputable def ZsK (k:Nat) (n:Nat):=Wb (ZD4 k) Tryz.f105 ZiZ QP [1,1,1,0,1,0] [] n ZKN (A:=ZnE)
def Zdy (k:Nat) (L1:KJ):List Int × Unit → Option (Int × Unit)
 | (a0,()) => bif decide (UJ a0.length < (1:Int)) then none else bif decide ((0:Int) ≤ 0 ∧ (0:Int) < UJ a0.length) then L1 (1,a0,a0.getD 0 0) else none
def Zu3 (k:Nat):=Zdy k (Zi0 k)
theorem ZBQ (k:Nat):∀ n,ZsK k n = Zh (fun L1 => ZaR k L1) n:=ZV
noncomputable def ZPk (k:Nat):ZI k:=Zv 105 Tryz.f105 (ZD4 k) ZiZ QP Zu3 (A:=ZnE) (h:=fun x => by show _ = Zdy k (Zi0 k) x; rw [show Zi0 k = ZsK k k from (ZBQ k k).symm]; kernel_rfl)
abbrev Zyg:List Kd:=[.box [.own (.int .u8) false,.view (.int .i64)],.view (.int .i64)]
noncomputable def ZD7 (k:Nat):List (ZI k):=[Zpx k]
def ZD6:Nat → Ann:=fun id => bif Ja id 1 then ⟨[4,0,1],[]⟩ else ⟨[],[]⟩
abbrev Zyf:=Int × Int × Int × List Int
abbrev Zi2:=Zyf → Option (Unit × (List Int × Int × Unit) × Unit)
def ZKO:Zyf → St
 | (v0,v1,v2,v3) => St.mk (Zp [(4,Zf v0),(0,AV.bx 0 0),(1,Zf v1)]) (Zo [(0,QK [AV.own 8192,Zf v2]),(8192,RS.live (Res.arr (Ty.int UQ) v3 false))])
def Zdz (k:Nat) (L1:Zi2):Zi2
 | (v0,v1,v2,v3) => bif decide (v0 < 32) then bif decide (0 ≤ v0) then (ZO k ((v3,v2,()),Jx.wrap (UJ (UN 64 (v1.fdiv ((2:Int) ^ min v0.toNat 64)) &&& UN 64 (255:Int)).toNat),8,())).bind fun y => L1 (Jx.wrap (v0 + 8),v1,y.2.1.2.1,y.2.1.1) else none else some ((),(v3,v2,()),())
def Zpn (k:Nat):Zi2:=Zh (fun L1 => Zdz k L1) k
noncomputable def ZsL (k:Nat) (n:Nat):=Wb (ZD7 k) Tryz.f106 Zyg XU [1,0] [] n ZKO (A:=ZD6) (a:=[AV.bx (nat_lit 0) (nat_lit 0)]) (b:=[[]]) (q:=[0])
def Zpo (k:Nat) (L1:Zi2):(List Int × Int × Unit) × Int × Unit → Option (Unit × (List Int × Int × Unit) × Unit)
 | ((a0,a1,()),a2,()) => L1 (0,a2,a1,a0)
def Zi1 (k:Nat):=Zpo k (Zpn k)
theorem ZBS (k:Nat):∀ n,ZsL k n = Zh (fun L1 => Zdz k L1) n:=ZV
noncomputable def ZPl (k:Nat):ZI k:=Zv 106 Tryz.f106 (ZD7 k) Zyg XU Zi1 (A:=ZD6) (h:=fun x => by show _ = Zpo k (Zpn k) x; rw [show Zpn k = ZsL k k from (ZBS k k).symm]; kernel_rfl)
abbrev ZiN:List Kd:=[.view trackT,.view (.int .i64),.view (.sl (.int .i64))]
noncomputable def ZnB (k:Nat):List (ZI k):=[ZDF k,Znw k,ZQj k,Zpx k,ZQl k,ZPh k,ZPi k,ZPj k,ZPk k,ZPl k]
def Znz:Nat → Ann:=fun id => bif Ja id 42 then ⟨[143,144,142,7],[]⟩ else bif Ja id 33 then ⟨[118,119,117,15,7,3],[]⟩ else bif Ja id 22 then ⟨[84,85,83,7,1,12,3],[]⟩ else ⟨[],[]⟩
abbrev Zx4:=Int × Int × List ByteArray × Int × List Int
abbrev ZiM:=Zx4 → Option (List Int × Unit)
abbrev Zx3:=Int × Int × List ByteArray × Int × Int × List Int × Int × Int × Int × List ByteArray × List (List Int)
abbrev ZeC:=Zx3 → Option (List Int × Unit)
abbrev Zx2:=Int × Int × List Int × Int × Int × Int × List Int × Int × Int × Int × List ByteArray × List (List Int)
abbrev ZiL:=Zx2 → Option (List Int × Unit)
def ZKw:Zx4 → St
 | (v0,v1,v2,v3,v4) => St.mk (Zp [(143,Zf v0),(144,Zf v1),(142,AV.val (PV.sl Ty.str v2)),(7,AV.bx 8192 0)]) (Zo [(8192,QK [AV.own 8193,Zf v3]),(8193,RS.live (Res.arr (Ty.int UQ) v4 false))])
def ZaL (k:Nat) (L3:ZiM):ZiM
 | (v0,v1,v2,v3,v4) => bif decide (v1 < v0) then bif decide (0 ≤ v1 ∧ v1 < UJ v2.length) then (Zi1 k ((v4,v3,()),UJ (Hd (v2.getD v1.toNat (UZ #[]))),())).bind fun y => (Zbu k ((y.2.1.1,y.2.1.2.1,()),v2.getD v1.toNat (UZ #[]),())).bind fun y => L3 (v0,Jx.wrap (v1 + 1),v2,y.2.1.2.1,y.2.1.1) else none else (ZsP k ((v4,v3,()),())).bind fun y => some (y.1,())
def ZeE (k:Nat):ZiM:=Zh (fun L3 => ZaL k L3) k
noncomputable def ZsD (k:Nat) (n:Nat):=Wb (ZnB k) Tryz.f47 ZiN YK [1,1,1,1,1,1,1,1,1,1,1,1,1,1,1,1,1,1,1,1,1,1,1,1,0,1,0] [] n ZKw (A:=Znz)
def ZKv:Zx3 → St
 | (v0,v1,v2,v3,v4,v5,v6,v7,v8,v9,v10) => St.mk (Zp [(118,Zf v0),(119,Zf v1),(117,AV.val (PV.sl Ty.str v2)),(15,Zf v3),(7,AV.bx 8192 0),(3,AV.bx 8194 0)]) (Zo [(8192,QK [AV.own 8193,Zf v4]),(8193,RS.live (Res.arr (Ty.int UQ) v5 false)),(8194,QK [Zf v6,Zf v7,Zf v8,AV.val (PV.sl Ty.str v9),AV.val (PV.sl (Ty.int Jx).sl v10)])])
def ZaK (k:Nat) (L3:ZiM) (L2:ZeC):ZeC
 | (v0,v1,v2,v3,v4,v5,v6,v7,v8,v9,v10) => bif decide (v1 < v0) then bif decide (0 ≤ v1 ∧ v1 < UJ v2.length) then L2 (v0,Jx.wrap (v1 + 1),v2,Jx.wrap (v3 + Jx.wrap ((4:Int) + UJ (Hd (v2.getD v1.toNat (UZ #[]))))),v4,v5,v6,v7,v8,v9,v10) else none else (Zdw k ((v5,v4,()),1,4,v3,())).bind fun y => (Zi1 k ((y.2.1.1,y.2.1.2.1,()),7,())).bind fun y => (Zbu k ((y.2.1.1,y.2.1.2.1,()),UZ #[115,104,101,108,108,97,99],())).bind fun y => (Zi1 k ((y.2.1.1,y.2.1.2.1,()),UJ v9.length,())).bind fun y => L3 (UJ v9.length,(0:Int),v9,y.2.1.2.1,y.2.1.1)
def YJ (k:Nat):ZeC:=Zh (fun L2 => ZaK k (ZeE k) L2) k
noncomputable def Zk8 (k:Nat) (n:Nat):=Wb (ZnB k) Tryz.f47 ZiN YK [1,1,1,1,1,1,1,1,1,1,1,1,1,1,1,1,1,1,1,0,1,0] [] n ZKv (A:=Znz)
def ZKu:Zx2 → St
 | (v0,v1,v2,v3,v4,v5,v6,v7,v8,v9,v10,v11) => St.mk (Zp [(84,Zf v0),(85,Zf v1),(83,X6 v2),(7,AV.bx 8192 0),(1,Zf v3),(12,Zf v4),(3,AV.bx 8194 0)]) (Zo [(8192,QK [AV.own 8193,Zf v5]),(8193,RS.live (Res.arr (Ty.int UQ) v6 false)),(8194,QK [Zf v7,Zf v8,Zf v9,AV.val (PV.sl Ty.str v10),AV.val (PV.sl (Ty.int Jx).sl v11)])])
def ZaJ (k:Nat) (L2:ZeC) (L1:ZiL):ZiL
 | (v0,v1,v2,v3,v4,v5,v6,v7,v8,v9,v10,v11) => bif decide (v1 < v0) then bif decide (0 ≤ v1 ∧ v1 < UJ v2.length) then (ZO k ((v6,v5,()),0,32,())).bind fun y => (ZO k ((y.2.1.1,y.2.1.2.1,()),Jx.wrap (v1 * v3),32,())).bind fun y => (ZO k ((y.2.1.1,y.2.1.2.1,()),0,32,())).bind fun y => (ZO k ((y.2.1.1,y.2.1.2.1,()),v4,32,())).bind fun y => (Zbt k (((v7,v8,v9,()),v10,v11,()),())).bind fun y_1 => (ZO k ((y.2.1.1,y.2.1.2.1,()),if Jx.wrap (y_1.1 - Jx.wrap (v1 * v3)) < v3 then Jx.wrap (y_1.1 - Jx.wrap (v1 * v3)) else v3,16,())).bind fun y => L1 (v0,Jx.wrap (v1 + 1),v2,v3,Jx.wrap (v4 + v2.getD v1.toNat 0),y.2.1.2.1,y.2.1.1,v7,v8,v9,v10,v11) else none else L2 (UJ v10.length,(0:Int),v10,(15:Int),v5,v6,v7,v8,v9,v10,v11)
def ZeD (k:Nat):ZiL:=Zh (fun L1 => ZaJ k (YJ k) L1) k
noncomputable def ZsC (k:Nat) (n:Nat):=Wb (ZnB k) Tryz.f47 ZiN YK [1,1,1,1,1,1,1,1,1,1,1,1,1,1,1,1,1,0,1,0,1,1,1,0] [] n ZKu (A:=Znz)
def Zds (k:Nat) (L1:ZiL) (L2:ZeC):((Int × Int × Int × Unit) × List ByteArray × List (List Int) × Unit) × Int × List Int × Unit → Option (List Int × Unit)
 | (((a0,a1,a2,()),a3,a4,()),a5,a6,()) => (ZsO k ()).bind fun y => (Zbu k ((y.1.1,y.1.2.1,()),UZ #[102,76,97,67],())).bind fun y => (Zdw k ((y.2.1.1,y.2.1.2.1,()),0,0,34,())).bind fun y => bif decide ((0:Int) < UJ a6.length) then (Zu2 k (a6,())).bind fun y_1 => (Zu3 k (a6,())).bind fun y_2 => (ZO k ((y.2.1.1,y.2.1.2.1,()),a5,16,())).bind fun y => (ZO k ((y.2.1.1,y.2.1.2.1,()),a5,16,())).bind fun y => (ZO k ((y.2.1.1,y.2.1.2.1,()),y_1.1,24,())).bind fun y => (ZO k ((y.2.1.1,y.2.1.2.1,()),y_2.1,24,())).bind fun y => (ZO k ((y.2.1.1,y.2.1.2.1,()),a2,20,())).bind fun y => (ZO k ((y.2.1.1,y.2.1.2.1,()),Jx.wrap (a0 - 1),3,())).bind fun y => (ZO k ((y.2.1.1,y.2.1.2.1,()),Jx.wrap (a1 - 1),5,())).bind fun y => (ZO k ((y.2.1.1,y.2.1.2.1,()),0,4,())).bind fun y => (Zbt k (((a0,a1,a2,()),a3,a4,()),())).bind fun y_3 => (ZO k ((y.2.1.1,y.2.1.2.1,()),y_3.1,32,())).bind fun y => (Zde k (((a0,a1,a2,()),a3,a4,()),())).bind fun y_4 => (Zbu k ((y.2.1.1,y.2.1.2.1,()),y_4.1.1,())).bind fun y => bif decide ((1:Int) < UJ a6.length) then (Zdw k ((y.2.1.1,y.2.1.2.1,()),0,3,Jx.wrap ((18:Int) * UJ a6.length),())).bind fun y => L1 (UJ a6.length,(0:Int),a6,a5,(0:Int),y.2.1.2.1,y.2.1.1,a0,a1,a2,a3,a4) else L2 (UJ a3.length,(0:Int),a3,(15:Int),y.2.1.2.1,y.2.1.1,a0,a1,a2,a3,a4) else (ZO k ((y.2.1.1,y.2.1.2.1,()),a5,16,())).bind fun y => (ZO k ((y.2.1.1,y.2.1.2.1,()),a5,16,())).bind fun y => (ZO k ((y.2.1.1,y.2.1.2.1,()),0,24,())).bind fun y => (ZO k ((y.2.1.1,y.2.1.2.1,()),0,24,())).bind fun y => (ZO k ((y.2.1.1,y.2.1.2.1,()),a2,20,())).bind fun y => (ZO k ((y.2.1.1,y.2.1.2.1,()),Jx.wrap (a0 - 1),3,())).bind fun y => (ZO k ((y.2.1.1,y.2.1.2.1,()),Jx.wrap (a1 - 1),5,())).bind fun y => (ZO k ((y.2.1.1,y.2.1.2.1,()),0,4,())).bind fun y => (Zbt k (((a0,a1,a2,()),a3,a4,()),())).bind fun y_1 => (ZO k ((y.2.1.1,y.2.1.2.1,()),y_1.1,32,())).bind fun y => (Zde k (((a0,a1,a2,()),a3,a4,()),())).bind fun y_2 => (Zbu k ((y.2.1.1,y.2.1.2.1,()),y_2.1.1,())).bind fun y => bif decide ((1:Int) < UJ a6.length) then (Zdw k ((y.2.1.1,y.2.1.2.1,()),0,3,Jx.wrap ((18:Int) * UJ a6.length),())).bind fun y => L1 (UJ a6.length,(0:Int),a6,a5,(0:Int),y.2.1.2.1,y.2.1.1,a0,a1,a2,a3,a4) else L2 (UJ a3.length,(0:Int),a3,(15:Int),y.2.1.2.1,y.2.1.1,a0,a1,a2,a3,a4)
def ZnA (k:Nat):=Zds k (ZeD k) (YJ k)
theorem ZBC (k:Nat):∀ n,ZsD k n = Zh (fun L3 => ZaL k L3) n:=ZV
theorem Zpc (k:Nat):∀ n,Zk8 k n = Zh (fun L2 => ZaK k (ZeE k) L2) n:=ZV (fun n v => by rw [show (ZeE k) = ZsD k k from (ZBC k k).symm]; kernel_rfl)
theorem ZBB (k:Nat):∀ n,ZsC k n = Zh (fun L1 => ZaJ k (YJ k) L1) n:=ZV (fun n v => by rw [show (YJ k) = Zk8 k k from (Zpc k k).symm]; kernel_rfl)
set_option maxHeartbeats 1000000 in
noncomputable def ZDU (k:Nat):ZI k:=Zv 47 Tryz.f47 (ZnB k) ZiN YK ZnA (A:=Znz) (h:=fun x => by show _ = Zds k (ZeD k) (YJ k) x; rw [show ZeD k = ZsC k k from (ZBB k k).symm,show YJ k = Zk8 k k from (Zpc k k).symm]; kernel_rfl)
abbrev Zo4:Kd:=.tup [.view (.sl (.int .u8)),.view (.int .i64)]
noncomputable def ZDM (k:Nat):List (ZI k):=[ZDJ k,ZO5 k,ZDU k]
def ZDL:Nat → Ann:=fun id => bif Ja id 6 then ⟨[21,22,20,8,2,1,6],[.slot 8 ((Ty.int Jx))]⟩ else ⟨[],[]⟩
abbrev ZxN:=Int × Int × List (List Int) × Int × List (List Int) × List Int × Int × Int × Int × List ByteArray × List (List Int)
abbrev Zis:=ZxN → Option ((List Int × Int × Unit) × Unit)
def ZKi:ZxN → St
 | (v0,v1,v2,v3,v4,v5,v6,v7,v8,v9,v10) => St.mk (Zp [(21,Zf v0),(22,Zf v1),(20,AV.val (PV.sl (Ty.int UQ).sl v2)),(8,AV.own 8192),(2,AV.bx 8193 0),(1,Zf v3),(6,AV.val (PV.sl (Ty.int UQ).sl v4))]) (Zo [(8192,rsA v5 false),(8193,QK [Zf v6,Zf v7,Zf v8,AV.val (PV.sl Ty.str v9),AV.val (PV.sl (Ty.int Jx).sl v10)])])
def Zaz (k:Nat) (L1:Zis):Zis
 | (v0,v1,v2,v3,v4,v5,v6,v7,v8,v9,v10) => bif decide (v1 < v0) then bif decide (0 ≤ v1 ∧ v1 < UJ v2.length) then bif decide (v5.length + [UJ (UP (v2.getD v1.toNat []))].length < 2147483648) then L1 (v0,Jx.wrap (v1 + 1),v2,v3,v4,v5 ++ [UJ (UP (v2.getD v1.toNat []))],v6,v7,v8,v9,v10) else none else none else (ZnA k (((v6,v7,v8,()),v9,v10,()),v3,v5,())).bind fun y => (Zny k (v4,())).bind fun y_1 => (Zny k ([y.1,y_1.1],())).bind fun y => some ((y.1,0,()),())
def Zit (k:Nat):Zis:=Zh (fun L1 => Zaz k L1) k
noncomputable def Zsr (k:Nat) (n:Nat):=Wb (ZDM k) Tryz.f22 Zcv Zo4 [1,1,1,1,0,1,0] [] n ZKi (A:=ZDL)
noncomputable def Zdm (k:Nat) (L1:Zis):((Int × Int × Int × Unit) × List ByteArray × List (List Int) × Unit) × Int × Unit → Option ((List Int × Int × Unit) × Unit)
 | (((a0,a1,a2,()),a3,a4,()),a5,()) => (Ziq k (((a0,a1,a2,()),a3,a4,()),a5,())).bind fun y => bif y.1.2.1 != 0 then some (([],y.1.2.1,()),()) else L1 (UJ (UP y.1.1),(0:Int),y.1.1,a5,y.1.1,[],a0,a1,a2,a3,a4)
noncomputable def Znt (k:Nat):=Zdm k (Zit k)
theorem ZBf (k:Nat):∀ n,Zsr k n = Zh (fun L1 => Zaz k L1) n:=ZV
noncomputable def ZuB (k:Nat):ZI k:=Zv 22 Tryz.f22 (ZDM k) Zcv Zo4 Znt (A:=ZDL) (h:=fun x => by show _ = Zdm k (Zit k) x; rw [show Zit k = Zsr k k from (ZBf k k).symm]; kernel_rfl)
theorem Zss (k:Nat):Ctr Tryz.prog k 22 (mk Zcv Zo4 Znt):=(ZuB k).2
abbrev ZeH:List Kd:=[.box [.ref [.view (.sl (.int .u8)),.view (.int .i64)],.view .bool],.view (.int .i64)]
def Zhi (k:Nat):((List Int × Int × Unit) × Bool × Unit) × Int × Unit → Option (Int × ((List Int × Int × Unit) × Bool × Unit) × Unit)
 | (((a0,a1,()),a2,()),a3,()) => (Y5 k ((a0,a1,()),a3,())).bind fun y => bif a2 then some (y.1.1,((y.2.1.1,y.2.1.2.1,()),true,()),()) else some (y.1.1,((y.2.1.1,y.2.1.2.1,()),y.1.2.1 != 0,()),())
def X9 (k:Nat):=Zhi k
noncomputable def Zu4 (k:Nat):ZI k:=Zv 108 Tryz.f108 [Zg7 k] ZeH QP X9
noncomputable def ZEa (k:Nat):List (ZI k):=[Zu4 k]
def ZD9:Nat → Ann:=fun id => bif Ja id 1 then ⟨[4,5,0],[]⟩ else ⟨[],[]⟩
abbrev Zyh:=Int × Int × Bool × List Int × Int
abbrev Zi3:=Zyh → Option (Unit × ((List Int × Int × Unit) × Bool × Unit) × Unit)
def ZKP:Zyh → St
 | (v0,v1,v2,v3,v4) => St.mk (Zp [(4,Zf v0),(5,Zf v1),(0,AV.bx 0 0)]) (Zo [(0,QK [AV.bx 1 0,avB v2]),(1,QK [AV.val (PV.sl (Ty.int UQ) v3),Zf v4])])
def ZaS (k:Nat) (L1:Zi3):Zi3
 | (v0,v1,v2,v3,v4) => bif decide (v1 < v0) then (X9 k (((v3,v4,()),v2,()),8,())).bind fun y => L1 (v0,Jx.wrap (v1 + 1),y.2.1.2.1,y.2.1.1.1,y.2.1.1.2.1) else some ((),((v3,v4,()),v2,()),())
def Zpp (k:Nat):Zi3:=Zh (fun L1 => ZaS k L1) k
noncomputable def ZsM (k:Nat) (n:Nat):=Wb (ZEa k) Tryz.f107 ZeH XU [1,0] [] n ZKP (A:=ZD9) (a:=[AV.bx (nat_lit 0) (nat_lit 0)]) (b:=[[1]]) (q:=[0,1])
def Zpq (k:Nat) (L1:Zi3):((List Int × Int × Unit) × Bool × Unit) × Int × Unit → Option (Unit × ((List Int × Int × Unit) × Bool × Unit) × Unit)
 | (((a0,a1,()),a2,()),a3,()) => L1 (a3,(0:Int),a2,a0,a1)
def Ku (k:Nat):=Zpq k (Zpp k)
theorem ZBT (k:Nat):∀ n,ZsM k n = Zh (fun L1 => ZaS k L1) n:=ZV
noncomputable def ZPm (k:Nat):ZI k:=Zv 107 Tryz.f107 (ZEa k) ZeH XU Ku (A:=ZD9) (h:=fun x => by show _ = Zpq k (Zpp k) x; rw [show Zpp k = ZsM k k from (ZBT k k).symm]; kernel_rfl)
noncomputable def ZEd (k:Nat):List (ZI k):=[Zu4 k]
def ZEc:Nat → Ann:=fun id => bif Ja id 3 then ⟨[6,5,0,1],[]⟩ else ⟨[],[]⟩
abbrev Zyi:=Int × Int × Int × Bool × List Int × Int
abbrev Zi4:=Zyi → Option (Int × ((List Int × Int × Unit) × Bool × Unit) × Unit)
def ZKQ:Zyi → St
 | (v0,v1,v2,v3,v4,v5) => St.mk (Zp [(6,Zf v0),(5,Zf v1),(0,AV.bx 0 0),(1,Zf v2)]) (Zo [(0,QK [AV.bx 1 0,avB v3]),(1,QK [AV.val (PV.sl (Ty.int UQ) v4),Zf v5])])
def ZaT (k:Nat) (L1:Zi4):Zi4
 | (v0,v1,v2,v3,v4,v5) => bif decide (v0 < 32) then (X9 k (((v4,v5,()),v3,()),8,())).bind fun y => bif decide (0 ≤ v0) then L1 (Jx.wrap (v0 + 8),Jx.wrap (UJ (UN 64 v1 ||| UN 64 (Jx.wrap (y.1 * (2:Int) ^ min v0.toNat 64))).toNat),v2,y.2.1.2.1,y.2.1.1.1,y.2.1.1.2.1) else none else bif decide (v2 < v1) then some (0,((v4,v5,()),true,()),()) else some (v1,((v4,v5,()),v3,()),())
def Zpr (k:Nat):Zi4:=Zh (fun L1 => ZaT k L1) k
noncomputable def ZsN (k:Nat) (n:Nat):=Wb (ZEd k) Tryz.f109 ZeH QP [1,1,0,1,0] [] n ZKQ (A:=ZEc) (a:=[AV.bx (nat_lit 0) (nat_lit 0)]) (b:=[[1]]) (q:=[0,1])
def Zps (k:Nat) (L1:Zi4):((List Int × Int × Unit) × Bool × Unit) × Int × Unit → Option (Int × ((List Int × Int × Unit) × Bool × Unit) × Unit)
 | (((a0,a1,()),a2,()),a3,()) => L1 (0,(0:Int),a3,a2,a0,a1)
def Zge (k:Nat):=Zps k (Zpr k)
theorem ZBV (k:Nat):∀ n,ZsN k n = Zh (fun L1 => ZaT k L1) n:=ZV
noncomputable def ZPn (k:Nat):ZI k:=Zv 109 Tryz.f109 (ZEd k) ZeH QP Zge (A:=ZEc) (h:=fun x => by show _ = Zps k (Zpr k) x; rw [show Zpr k = ZsN k k from (ZBV k k).symm]; kernel_rfl)
abbrev Zpe:List Kd:=[.box [.ref [.view (.sl (.int .u8)),.view (.int .i64)],.view .bool]]
abbrev Zpf:Kd:=.tup [.view trackT,.view (.int .i64),.view (.int .i64)]
noncomputable def ZuT (k:Nat):List (ZI k):=[ZDf k,ZPm k,Zu4 k,ZPn k]
def ZuR:Nat → Ann:=fun id => bif Ja id 21 then ⟨[91,92,10,0,5,88,87,6,8,2],[.slot 10 ((Ty.int UQ))]⟩ else bif Ja id 18 then ⟨[87,88,0,5,6,8,2],[.cell 5 3 (Ty.str)]⟩ else ⟨[],[]⟩
abbrev Zx6:=Int × Int × Int × Int × Int × Int × Bool × List Int × Int × List Int × Int × Int × Int × List ByteArray × Int × Int × Int
abbrev ZiO:=Zx6 → Option ((((Int × Int × Int × Unit) × List ByteArray × List (List Int) × Unit) × Int × Int × Unit) × ((List Int × Int × Unit) × Bool × Unit) × Unit)
abbrev Zx5:=Int × Int × Int × Int × Bool × List Int × Int × Int × Int × Int × List ByteArray × Int × Int × Int
abbrev Zcy:=Zx5 → Option ((((Int × Int × Int × Unit) × List ByteArray × List (List Int) × Unit) × Int × Int × Unit) × ((List Int × Int × Unit) × Bool × Unit) × Unit)
def ZKy:Zx6 → St
 | (v0,v1,v2,v3,v4,v5,v6,v7,v8,v9,v10,v11,v12,v13,v14,v15,v16) => St.mk (Zp [(91,Zf v0),(92,Zf v1),(10,AV.own 8192),(0,AV.bx 0 0),(5,AV.bx 8193 0),(88,Zf v2),(87,Zf v3),(6,Zf v4),(8,Zf v5),(2,AV.bx 8195 0)]) (Zo [(0,QK [AV.bx 1 0,avB v6]),(1,QK [AV.val (PV.sl (Ty.int UQ) v7),Zf v8]),(8192,RS.live (Res.arr (Ty.int UQ) v9 false)),(8193,QK [Zf v10,Zf v11,Zf v12,AV.own 8194,AV.val (PV.v (V5 none (0:Nat) (0:Nat)))]),(8194,RS.live (Res.arr Ty.str v13 false)),(8195,QK [Zf v14,Zf v15,Zf v16,AV.val (PV.v (V5 none (0:Nat) (0:Nat))),AV.val (PV.v (V5 none (0:Nat) (0:Nat)))])])
def ZaM (k:Nat) (L1:Zcy) (L2:ZiO):ZiO
 | (v0,v1,v2,v3,v4,v5,v6,v7,v8,v9,v10,v11,v12,v13,v14,v15,v16) => bif decide (v1 < v0) then (X9 k (((v7,v8,()),v6,()),8,())).bind fun y => bif decide (v9.length + [UQ.wrap y.1].length < 2147483648) then L2 (v0,Jx.wrap (v1 + 1),v2,v3,v4,v5,y.2.1.2.1,y.2.1.1.1,y.2.1.1.2.1,v9 ++ [UQ.wrap y.1],v10,v11,v12,v13,v14,v15,v16) else none else bif decide (v13.length + [UZ (U4 (fun n => U2 n.toNat) v9).toArray].length < 2147483648) then L1 (v3,Jx.wrap (v2 + 1),v4,v5,v6,v7,v8,v10,v11,v12,v13 ++ [UZ (U4 (fun n => U2 n.toNat) v9).toArray],v14,v15,v16) else none
def ZeF (k:Nat) (L1:Zcy):ZiO:=Zh (fun L2 => ZaM k L1 L2) k
noncomputable def ZsE (k:Nat) (n1:Nat) (n:Nat):=Wb (ZuT k) Tryz.f49 Zpe Zpf [1,1,1,1,1,1,1,1,1,1,1,1,1,1,0,1,0,0,1,1,0,0,1,0,1,0] [n1] n ZKy (A:=ZuR) (a:=[AV.bx (nat_lit 0) (nat_lit 0)]) (b:=[[1]]) (q:=[0,1])
def ZKx:Zx5 → St
 | (v0,v1,v2,v3,v4,v5,v6,v7,v8,v9,v10,v11,v12,v13) => St.mk (Zp [(87,Zf v0),(88,Zf v1),(0,AV.bx 0 0),(5,AV.bx 8192 0),(6,Zf v2),(8,Zf v3),(2,AV.bx 8194 0)]) (Zo [(0,QK [AV.bx 1 0,avB v4]),(1,QK [AV.val (PV.sl (Ty.int UQ) v5),Zf v6]),(8192,QK [Zf v7,Zf v8,Zf v9,AV.own 8193,AV.val (PV.v (V5 none (0:Nat) (0:Nat)))]),(8193,RS.live (Res.arr Ty.str v10 false)),(8194,QK [Zf v11,Zf v12,Zf v13,AV.val (PV.v (V5 none (0:Nat) (0:Nat))),AV.val (PV.v (V5 none (0:Nat) (0:Nat)))])])
def Y7 (k:Nat) (L2:ZiO) (L1:Zcy):Zcy
 | (v0,v1,v2,v3,v4,v5,v6,v7,v8,v9,v10,v11,v12,v13) => bif decide (v1 < v0) then (Zge k (((v5,v6,()),v4,()),12,())).bind fun y => L2 (y.1,(0:Int),v1,v0,v2,v3,y.2.1.2.1,y.2.1.1.1,y.2.1.1.2.1,[],v7,v8,v9,v10,v11,v12,v13) else some ((((v7,v8,v9,()),v10,[],()),v2,v3,()),((v5,v6,()),v4,()),())
def ZiP (k:Nat):Zcy:=Zh (fun L1 => Y7 k (ZeF k L1) L1) k
noncomputable def Zgd (k:Nat) (n:Nat):=Wb (ZuT k) Tryz.f49 Zpe Zpf [1,1,1,1,1,1,1,1,1,1,1,1,1,1,0,1,0] [] n ZKx (A:=ZuR) (a:=[AV.bx (nat_lit 0) (nat_lit 0)]) (b:=[[1]]) (q:=[0,1])
def Zdt (k:Nat) (L1:Zcy):((List Int × Int × Unit) × Bool × Unit) × Unit → Option ((((Int × Int × Int × Unit) × List ByteArray × List (List Int) × Unit) × Int × Int × Unit) × ((List Int × Int × Unit) × Bool × Unit) × Unit)
 | (((a0,a1,()),a2,()),()) => (Ku k (((a0,a1,()),a2,()),8,())).bind fun y => (X9 k (((y.2.1.1.1,y.2.1.1.2.1,()),y.2.1.2.1,()),16,())).bind fun y => (Ku k (((y.2.1.1.1,y.2.1.1.2.1,()),y.2.1.2.1,()),8,())).bind fun y_1 => (X9 k (((y_1.2.1.1.1,y_1.2.1.1.2.1,()),y_1.2.1.2.1,()),20,())).bind fun y_2 => (X9 k (((y_2.2.1.1.1,y_2.2.1.1.2.1,()),y_2.2.1.2.1,()),3,())).bind fun y_3 => (X9 k (((y_3.2.1.1.1,y_3.2.1.1.2.1,()),y_3.2.1.2.1,()),5,())).bind fun y_4 => (X9 k (((y_4.2.1.1.1,y_4.2.1.1.2.1,()),y_4.2.1.2.1,()),4,())).bind fun y_5 => (X9 k (((y_5.2.1.1.1,y_5.2.1.1.2.1,()),y_5.2.1.2.1,()),32,())).bind fun y_6 => (Ku k (((y_6.2.1.1.1,y_6.2.1.1.2.1,()),y_6.2.1.2.1,()),16,())).bind fun y_7 => bif y_7.2.1.2.1 then some ((((Jx.wrap (y_3.1 + 1),Jx.wrap (y_4.1 + 1),y_2.1,()),[],[],()),0,0,()),((y_7.2.1.1.1,y_7.2.1.1.2.1,()),true,()),()) else (ZoG k ((Jx.wrap (y_3.1 + 1),Jx.wrap (y_4.1 + 1),y_2.1,()),())).bind fun y_8 => bif y_8.1 != 0 then some ((((Jx.wrap (y_3.1 + 1),Jx.wrap (y_4.1 + 1),y_2.1,()),[],[],()),0,0,()),((y_7.2.1.1.1,y_7.2.1.1.2.1,()),true,()),()) else bif decide (y.1 < 16) then some ((((Jx.wrap (y_3.1 + 1),Jx.wrap (y_4.1 + 1),y_2.1,()),[],[],()),0,0,()),((y_7.2.1.1.1,y_7.2.1.1.2.1,()),true,()),()) else bif decide ((512:Int) < y.1) then some ((((Jx.wrap (y_3.1 + 1),Jx.wrap (y_4.1 + 1),y_2.1,()),[],[],()),0,0,()),((y_7.2.1.1.1,y_7.2.1.1.2.1,()),true,()),()) else bif y_5.1 != 0 then some ((((Jx.wrap (y_3.1 + 1),Jx.wrap (y_4.1 + 1),y_2.1,()),[],[],()),0,0,()),((y_7.2.1.1.1,y_7.2.1.1.2.1,()),true,()),()) else bif decide ((4096:Int) < y_6.1) then some ((((Jx.wrap (y_3.1 + 1),Jx.wrap (y_4.1 + 1),y_2.1,()),[],[],()),0,0,()),((y_7.2.1.1.1,y_7.2.1.1.2.1,()),decide ((4096:Int) < y_6.1),()),()) else bif decide ¬y.1 = (0:Int) then bif decide ((1:Int) < Jx.wrap ((Jx.wrap (Jx.wrap (y_6.1 + y.1) - 1)).tdiv y.1)) then (Ku k (((y_7.2.1.1.1,y_7.2.1.1.2.1,()),decide ((4096:Int) < y_6.1),()),Jx.wrap ((4:Int) + Jx.wrap ((18:Int) * Jx.wrap ((Jx.wrap (Jx.wrap (y_6.1 + y.1) - 1)).tdiv y.1))),())).bind fun y_9 => (Ku k (((y_9.2.1.1.1,y_9.2.1.1.2.1,()),y_9.2.1.2.1,()),15,())).bind fun y_10 => (Zge k (((y_10.2.1.1.1,y_10.2.1.1.2.1,()),y_10.2.1.2.1,()),8,())).bind fun y_11 => L1 (y_11.1,(0:Int),y.1,y_6.1,y_11.2.1.2.1,y_11.2.1.1.1,y_11.2.1.1.2.1,Jx.wrap (y_3.1 + 1),Jx.wrap (y_4.1 + 1),y_2.1,[],(0:Int),(0:Int),(0:Int)) else (Ku k (((y_7.2.1.1.1,y_7.2.1.1.2.1,()),decide ((4096:Int) < y_6.1),()),15,())).bind fun y_9 => (Zge k (((y_9.2.1.1.1,y_9.2.1.1.2.1,()),y_9.2.1.2.1,()),8,())).bind fun y_10 => L1 (y_10.1,(0:Int),y.1,y_6.1,y_10.2.1.2.1,y_10.2.1.1.1,y_10.2.1.1.2.1,Jx.wrap (y_3.1 + 1),Jx.wrap (y_4.1 + 1),y_2.1,[],(0:Int),(0:Int),(0:Int)) else none
def ZuS (k:Nat):=Zdt k (ZiP k)
theorem ZBE (k:Nat) (n1:Nat):∀ n,ZsE k n1 n = Zh (fun L2 => ZaM k (Zgd k n1) L2) n:=ZV
theorem ZBD (k:Nat):∀ n,Zgd k n = Zh (fun L1 => Y7 k (ZeF k L1) L1) n:=ZV (fun n v => by rw [show (ZeF k (Zgd k n)) = ZsE k n k from (ZBE k n k).symm]; kernel_rfl)
set_option maxHeartbeats 1000000 in
noncomputable def ZO9 (k:Nat):ZI k:=Zv 49 Tryz.f49 (ZuT k) Zpe Zpf ZuS (A:=ZuR) (h:=fun x => by show _ = Zdt k (ZiP k) x; rw [show ZiP k = Zgd k k from (ZBD k k).symm]; kernel_rfl)
abbrev ZKA:List Kd:=[.view (.sl (.int .u8)),.view (.sl (.int .u8))]
def ZBF (k:Nat):List Int × List Int × Unit → Option (Bool × Unit)
 | (a0,a1,()) => some ((UZ (U4 (fun n => U2 n.toNat) a0).toArray).toList == (UZ (U4 (fun n => U2 n.toNat) a1).toArray).toList,())
def ZuU (k:Nat):=ZBF k
noncomputable def ZPa (k:Nat):ZI k:=Zv 51 Tryz.f51 [] ZKA Wt ZuU
abbrev Ziv:Kd:=.tup [.view trackT,.view (.int .i64)]
noncomputable def ZuE (k:Nat):List (ZI k):=[Zuz k,ZTJ k,ZDU k,ZQo k,ZO9 k,Zyw k,ZPa k]
def ZuF:Nat → List Nat:=fun n => bif Ja n 1 then [25] else bif Ja n 26 then [5,4] else []
def ZuC:Nat → Ann:=fun id => bif Ja id 18 then ⟨[91,92,90,5,10,13,9,11,6,7,2,0,8],[]⟩ else bif Ja id 12 then ⟨[11,6,7,5,9,2,10,0,8],[.slot 10 ((Ty.int Jx))]⟩ else ⟨[],[]⟩
abbrev ZxP:=Int × Int × List (List Int) × Int × List Int × Int × Int × Int × List Int × Int × Int × Int × Int × List ByteArray × List (List Int) × List Int × Int × Int × Int
abbrev Ziu:=ZxP → Option ((((Int × Int × Int × Unit) × List ByteArray × List (List Int) × Unit) × Int × Unit) × Unit)
abbrev ZxO:=Int × Int × Int × List Int × List Int × Int × Int × Int × Int × List ByteArray × List (List Int) × Int × Int × Int × List Int
abbrev Zcw:=ZxO → Option ((((Int × Int × Int × Unit) × List ByteArray × List (List Int) × Unit) × Int × Unit) × Unit)
def ZKk:ZxP → St
 | (v0,v1,v2,v3,v4,v5,v6,v7,v8,v9,v10,v11,v12,v13,v14,v15,v16,v17,v18) => St.mk (Zp [(91,Zf v0),(92,Zf v1),(90,AV.val (PV.sl (Ty.int Jx).sl v2)),(5,AV.bx 8192 0),(10,AV.own 8194),(13,Zf v3),(9,AV.val (PV.sl (Ty.int UQ) v4)),(11,Zf v5),(6,Zf v6),(7,Zf v7),(2,AV.bx 8195 0),(0,AV.val (PV.sl (Ty.int UQ) v8)),(8,Zf v9)]) (Zo [(8192,QK [Zf v10,Zf v11,Zf v12,AV.val (PV.sl Ty.str v13),AV.own 8193]),(8193,RS.live (Res.nest (Ty.int Jx) v14 none)),(8194,rsA v15 false),(8195,QK [Zf v16,Zf v17,Zf v18,AV.val (PV.v (V5 none (0:Nat) (0:Nat))),AV.val (PV.v (V5 none (0:Nat) (0:Nat)))])])
def ZaA (k:Nat) (L1:Zcw) (L2:Ziu):Ziu
 | (v0,v1,v2,v3,v4,v5,v6,v7,v8,v9,v10,v11,v12,v13,v14,v15,v16,v17,v18) => bif decide (v1 < v0) then bif decide (0 ≤ v1 ∧ v1 < UJ v2.length) then bif decide (0 ≤ v1 ∧ v1 < UJ v14.length) then bif decide (v1.toNat < v14.length) then bif decide ((v14.getD v1.toNat []).length + UP (v2.getD v1.toNat []) < 2147483648) then bif decide (0 ≤ v1 ∧ v1 < UJ v14.length) then bif decide (v1.toNat = v1.toNat) then bif decide (v1.toNat < v14.length) then L2 (v0,Jx.wrap (v1 + 1),v2,v3,v4,v5,v6,v7,v8,v9,v10,v11,v12,v13,v14.set v1.toNat (v14.getD v1.toNat [] ++ v2.getD v1.toNat []),v15,v16,v17,v18) else none else none else none else none else none else none else none else bif decide (v15.length + [v3].length < 2147483648) then bif decide (0 ≤ v3 ∧ v3 ≤ UJ v4.length ∧ UJ v4.length ≤ UJ v4.length) then L1 (Jx.wrap (v5 + 1),v6,v7,US v3.toNat (UR (UJ v4.length).toNat v4),v8,v9,v10,v11,v12,v13,v14,v16,v17,v18,v15 ++ [v3]) else none else none
def KI (k:Nat) (L1:Zcw):Ziu:=Zh (fun L2 => ZaA k L1 L2) k
noncomputable def Zst (k:Nat) (n1:Nat) (n:Nat):=Wb (ZuE k) Tryz.f23 YI Ziv [1,1,1,1,1,1,1,1,1,0,1,0,0,1,0,0,1,1,0,1,0] [n1] n ZKk (A:=ZuC) (live:=ZuF)
def ZKj:ZxO → St
 | (v0,v1,v2,v3,v4,v5,v6,v7,v8,v9,v10,v11,v12,v13,v14) => St.mk (Zp [(11,Zf v0),(6,Zf v1),(7,Zf v2),(5,AV.bx 8192 0),(9,AV.val (PV.sl (Ty.int UQ) v3)),(2,AV.bx 8194 0),(10,AV.own 8195),(0,AV.val (PV.sl (Ty.int UQ) v4)),(8,Zf v5)]) (Zo [(8192,QK [Zf v6,Zf v7,Zf v8,AV.val (PV.sl Ty.str v9),AV.own 8193]),(8193,RS.live (Res.nest (Ty.int Jx) v10 none)),(8194,QK [Zf v11,Zf v12,Zf v13,AV.val (PV.v (V5 none (0:Nat) (0:Nat))),AV.val (PV.v (V5 none (0:Nat) (0:Nat)))]),(8195,rsA v14 false)])
noncomputable def Xp (k:Nat) (L2:Ziu) (L1:Zcw):Zcw
 | (v0,v1,v2,v3,v4,v5,v6,v7,v8,v9,v10,v11,v12,v13,v14) => bif decide (Jx.wrap (v0 * v1) < v2) then (ZJ1 k ((v6,v7,v8,()),v3,())).bind fun y => bif y.1.2.2.1 != 0 then some (((((0:Int),(0:Int),(0:Int),()),[],[],()),2,()),()) else bif y.1.1.1 != v0 then some (((((0:Int),(0:Int),(0:Int),()),[],[],()),2,()),()) else bif decide ((0:Int) ≤ 0 ∧ (0:Int) < UJ (UP y.1.1.2.1)) then bif UJ (UP (List.getD y.1.1.2.1 (0:Nat) [])) != if Jx.wrap (v2 - Jx.wrap (v0 * v1)) < v1 then Jx.wrap (v2 - Jx.wrap (v0 * v1)) else v1 then some (((((0:Int),(0:Int),(0:Int),()),[],[],()),2,()),()) else L2 (UJ (UP y.1.1.2.1),(0:Int),y.1.1.2.1,y.1.2.1,v3,v0,v1,v2,v4,v5,v6,v7,v8,v9,v10,v14,v11,v12,v13) else none else bif decide ((0:Int) < UJ v3.length) then some (((((0:Int),(0:Int),(0:Int),()),[],[],()),2,()),()) else (Zin k (((v6,v7,v8,()),v9,v10,()),())).bind fun y => bif y.1 != 0 then some (((((0:Int),(0:Int),(0:Int),()),[],[],()),2,()),()) else (ZnA k (((v6,v7,v8,()),v9,v10,()),v1,v14,())).bind fun y => bif decide ((0:Int) ≤ 0 ∧ (0:Int) ≤ v5 ∧ v5 ≤ UJ v4.length) then (ZuU k (y.1,US 0 (UR v5.toNat v4),())).bind fun y => bif !y.1 then some (((((0:Int),(0:Int),(0:Int),()),[],[],()),2,()),()) else some ((((v6,v7,v8,()),v9,v10,()),0,()),()) else none
noncomputable def ZeA (k:Nat):Zcw:=Zh (fun L1 => Xp k (KI k L1) L1) k
noncomputable def Zf9 (k:Nat) (n:Nat):=Wb (ZuE k) Tryz.f23 YI Ziv [1,1,1,1,1,1,1,1,1,0,1,0] [] n ZKj (A:=ZuC) (live:=ZuF)
def Zdo (k:Nat) (L1:Zcw):List Int × Unit → Option ((((Int × Int × Int × Unit) × List ByteArray × List (List Int) × Unit) × Int × Unit) × Unit)
 | (a0,()) => bif decide ((60000:Int) < UJ a0.length) then some (((((0:Int),(0:Int),(0:Int),()),[],[],()),2,()),()) else (Zyq k (a0,())).bind fun y => (ZuS k (((y.1.1,y.1.2.1,()),false,()),())).bind fun y => bif y.2.1.2.1 then some (((((0:Int),(0:Int),(0:Int),()),[],[],()),2,()),()) else (ZaU k ((y.2.1.1.1,y.2.1.1.2.1,()),())).bind fun y_1 => bif decide (0 ≤ Jx.wrap (UU y_1.1 (8:Int)) ∧ Jx.wrap (UU y_1.1 (8:Int)) ≤ UJ a0.length ∧ UJ a0.length ≤ UJ a0.length) then bif decide ((0:Int) ≤ y.1.1.1.1 ∧ y.1.1.1.1 ≤ y.1.1.1.1 ∧ y.1.1.1.1 < 4294967296) then L1 (0,y.1.2.1,y.1.2.2.1,US (Jx.wrap (UU y_1.1 (8:Int))).toNat (UR (UJ a0.length).toNat a0),a0,Jx.wrap (UU y_1.1 (8:Int)),y.1.1.1.1,y.1.1.1.2.1,y.1.1.1.2.2.1,y.1.1.2.1,Jd (UV y.1.1.1.1) [],(0:Int),(0:Int),(0:Int),[]) else none else none
noncomputable def Zdn (k:Nat):=Zdo k (ZeA k)
theorem ZBk (k:Nat) (n1:Nat):∀ n,Zst k n1 n = Zh (fun L2 => ZaA k (Zf9 k n1) L2) n:=ZV
theorem ZBj (k:Nat):∀ n,Zf9 k n = Zh (fun L1 => Xp k (KI k L1) L1) n:=ZV (fun n v => by rw [show (KI k (Zf9 k n)) = Zst k n k from (ZBk k n k).symm]; kernel_rfl)
set_option maxHeartbeats 1000000 in
noncomputable def ZuD (k:Nat):ZI k:=Zv 23 Tryz.f23 (ZuE k) YI Ziv Zdn (A:=ZuC) (live:=ZuF) (h:=fun x => by show _ = Zdo k (ZeA k) x; rw [show ZeA k = Zf9 k k from (ZBj k k).symm]; kernel_rfl)
theorem Zga (k:Nat):Ctr Tryz.prog k 23 (mk YI Ziv Zdn):=(ZuD k).2
abbrev Zo5:List Kd:=[.view trackT,.view trackT]
noncomputable def ZDO (k:Nat):List (ZI k):=[ZTK k]
def ZDN:Nat → Ann:=fun id => bif Ja id 4 then ⟨[5,2,3],[]⟩ else ⟨[],[]⟩
abbrev ZxQ:=Int × Int × Int × Int × List ByteArray × List (List Int) × Int × Int × Int × List ByteArray × List (List Int)
abbrev Ziw:=ZxQ → Option (Bool × Unit)
def ZKl:ZxQ → St
 | (v0,v1,v2,v3,v4,v5,v6,v7,v8,v9,v10) => St.mk (Zp [(5,Zf v0),(2,AV.bx 8192 0),(3,AV.bx 8193 0)]) (Zo [(8192,QK [Zf v1,Zf v2,Zf v3,AV.val (PV.sl Ty.str v4),AV.val (PV.sl (Ty.int Jx).sl v5)]),(8193,QK [Zf v6,Zf v7,Zf v8,AV.val (PV.sl Ty.str v9),AV.val (PV.sl (Ty.int Jx).sl v10)])])
def ZaB (k:Nat) (L1:Ziw):Ziw
 | (v0,v1,v2,v3,v4,v5,v6,v7,v8,v9,v10) => bif decide (v0 < UJ v4.length) then bif decide (0 ≤ v0 ∧ v0 < UJ v4.length) then bif decide (0 ≤ v0 ∧ v0 < UJ v9.length) then bif !U7 (v4.getD v0.toNat (UZ #[])) == U7 (v9.getD v0.toNat (UZ #[])) then some (false,()) else L1 (Jx.wrap (v0 + 1),v1,v2,v3,v4,v5,v6,v7,v8,v9,v10) else none else none else some (true,())
def Zix (k:Nat):Ziw:=Zh (fun L1 => ZaB k L1) k
noncomputable def Zsu (k:Nat) (n:Nat):=Wb (ZDO k) Tryz.f25 Zo5 Wt [1,1,0,1,0] [] n ZKl (A:=ZDN)
def Zdp (k:Nat) (L1:Ziw):((Int × Int × Int × Unit) × List ByteArray × List (List Int) × Unit) × ((Int × Int × Int × Unit) × List ByteArray × List (List Int) × Unit) × Unit → Option (Bool × Unit)
 | (((a0,a1,a2,()),a3,a4,()),((a5,a6,a7,()),a8,a9,()),()) => bif !(decide (a0 = a5) && (decide (a1 = a6) && (decide (a2 = a7) && true))) then some (false,()) else bif UJ a3.length != UJ a8.length then some (false,()) else (ZKF k (((0:Int),a4,()),((0:Int),a9,()),())).bind fun y => bif !y.1 then some (false,()) else L1 (0,a0,a1,a2,a3,a4,a5,a6,a7,a8,a9)
def Znu (k:Nat):=Zdp k (Zix k)
theorem ZBm (k:Nat):∀ n,Zsu k n = Zh (fun L1 => ZaB k L1) n:=ZV
set_option maxHeartbeats 1000000 in
noncomputable def ZuG (k:Nat):ZI k:=Zv 25 Tryz.f25 (ZDO k) Zo5 Wt Znu (A:=ZDN) (h:=fun x => by show _ = Zdp k (Zix k) x; rw [show Zix k = Zsu k k from (ZBm k k).symm]; kernel_rfl)
theorem Zgb (k:Nat):Ctr Tryz.prog k 25 (mk Zo5 Wt Znu):=(ZuG k).2
abbrev ZeB:Kd:=.view trackT
def ZBo (k:Nat):((Int × Int × Int × Unit) × List ByteArray × List (List Int) × Unit) × Unit → Option (((Int × Int × Int × Unit) × List ByteArray × List (List Int) × Unit) × Unit)
 | (((a0,a1,a2,()),a3,a4,()),()) => some (((a0,a1,a2,()),a3,a4,()),())
def ZuH (k:Nat):=ZBo k
noncomputable def ZuI (k:Nat):ZI k:=Zv 26 Tryz.f26 [] QU ZeB ZuH
theorem Zgc (k:Nat):Ctr Tryz.prog k 26 (mk QU ZeB ZuH):=(ZuI k).2
noncomputable def Zuy (k:Nat):Unit → Option (Bool × Unit):=ZMC k fun k => ZNi (cxP k [ZuB k,ZuD k,ZuG k,ZuI k] nL) nA Tryz.f10 ZiQ Wt
noncomputable def ZOM (k:Nat):ZI k:=ZUB 10 Tryz.f10 (fun k => [ZuB k,ZuD k,ZuG k,ZuI k]) ZiQ Wt
theorem Zf6 (k:Nat):Ctr Tryz.prog k 10 (mk ZiQ Wt Zuy):=(ZOM k).2
noncomputable def ZDH (k:Nat):List (ZI k):=[]
def ZDG:Nat → Ann:=fun id => bif Ja id 3 then ⟨[4,1,3,2],[.cell 3 4 ((Ty.int Jx).sl)]⟩ else ⟨[],[]⟩
abbrev ZxK:=Int × Int × Int × Int × List ByteArray × List (List Int) × Int × Int × Int × List ByteArray × List (List Int) × Int × Int × Int
abbrev Zil:=ZxK → Option (((Int × Int × Int × Unit) × List ByteArray × List (List Int) × Unit) × Unit)
def ZKd:ZxK → St
 | (v0,v1,v2,v3,v4,v5,v6,v7,v8,v9,v10,v11,v12,v13) => St.mk (Zp [(4,Zf v0),(1,AV.bx 8192 0),(3,AV.bx 8193 0),(2,AV.bx 8196 0)]) (Zo [(8192,QK [Zf v1,Zf v2,Zf v3,AV.val (PV.sl Ty.str v4),AV.val (PV.sl (Ty.int Jx).sl v5)]),(8193,QK [Zf v6,Zf v7,Zf v8,AV.own 8194,AV.own 8195]),(8194,RS.live (Res.arr Ty.str v9 false)),(8195,RS.live (Res.arr (Ty.int Jx).sl v10 false)),(8196,QK [Zf v11,Zf v12,Zf v13,AV.val (PV.v (V5 none (0:Nat) (0:Nat))),AV.val (PV.v (V5 none (0:Nat) (0:Nat)))])])
def Zax (k:Nat) (L1:Zil):Zil
 | (v0,v1,v2,v3,v4,v5,v6,v7,v8,v9,v10,v11,v12,v13) => bif decide (v0 < UJ v5.length) then bif decide (0 ≤ v0 ∧ v0 < UJ v5.length) then bif decide ((0:Nat) + UP (v5.getD v0.toNat []) < 2147483648) then bif decide (v10.length + [[] ++ v5.getD v0.toNat []].length < 2147483648) then L1 (Jx.wrap (v0 + 1),v1,v2,v3,v4,v5,v6,v7,v8,v9,v10 ++ [[] ++ v5.getD v0.toNat []],v11,v12,v13) else none else none else none else some (((v6,v7,v8,()),v9,v10,()),())
def Zim (k:Nat):Zil:=Zh (fun L1 => Zax k L1) k
noncomputable def Zsk (k:Nat) (n:Nat):=Wb (ZDH k) Tryz.f15 QU ZeB [1,1,0,1,0] [] n ZKd (A:=ZDG)
def Zdg (k:Nat) (L1:Zil):((Int × Int × Int × Unit) × List ByteArray × List (List Int) × Unit) × Unit → Option (((Int × Int × Int × Unit) × List ByteArray × List (List Int) × Unit) × Unit)
 | (((a0,a1,a2,()),a3,a4,()),()) => bif decide ((0:Nat) + a3.length < 2147483648) then L1 (0,a0,a1,a2,a3,a4,a0,a1,a2,[] ++ a3,[],(0:Int),(0:Int),(0:Int)) else none
def Znq (k:Nat):=Zdg k (Zim k)
theorem ZA9 (k:Nat):∀ n,Zsk k n = Zh (fun L1 => Zax k L1) n:=ZV
set_option maxHeartbeats 1000000 in
noncomputable def ZOP (k:Nat):ZI k:=Zv 15 Tryz.f15 (ZDH k) QU ZeB Znq (A:=ZDG) (h:=fun x => by show _ = Zdg k (Zim k) x; rw [show Zim k = Zsk k k from (ZA9 k k).symm]; kernel_rfl)
theorem Zsl (k:Nat):Ctr Tryz.prog k 15 (mk QU ZeB Znq):=(ZOP k).2
def Zhb (k:Nat):((Int × Int × Int × Unit) × List ByteArray × List (List Int) × Unit) × Unit → Option (Bool × Unit)
 | (((a0,a1,a2,()),a3,a4,()),()) => bif decide ((0:Int) < UJ a4.length) then bif decide ((0:Int) ≤ 0 ∧ (0:Int) < UJ a4.length) then some (decide ((120:Int) < UJ (UP (a4.getD 0 []))),()) else none else some (false,())
def ZuA (k:Nat):=Zhb k
noncomputable def ZOT (k:Nat):ZI k:=Zv 18 Tryz.f18 [] QU Wt ZuA
theorem Zso (k:Nat):Ctr Tryz.prog k 18 (mk QU Wt ZuA):=(ZOT k).2
end Go.Sh
namespace Go.Sh
open Go Go.Proofs
def kT:List Nat:=[3614090360,3905402710,606105819,3250441966,4118548399,1200080426,2821735955,4249261313,1770035416,2336552879,4294925233,2304563134,1804603682,4254626195,2792965006,1236535329,4129170786,3225465664,643717713,3921069994,3593408605,38016083,3634488961,3889429448,568446438,3275163606,4107603335,1163531501,2850285829,4243563512,1735328473,2368359562,4294588738,2272392833,1839030562,4259657740,2763975236,1272893353,4139469664,3200236656,681279174,3936430074,3572445317,76029189,3654602809,3873151461,530742520,3299628645,4096336452,1126891415,2878612391,4237533241,1700485571,2399980690,4293915773,2240044497,1873313359,4264355552,2734768916,1309151649,4149444226,3174756917,718787259,3951481745]
def rT:List Nat:=[7,12,17,22,5,9,14,20,4,11,16,23,6,10,15,21]
def Zr (l:List Nat):List Int:=l.map UJ
theorem ZT (l:List Nat):(Zr l).length = l.length:=by simp [Zr]
theorem Q0 (l:List Nat) (i:Nat):(Zr l).getD i 0 = ((l.getD i 0:Nat):Int):=by
 grind [Zr]
def Zzc (b:Nat):Nat:=4294967295 - b
def fT (t b c d:Nat):Nat:=if t / 16 = 0 then (b &&& c) ||| (Zzc b &&& d) else if t / 16 = 1 then (d &&& b) ||| (Zzc d &&& c) else if t / 16 = 2 then b ^^^ c ^^^ d else c ^^^ (b ||| Zzc d)
def gT (t:Nat):Nat:=if t / 16 = 0 then t % 16 else if t / 16 = 1 then (5 * t + 1) % 16 else if t / 16 = 2 then (3 * t + 5) % 16 else (7 * t) % 16
def ZNc (x r:Nat):Nat:=x * 2 ^ r % 4294967296 + x / 2 ^ (32 - r)
def xT (M:List Nat) (t a b c d:Nat):Nat:=(a + fT t b c d + kT.getD t 0 + M.getD (gT t) 0) % 4294967296
def bT (M:List Nat) (t a b c d:Nat):Nat:=(b + ZNc (xT M t a b c d) (rT.getD (t % 4 + t / 16 * 4) 0)) % 4294967296
abbrev S4:=Nat × Nat × Nat × Nat
def Kx (M:List Nat):Nat → Nat → S4 → S4
 | 0,_,s => s
 | n + 1,t,(a,b,c,d) => Kx M n (t + 1) (d,bT M t a b c d,b,c)
noncomputable def n64:Nat:=Classical.choose (⟨64,rfl⟩:∃ n:Nat,n = 64)
theorem ZMR:n64 = 64:=Classical.choose_spec (⟨64,rfl⟩:∃ n:Nat,n = 64)
noncomputable def ZMQ (M:List Nat):S4 → S4
 | (a,b,c,d) => (((Kx M n64 0 (a,b,c,d)).1 + a) % 4294967296,((Kx M n64 0 (a,b,c,d)).2.1 + b) % 4294967296,((Kx M n64 0 (a,b,c,d)).2.2.1 + c) % 4294967296,((Kx M n64 0 (a,b,c,d)).2.2.2 + d) % 4294967296)
theorem ZAl {a:Nat} (ha:a < 4294967296):(UN 32 (a:Int)).toNat = a:=by simp_all
theorem ZCI {n:Nat} (h:n < 4294967296):UY.wrap (n:Int) = (n:Int):=by rw [IntKind.wrap_u32]; omega
theorem ZUT (n:Nat):UY.wrap (n:Int) = ((n % 4294967296:Nat):Int):=by rw [IntKind.wrap_u32]; omega
theorem Zee {a b:Nat} (ha:a < 4294967296):a &&& b < 4294967296:=Hb Nat.and_le_left ha
theorem Zv4 {a b:Nat} (ha:a < 4294967296) (hb:b < 4294967296):a ||| b < 4294967296:=Nat.or_lt_two_pow (n:=32) ha hb
theorem ZzW {a b:Nat} (ha:a < 4294967296) (hb:b < 4294967296):a ^^^ b < 4294967296:=Nat.xor_lt_two_pow (n:=32) ha hb
theorem ZCR {a b:Nat} (ha:a < 4294967296) (hb:b < 4294967296):UY.wrap (UJ (UN 32 (a:Int) &&& UN 32 (b:Int)).toNat) = ((a &&& b:Nat):Int):=by
 rw [BitVec.toNat_and,ZAl ha,ZAl hb]; exact ZCI (Zee ha)
theorem ZCj {a b:Nat} (ha:a < 4294967296) (hb:b < 4294967296):UY.wrap (UJ (UN 32 (a:Int) ||| UN 32 (b:Int)).toNat) = ((a ||| b:Nat):Int):=by
 rw [BitVec.toNat_or,ZAl ha,ZAl hb]; exact ZCI (Zv4 ha hb)
theorem ZNM {a b:Nat} (ha:a < 4294967296) (hb:b < 4294967296):UY.wrap (UJ (UN 32 (a:Int) ^^^ UN 32 (b:Int)).toNat) = ((a ^^^ b:Nat):Int):=by
 rw [BitVec.toNat_xor,ZAl ha,ZAl hb]; exact ZCI (ZzW ha hb)
theorem ZMU {b:Nat} (hb:b < 4294967296):UY.wrap (UJ (UN 32 (4294967295:Int) ^^^ UN 32 (b:Int)).toNat) = ((Zzc b:Nat):Int):=by
 have h:UN 32 (4294967295:Int) = BitVec.allOnes 32:=by decide
 rw [h,BitVec.allOnes_xor,BitVec.toNat_not,ZAl hb]
 exact ZCI (show Zzc b < 4294967296 by unfold Zzc; omega)
theorem Zgm (b:Nat):Zzc b < 4294967296:=by unfold Zzc; omega
theorem Zqx {x y s:Nat} (h:x < 2 ^ s):x ||| y * 2 ^ s = x + y * 2 ^ s:=by
 have:=Nat.shiftLeft_add_eq_or_of_lt (i:=s) h y
 rw [Nat.shiftLeft_eq] at this
 grind
theorem ZNd {x r:Nat} (hx:x < 4294967296) (hr:r ≤ 32):x * 2 ^ r % 4294967296 ||| x / 2 ^ (32 - r) = ZNc x r:=by
 have e:(4294967296:Nat) = 2 ^ (32 - r) * 2 ^ r:=by rw [← Nat.pow_add,show 32 - r + r = 32 by omega]
 have h1:x * 2 ^ r % 4294967296 = (x % 2 ^ (32 - r)) * 2 ^ r:=by
  conv => lhs; rw [e]
  exact Nat.mul_mod_mul_right _ _ _
 have h2:x / 2 ^ (32 - r) < 2 ^ r:=Nat.div_lt_of_lt_mul (by rw [← e]; exact hx)
 unfold ZNc
 rw [h1,Nat.or_comm,Zqx h2,Nat.add_comm]
theorem ZP0 {x r:Nat} (hx:x < 4294967296) (hr:r ≤ 32):ZNc x r < 4294967296:=by
 rw [← ZNd hx hr]
 exact Zv4 (U1 _ (by omega)) (Hb (Nat.div_le_self _ _) hx)
theorem ZPE:∀ r:Fin 32,UO.wrap (UJ (UN 64 (UO.wrap (r.val:Int)) &&& UN 64 (31:Int)).toNat) = (r.val:Int):=by decide +kernel
theorem ZBW (k:Nat) {x r:Nat} (hx:x < 4294967296) (hr:r < 32):ZdB k ((x:Int),(r:Int),()) = some (((ZNc x r:Nat):Int),()):=by
 show Zhj k _ = _
 simp only [Zhj]
 rw [ZPE ⟨r,hr⟩]
 simp only
 have e1:UO.wrap ((32:Int) - (r:Int)) = ((32 - r:Nat):Int):=by rw [IntKind.wrap_u64]; omega
 rw [e1,Zb (by omega)]
 have e2:min ((r:Int)).toNat 32 = r:=by omega
 have e3:min (((32 - r:Nat):Int)).toNat 32 = 32 - r:=by omega
 rw [e2,e3]
 have e4:(x:Int) * (2:Int) ^ r = ((x * 2 ^ r:Nat):Int):=by simp
 have e5:UT (x:Int) ((2:Int) ^ (32 - r)) = ((x / 2 ^ (32 - r):Nat):Int):=by
  grind
 rw [e4,e5,ZUT,ZCj (U1 _ (by omega)) (Hb (Nat.div_le_self _ _) hx),ZNd hx (by omega)]
theorem tq:∀ t:Fin 64,Jx.wrap ((t.val:Int).tdiv 16) = ((t.val / 16:Nat):Int):=by decide +kernel
theorem ZUS:∀ t:Fin 64,(t.val:Int).tmod 16 = ((t.val % 16:Nat):Int):=by decide +kernel
theorem tm4:∀ t:Fin 64,(t.val:Int).tmod 4 = ((t.val % 4:Nat):Int):=by decide +kernel
theorem g1:∀ t:Fin 64,(Jx.wrap (Jx.wrap ((5:Int) * (t.val:Int)) + (1:Int))).tmod 16 = (((5 * t.val + 1) % 16:Nat):Int):=by decide +kernel
theorem g2:∀ t:Fin 64,(Jx.wrap (Jx.wrap ((3:Int) * (t.val:Int)) + (5:Int))).tmod 16 = (((3 * t.val + 5) % 16:Nat):Int):=by decide +kernel
theorem g3:∀ t:Fin 64,(Jx.wrap ((7:Int) * (t.val:Int))).tmod 16 = (((7 * t.val) % 16:Nat):Int):=by decide +kernel
theorem ZUd:∀ t:Fin 64,rT.getD (t.val % 4 + t.val / 16 * 4) 0 < 32:=by decide +kernel
theorem ZS2:∀ t:Fin 64,([7,12,17,22,5,9,14,20,4,11,16,23,6,10,15,21]:List Int).getD ((t.val % 4) + (t.val / 16 * 4 + 0)) 0 = ((rT.getD (t.val % 4 + t.val / 16 * 4) 0:Nat):Int):=by decide +kernel
theorem ZFk (a f k m:Nat):UY.wrap (UY.wrap (UY.wrap ((a:Int) + (f:Int)) + (k:Int)) + (m:Int)) = (((a + f + k + m) % 4294967296:Nat):Int):=by
 simp only [IntKind.wrap_u32]; omega
theorem Zwy (a b:Nat):UY.wrap ((a:Int) + (b:Int)) = (((a + b) % 4294967296:Nat):Int):=by
 simp only [IntKind.wrap_u32]; omega
def Zfw:List Int:=[7,12,17,22,5,9,14,20,4,11,16,23,6,10,15,21]
abbrev L76:=Int × Int × Int × Int × Int × List Int × Int × Int × Int × Int × List Int × List Int → Option (Unit × (Int × Int × Int × Int × Unit) × Unit)
theorem ZzU {n:Nat} (h:n < 1000000):Jx.wrap ((n:Int) + 1) = ((n + 1:Nat):Int):=by rw [Z2 (by omega)]; rfl
theorem Zya (k:Nat) (L:L76) {t:Nat} (ht:t < 64) {a b c d:Nat} (ha:a < 4294967296) (hb:b < 4294967296) (hc:c < 4294967296) (hd:d < 4294967296) {M:List Nat} (hM:M.length = 16) (s0 s1 s2 s3:Int) :
  Y8 k L ((t:Int),(b:Int),(c:Int),(d:Int),(a:Int),Zr kT,s0,s1,s2,s3,Zr M,Zfw) =
   L (((t + 1:Nat):Int),((bT M t a b c d:Nat):Int),(b:Int),(c:Int),(d:Int),Zr kT,s0,s1,s2,s3,Zr M,Zfw):=by
 simp only [Y8]
 have q:=tq ⟨t,ht⟩
 have m16:=ZUS ⟨t,ht⟩
 have m4:=tm4 ⟨t,ht⟩
 have e1:=g1 ⟨t,ht⟩
 have e2:=g2 ⟨t,ht⟩
 have e3:=g3 ⟨t,ht⟩
 have r1:=ZUd ⟨t,ht⟩
 have r2:=ZS2 ⟨t,ht⟩
 simp only at q m16 m4 e1 e2 e3 r1 r2
 have hk:(Zr kT).length = 64:=by rw [ZT]; rfl
 have hm:(Zr M).length = 16:=by rw [ZT,hM]
 rw [Zb (by omega),q,m16,m4,e1,e2,e3,hk,hm]
 simp only [Xa,Nat.add_zero]
 have hx:=fun y => ZP0 (x:=y % 4294967296) (r:=rT.getD (t % 4 + t / 16 * 4) 0) (U1 _ (by omega)) (by omega)
 have sp:=fun y => ZBW k (x:=y % 4294967296) (U1 _ (by omega)) r1
 have r3:Zfw.getD (t % 4 + t / 16 * 4) 0 = ((rT.getD (t % 4 + t / 16 * 4) 0:Nat):Int):=r2
 have hl:Zfw.length = 16:=rfl
 rw [Q0,Q0,Q0,Q0,Q0,r3,hl]
 have done:∀ g f,g = gT t → f = fT t b c d → ∀ y,y = ((((a + f + kT.getD t 0 + M.getD g 0) % 4294967296:Nat):Int)) → ((ZdB k (y,((rT.getD (t % 4 + t / 16 * 4) 0:Nat):Int),())).bind fun y => L (Jx.wrap ((t:Int) + 1),UY.wrap ((b:Int) + y.1),(b:Int),(c:Int),(d:Int),Zr kT,s0,s1,s2,s3,Zr M,Zfw)) =
   L (((t + 1:Nat):Int),((bT M t a b c d:Nat):Int),(b:Int),(c:Int),(d:Int),Zr kT,s0,s1,s2,s3,Zr M,Zfw):=by
  rintro g f rfl rfl y rfl
  rw [sp]
  simp only [ZX]
  rw [ZzU (by omega),Zwy]
  rfl
 by_cases h0:t / 16 = 0
 ·rw [ZP,Zb (by omega),Zb (by omega),Zb (by omega),Zb (by omega),Zb (by omega),Zb (by omega),Zb (by omega)]
  refine done (t % 16) _ (by simp [gT,h0]) rfl _ ?_
  rw [ZCR hb hc,ZMU hb,ZCR (Zgm b) hd,ZCj (Zee hb) (Zee (Zgm b)),ZFk]
  simp [fT,h0]
 rw [ZP,Zl (by omega)]
 by_cases h1:t / 16 = 1
 ·rw [ZP,Zb (by omega),Zb (by omega),Zb (by omega),Zb (by omega),Zb (by omega),Zb (by omega),Zb (by omega)]
  refine done ((5 * t + 1) % 16) _ (by simp [gT,h1]) rfl _ ?_
  rw [ZCR hd hb,ZMU hd,ZCR (Zgm d) hc,ZCj (Zee hd) (Zee (Zgm d)),ZFk]
  simp [fT,h1]
 rw [ZP,Zl (by omega)]
 by_cases h2:t / 16 = 2
 ·rw [ZP,Zb (by omega),Zb (by omega),Zb (by omega),Zb (by omega),Zb (by omega),Zb (by omega),Zb (by omega)]
  refine done ((3 * t + 5) % 16) _ (by simp [gT,h2]) rfl _ ?_
  rw [ZNM hb hc,ZNM (ZzW hb hc) hd,ZFk]
  simp [fT,h2]
 rw [ZP,Zl (by omega)]
 rw [Zb (by omega),Zb (by omega),Zb (by omega),Zb (by omega),Zb (by omega),Zb (by omega)]
 refine done ((7 * t) % 16) _ (by simp [gT,h0,h1,h2]) rfl _ ?_
 rw [ZMU hd,ZCj hb (Zgm d),ZNM hc (Zv4 hb (Zgm d)),ZFk]
 simp [fT,h0,h1,h2]
end Go.Sh
namespace Go.Sh
open Go Go.Proofs
def lt4 (s:S4):Prop:=s.1 < 4294967296 ∧ s.2.1 < 4294967296 ∧ s.2.2.1 < 4294967296 ∧ s.2.2.2 < 4294967296
theorem ZPL (M:List Nat) (s:S4):lt4 (ZMQ M s):=by
 obtain ⟨a,b,c,d⟩:=s
 exact ⟨U1 _ (by omega),U1 _ (by omega),U1 _ (by omega),U1 _ (by omega)⟩
def o4 (s:S4):Int × Int × Int × Int × Unit:=((s.1:Int),(s.2.1:Int),(s.2.2.1:Int),(s.2.2.2:Int),())
theorem ZDX (k:Nat) {M:List Nat} (hM:M.length = 16) (s:S4):∀ (n t fuel:Nat) (v:S4),t + n = 64 → n < fuel → lt4 v →
  Zh (fun L2 => Y8 k L2) fuel ((t:Int),(v.2.1:Int),(v.2.2.1:Int),(v.2.2.2:Int),(v.1:Int),Zr kT,(s.1:Int),(s.2.1:Int),(s.2.2.1:Int),(s.2.2.2:Int),Zr M,Zfw) =
   some ((),o4 (((Kx M n t v).1 + s.1) % 4294967296,((Kx M n t v).2.1 + s.2.1) % 4294967296,((Kx M n t v).2.2.1 + s.2.2.1) % 4294967296,((Kx M n t v).2.2.2 + s.2.2.2) % 4294967296),())
 | 0,t,fuel + 1,(a,b,c,d),h1,h2,h3 => by
  rw [Zd]
  simp only [Y8,Kx,o4]
  rw [Zl (by omega),Zwy,Zwy,Zwy,Zwy]
  simp only [Nat.add_comm]
 | n + 1,t,fuel + 1,(a,b,c,d),h1,h2,h3 => by
  rw [Zd,Zya k _ (by omega) h3.1 h3.2.1 h3.2.2.1 h3.2.2.2 hM]
  exact ZDX k hM s n (t + 1) fuel (d,bT M t a b c d,b,c) (by omega) (by omega) ⟨h3.2.2.2,U1 _ (by omega),h3.2.1,h3.2.2.1⟩
 | 0,_,0,_,_,h2,_ => absurd h2 (U5 _)
 | n + 1,_,0,_,_,h2,_ => absurd h2 (U6 _)
def ZFo (p:List Nat) (i:Nat):Nat:=p.getD (4 * i) 0 + p.getD (4 * i + 1) 0 * 256 + p.getD (4 * i + 2) 0 * 65536 + p.getD (4 * i + 3) 0 * 16777216
def ZdT (p:List Nat):List Nat:=(Jc 16).map (ZFo p)
theorem ZCJ (p:List Nat):(ZdT p).length = 16:=by simp [ZdT]
def XK (p:List Nat):Prop := ∀ x ∈ p,x < 256
theorem Zgj {p:List Nat} (h:XK p) (i:Nat):p.getD i 0 < 256:=by
 rw [List.getD_eq_getElem?_getD]
 cases hi:p[i]? with
 | none => simp
 | some x => exact h x (List.mem_of_getElem? hi)
theorem ZQa {a b c d:Nat} (ha:a < 256) (hb:b < 256) (hc:c < 256) (hd:d < 256) :
  UY.wrap (UJ (UN 32 (UY.wrap (UJ (UN 32 (UY.wrap (UJ (UN 32 (UY.wrap (a:Int)) ||| UN 32 (UY.wrap (UY.wrap (b:Int) * 256))).toNat)) ||| UN 32 (UY.wrap (UY.wrap (c:Int) * 65536))).toNat)) ||| UN 32 (UY.wrap (UY.wrap (d:Int) * 16777216))).toNat) =
   ((a + b * 256 + c * 65536 + d * 16777216:Nat):Int):=by
 have e:∀ x y:Nat,x < 256 → x * y < 4294967296 → UY.wrap (UY.wrap (x:Int) * (y:Int)) = ((x * y:Nat):Int):=by
  intro x y hx hy
  rw [ZCI (by omega),← Int.natCast_mul,ZCI hy]
 have e1:=e b 256 hb (by omega)
 have e2:=e c 65536 hc (by omega)
 have e3:=e d 16777216 hd (by omega)
 simp only [He] at e1 e2 e3
 rw [e1,e2,e3,ZCI (by omega),ZCj (by omega) (by omega)]
 have o1:=Zqx (x:=a) (y:=b) (s:=8) ha
 have o2:=Zqx (x:=a + b * 256) (y:=c) (s:=16) (by omega)
 have o3:=Zqx (x:=a + b * 256 + c * 65536) (y:=d) (s:=24) (by omega)
 simp only [Nat.reducePow] at o1 o2 o3
 rw [o1,ZCj (by omega) (by omega),o2,ZCj (by omega) (by omega),o3]
theorem ZFH (l:List Nat) (i n:Nat):(Zr l).set i (n:Int) = Zr (l.set i n):=by
 simp [Zr,List.map_set]
def Kz (p:List Nat) (i:Nat):List Nat:=(Jc 16).map fun j => if j < i then ZFo p j else 0
theorem ZzV (p:List Nat) {i:Nat} (hi:i < 16):(Kz p i).set i (ZFo p i) = Kz p (i + 1):=by
 apply List.ext_getElem
 ·simp [Kz]
 ·intro j h1 h2
  simp only [Kz,List.length_set,List.length_map,U8] at h1
  rw [List.getElem_set]
  simp only [Kz,List.getElem_map,List.getElem_range]
  grind
theorem ZDW (k:Nat) {p:List Nat} (hp:p.length = 64) (h8:XK p) (s:S4) (L2:L76):∀ (n i fuel:Nat),i + n = 16 → n < fuel →
  Zh (fun L1 => ZaN k L2 L1) fuel ((i:Int),Zr p,Zr kT,(s.1:Int),(s.2.1:Int),(s.2.2.1:Int),(s.2.2.2:Int),Zr (Kz p i)) =
   L2 ((0:Int),(s.2.1:Int),(s.2.2.1:Int),(s.2.2.2:Int),(s.1:Int),Zr kT,(s.1:Int),(s.2.1:Int),(s.2.2.1:Int),(s.2.2.2:Int),Zr (ZdT p),Zfw)
 | 0,i,fuel + 1,h1,h2 => by
  rw [Zd]
  simp only [ZaN]
  rw [Zl (by omega)]
  have:Kz p i = ZdT p:=by
   unfold Kz ZdT
   simp_all
  rw [this]
  rfl
 | n + 1,i,fuel + 1,h1,h2 => by
  rw [Zd]
  simp only [ZaN]
  have a0:Jx.wrap ((4:Int) * (i:Int)) = ((4 * i:Nat):Int):=by rw [Z2 (by omega)]; omega
  have a1:Jx.wrap (((4 * i:Nat):Int) + 1) = ((4 * i + 1:Nat):Int):=by rw [Z2 (by omega)]; omega
  have a2:Jx.wrap (((4 * i:Nat):Int) + 2) = ((4 * i + 2:Nat):Int):=by rw [Z2 (by omega)]; omega
  have a3:Jx.wrap (((4 * i:Nat):Int) + 3) = ((4 * i + 3:Nat):Int):=by rw [Z2 (by omega)]; omega
  have hl:(Zr p).length = 64:=by rw [ZT,hp]
  have hw:(Zr (Kz p i)).length = 16:=by rw [ZT]; simp [Kz]
  rw [a0,a1,a2,a3,hl,hw]
  simp only [Xa,Nat.add_zero,QY]
  rw [Zb (by omega),Zb (by omega),Zb (by omega),Zb (by omega),Zb (by omega),Zb (by omega),Zb (by omega)]
  rw [Q0,Q0,Q0,Q0]
  have hwd:=ZQa (Zgj h8 (4 * i)) (Zgj h8 (4 * i + 1)) (Zgj h8 (4 * i + 2)) (Zgj h8 (4 * i + 3))
  simp only [QY] at hwd
  rw [hwd,ZzU (by omega)]
  rw [show (p.getD (4 * i) 0 + p.getD (4 * i + 1) 0 * 256 + p.getD (4 * i + 2) 0 * 65536 + p.getD (4 * i + 3) 0 * 16777216) = ZFo p i from rfl,ZFH,ZzV p (by omega)]
  exact ZDW k hp h8 s L2 n (i + 1) fuel (by omega) (by omega)
 | 0,_,0,_,h2 => absurd h2 (U5 _)
 | n + 1,_,0,_,h2 => absurd h2 (U6 _)
theorem ZBK (k:Nat) (hk:100 ≤ k) {p:List Nat} (hp:p.length = 64) (h8:XK p) {s:S4} (hs:lt4 s) :
  ZuW k (o4 s,Zr p,Zr kT,()) = some ((),o4 (ZMQ (ZdT p) s),()):=by
 have h1:=ZDW k hp h8 s (ZiT k) 16 0 k rfl (by omega)
 have h2:=ZDX k (ZCJ p) s n64 0 k s (by rw [ZMR]) (by rw [ZMR]; omega) hs
 exact h1.trans h2
end Go.Sh
namespace Go.Sh
open Go Go.Proofs
noncomputable def mdT:Nat → List Nat → S4 → S4
 | 0,_,s => s
 | q + 1,m,s => mdT q (m.drop 64) (ZMQ (ZdT (m.take 64)) s)
theorem ZMN (q:Nat) (m:List Nat) (s:S4):mdT (q + 1) m s = mdT q (m.drop 64) (ZMQ (ZdT (m.take 64)) s):=rfl
def s0T:S4:=(1732584193,4023233417,2562383102,271733878)
def le4 (x:Nat):List Nat:=[x % 256,x / 256 % 256,x / 65536 % 256,x / 16777216 % 256]
def K2 (N:Nat) (i:Nat):List Nat:=(Jc i).map fun j => N / 2 ^ (8 * j) % 256
def zT (n:Nat):Nat:=(119 - n % 64) % 64
def Zqz (b:List Nat):List Nat:=b ++ [128] ++ Jd (zT b.length) 0 ++ K2 (8 * b.length) 8
def ZM1 (s:S4):List Nat:=le4 s.1 ++ le4 s.2.1 ++ le4 s.2.2.1 ++ le4 s.2.2.2
noncomputable def ZCf (b:List Nat):List Nat:=ZM1 (mdT ((Zqz b).length / 64) (Zqz b) s0T)
def ZhE (l:List Nat):ByteArray:=UZ (U4 (fun n => U2 n.toNat) (Zr l)).toArray
theorem Xy (a b:List Nat):Zr (a ++ b) = Zr a ++ Zr b:=by simp [Zr]
theorem Zog (a:List Nat) (n:Nat):(Zr a).take n = Zr (a.take n):=by simp [Zr,List.map_take]
theorem ZAr (a:List Nat) (n:Nat):(Zr a).drop n = Zr (a.drop n):=by simp [Zr,List.map_drop]
theorem ZNN (n:Nat):(n + 1 + zT n) % 64 = 56 ∧ zT n < 64:=by unfold zT; omega
theorem Wm (N i:Nat):(K2 N i).length = i:=by simp [K2]
theorem Zy6 (N i:Nat):K2 N (i + 1) = K2 N i ++ [N / 2 ^ (8 * i) % 256]:=by simp [K2,List.range_succ]
theorem ZM3 (b:List Nat):(Zqz b).length = 64 * ((Zqz b).length / 64):=by
 have:=ZNN b.length
 simp only [Zqz,Q3,Ur,Wm,Us]
 omega
theorem ZCl {b:List Nat} (h:XK b):XK (Zqz b):=by
 intro x hx
 simp only [Zqz,List.mem_append,List.mem_singleton,List.mem_replicate,K2,VG] at hx
 rcases hx with ((hx | hx) | hx) | ⟨j,_,rfl⟩
 ·exact h x hx
 ·omega
 ·omega
 ·exact U1 _ (by omega)
theorem u8m (n:Nat):UQ.wrap (n:Int) = ((n % 256:Nat):Int):=by rw [IntKind.wrap_u8]; omega
theorem ZyN (x y:Nat):UT (x:Int) (y:Int) = ((x / y:Nat):Int):=by
 grind
theorem Zzf {R:Type} {step:(List Int → Option R) → List Int → Option R} {out:List Int → Option R}
  (h0:∀ L (m:List Nat),m.length % 64 = 56 → step L (Zr m) = out (Zr m)) (h1:∀ L (m:List Nat),m.length % 64 ≠ 56 → m.length < 2000000000 → step L (Zr m) = L (Zr (m ++ [0]))) :
  ∀ (j fuel:Nat) (m:List Nat),(m.length + j) % 64 = 56 → j < 64 → j < fuel → m.length + j < 2000000000 → Zh step fuel (Zr m) = out (Zr (m ++ Jd j 0))
 | 0,fuel + 1,m,h2,_,_,_ => by rw [Zd,h0 _ _ h2]; simp
 | j + 1,fuel + 1,m,h2,h3,h4,h5 => by
  rw [Zd,h1 _ _ (by omega) (by omega),Zzf h0 h1 j fuel (m ++ [0]) (by simp; omega) (by omega) (by omega) (by simp; omega)]
  simp [List.replicate_succ]
 | 0,0,_,_,_,h4,_ => absurd h4 (U5 _)
 | j + 1,0,_,_,_,h4,_ => absurd h4 (U6 _)
theorem Zs2 {A V R:Type} {step:(A × V → Option R) → A × V → Option R} {a:A} {st2:(V → Option R) → V → Option R} (h:∀ L L2,(∀ v,L (a,v) = L2 v) → ∀ v,step L (a,v) = st2 L2 v):∀ n v,Zh step n (a,v) = Zh st2 n v
 | 0,v => rfl
 | n + 1,v => by rw [Zd,Zd]; exact h _ _ (Zs2 h n) v
theorem ZQ6 (n:Nat):(n:Int).tmod 64 = ((n % 64:Nat):Int):=by rfl
section prog
variable {k:Nat}
theorem ZOZ (hk:100 ≤ k) (b:List Nat) (hb:b.length < 1000000000) (m:List Nat) (L2:Int × Int × List Int → Option (ByteArray × Unit)) (j:Nat) (h1:(m.length + j) % 64 = 56) (h2:j < 64) (h3:m.length + j < 2000000000) :
  Zh (fun L1 => Xq k L2 L1) k (Zr b,Zr m) = L2 ((0:Int),((8 * b.length:Nat):Int),Zr (m ++ Jd j 0)):=by
 rw [Zs2 (st2:=fun L v => Xq k L2 (fun x => L x.2) (Zr b,v)) (fun L L2' hL v => by
  simp only [Xq]
  rw [hL])]
 refine Zzf (step:=fun L v => Xq k L2 (fun x => L x.2) (Zr b,v)) (out:=fun v => L2 ((0:Int),((8 * b.length:Nat):Int),v)) (fun L m hm => ?_) (fun L m hm hl => ?_) j k m h1 h2 (by omega) h3
 ·simp only [Xq]
  rw [ZT,ZT,ZD,QY,ZQ6,Zl (by omega)]
  grind [IntKind.wrap_u64]
 ·simp only [Xq]
  rw [ZT,ZD,QY,ZQ6,Zb (by omega),Zb (by omega),Xy]
  rfl
theorem ZKm (L3:List Int × List Int × Int × Int × Int × Int → Option (ByteArray × Unit)) (L2:Int × Int × List Int → Option (ByteArray × Unit)) (N:Int) (m:List Int):ZaD k L3 L2 (((8 * 8:Nat):Int),N,m) = L3 (m,Zr kT,(1732584193:Int),(4023233417:Int),(2562383102:Int),(271733878:Int)):=by
 rfl
theorem ZDP (N:Nat) (m:List Nat) (hm:m.length < 2000000000) (L3:List Int × List Int × Int × Int × Int × Int → Option (ByteArray × Unit)):∀ (n i fuel:Nat),i + n = 8 → n < fuel →
  Zh (fun L2 => ZaD k L3 L2) fuel (((8 * i:Nat):Int),(N:Int),Zr (m ++ K2 N i)) = L3 (Zr (m ++ K2 N 8),Zr kT,(1732584193:Int),(4023233417:Int),(2562383102:Int),(271733878:Int))
 | 0,i,fuel + 1,h1,h2 => by
  obtain rfl:i = 8:=by omega
  rw [Zd,ZKm]
 | n + 1,i,fuel + 1,h1,h2 => by
  rw [Zd]
  simp only [ZaD]
  rw [Zb (by omega),Zb (by omega),ZT,Zb (by simp [Wm]; omega)]
  have e1:min (((8 * i:Nat):Int)).toNat 64 = 8 * i:=by omega
  have e2:Jx.wrap (((8 * i:Nat):Int) + 8) = ((8 * (i + 1):Nat):Int):=by rw [Z2 (by omega)]; omega
  rw [e1,e2,show ((2:Int) ^ (8 * i)) = ((2 ^ (8 * i):Nat):Int) by simp,ZyN,u8m]
  rw [show Zr (m ++ K2 N i) ++ [((N / 2 ^ (8 * i) % 256:Nat):Int)] = Zr (m ++ K2 N (i + 1)) by rw [Zy6,← Ju,Xy (m ++ K2 N i)]; rfl]
  exact ZDP N m hm L3 n (i + 1) fuel (by omega) (by omega)
 | 0,_,0,_,h2 => absurd h2 (U5 _)
 | n + 1,_,0,_,h2 => absurd h2 (U6 _)
theorem ZDQ (hk:100 ≤ k) (L4:Int × Int × Int × Int × Int × List Int → Option (ByteArray × Unit)):∀ (q fuel:Nat) (m:List Nat) (s:S4),m.length = 64 * q → q < fuel → XK m → lt4 s →
  Zh (fun L3 => ZaE k L4 L3) fuel (Zr m,Zr kT,(s.1:Int),(s.2.1:Int),(s.2.2.1:Int),(s.2.2.2:Int)) =
   L4 ((0:Int),((mdT q m s).1:Int),((mdT q m s).2.1:Int),((mdT q m s).2.2.1:Int),((mdT q m s).2.2.2:Int),[])
 | 0,fuel + 1,m,s,h1,h2,h3,h4 => by
  rw [Zd]
  simp only [ZaE]
  rw [ZT,Zl (by simp only [QY]; omega)]
  rfl
 | q + 1,fuel + 1,m,s,h1,h2,h3,h4 => by
  rw [Zd]
  simp only [ZaE]
  have hk64:(Zr kT).length = 64:=by rw [ZT]; rfl
  rw [ZT,hk64,Zb (by simp only [QY]; omega),Zb (by simp only [QY]; omega),Zb (by omega),U9,Zog]
  have:=ZBK k hk (p:=m.take 64) (by rw [List.length_take]; omega) (fun x hx => h3 x (List.mem_of_mem_take hx)) h4
  simp only [o4] at this
  rw [this]
  simp only [ZX]
  rw [Zb (by simp only [QY]; omega),show (UJ m.length).toNat = m.length from rfl,Zog,List.take_length,ZAr,ZMN]
  generalize hX:ZMQ (ZdT (m.take 64)) s = X
  have hX4:lt4 X:=hX ▸ ZPL _ _
  exact ZDQ hk L4 q fuel (m.drop 64) X (by rw [List.length_drop]; omega) (by omega) (fun x hx => h3 x (List.mem_of_mem_drop hx)) hX4
 | 0,0,_,_,_,h2,_,_ => absurd h2 (U5 _)
 | q + 1,0,_,_,_,h2,_,_ => absurd h2 (U6 _)
theorem ZMG (x:Nat):[UQ.wrap (x:Int),UQ.wrap ((x:Int).fdiv 256),UQ.wrap ((x:Int).fdiv 65536),UQ.wrap ((x:Int).fdiv 16777216)] = Zr (le4 x):=by
 have h1:=ZyN x 256
 have h2:=ZyN x 65536
 have h3:=ZyN x 16777216
 simp only [He] at h1 h2 h3
 rw [h1,h2,h3,u8m,u8m,u8m,u8m]
 rfl
theorem ZO0 (hk:100 ≤ k) (s:S4):Zcx k ((0:Int),(s.1:Int),(s.2.1:Int),(s.2.2.1:Int),(s.2.2.2:Int),[]) = some (ZhE (ZM1 s),()):=by
 obtain ⟨n,rfl⟩:∃ n,k = n + 5:=⟨k - 5,by omega⟩
 obtain ⟨a,b,c,d⟩:=s
 simp only [Zcx]
 have st:∀ (i:Nat) (L:Int × Int × Int × Int × Int × List Int → Option (ByteArray × Unit)) (x:Nat) (l:List Nat),i < 4 → l.length < 100 → [(a:Int),(b:Int),(c:Int),(d:Int)].getD i 0 = (x:Int) →
   ZaF (n + 5) L ((i:Int),(a:Int),(b:Int),(c:Int),(d:Int),Zr l) = L (((i + 1:Nat):Int),(a:Int),(b:Int),(c:Int),(d:Int),Zr (l ++ le4 x)):=by
  intro i L x l hi hl hx
  simp only [ZaF,Xa]
  rw [Zb (by omega),Zb (by omega)]
  simp only [hx,ZMG]
  rw [Zb (by rw [ZT,ZT]; simp [le4]; omega),ZzU (by omega),← Xy]
 have e0:∀ L,ZaF (n + 5) L ((0:Int),(a:Int),(b:Int),(c:Int),(d:Int),[]) = _:=fun L => st 0 L a [] (by omega) (by simp) rfl
 rw [Zd,e0,Zd,st 1 _ b _ (by omega) (by simp [le4]) rfl,Zd,st 2 _ c _ (by omega) (by simp [le4]) rfl,Zd,st 3 _ d _ (by omega) (by simp [le4]) rfl,Zd]
 rfl
theorem ZBv (hk:100 ≤ k) {b:List Nat} (h8:XK b) (hb:b.length < 1000000000) (hq:b.length < k):Znx k (Zr b,()) = some (ZhE (ZCf b),()):=by
 have hz:=ZNN b.length
 show Zdq k _ _ = _
 simp only [Zdq]
 have h66:Zjh k (Zr b,()) = some (Zr b,()):=by
  show XL _ = _
  unfold XL
  rw [Zb (by rw [ZT]; omega)]
 rw [h66]
 simp only [ZX]
 rw [ZT,Zb (by omega),show Zr b ++ [(128:Int)] = Zr (b ++ [128]) by rw [Xy]; rfl]
 refine (ZOZ hk b hb (b ++ [128]) _ (zT b.length) (by simpa using hz.1) hz.2 (by simp; omega)).trans ?_
 have h2:=ZDP (k:=k) (8 * b.length) (b ++ [128] ++ Jd (zT b.length) 0) (by simp; omega) (ZiD k) 8 0 k rfl (by omega)
 rw [show K2 (8 * b.length) 0 = [] from rfl,List.append_nil] at h2
 refine h2.trans ?_
 have hpl:=ZM3 b
 have hpl2:(Zqz b).length < b.length + 100:=by
  simp only [Zqz,Q3,Ur,Wm,Us]; omega
 refine (ZDQ hk (Zcx k) ((Zqz b).length / 64) k (Zqz b) s0T hpl (by omega) (ZCl h8) (by unfold lt4 s0T; simp)).trans ?_
 exact ZO0 hk _
end prog
end Go.Sh
namespace Go.Sh
open Go Go.Proofs
theorem ZIB {a:Nat} (ha:a < 18446744073709551616):(UN 64 (a:Int)).toNat = a:=by simp_all
theorem ZyZ {n:Nat} (h:n < 9223372036854775808):Jx.wrap (n:Int) = (n:Int):=Z2 (by omega)
end Go.Sh
namespace Go.Sh
open Go Go.Proofs
def h4 (s:S4):List Int:=[(s.1:Int),(s.2.1:Int),(s.2.2.1:Int),(s.2.2.2:Int)]
section doc
variable {k:Nat}
end doc
end Go.Sh
namespace Go.Sh
open Go Go.Proofs
def az (b:UInt8):Bool:=Jb 97 b.toNat && Jb b.toNat 122
def vis (b:UInt8):Bool:=Jb 33 b.toNat && Jb b.toNat 126
def ZTe:List UInt8 → Bool
 | b :: v => b == 61 && (!v.isEmpty && v.all vis)
 | [] => false
def ZTb (n:Nat) (l:List UInt8):Bool:=bif Ja (l.dropWhile az).length n then false else ZTe (l.dropWhile az)
def Zq3 (s:ByteArray):Bool:=Jb 3 s.size && (Jb s.size 12 && ZTb s.size s.data.toList)
end Go.Sh
namespace Go.Sh
open Go Go.Proofs
def ZhY:List UInt8 → Option (List UInt8 × List UInt8)
 | [] => none
 | b :: l => if b == 61 then some ([],l) else (ZhY l).map fun p => (b :: p.1,p.2)
theorem Zg2:∀ l:List UInt8,(ZhY l = none ∧ Lib.indexByte l 61 = -1) ∨ (∃ x y,ZhY l = some (x,y) ∧ Lib.indexByte l 61 = (x.length:Int) ∧ l = x ++ 61 :: y)
 | [] => .inl ⟨rfl,rfl⟩
 | b :: l => by
  simp only [ZhY,Lib.indexByte]
  by_cases hb:b = 61
  ·grind
  ·have hb':(b == 61) = false:=beq_false_of_ne hb
   rw [hb']
   simp only [JJ,if_false]
   rcases Zg2 l with ⟨h1,h2⟩ | ⟨x,y,h1,h2,h3⟩
   ·rw [h1,h2]; exact .inl ⟨rfl,rfl⟩
   grind
def ZCZ:Option (List UInt8 × List UInt8) → Bool
 | none => false
 | some (x,y) => x.all az && (!y.isEmpty && y.all vis)
theorem ZzQ:∀ l:List UInt8,ZTe (l.dropWhile az) = ZCZ (ZhY l)
 | [] => rfl
 | b :: l => by
  rw [Hh]
  simp only [ZhY]
  by_cases hb:b = 61
  ·subst hb
   rfl
  ·rw [beq_false_of_ne hb]
   simp only [JJ,if_false]
   cases ha:az b with
   | true =>
    simp only [if_true]
    rw [ZzQ l]
    cases hc:ZhY l with
    | none => rfl
    | some p => simp [ZCZ,ha]
   | false =>
    simp only [JJ,if_false,ZTe,beq_false_of_ne hb,Bool.false_and]
    cases hc:ZhY l with
    | none => rfl
    | some p => simp [ZCZ,ha]
def Zke:Option (List UInt8 × List UInt8) → Bool
 | none => false
 | some (x,y) => !x.isEmpty && (x.all az && (!y.isEmpty && y.all vis))
theorem ZNq (l:List UInt8):ZTb l.length l = Zke (ZhY l):=by
 unfold ZTb
 rw [ZzQ]
 match l with
 | [] => rfl
 | b :: l =>
  rw [Hh]
  have hsuf:(l.dropWhile az).length ≤ l.length:=(List.dropWhile_suffix az).length_le
  by_cases hb:b = 61
  ·subst hb
   have:az 61 = false:=rfl
   rw [this]
   simp only [JJ,if_false]
   rw [show Ja (61 :: l).length (61 :: l).length = true from Nat.beq_refl _]
   rfl
  ·simp only [ZhY,beq_false_of_ne hb,JJ,if_false]
   cases ha:az b with
   | true =>
    simp only [if_true]
    have:Ja (l.dropWhile az).length (b :: l).length = false:=by
     cases hq:Ja (l.dropWhile az).length (b :: l).length with
     | false => rfl
     | true => simp_all <;> omega
    rw [this]
    cases hc:ZhY l with
    | none => rfl
    | some p => simp [ZCZ,Zke,ha]
   | false =>
    simp only [JJ,if_false]
    rw [show Ja (b :: l).length (b :: l).length = true from Nat.beq_refl _]
    cases hc:ZhY l with
    | none => rfl
    | some p => simp [Zke,ha]
def Zj9 (l:List UInt8):ByteArray:=⟨l.toArray⟩
theorem Zka (l:List UInt8):(Zj9 l).data.toList = l:=rfl
theorem ZFA (l:List UInt8):(Zj9 l).size = l.length:=by rw [← Yp]; rfl
theorem ZlW (l:List UInt8):(Zj9 l).toList = l:=by rw [toList_eq]; rfl
theorem Zh3 (s:ByteArray) (a b:Nat):s.extract a b = Zj9 ((s.data.toList.take b).drop a):=by
 apply ZAd
 rw [Zka,ByteArray.data_extract,Array.toList_extract,List.extract_eq_take_drop,List.drop_take]
theorem ZIK:(UZ #[]) = Zj9 []:=rfl
def abc:List UInt8:=[97,98,99,100,101,102,103,104,105,106,107,108,109,110,111,112,113,114,115,116,117,118,119,120,121,122]
theorem ZNP:∀ n:Nat,n < 256 → (abc.contains (U2 n)) = az (U2 n):=by
 have h:(Jc 256).all (fun n => abc.contains (U2 n) == az (U2 n)) = true:=by kernel_rfl
 simp_all
theorem ZRe (b:UInt8):abc.contains b = az b:=by
 have:=ZNP b.toNat b.toNat_lt
 rwa [UInt8.ofNat_toNat] at this
theorem ZHf (b:UInt8):(!Kt b.toNat) = vis b:=by
 unfold Kt vis
 rw [Hc,Bool.not_eq_true',Bool.or_eq_false_iff,Bool.and_eq_true,Nat.ble_eq,Nat.ble_eq]
 constructor
 ·rintro ⟨h1,h2⟩
  constructor
  ·rcases Nat.lt_or_ge b.toNat 33 with h | h
   ·rw [show U0 b.toNat 33 = true from U3 h] at h1; cases h1
   ·exact h
  ·rcases Nat.lt_or_ge 126 b.toNat with h | h
   ·rw [show U0 126 b.toNat = true from U3 h] at h2; cases h2
   ·exact h
 ·rintro ⟨h1,h2⟩
  constructor
  ·cases h:U0 b.toNat 33 with
   | false => rfl
   | true => have:=Jt h; omega
  ·cases h:U0 126 b.toNat with
   | false => rfl
   | true => have:=Jt h; omega
theorem ZBG (k:Nat) (s:ByteArray) (hs:s.size ≤ 4294967296):ZnC k (s,UZ #[61],()) = some (match ZhY s.data.toList with
  | none => ((s,Zj9 [],false,()),())
  | some (x,y) => ((Zj9 x,Zj9 y,true,()),())):=by
 have hl:=Yp s
 show Zhe k (s,UZ #[61],()) = _
 simp only [Zhe]
 rw [show ZnF k (s,UZ #[61],()) = some (Lib.indexByte s.data.toList 61,()) from rfl,ZX]
 rcases Zg2 s.data.toList with ⟨h1,h2⟩ | ⟨x,y,h1,h2,h3⟩
 ·simp only [h1,h2]
  rfl
 ·simp only [h1,h2]
  have hlen:x.length + (y.length + 1) = s.size:=by rw [← hl,h3]; simp
  have hw:Jx.wrap ((x.length:Int) + UJ (UZ #[61]).size) = ((x.length + 1:Nat):Int):=by
   rw [show (UZ #[61]).size = 1 from rfl,Z2 (by simp only [QY]; omega)]; simp only [QY]; omega
  rw [Zb (by omega),Zb (by simp only [QY]; omega),hw,Zb (by simp only [QY]; omega)]
  rw [Zh3,Zh3]
  have e1:(UV (x.length:Int)) = x.length:=by omega
  have e2:(UV ((x.length + 1:Nat):Int)) = x.length + 1:=by omega
  have e3:(UV (UJ s.size)) = s.size:=rfl
  rw [e1,e2,e3,h3]
  have t1:(UR x.length (x ++ 61 :: y)) = x:=by simp
  have t2:(UR s.size (x ++ 61 :: y)) = x ++ 61 :: y:=List.take_of_length_le (by simp; omega)
  simp_all
theorem ZA5 (k:Nat) (s:ByteArray) (hs:s.size ≤ 1048576):Znn k (s,()) = some (Zq3 s,()):=by
 have hl:=Yp s
 show Zg9 k (s,()) = _
 simp only [Zg9]
 rw [show ZuJ k (s,UZ #[OfNat.ofNat (61:Nat)],()) = (ZnC k (s,UZ #[61],())).bind fun y => some ((y.1.1,y.1.2.1,y.1.2.2.1,()),()) from rfl,ZBG k s (by omega)]
 have htag:Zq3 s = (Jb 3 s.size && (Jb s.size 12 && Zke (ZhY s.data.toList))):=by
  unfold Zq3
  rw [← hl,ZNq]
 rcases Zg2 s.data.toList with ⟨h1,h2⟩ | ⟨x,y,h1,h2,h3⟩
 ·simp_all [h1,ZX,Zke,Bool.and_false]
 ·rw [htag]
  have hlen:x.length + (y.length + 1) = s.size:=by rw [← hl,h3]; simp
  simp only [h1,ZX,Zke,ZIK,ZlW]
  simp only [cond_true,bne,ZTA]
  cases hx:x with
  | nil => simp
  | cons a x' =>
   rw [← hx]
   have hx0:(x == ([]:List UInt8)) = false:=by rw [hx]; rfl
   rw [hx0]
   simp only [Bool.not_false,cond_true,cond_false]
   cases hy:y with
   | nil => simp
   | cons c y' =>
    rw [← hy]
    have hy0:(y == ([]:List UInt8)) = false:=by rw [hy]; rfl
    have hx1:x.isEmpty = false:=by rw [hx]; rfl
    have hy1:y.isEmpty = false:=by rw [hy]; rfl
    have hlx:1 ≤ x.length:=by rw [hx]; simp
    have hly:1 ≤ y.length:=by rw [hy]; simp
    rw [hy0,hx1,hy1,U3 (show 3 ≤ s.size by omega)]
    simp only [Bool.not_false,cond_true,cond_false,UC]
    by_cases h12:s.size ≤ 12
    ·rw [Zb (by simp only [QY]; omega),U3 h12]
     have htr:Znv k (Zj9 x,UZ #[OfNat.ofNat (97:Nat),OfNat.ofNat (98:Nat),OfNat.ofNat (99:Nat),OfNat.ofNat (100:Nat),OfNat.ofNat (101:Nat),OfNat.ofNat (102:Nat),OfNat.ofNat (103:Nat),OfNat.ofNat (104:Nat),OfNat.ofNat (105:Nat),OfNat.ofNat (106:Nat),OfNat.ofNat (107:Nat),OfNat.ofNat (108:Nat),OfNat.ofNat (109:Nat),OfNat.ofNat (110:Nat),OfNat.ofNat (111:Nat),OfNat.ofNat (112:Nat),OfNat.ofNat (113:Nat),OfNat.ofNat (114:Nat),OfNat.ofNat (115:Nat),OfNat.ofNat (116:Nat),OfNat.ofNat (117:Nat),OfNat.ofNat (118:Nat),OfNat.ofNat (119:Nat),OfNat.ofNat (120:Nat),OfNat.ofNat (121:Nat),OfNat.ofNat (122:Nat)],()) = some (Zj9 (Lib.trimS x abc),()):=by
      show ZzN (Zj9 x,Zj9 abc,()) = _
      unfold ZzN
      simp only [ZFA,Zka]
      rw [show U0 x.length 1099511627776 = true from U3 (by omega)]
      rfl
     rw [htr,ZX]
     simp only [ZlW]
     have hall:(Lib.trimS x abc == ([]:List UInt8)) = x.all az:=by
      rw [Hc,beq_iff_eq,ZH5]
      rw [show (fun b => abc.contains b) = az from funext ZRe]
     rw [hall]
     cases x.all az with
     | false => rfl
     | true =>
      simp only [cond_true,UC]
      show ((ZPz Kt (Zj9 y,(),())).bind fun y => some (decide (y.1 < (0:Int)),())) = _
      simp only [ZPz,ZX]
      rw [Zy0 Kt (fun n hn => by
       unfold Kt
       simp_all <;> omega),Zka]
      rw [show (fun b:UInt8 => !Kt b.toNat) = vis from funext ZHf]
    ·rw [Zl (by simp only [QY]; omega)]
     simp_all <;> omega
end Go.Sh
namespace Go.Sh
open Go Go.Proofs
structure Small (tags:List ByteArray) (ch:List (List Int)):Prop where
 tl:tags.length ≤ 1048576
 tag:∀ t ∈ tags,t.size ≤ 1048576
 cl:ch.length ≤ 1048576
 chan:∀ c ∈ ch,c.length ≤ 1048576
def ZlN (c d r:Int):Bool:=decide (1 ≤ c ∧ c ≤ 2 ∧ 4 ≤ d ∧ d ≤ 24 ∧ 1 ≤ r ∧ r ≤ 655350)
def ZrB (d x:Int):Bool:=decide (-((2:Int) ^ (d - 1).toNat) ≤ x ∧ x < (2:Int) ^ (d - 1).toNat)
def ZwX (ch:List (List Int)) (x:List Int):Bool:=decide (x.length ≤ 4096 ∧ x.length = (ch.getD 0 []).length)
def chk (c d r:Int) (tags:List ByteArray) (ch:List (List Int)):Int :=
 bif ZlN c d r then
  bif decide (8 < tags.length) then 1 else
  bif decide (¬ UJ ch.length = c) then 1 else
  bif tags.all Zq3 then
   bif ch.all (ZwX ch) then
    bif ch.all (fun x => x.all (ZrB d)) then 0 else 12
   else 1
  else 1
 else 2
theorem ZP7 {n:Nat} (h:n ≤ 24):1 ≤ (2:Int) ^ n ∧ (2:Int) ^ n ≤ 16777216:=by
 have h1:1 ≤ 2 ^ n:=Nat.one_le_two_pow
 have h2:2 ^ n ≤ 2 ^ 24:=Nat.pow_le_pow_right (by omega) h
 grind
theorem ZTf {d:Int} (h:4 ≤ d ∧ d ≤ 24):Jx.wrap (d - 1) = d - 1:=Z2 (by omega)
theorem ZUc {d:Int} (h:4 ≤ d ∧ d ≤ 24):min (d - 1).toNat 64 = (d - 1).toNat:=by omega
theorem ZGj (k:Nat) (c d r:Int):ZoG k ((c,d,r,()),()) = some ((bif ZlN c d r then 0 else 2),()):=by
 show Zer k ((c,d,r,()),()) = _
 simp only [Zer]
 unfold ZlN
 grind
section ref
variable {k:Nat} (hk:16777216 ≤ k) {c d r:Int} {tags:List ByteArray} {ch:List (List Int)} (hS:Small tags ch) (hd:4 ≤ d ∧ d ≤ 24)
include hk hS hd
end ref
theorem ZBM {k:Nat} (hk:16777216 ≤ k) {tags:List ByteArray} (h1:tags.length ≤ 1048576) (h2:∀ t ∈ tags,t.size ≤ 1048576):ZuM k (tags,(),()) = some (!(tags.all Zq3),()):=by
 show Zhd k (tags,(),()) = _
 simp only [Zhd]
 have:∃ n:Int,ZuZ k (tags,(),()) = some (n,()) ∧ decide (0 ≤ n) = !(tags.all Zq3):=by
  show ∃ n:Int,Zdu k (ZiV k) (tags,(),()) = some (n,()) ∧ _
  simp only [Zdu]
  have key:∀ (m i:Nat),tags.length < m + i → i ≤ tags.length → ∃ n:Int,Zh (fun L1 => ZaO k L1) m (UJ tags.length,UJ i,tags) = some (n,()) ∧ decide (0 ≤ n) = !((tags.drop i).all Zq3):=by
   intro m
   induction m with
   | zero => intro i h h'; omega
   | succ m ih =>
    intro i h h'
    rw [Zd]
    by_cases he:i = tags.length
    ·simp_all [ZaO]
    ·have hi:i < tags.length:=by omega
     simp only [ZaO]
     rw [Zb (KX hi),Zb (Ya hi),ZE hi]
     rw [show ZuN k (tags[i],()) = (Znn k (tags[i],())).bind fun y => some (!y.1,()) from rfl,ZA5 k _ (h2 _ (Ha _)),ZX,ZX,Qc hi (by omega),List.drop_eq_getElem_cons hi,List.all_cons]
     grind
  have:=key k 0 (by omega) (by omega)
  rwa [U9] at this
 grind
theorem Yh (k:Nat) (c d r:Int) (tags:List ByteArray) (ch:List (List Int)):Zbt k (((c,d,r,()),tags,ch,()),()) = some (UJ (ch.getD 0 []).length,()):=by
 show Zhc k (((c,d,r,()),tags,ch,()),()) = _
 grind [Zhc,QY,JF]
theorem ZHo {x p:Int} (hp:1 ≤ p):(UT x p = 0 ∨ UT x p = -1) ↔ (-p ≤ x ∧ x < p):=by
 have h1:=Int.mul_fdiv_add_fmod x p
 have h2:0 ≤ Int.fmod x p:=Int.fmod_nonneg_of_pos _ (by omega)
 have h3:Int.fmod x p < p:=Int.fmod_lt_of_pos _ (by omega)
 generalize UT x p = q at *
 generalize Int.fmod x p = m at *
 constructor
 ·grind
 ·intro h
  rcases Hf q (-1) with hq | hq | hq
  ·exfalso
   have:p * q ≤ p * (-2):=Hg (by omega) (by omega)
   omega
  ·exact .inr hq
  ·rcases Hf q 0 with hq' | hq' | hq'
   ·omega
   ·exact .inl hq'
   ·exfalso
    have:p * 1 ≤ p * q:=Hg (by omega) (by omega)
    omega
section prog
variable {k:Nat} (hk:16777216 ≤ k) {c d r:Int} {tags:List ByteArray} {ch:List (List Int)} (hS:Small tags ch) (hd:4 ≤ d ∧ d ≤ 24)
include hk hS hd
theorem ZOS (L2:Int × Int × List (List Int) × Int × Int × Int × List ByteArray × List (List Int) → Option (Int × Unit)) (i:Nat) (hi:i < ch.length) :
  Zip k L2 (UJ ch[i].length,0,ch[i],UJ i,UJ ch.length,ch,c,d,r,tags,ch) = bif ch[i].all (ZrB d) then L2 (UJ ch.length,UJ (i + 1),ch,c,d,r,tags,ch) else some (12,()):=by
 have hl:=hS.chan ch[i] (Ha _)
 have hcl:=hS.cl
 refine Zai (fun j => (UJ ch[i].length,UJ j,ch[i],UJ i,UJ ch.length,ch,c,d,r,tags,ch)) ch[i] (ZrB d) _ _ (fun L => ?_) (fun L j hj => ?_) k (by omega)
 ·simp only [Zdk]
  rw [Zl (Zaa _),Qc hi (by omega)]
 ·simp only [Zdk]
  rw [Zb (KX hj),Zb (Ya hj),ZE hj,ZTf hd,Zb (by omega),ZUc hd,Qc hj (by omega),ZD,ZD]
  have hp:=ZP7 (n:=(d - 1).toNat) (by omega)
  have hf:=ZHo (x:=ch[i][j]) hp.1
  unfold ZrB
  grind
theorem ZOR:Zez k (UJ ch.length,0,ch,c,d,r,tags,ch) = bif ch.all (fun x => x.all (ZrB d)) then some (0,()) else some (12,()):=by
 have hcl:=hS.cl
 refine Zai (fun j => (UJ ch.length,UJ j,ch,c,d,r,tags,ch)) ch (fun x => x.all (ZrB d)) _ _ (fun L => ?_) (fun L j hj => ?_) k (by omega)
 ·grind [Zdj]
 ·simp only [Zdj]
  rw [Zb (KX hj),Zb (Ya hj),ZE hj]
  exact ZOS hk hS hd L j hj
theorem ZOQ:Zey k (UJ ch.length,0,ch,c,d,r,tags,ch) = bif ch.all (ZwX ch) then Zez k (UJ ch.length,0,ch,c,d,r,tags,ch) else some (1,()):=by
 have hcl:=hS.cl
 refine Zai (fun j => (UJ ch.length,UJ j,ch,c,d,r,tags,ch)) ch (ZwX ch) _ _ (fun L => ?_) (fun L j hj => ?_) k (by omega)
 ·grind [Zdi]
 ·simp only [Zdi]
  rw [Zb (KX hj),Zb (Ya hj),ZE hj,Yh,Qc hj (by omega)]
  simp only [ZX]
  rw [ZD]
  unfold ZwX
  grind
end prog
theorem Zha {k:Nat} (hk:16777216 ≤ k) {c d r:Int} {tags:List ByteArray} {ch:List (List Int)} (hS:Small tags ch):Zin k (((c,d,r,()),tags,ch,()),()) = some (chk c d r tags ch,()):=by
 show Zdh k (Zey k) (((c,d,r,()),tags,ch,()),()) = _
 simp only [Zdh]
 rw [ZGj,ZX,ZD]
 unfold chk
 cases hs:ZlN c d r with
 | false => rfl
 | true =>
  have hs':=of_decide_eq_true hs
  have hd:4 ≤ d ∧ d ≤ 24:=⟨hs'.2.2.1,hs'.2.2.2.1⟩
  simp only [cond_true]
  rw [ZD,Zl (by simp)]
  by_cases h8:8 < tags.length
  ·grind
  ·rw [Zl (by simp only [QY]; omega),Zl h8]
   by_cases hc:UJ ch.length = c
   ·rw [Zl (fun h => h hc),Zl (fun h => h hc),ZBM hk hS.tl hS.tag,ZX,ZTA,ZOQ hk hS hd,ZOR hk hS hd]
    grind
   ·rw [Zb hc,Zb hc]
end Go.Sh
namespace Go.Sh
open Go Go.Proofs
def Za2 (s:ByteArray):List Nat:=s.data.toList.map UInt8.toNat
theorem ZcM (s:ByteArray):(Za2 s).length = s.size:=by simp [Za2]
theorem Zzb (s:ByteArray):XK (Za2 s):=by
 intro x hx
 obtain ⟨b,_,rfl⟩:=VG.1 hx
 exact b.toNat_lt
theorem ZCh {l:List Nat} (h:XK l):Za2 (ZhE l) = l:=by
 simp only [Za2,ZhE,Zr,List.map_map]
 conv => rhs; rw [← List.map_id l]
 apply List.map_congr_left
 intro x hx
 have:=h x hx
 simp [Function.comp,UInt8.toNat_ofNat_of_lt' this]
section doc
variable {k:Nat}
end doc
end Go.Sh
namespace Go.Sh
open Go Go.Proofs
def ZlX (x:Int) (j:Nat):Nat:=(UT x ((2:Int) ^ (8 * j)) % 256).toNat
def Xx (x:Int):Nat → Nat → List Nat
 | _,0 => []
 | j,n + 1 => ZlX x j :: Xx x (j + 1) n
def ZzE (nb:Nat) (ch:List (List Int)) (i:Nat):List Nat:=ch.flatMap fun c => Xx (c.getD i 0) 0 nb
def ZgO (nb:Nat) (ch:List (List Int)) (n:Nat):List Nat:=(Jc n).flatMap (ZzE nb ch)
theorem ZIC (x:Int) (j:Nat):ZlX x j < 256:=by
 unfold ZlX
 omega
theorem ZlY (x:Int):∀ n j,XK (Xx x j n)
 | 0,j => by intro y hy; cases hy
 | n + 1,j => by
  intro y hy
  cases hy with
  | head => exact ZIC x j
  | tail _ hy => exact ZlY x n (j + 1) y hy
theorem Kp (x:Int):∀ n j,(Xx x j n).length = n
 | 0,_ => rfl
 | n + 1,j => by simp [Xx,Kp x n]
theorem ZTa (nb:Nat) (ch:List (List Int)) (n:Nat):XK (ZgO nb ch n):=by
 intro y hy
 simp only [ZgO,ZzE,List.mem_flatMap] at hy
 obtain ⟨i,_,c,_,h⟩:=hy
 exact ZlY _ _ _ y h
theorem Ze8 {α β:Type} {f:α → List β} {B:Nat}:∀ {l:List α},(∀ x ∈ l,(f x).length = B) → (l.flatMap f).length = l.length * B
 | [],_ => by simp
 | x :: l,h => by
  rw [Hi,Q3,h x (Jm ..),Ze8 fun y hy => h y (List.mem_cons_of_mem _ hy),JF,Nat.add_mul]; omega
theorem ZNp (nb:Nat) (ch:List (List Int)) (n:Nat):(ZgO nb ch n).length = n * (ch.length * nb):=by
 unfold ZgO
 rw [Ze8 (B:=ch.length * nb) fun i _ => by unfold ZzE; exact Ze8 fun c _ => Kp _ _ _,U8]
theorem ZUR (x:Int) (j:Nat) (hj:j < 8):UQ.wrap (UT x ((2:Int) ^ min (((8 * j:Nat):Int)).toNat 64)) = ((ZlX x j:Nat):Int):=by
 have e1:min (((8 * j:Nat):Int)).toNat 64 = 8 * j:=by omega
 rw [e1]
 unfold ZlX
 generalize UT x ((2:Int) ^ (8 * j)) = y
 rw [IntKind.wrap_u8]; omega
structure Good0 (c d:Int) (ch:List (List Int)) (n:Nat):Prop where
 d4:4 ≤ d ∧ d ≤ 24
 c1:1 ≤ ch.length ∧ ch.length ≤ 2
 cl:(ch.length:Int) = c
 n4:n ≤ 4096
 len:∀ x ∈ ch,x.length = n
theorem WN {c d r:Int} {tags:List ByteArray} {ch:List (List Int)} (h:chk c d r tags ch = 0):Good0 c d ch (ch.getD 0 []).length ∧ ZlN c d r = true ∧ (∀ x ∈ ch,x.all (ZrB d) = true) ∧ tags.all Zq3 = true ∧ tags.length ≤ 8:=by
 unfold chk at h
 cases h1:ZlN c d r with
 | false => rw [h1] at h; exact absurd h (by simp)
 | true =>
  rw [h1] at h
  simp only [cond_true] at h
  by_cases h2:8 < tags.length
  ·rw [Zb h2] at h; cases h
  rw [Zl h2] at h
  by_cases h3:UJ ch.length = c
  ·rw [Zl (by simpa using h3)] at h
   cases h4:tags.all Zq3 with
   | false => rw [h4] at h; cases h
   | true =>
    rw [h4] at h
    cases h5:ch.all (ZwX ch) with
    | false => rw [h5] at h; cases h
    | true =>
     rw [h5] at h
     cases h6:ch.all (fun x => x.all (ZrB d)) with
     | false => rw [h6] at h; cases h
     | true =>
      have hs:=of_decide_eq_true h1
      have hev:=Vf.1 h5
      simp only [QY] at h3
      have hc1:1 ≤ ch.length:=by omega
      refine ⟨⟨by omega,by omega,h3,?_,fun x hx => (of_decide_eq_true (hev x hx)).2⟩,rfl,fun x hx => Vf.1 h6 x hx,rfl,by omega⟩
      match ch,hc1 with
      | x :: l,_ => exact (of_decide_eq_true (hev x (Jm ..))).1
  simp_all
def nbD (d:Int):Nat:=((d + 7) / 8).toNat
section prog
variable {k:Nat} {c d r:Int} {tags:List ByteArray} {ch:List (List Int)} {n:Nat}
theorem ZDE (hd:4 ≤ d ∧ d ≤ 24) (L1:Int × Int × Int × Int × Int × List ByteArray × List (List Int) × List Int → Option ((ByteArray × Int × Unit) × Unit)) (L2:Int × Int × List (List Int) × Int × Int × Int × Int × Int × Int × List ByteArray × List (List Int) × List Int → Option ((ByteArray × Int × Unit) × Unit))
  (col:List Int) (i:Nat) (hi:i < col.length) (ci len:Int) (cols:List (List Int)) (z nn:Int):∀ (m j fuel:Nat) (acc:List Nat),j + m = nbD d → m < fuel → acc.length + m < 1000000000 →
  Zh (fun L3 => Zaw k L1 L2 L3) fuel (((8 * j:Nat):Int),col,(i:Int),ci,len,cols,z,nn,c,d,r,tags,ch,Zr acc) =
   L2 (len,Jx.wrap (ci + 1),cols,(i:Int),z,nn,c,d,r,tags,ch,Zr (acc ++ Xx (col.getD i 0) j m))
 | 0,j,fuel + 1,acc,h1,h2,h3 => by
  rw [Zd]
  simp only [Zaw]
  rw [Zl (by unfold nbD at h1; omega)]
  simp [Xx]
 | m + 1,j,fuel + 1,acc,h1,h2,h3 => by
  rw [Zd]
  simp only [Zaw]
  have hj:j < 8:=by unfold nbD at h1; omega
  rw [Zb (by unfold nbD at h1; omega),Zb (by simp only [QY]; omega),Zb (by omega)]
  simp only [Xa (n:=i),ZUR _ j hj]
  rw [ZT,Zb (by simp; omega)]
  have e2:Jx.wrap (((8 * j:Nat):Int) + 8) = ((8 * (j + 1):Nat):Int):=by rw [Z2 (by omega)]; omega
  rw [e2,show Zr acc ++ [(ZlX (col.getD i 0) j:Int)] = Zr (acc ++ [ZlX (col.getD i 0) j]) by rw [Xy]; rfl]
  rw [ZDE hd L1 L2 col i hi ci len cols z nn m (j + 1) fuel (acc ++ [ZlX (col.getD i 0) j]) (by omega) (by omega) (by simp; omega)]
  simp [Xx]
 | 0,_,0,_,_,h2,_ => absurd h2 (U5 _)
 | m + 1,_,0,_,_,h2,_ => absurd h2 (U6 _)
theorem ZMT (hd:4 ≤ d ∧ d ≤ 24):nbD d ≤ 3 ∧ 1 ≤ nbD d:=by unfold nbD; omega
theorem ZOO (hk:100 ≤ k) (hg:Good0 c d ch n) (L1:Int × Int × Int × Int × Int × List ByteArray × List (List Int) × List Int → Option ((ByteArray × Int × Unit) × Unit)) (i:Nat) (hi:i < n) (acc:List Nat) (ha:acc.length < 900000000) :
  Zew k L1 (UJ ch.length,(0:Int),ch,(i:Int),(i:Int),(n:Int),c,d,r,tags,ch,Zr acc) = L1 ((n:Int),Jx.wrap ((i:Int) + 1),c,d,r,tags,ch,Zr (acc ++ ZzE (nbD d) ch i)):=by
 have hnb:=ZMT hg.d4
 have hc:=hg.c1
 have key:=Zs (A:=List Nat) (step:=fun L2 => Zav k (Zik k L1 L2) L1 L2) (fun q a => (UJ ch.length,UJ q,ch,(i:Int),(i:Int),(n:Int),c,d,r,tags,ch,Zr a)) ch
  (fun rest a => L1 ((n:Int),Jx.wrap ((i:Int) + 1),c,d,r,tags,ch,Zr (a ++ rest.flatMap fun c => Xx (c.getD i 0) 0 (nbD d)))) (fun q a => a.length ≤ acc.length + 3 * q)
  (fun L a _ => by
   grind [Zav])
  (fun L q hq a hI hL => by
   simp only [Zav]
   rw [Zb (KX hq),Zb (Ya hq),ZE hq]
   have h3:=ZDE (k:=k) (c:=c) (r:=r) (tags:=tags) (ch:=ch) hg.d4 L1 L ch[q] i (by rw [hg.len _ (Ha hq)]; exact hi) (UJ q) (UJ ch.length) ch (i:Int) (n:Int) (nbD d) 0 k a (by omega) (by omega) (by omega)
   refine Eq.trans h3 ?_
   rw [Qc hq (by omega),hL _ (by simp [Kp]; omega),Hi,Ju])
  k 0 acc (by omega) (by omega) (by omega)
 rw [U9] at key
 exact key
theorem ZoZ (hk:16777216 ≤ k) (hS:Small tags ch):Zde k (((c,d,r,()),tags,ch,()),()) = (if chk c d r tags ch = 0 then some ((ZhE (ZCf (ZgO (nbD d) ch (ch.getD 0 []).length)),0,()),()) else some ((⟨#[]⟩,chk c d r tags ch,()),())):=by
 show Zdf k _ _ = _
 simp only [Zdf]
 rw [Zha hk hS]
 simp only [ZX]
 by_cases h0:chk c d r tags ch = 0
 ·rw [if_pos h0,h0,ZD,Zl (by simp),Yh]
  simp only [ZX]
  obtain ⟨hg,-⟩:=WN h0
  generalize (ch.getD 0 []).length = n at hg
  have hnb:=ZMT hg.d4
  have hc:=hg.c1
  have hn:=hg.n4
  have hmul:∀ i,i * (ch.length * nbD d) ≤ i * 6:=fun i => Nat.mul_le_mul_left i (Nat.le_trans (Nat.mul_le_mul hc.2 hnb.1) (by omega))
  have key:=Zs (A:=List Nat) (step:=fun L1 => Zau k (Zew k L1) L1) (fun q a => (UJ n,UJ q,c,d,r,tags,ch,Zr a)) (Jc n)
   (fun rest a => (Znx k (Zr (a ++ rest.flatMap (ZzE (nbD d) ch)),())).bind fun y => some ((y.1,(0:Int),()),())) (fun q a => a.length = q * (ch.length * nbD d))
   (fun L a _ => by
    grind [Zau,U8])
   (fun L q hq a hI hL => by
    rw [U8] at hq
    simp only [Zau]
    have:=hmul q
    rw [Zb (KX hq)]
    refine Eq.trans (ZOO (by omega) hg L q hq a (by omega)) ?_
    rw [show Jx.wrap ((q:Int) + 1) = UJ (q + 1) from Qc hq (by omega)]
    have hq6:(ZzE (nbD d) ch q).length = ch.length * nbD d:=by unfold ZzE; exact Ze8 fun c _ => Kp _ _ _
    grind)
   k 0 [] (by simp) (by rw [U8]; omega) (by omega)
  rw [U9,List.nil_append] at key
  refine Eq.trans key ?_
  have hl:=ZNp (nbD d) ch n
  have:=hmul n
  rw [show (Jc n).flatMap (ZzE (nbD d) ch) = ZgO (nbD d) ch n from rfl,ZBv (by omega) (ZTa _ _ _) (by omega) (by omega)]
  rfl
 ·rw [if_neg h0,ZD,Zb h0]
end prog
end Go.Sh
