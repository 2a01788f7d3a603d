/-
  What the row needs, part 8.
-/
import Derived.Test.YtfljgkbgnfbhlaaXLeafKeeps7
import Derived.IntWalk
set_option linter.unusedSimpArgs false
set_option linter.unusedVariables false
set_option linter.unusedSectionVars false
open BitVec renaming ofInt_natCast→UV,toNat_ofNat→UW
open Bool renaming and_eq_true→Jh,true_and→UC,eq_iff_iff→UX,or_eq_true→V6
open ByteArray renaming mk→UL
open Int renaming ofNat→UM,ofNat_eq_natCast→UU
open Go.IntKind renaming i64→Jx,u8→UO
open List renaming length_append→JP,replicate→Jd,drop→UP,mem_append→Js,length_singleton→Us,mem_cons→VM,append_nil→Vg,flatMap_nil→UY,mem_append_left→JG,mem_flatMap→UZ,not_mem_nil→Uv,take_succ_eq_append_getElem→U0
open Nat renaming mod_eq_of_lt→U1
open Option renaming bind_some→VK
open UInt8 renaming ofNat→UF,lt_iff_toNat_lt→U2,toNat_lt→U3
namespace Go.Sh
open Go
theorem iNc (n:Nat):UM n = (n:Int):=rfl
theorem oBs {α β:Type} (a:α) (f:α → Option β):(some a).bind f = f a:=rfl
theorem tNc (n:Nat):((n:Int)).toNat = n:=rfl
theorem lAp {α:Type} {as0 bs0:List α}:(as0 ++ bs0).length = as0.length + bs0.length:=JP
theorem dFa {p:Prop} [inst:Decidable p] (h:¬p):decide p = false:=decide_eq_false h
theorem dTr {p:Prop} [inst:Decidable p] (h:p):decide p = true:=decide_eq_true h
theorem w64 {n:Int} (h : -9223372036854775808 ≤ n ∧ n ≤ 9223372036854775807):Jx.wrap n = n:=IntWalk.i64_in n h
theorem wu8 {n:Int} (h:0 ≤ n ∧ n ≤ 255):UO.wrap n = n:=IntWalk.u8_in n h
theorem ZX {V R:Type} (step:(V → Option R) → V → Option R) (n:Nat) (v:V):Wh step (n + 1) v = step (Wh step n) v:=rfl
theorem Qw {a k:Nat} (h:a < k):∃ m,k = m + 1:=⟨k - 1,by omega⟩
theorem toList_eq (s:ByteArray):s.toList = s.data.toList:=ByteArray.toList_eq s
theorem ZfF (s:ByteArray):s.data.toList.length = s.size:=by rw [Array.length_toList]; rfl
theorem Zhl {a b:ByteArray} (h:a.data.toList = b.data.toList):a = b:=ByteArray.ext (Array.toList_inj.1 h)
theorem Y5 {a b:ByteArray}:a.toList = b.toList ↔ a = b:=by
 rw [toList_eq,toList_eq]
 exact ⟨Zhl,fun h => by rw [h]⟩
theorem Zhk (a b:ByteArray):(a.toList == b.toList) = decide (a = b):=by
 rw [UX]; simp [Y5]
def WR (a b:ByteArray):Bool:=Op.bytesLess a.toList b.toList
theorem Zcx:∀ (x:List UInt8),Op.bytesLess x x = false
 | [] => rfl
 | a :: x => by simp [Op.bytesLess,Zcx x]
theorem Zd7:∀ (x y z:List UInt8),Op.bytesLess x y = true → Op.bytesLess y z = true → Op.bytesLess x z = true
 | _,_,[],_,h => by cases ‹List UInt8› <;> simp [Op.bytesLess] at h
 | _,[],_ :: _,h,_ => by cases ‹List UInt8› <;> simp [Op.bytesLess] at h
 | [],_ :: _,_ :: _,_,_ => rfl
 | a :: x,b :: y,c :: z,h,k => by
  simp only [Op.bytesLess,V6,decide_eq_true_eq,Jh,beq_iff_eq] at h k ⊢
  rcases h with h | ⟨rfl,h⟩
  ·rcases k with k | ⟨rfl,k⟩
   ·exact .inl (UInt8.lt_trans h k)
   ·exact .inl h
  ·rcases k with k | ⟨rfl,k⟩
   ·exact .inl k
   ·exact .inr ⟨rfl,Zd7 x y z h k⟩
theorem Zd6:∀ (x y:List UInt8),Op.bytesLess x y = true ∨ x = y ∨ Op.bytesLess y x = true
 | [],[] => .inr (.inl rfl)
 | [],_ :: _ => .inl rfl
 | _ :: _,[] => .inr (.inr rfl)
 | a :: x,b :: y => by
  simp only [Op.bytesLess,V6,decide_eq_true_eq,Jh,beq_iff_eq,List.cons.injEq]
  have tri:a < b ∨ a = b ∨ b < a:=by
   rcases Nat.lt_trichotomy a.toNat b.toNat with h | h | h
   ·exact .inl (U2.2 h)
   ·exact .inr (.inl (UInt8.toNat_inj.1 h))
   ·exact .inr (.inr (U2.2 h))
  rcases tri with h | rfl | h
  ·exact .inl (.inl h)
  ·rcases Zd6 x y with h | rfl | h
   ·exact .inl (.inr ⟨rfl,h⟩)
   ·exact .inr (.inl ⟨rfl,rfl⟩)
   ·exact .inr (.inr (.inr ⟨rfl,h⟩))
  ·exact .inr (.inr (.inl h))
theorem WY (a:ByteArray):WR a a = false:=Zcx _
theorem ZaO {a b c:ByteArray} (h:WR a b = true) (k:WR b c = true):WR a c = true:=Zd7 _ _ _ h k
theorem ZeH (a b:ByteArray):WR a b = true ∨ a = b ∨ WR b a = true:=by
 rcases Zd6 a.toList b.toList with h | h | h
 ·exact .inl h
 ·exact .inr (.inl (Y5.1 h))
 ·exact .inr (.inr h)
theorem Zku (a b:ByteArray):(WR a b || decide (a = b)) = !(WR b a):=by
 rcases ZeH a b with h | rfl | h
 ·have:WR b a = false:=by
   cases h2:WR b a with
   | false => rfl
   | true => have:=ZaO h h2; rw [WY] at this; cases this
  simp [h,this]
 ·simp [WY]
 ·have h3:WR a b = false:=by
   cases h2:WR a b with
   | false => rfl
   | true => have:=ZaO h h2; rw [WY] at this; cases this
  have:a ≠ b:=by rintro rfl; rw [WY] at h; cases h
  simp [h,h3,this]
theorem Zi5 {v b:Nat} (hv:v < 1125899906842624) (hb:b < 256) :
  Jx.wrap (UM (BitVec.ofInt 64 (Jx.wrap ((v:Int) * 256)) ||| BitVec.ofInt 64 (Jx.wrap (UM b))).toNat) = ((v * 256 + b:Nat):Int):=by
 have e1:Jx.wrap ((v:Int) * 256) = ((v * 256:Nat):Int):=by rw [w64 (by omega)]; omega
 have e2:Jx.wrap (UM b) = ((b:Nat):Int):=by rw [w64 (by simp only [iNc]; omega)]; rfl
 rw [e1,e2,UV,UV,BitVec.toNat_or,UW,UW,U1 (by omega),U1 (by omega)]
 have h:=Nat.shiftLeft_add_eq_or_of_lt (i:=8) (show b < 2 ^ 8 from hb) v
 rw [Nat.shiftLeft_eq] at h
 rw [show v * 256 = v * 2 ^ 8 from rfl,← h]
 rw [w64 (by simp only [iNc]; omega)]
 rfl
theorem Zg1 {a:ByteArray} (h:a.size = 0):a = ⟨#[]⟩:=by
 apply Zhl
 have:=ZfF a
 rw [h] at this
 exact List.length_eq_zero_iff.1 this
theorem WG {p:Prop} [Decidable p] {α:Type} {a b:α} (h:p):(bif decide p then a else b) = a:=by simp [h]
theorem Zbl {p:Prop} [Decidable p] {α:Type} {a b:α} (h:¬ p):(bif decide p then a else b) = b:=by simp [h]
theorem ZiW (a b:Int):(a == b) = decide (a = b):=rfl
theorem Zdv (a b:Int):(a != b) = decide (¬ a = b):=by rw [bne,ZiW]; simp
theorem Zhq {α:Type} (b:Bool) (x y:α):(bif !b then x else y) = bif b then y else x:=by cases b <;> rfl
theorem WT {α:Type} {l:List α} {i:Nat} {d:α} (h:i < l.length):l.getD i d = l[i]:=by
 simp [List.getD_eq_getElem?_getD,h]
end Go.Sh
namespace Go.Sh
open Go Go.Proofs
abbrev ZN:=ByteArray × ByteArray × Unit
abbrev Nd:=Bool × Int × List ZN × Unit
def Z2 (c:ZN):Nat:=2 + c.1.size + c.2.1.size
def Zz (l:List ZN):Nat:=(l.map Z2).sum
theorem Zgt:Zz [] = 0:=rfl
theorem W7 (c:ZN) (l:List ZN):Zz (c :: l) = Z2 c + Zz l:=rfl
theorem KF (l m:List ZN):Zz (l ++ m) = Zz l + Zz m:=by
 induction l with
 | nil => simp [Zz]
 | cons c l ih => simp only [List.cons_append,W7,ih]; omega
theorem QZ {l:List ZN} {j:Nat} (h:j < l.length):Zz (l.take (j + 1)) = Zz (l.take j) + Z2 l[j]:=by
 rw [U0 h,KF]; rfl
theorem Xt (l:List ZN) (j:Nat):Zz (l.take j) ≤ Zz l:=by
 conv => rhs; rw [← List.take_append_drop j l,KF]
 omega
theorem X2:∀ (l:List ZN),2 * l.length ≤ Zz l
 | [] => Nat.le_refl _
 | c :: l => by have:=X2 l; simp only [W7,List.length_cons,Z2]; omega
theorem Ze9 (k:Nat) (c:ZN) (h:Z2 c ≤ 1099511627776):ZaE k (c,()) = some ((Z2 c:Int),()):=by
 obtain ⟨a,b,u⟩:=c
 unfold Z2 at *
 simp only [ZaE,Zel,UU] at *
 rw [w64 (n:=2 + (a.size:Int)) (by omega),w64 (by omega)]
 simp
theorem ZhX (k:Nat) (l:List ZN) (hk:l.length < k) (hb:Zz l ≤ 1099511627776):ZaD k (l,()) = some ((Zz l:Int),()):=by
 have loop:∀ (d m j:Nat),l.length - j = d → j ≤ l.length → d < m →
   Wh (fun L1 => Yv k L1) m (UM l.length,UM j,l,UM (Zz (l.take j))) = some ((Zz l:Int),()):=by
  intro d
  induction d with
  | zero =>
   intro m j hd hj hm
   obtain ⟨m,rfl⟩:=Qw hm
   obtain rfl:j = l.length:=by omega
   simp [ZX,Yv]
  | succ d ih =>
   intro m j hd hj hm
   obtain ⟨m,rfl⟩:=Qw hm
   have hlt:j < l.length:=by omega
   have hll:=X2 l
   have h1:=QZ hlt
   have h2:=Xt l (j + 1)
   have hc:=Ze9 k l[j] (by omega)
   have:=ih m (j + 1) (by omega) (by omega) (by omega)
   have e1:Jx.wrap ((j:Int) + 1) = ((j + 1:Nat):Int):=by rw [w64 (by omega)]; omega
   have e2:Jx.wrap ((Zz (l.take j):Int) + (Z2 l[j]:Int)) = ((Zz (l.take (j + 1)):Nat):Int):=by rw [w64 (by omega)]; omega
   simp [ZX,Yv,hlt,hc,e1,e2]
   simpa using this
 have:=loop l.length k 0 (by omega) (by omega) hk
 simpa [ZaD,Zbu,Zdq,Zz] using this
def Q0 (s:ByteArray) (i:Nat):Nat:=(s.data.toList.getD i 0).toNat
theorem XB (s:ByteArray) (i:Nat):Q0 s i < 256:=U3 _
def ZdB (s:ByteArray):Nat:=((Q0 s 0 * 256 + Q0 s 1) * 256 + Q0 s 2) * 256 + Q0 s 3
theorem ZhS (k:Nat) (c:ZN) (hk:4 < k) (h:4 ≤ c.2.1.size):ZaC k (c,()) = some ((ZdB c.2.1:Int),()):=by
 obtain ⟨a,s,u⟩:=c
 simp only at h
 have h0:=XB s 0
 have h1:=XB s 1
 have h2:=XB s 2
 have h3:=XB s 3
 have step:∀ (m i v:Nat),i < 4 → v < 16777216 → Wh (fun L1 => WH k L1) (m + 1) (UM i,UM v,a,s) = Wh (fun L1 => WH k L1) m (UM (i + 1),UM (v * 256 + Q0 s i),a,s):=by
  intro m i v hi hv
  have hb:=XB s i
  have e1:Jx.wrap ((i:Int) + 1) = ((i + 1:Nat):Int):=by rw [w64 (by omega)]; omega
  have e2:=Zi5 (v:=v) (b:=Q0 s i) (by omega) hb
  unfold Q0 at e2
  simp only [ZX,WH,UU,Int.toNat_natCast] at e2 ⊢
  rw [decide_eq_true (show (i:Int) < 4 by omega),decide_eq_true (show (0:Int) ≤ i ∧ (i:Int) < s.size by omega)]
  simp only [cond_true]
  rw [e1]
  show Wh (fun L1 => WH k L1) m _ = _
  congr 2
  simp only [Q0]
  rw [← e2]
 obtain ⟨m,rfl⟩:∃ m,k = m + 1 + 1 + 1 + 1 + 1:=⟨k - 5,by omega⟩
 have s0:=step (m + 1 + 1 + 1 + 1) 0 0 (by omega) (by omega)
 have s1:=step (m + 1 + 1 + 1) 1 (Q0 s 0) (by omega) (by omega)
 have s2:=step (m + 1 + 1) 2 (Q0 s 0 * 256 + Q0 s 1) (by omega) (by omega)
 have s3:=step (m + 1) 3 ((Q0 s 0 * 256 + Q0 s 1) * 256 + Q0 s 2) (by omega) (by omega)
 simp only [Nat.zero_mul,Nat.zero_add] at s0
 show Wh (fun L1 => WH _ L1) (m + 1 + 1 + 1 + 1 + 1) (UM 0,UM 0,a,s) = _
 rw [s0,s1,s2,s3]
 simp only [ZX,WH]
 rfl
def Zby (n:Int):ByteArray:=⟨#[UF (UO.wrap (n.fdiv 16777216)).toNat,UF (UO.wrap (n.fdiv 65536)).toNat,UF (UO.wrap (n.fdiv 256)).toNat,UF (UO.wrap n).toNat]⟩
theorem Zkb (k:Nat) (n:Int):Zej k (n,()) = some (Zby n,()):=rfl
theorem ZjX (k:Nat) (s:ByteArray) (n:Int):Zhw k (s,n,()) = some ((s,Zby n,()),()):=rfl
theorem Zbz (n:Int):(Zby n).size = 4:=rfl
def YA (b:Bool):Nat:=if b then 6 else 2
def Zak (n:Nd):Nat:=YA n.1 + Zz n.2.2.1
theorem Zj4 (k:Nat) (n:Nd) (hk:n.2.2.1.length < k) (hb:Zz n.2.2.1 ≤ 1099511627776):Zeg k (n,()) = some ((Zak n:Int),()):=by
 obtain ⟨b,f,l,u⟩:=n
 simp only at hk hb
 have h:=ZhX k l hk hb
 have e6:Jx.wrap (6 + (Zz l:Int)) = ((6 + Zz l:Nat):Int):=by rw [w64 (by omega)]; omega
 have e2:Jx.wrap (2 + (Zz l:Int)) = ((2 + Zz l:Nat):Int):=by rw [w64 (by omega)]; omega
 cases b
 ·simp [Zeg,Zbr,h,e2,Zak,YA]
 ·simp [Zeg,Zbr,h,e6,Zak,YA]
end Go.Sh
namespace Go.Sh
open Go Go.Proofs
def Q1 (b:Bool) (c:ZN):Bool:=decide (c.1.size ≠ 0) && decide (c.1.size ≤ 32) && (bif b then decide (c.2.1.size = 4) && decide (ZdB c.2.1 ≠ 0) else decide (c.2.1.size ≤ 48))
def chain (b:Bool):Option ByteArray → List ZN → Bool
 | _,[] => true
 | p,c :: l => Q1 b c && (match p with | none => true | some q => WR q c.1) && chain b (some c.1) l
def Qg (n:Nd):Bool:=decide (n.2.2.1.length ≤ 255) && (bif n.1 then decide (1 ≤ n.2.1) && decide (n.2.1 < 4294967296) else decide (n.2.1 = 0)) && chain n.1 none n.2.2.1
def WB (l:List ZN) (j:Nat):Option ByteArray:=if h:0 < j ∧ j - 1 < l.length then some l[j - 1].1 else none
theorem ZaN (l:List ZN):WB l 0 = none:=by simp [WB]
theorem ZaM (l:List ZN) (j:Nat) (h:j < l.length):WB l (j + 1) = some l[j].1:=by simp [WB,h]
theorem Zhp {b:Bool} {l:List ZN} {j:Nat} (h:j < l.length):chain b (WB l j) (l.drop j) = (Q1 b l[j] && (match WB l j with | none => true | some q => WR q l[j].1) && chain b (WB l (j + 1)) (l.drop (j + 1))):=by
 rw [List.drop_eq_getElem_cons h,ZaM l j h]; rfl
theorem ZgB {b:Bool} (l:List ZN) (p:Option ByteArray):chain b p (l.drop l.length) = true:=by simp [chain]
theorem ZgF (s:ByteArray):(s.toList == (UL #[]).toList) = decide (s.size = 0):=by
 rw [Zhk]
 rw [UX]
 simp only [decide_eq_true_eq]
 exact ⟨fun h => by rw [h]; rfl,Zg1⟩
theorem Zk5 (a b:ByteArray):(Op.bytesLess a.toList b.toList || (a.toList == b.toList)) = !(WR b a):=by
 rw [Zhk]; exact Zku a b
theorem ZhP (k:Nat) (hk:4 < k) (b:Bool) (f:Int) (l:List ZN) (hl:l.length ≤ 255):∀ (d m j:Nat),l.length - j = d → j ≤ l.length → d < m →
  Wh (fun L1 => XD k L1) m (UM l.length,UM j,l,b,f,l) = some (chain b (WB l j) (l.drop j),()):=by
 intro d
 induction d with
 | zero =>
  intro m j hd hj hm
  obtain ⟨m,rfl⟩:=Qw hm
  obtain rfl:j = l.length:=by omega
  rw [ZgB]
  simp [ZX,XD]
 | succ d ih =>
  intro m j hd hj hm
  obtain ⟨m,rfl⟩:=Qw hm
  have hlt:j < l.length:=by omega
  have h0:=ih m (j + 1) (by omega) (by omega) (by omega)
  have e1:Jx.wrap (UM j + 1) = UM (j + 1):=by rw [w64 (by simp only [UU]; omega)]; rfl
  rw [Zhp hlt]
  generalize hL:Wh (fun L1 => XD k L1) m = L at *
  rw [ZX,hL]
  simp only [XD,e1,h0]
  have g0:decide (UM j < UM l.length) = true:=decide_eq_true (by simp only [UU]; omega)
  have g1:decide ((0:Int) ≤ UM j ∧ UM j < UM l.length) = true:=decide_eq_true (by simp only [UU]; omega)
  have g2:l.getD (UM j).toNat (UL #[],UL #[],()) = l[j]:=WT hlt
  simp only [g0,g1,g2,cond_true]
  generalize hc:l[j] = c at *
  have hch:c.2.1.size = 4 → ZaC k ((c.1,c.2.1,()),()) = some ((ZdB c.2.1:Int),()):=fun h => ZhS k (c.1,c.2.1,()) hk (by simp only; omega)
  simp only [ZgF,Zk5]
  have fin:∀ (pb:Bool),(bif !pb then some (false,()) else
    bif b then bif UM c.2.1.size != (4:Int) then some (false,()) else (ZaC k ((c.1,c.2.1,()),())).bind fun y => bif y.1 == (0:Int) then some (false,()) else bif !b then bif decide ((48:Int) < UM c.2.1.size) then some (false,()) else some (chain b (WB l (j + 1)) (UP (j + 1) l),()) else some (chain b (WB l (j + 1)) (UP (j + 1) l),())
    else bif !b then bif decide ((48:Int) < UM c.2.1.size) then some (false,()) else some (chain b (WB l (j + 1)) (UP (j + 1) l),()) else some (chain b (WB l (j + 1)) (UP (j + 1) l),())) =
    some ((bif b then decide (c.2.1.size = 4) && decide (ZdB c.2.1 ≠ 0) else decide (c.2.1.size ≤ 48)) && pb && chain b (WB l (j + 1)) (UP (j + 1) l),()):=by
   intro pb
   cases pb
   ·simp
   ·cases b
    ·by_cases h48:48 < c.2.1.size
     ·have:¬ c.2.1.size ≤ 48:=by omega
      have h48':(48:Int) < (c.2.1.size:Int):=by omega
      simp [h48',this]
     ·have:c.2.1.size ≤ 48:=by omega
      have h48':¬ (48:Int) < (c.2.1.size:Int):=by omega
      simp [h48',this]
    ·by_cases h4:c.2.1.size = 4
     ·by_cases hz:ZdB c.2.1 = 0
      ·simp [hch h4,h4,hz]
      ·have:¬ ((ZdB c.2.1:Int)) = 0:=by omega
       have hb:(((ZdB c.2.1:Nat):Int) == 0) = false:=by simpa using this
       simp [hch h4,h4,hz,hb]
     ·have:((c.2.1.size:Int) != 4) = true:=by rw [Zdv]; simp; omega
      simp [h4,this]
  by_cases c1:c.1.size = 0
  ·simp [c1,Q1]
  ·by_cases c2:c.1.size ≤ 32
   ·have c2':¬ (32:Int) < (c.1.size:Int):=by omega
    cases j with
    | zero =>
     have:=fin true
     simp only [Bool.not_true,cond_false] at this
     simp only [c1,c2',decide_false,cond_false,UU,Int.lt_irrefl,Int.natCast_zero,ZaN,Q1,c2,decide_true,UC,ne_eq,not_false_eq_true] at this ⊢
     exact this
    | succ i =>
     have hi:i < l.length:=by omega
     have:=fin (WR l[i].1 c.1)
     have e2:Jx.wrap (UM (i + 1) - 1) = UM i:=by rw [w64 (by simp only [UU]; omega)]; simp only [UU]; omega
     have e3:decide ((0:Int) < UM (i + 1)) = true:=decide_eq_true (by simp only [UU]; omega)
     have e4:decide ((0:Int) ≤ UM i ∧ UM i < UM l.length) = true:=decide_eq_true (by simp only [UU]; omega)
     have e5:l.getD (UM i).toNat (UL #[],UL #[],()) = l[i]:=WT hi
     have e6:decide ((32:Int) < UM c.1.size) = false:=decide_eq_false (by simpa using c2')
     rw [ZaM l i hi]
     simp only [c1,decide_false,cond_false,e2,e3,e4,e5,e6,cond_true,Q1,c2,decide_true,UC,ne_eq,not_false_eq_true]
     exact this
   ·have c2':(32:Int) < (c.1.size:Int):=by omega
    simp [c1,c2,c2',Q1]
theorem Zac (k:Nat) (n:Nd) (hk:256 < k):Y7 k (n,()) = some (Qg n,()):=by
 obtain ⟨b,f,l,u⟩:=n
 by_cases hl:l.length ≤ 255
 ·have h:=ZhP k (by omega) b f l hl l.length k 0 (by omega) (by omega) (by omega)
  rw [ZaN,List.drop_zero] at h
  have h':Zdm k (UM l.length,0,l,b,f,l) = some (chain b none l,()):=h
  have h1:¬ (255:Int) < UM l.length:=by simp only [UU]; omega
  unfold Y7
  simp only [KM,h',Qg,hl,decide_true,UC,decide_eq_false h1,cond_false]
  cases b
  ·by_cases hf:f = 0
   ·simp [hf]
   ·have:(f != 0) = true:=by simpa using hf
    simp [hf,this]
  ·by_cases h1:f < 1
   ·have:¬ 1 ≤ f:=by omega
    simp [h1,this]
   ·have:1 ≤ f:=by omega
    by_cases h2:4294967296 ≤ f
    ·have:¬ f < 4294967296:=by omega
     simp [h1,h2,this]
    ·have h3:f < 4294967296:=by omega
     simp [h1,h2,h3,this]
 ·have h1:(255:Int) < UM l.length:=by simp only [UU]; omega
  unfold Y7
  simp only [KM,Qg,hl,decide_false,Bool.false_and,decide_eq_true h1,cond_true]
end Go.Sh
namespace Go.Sh
open Go Go.Proofs
theorem Wp {b:Bool}:∀ {l:List ZN} {p:Option ByteArray},chain b p l = true → ∀ c ∈ l,Q1 b c = true
 | [],_,_,c,hc => by cases hc
 | d :: l,p,h,c,hc => by
  simp only [chain,Jh] at h
  rcases VM.1 hc with rfl | hc
  ·exact h.1.1
  ·exact Wp h.2 c hc
theorem Wb {n:Nd} (h:Qg n = true):chain n.1 none n.2.2.1 = true:=by
 unfold Qg at h; simp only [Jh] at h; exact h.2
theorem W0 {n:Nd} (h:Qg n = true):n.2.2.1.length ≤ 255:=by
 unfold Qg at h; simp only [Jh,decide_eq_true_eq] at h; exact h.1.1
theorem Kn {b:Bool} {c:ZN} (h:Q1 b c = true):0 < c.1.size ∧ c.1.size ≤ 32:=by
 unfold Q1 at h; simp only [Jh,decide_eq_true_eq] at h; omega
theorem Zaz {c:ZN} (h:Q1 true c = true):c.2.1.size = 4 ∧ ZdB c.2.1 ≠ 0:=by
 unfold Q1 at h; simp only [Jh,decide_eq_true_eq,cond_true] at h; exact h.2
theorem Ko {b:Bool} {c:ZN} (h:Q1 b c = true):c.2.1.size ≤ 48:=by
 cases b
 ·unfold Q1 at h; simp only [Jh,decide_eq_true_eq,cond_false] at h; exact h.2
 ·have:=Zaz h; omega
def dflt:ZN:=(UL #[],UL #[],())
theorem Zj3 (k:Nat) (n:Nd):ZhD k (n,()) = some (n,()):=rfl
end Go.Sh
namespace Go.Sh
open Go Go.Proofs
def Qq (c:ZN):List Int:=[UM c.1.size,UM c.2.1.size] ++ ZQ c.1 ++ ZQ c.2.1
def XL (n:Nd):List Int:=[bif n.1 then 2 else 1,UM n.2.2.1.length] ++ (bif n.1 then ZQ (Zby n.2.1) else [])
def XK (n:Nd):List Int:=XL n ++ n.2.2.1.flatMap Qq
def Zii (n:Nd):List Int:=XK n ++ Jd (256 - (XK n).length) 0
theorem Kt (s:ByteArray):(ZQ s).length = s.size:=by simp [ZQ]
theorem Zec (c:ZN):(Qq c).length = Z2 c:=by simp [Qq,Kt,Z2]; omega
theorem Zae:∀ (l:List ZN),(l.flatMap Qq).length = Zz l
 | [] => rfl
 | c :: l => by rw [List.flatMap_cons,JP,Zec,Zae l,W7]
theorem Zeu (n:Nd):(XL n).length = YA n.1:=by
 unfold XL YA
 cases n.1 <;> simp [Kt,Zbz]
theorem Zad (k:Nat) (xs:List Int) (c:Int) (h:xs.length < 1000000):KN k (xs,c,()) = some (Value.nilIface,xs ++ [c],()):=by
 unfold KN
 simp only [Zem,ZaF,VK]
 rw [WG (by simp; omega)]
theorem Zfb (k:Nat) (xs:List Int) (s:ByteArray) (h:xs.length + s.size < 1000000):Zbv k (xs,s,()) = some ((UM s.size,Value.nilIface,()),xs ++ ZQ s,()):=by
 unfold Zbv
 simp only [Zen,ZaF,VK]
 rw [WG (by simp; omega)]
 rfl
theorem Zkh (k:Nat) (xs ys:List Int) (h:xs.length + ys.length < 1000000):Zf6 k (xs,ys,()) = some ((UM ys.length,Value.nilIface,()),xs ++ ys,()):=by
 unfold Zf6
 simp only [Zeo,ZaF,VK]
 rw [WG (by omega)]
theorem YJ {s:ByteArray}:∀ n ∈ ZQ s,0 ≤ n ∧ n < 256:=by
 intro n hn
 simp only [ZQ,List.mem_map] at hn
 obtain ⟨b,_,rfl⟩:=hn
 have:=U3 b
 omega
theorem KK {c:ZN} (h1:c.1.size < 256) (h2:c.2.1.size < 256):∀ n ∈ Qq c,0 ≤ n ∧ n < 256:=by
 intro n hn
 simp only [Qq,Js,VM,Uv,or_false] at hn
 rcases hn with ((rfl | rfl) | hn) | hn
 ·simp only [UU]; omega
 ·simp only [UU]; omega
 ·exact YJ n hn
 ·exact YJ n hn
theorem Zcy {n:Nd} (h:Qg n = true):∀ x ∈ XK n,0 ≤ x ∧ x < 256:=by
 intro x hx
 have hl:=W0 h
 simp only [XK,XL,Js,VM,Uv,or_false,UZ] at hx
 rcases hx with ((rfl | rfl) | hx) | ⟨c,hc,hx⟩
 ·cases n.1 <;> simp
 ·simp only [UU]; omega
 ·cases hb:n.1 with
  | true => rw [hb] at hx; exact YJ x hx
  | false => rw [hb] at hx; simp at hx
 ·have hok:=Wp (Wb h) c hc
  exact KK (by have:=Kn hok; omega) (by have:=Ko hok; omega) x hx
def ZkG (n:Nd):ByteArray × Int × Unit:=bif Qg n then (bif decide (256 < Zak n) then (UL #[],14,()) else (bytesOf (Zii n),0,())) else (UL #[],2,())
theorem Zeh (k:Nat) (l:List ZN) (pre:List Int) (hl:l.length ≤ 255) (hb:pre.length + Zz l ≤ 256) (hp:∀ x ∈ pre,0 ≤ x ∧ x < 256) (hc:∀ c ∈ l,c.1.size ≤ 32 ∧ c.2.1.size ≤ 48) :
  ∀ (d m j:Nat),l.length - j = d → j ≤ l.length → d < m →
  Wh (fun L1 => Yu k L1) m (UM l.length,UM j,l,pre ++ (l.take j).flatMap Qq) =
   some ((bytesOf (pre ++ l.flatMap Qq ++ Jd (256 - (pre ++ l.flatMap Qq).length) 0),0,()),()):=by
 intro d
 induction d with
 | zero =>
  intro m j hd hj hm
  obtain ⟨m,rfl⟩:=Qw hm
  obtain rfl:j = l.length:=by omega
  simp only [ZX,Yu,List.take_length]
  have hlen:(pre ++ l.flatMap Qq).length = pre.length + Zz l:=by rw [JP,Zae]
  generalize hq:pre ++ l.flatMap Qq = q at *
  have e:Jx.wrap ((256:Int) - UM q.length) = UM (256 - q.length):=by rw [w64 (by simp only [UU]; omega)]; simp only [UU]; omega
  rw [Zbl (by simp only [UU]; omega)]
  have h36:ZhZ k (q,()) = some (UM q.length,q,()):=rfl
  rw [h36]
  simp only [VK,e]
  rw [WG (by simp only [UU]; omega)]
  rw [show (UM (256 - q.length)).toNat = 256 - q.length from rfl,Zkh _ _ _ (by simp; omega)]
  simp only [VK]
  have h37:Zep k (q ++ Jd (256 - q.length) 0,()) = some (bytesOf (q ++ Jd (256 - q.length) 0),()):=by
   unfold Zep Ziw
   have:(decide ((q ++ Jd (256 - q.length) (0:Int)).length < 1099511627776) && (q ++ Jd (256 - q.length) (0:Int)).all (fun n => decide (0 ≤ n ∧ n < 256))) = true:=by
    rw [Jh]
    refine ⟨decide_eq_true (by simp; omega),List.all_eq_true.2 fun x hx => decide_eq_true ?_⟩
    rcases Js.1 hx with hx | hx
    ·rw [← hq] at hx
     rcases Js.1 hx with hx | hx
     ·exact hp x hx
     ·obtain ⟨c,hcm,hx⟩:=UZ.1 hx
      have:=hc c hcm
      exact KK (by omega) (by omega) x hx
    ·rw [(List.mem_replicate.1 hx).2]; omega
   simp only [this,cond_true]
  rw [h37]
  rfl
 | succ d ih =>
  intro m j hd hj hm
  obtain ⟨m,rfl⟩:=Qw hm
  have hlt:j < l.length:=by omega
  have h0:=ih m (j + 1) (by omega) (by omega) (by omega)
  have e1:Jx.wrap (UM j + 1) = UM (j + 1):=by rw [w64 (by simp only [UU]; omega)]; rfl
  simp only [ZX,Yu,e1]
  have e5:l.getD (UM j).toNat (UL #[],UL #[],()) = l[j]:=WT hlt
  have hcj:=hc l[j] (List.getElem_mem hlt)
  have hts:=QZ hlt
  have htl:=Xt l (j + 1)
  have hpl:(pre ++ (l.take j).flatMap Qq).length = pre.length + Zz (l.take j):=by rw [JP,Zae]
  have hcs:Z2 l[j] = 2 + l[j].1.size + l[j].2.1.size:=rfl
  rw [WG (by simp only [UU]; omega),WG (by simp only [UU]; omega),e5]
  rw [wu8 (n:=UM l[j].1.size) (by simp only [UU]; omega),wu8 (n:=UM l[j].2.1.size) (by simp only [UU]; omega)]
  rw [Zad _ _ _ (by omega)]
  simp only [VK]
  rw [Zad _ _ _ (by simp only [JP,Us] at hpl ⊢; omega)]
  simp only [VK]
  rw [Zfb _ _ _ (by simp only [JP,Us] at hpl ⊢; omega)]
  simp only [VK]
  rw [Zfb _ _ _ (by simp only [JP,Us,Kt] at hpl ⊢; omega)]
  simp only [VK]
  have e6:pre ++ (l.take j).flatMap Qq ++ [UM l[j].1.size] ++ [UM l[j].2.1.size] ++ ZQ l[j].1 ++ ZQ l[j].2.1 = pre ++ (l.take (j + 1)).flatMap Qq:=by
   rw [U0 hlt,List.flatMap_append]
   simp [Qq]
  rw [e6]
  exact h0
theorem Zj8 (k:Nat) (hk:256 < k) (n:Nd) (hb:Zz n.2.2.1 ≤ 1099511627776) (hn:n.2.2.1.length < k):Zf1 k (n,()) = some (ZkG n,()):=by
 obtain ⟨b,f,l,u⟩:=n
 simp only at hb hn
 unfold Zf1
 simp only [Zbt]
 rw [Zac k _ hk]
 unfold ZkG
 cases hr:Qg (b,f,l,()) with
 | false => simp
 | true =>
  simp only [VK,Bool.not_true,cond_false,cond_true]
  rw [Zj4 k (b,f,l,()) hn hb]
  simp only [VK]
  by_cases hs:256 < Zak (b,f,l,())
  ·rw [WG (by omega),WG (by omega)]
  ·have hs2:Zak (b,f,l,()) = YA b + Zz l:=rfl
   have hl:=W0 hr
   simp only at hl
   have hok:∀ c ∈ l,c.1.size ≤ 32 ∧ c.2.1.size ≤ 48:=fun c hc => ⟨(Kn (Wp (Wb hr) c hc)).2,Ko (Wp (Wb hr) c hc)⟩
   rw [Zbl (by omega),Zbl (by omega)]
   rw [Zad _ _ _ (by simp),Zad _ _ _ (by simp)]
   simp only [VK]
   rw [Zad _ _ _ (by simp),Zad _ _ _ (by simp)]
   simp only [VK]
   rw [wu8 (n:=UM l.length) (by simp only [UU]; omega)]
   cases b with
   | true =>
    simp only [cond_true]
    rw [Zkb]
    simp only [VK]
    rw [Zfb _ _ _ (by simp [Zbz])]
    simp only [VK]
    have h:=Zeh k l (XL (true,f,l,())) hl (by rw [Zeu]; show YA true + Zz l ≤ 256; omega) (fun x hx => Zcy hr x (by unfold XK; exact JG _ hx)) hok l.length k 0 (by omega) (by omega) (by omega)
    simp only [List.take_zero,UY,Vg] at h
    exact h
   | false =>
    simp only [cond_false]
    have h:=Zeh k l (XL (false,f,l,())) hl (by rw [Zeu]; show YA false + Zz l ≤ 256; omega) (fun x hx => Zcy hr x (by unfold XK; exact JG _ hx)) hok l.length k 0 (by omega) (by omega) (by omega)
    simp only [List.take_zero,UY,Vg] at h
    exact h
theorem ZkU (k:Nat) (hk:256 < k):ZiT k () = some (true,()):=by
 unfold ZiT
 simp only [Zf7]
 rw [Zj8 k hk (false,0,[(UL #[OfNat.ofNat (97:Nat)],UL #[OfNat.ofNat (49:Nat)],())],()) (by decide) (by simp; omega)]
 kernel_rfl
end Go.Sh
