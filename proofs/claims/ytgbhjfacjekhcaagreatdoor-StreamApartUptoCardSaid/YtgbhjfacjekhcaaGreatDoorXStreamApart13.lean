/-
  What the row needs, part 13.
-/
import Derived.Test.YtgbhjfacjekhcaaGreatDoorXStreamApart12
import Derived.Lib.ItoaNum
set_option linter.unusedSimpArgs false
set_option linter.unusedVariables false
set_option linter.unusedSectionVars false
open BitVec renaming ofInt→UN,ofNat→Hx,toNat_ofInt→Ei,allOnes→Et,toNat_and→HQ,toNat_not→Eu,toNat_or→Ev,xor_allOnes→Ew,xor_zero→Ey
open Bool renaming not_true→Hz,false_eq_true→JJ,and_eq_true→Jh,true_and→UC,true_eq_false→HR,not_false→Ej
open ByteArray renaming mk→UZ
open Eq renaming trans→Hn
open Go.FloatKind renaming f64→Je
open Int renaming ofNat→UJ,eq_ofNat_of_zero_le→Vp,fdiv→UT,fdiv_eq_ediv_of_nonneg→HC,le_refl→Ek,natCast_mul→HI,one_mul→El,pow_pos→Hm,toNat_natCast→Uj
open Go.IntKind renaming i64→Jx,u64→UO,u8→UQ
open List renaming drop_zero→U9,replicate→Jd,length_cons→JF,getElem_mem→Ha,length_nil→HY,all_eq_true→Vf,append_assoc→Ju,length_take→Jz,flatMap_cons→Hi,length→UP,length_drop→Vi,mem_cons_self→Jm,mem_cons_of_mem→Jn,all_cons→UA,drop→US,getElem_zip→Ed,mem_map→VG,mem_of_mem_take→JT,mem_cons→VM,nil_append→VT,takeWhile_cons→Ht,drop_eq_getElem_cons→Ul,foldl_cons→HW,length_singleton→Us,length_zip→Ee,drop_eq_nil_of_le→UL,length_append→JP,mem_append→Js,mem_of_mem_drop→JS,take→UR,take_length→Ef,any_cons→HK,any_eq_false→Uk,append_nil→Vg,flatMap_append→Em,getElem?_eq_getElem→VO,length_map→Eo,length_range→U8,length_replicate→Ur,map_cons→JR,take_of_length_le→Ep,drop_append→Ez,ext_getElem→HV,ext_getElem?→Jr,getElem_cons_succ→EA,getElem_cons_zero→EB,getElem_map→EC,getElem_of_mem→ED,map_nil→VE,mem_singleton→Vx,of_mem_zip→Vy,take_add_one→EE
open Nat renaming pow_le_pow_right→Hr,zero_le→UH,min_eq_left→Hl,mul_le_mul→J4,zero_add→Ub,pow_pos→Hj,add_mul→Jg,mod_lt→U1,div_le_self→Eg,le_refl→Jj,le_trans→VI,one_mul→Jp,shiftLeft_add_eq_or_of_lt→Eh,shiftLeft_eq→Hs,add_zero→JH,and_two_pow_sub_one_eq_mod→HL,mod_le→Er,or_lt_two_pow→Es,pow_succ→HN,and_one_is_mod→HZ,le_mul_of_pos_left→EF,lt_of_le_of_lt→Hb,lt_of_lt_of_le→V0,mul_le_mul_left→EG
open Option renaming bind→Ec,some→VF
namespace Go.Sh
open Go Go.Proofs
def Z0 (n:Int):Nat:=if n < 0 then (-2 * n - 1).toNat else (2 * n).toNat
theorem ZzX {a:Int} {n:Int} (ha : -1152921504606846976 ≤ a ∧ a ≤ 1152921504606846976) (hn:(a < 0 ↔ n < 0)) (hn' : -1152921504606846976 ≤ n ∧ n ≤ 1152921504606846976) :
  Jx.wrap (UJ (UN 64 a ^^^ UN 64 (n.fdiv 9223372036854775808)).toNat) = if n < 0 then -a - 1 else a:=by
 by_cases h:n < 0
 ·have e1:n.fdiv 9223372036854775808 = -1:=by grind
  rw [e1,if_pos h,show UN 64 (-1) = Et 64 from by decide,Ew,Eu,Ei]
  have:((a % ((2 ^ 64:Nat):Int)).toNat) = (a + 18446744073709551616).toNat:=by omega
  rw [this]
  have e2:UJ (2 ^ 64 - 1 - (a + 18446744073709551616).toNat) = -a - 1:=by simp only [QY]; omega
  rw [e2,Z2 (by omega)]
 ·have e1:n.fdiv 9223372036854775808 = 0:=by grind
  rw [e1,if_neg h,show UN 64 0 = 0#64 from rfl,Ey,Ei]
  have:UJ ((a % ((2 ^ 64:Nat):Int)).toNat) = a:=by simp only [QY]; omega
  rw [this,Z2 (by omega)]
theorem Zr5 (k:Nat) {n:Int} (h:ZG n):Zg6 k (n,()) = some ((((Z0 n:Nat):Int),0,()),()):=by
 show Zkx k _ = _
 simp only [Zkx]
 unfold ZG at h
 rw [Zl (by omega),Zl (by omega),Z2 (n:=n * 2) (by omega),ZzX (by omega) (by omega) (by omega)]
 unfold Z0
 congr 3
 split <;> omega
theorem Zp3 {n:Int} (h:ZG n):Z0 n < 4294967296:=by
 unfold ZG at h
 unfold Z0
 split <;> omega
def Yt (n:Int):Nat:=Lib.bitLen (if n < 0 then (-n - 1).toNat else n.toNat) + 1
theorem Zn7 {n:Int} (h:ZG n):Yt n ≤ 32:=by
 unfold ZG at h
 unfold Yt
 have:=Lib.bitLen_le (if n < 0 then (-n - 1).toNat else n.toNat) 31 (by omega) (by split <;> omega)
 omega
theorem ZFw {n:Int} (h:ZG n) {w:Nat} (hw:Yt n ≤ w):Xg n w = true:=by
 unfold Yt at hw
 unfold Xg
 unfold ZG at h
 rw [if_neg (by omega),decide_eq_true_eq]
 generalize hm:(if n < 0 then (-n - 1).toNat else n.toNat) = m at hw
 have hm':m < 2 ^ 64:=by rw [← hm]; split <;> omega
 have hlt:m < 2 ^ (w - 1):=by
  by_cases h0:m = 0
  ·rw [h0]; exact Hj (by omega)
  ·have:=(Lib.bitLenAux_bounds 64 m hm' h0).2.2
   exact V0 this (Hr (by omega) (by unfold Lib.bitLen at hw; omega))
 grind
theorem ZG2 (k:Nat) {n:Int} (h:ZG n):ZAY k (n,()) = some (((Yt n:Nat):Int),()):=by
 show Zk1 k _ = _
 simp only [Zk1]
 have hb:=Zn7 h
 unfold ZG at h
 rw [ZzX (by omega) (by omega) (by omega)]
 have e1:UO.wrap (if n < 0 then -n - 1 else n) = (((if n < 0 then (-n - 1).toNat else n.toNat):Nat):Int):=by
  rw [IntKind.wrap_u64]; split <;> omega
 rw [e1]
 have e2:Zux k ((((if n < 0 then (-n - 1).toNat else n.toNat):Nat):Int),()) = some (((Lib.bitLen (if n < 0 then (-n - 1).toNat else n.toNat):Nat):Int),()):=by
  show ZMJ _ = _
  unfold ZMJ
  grind
 rw [e2]
 simp only [ZX]
 unfold Yt at hb ⊢
 rw [Z2 (by omega)]
 push_cast
 rfl
theorem ZGh (k:Nat) {m:Int} (h:m = 0 ∨ m = 1):Zeq k (m,()) = some (if m = 0 then 15 else 31,()):=by
 rcases h with rfl | rfl <;> rfl
def Xe (m:Int):Nat:=if m = 0 then 15 else 31
theorem Zcd (k:Nat) {m:Int} (h:m = 0 ∨ m = 1):Zeq k (m,()) = some (((Xe m:Nat):Int),()):=by
 rw [ZGh k h]; unfold Xe; split <;> rfl
abbrev Prt:=Int × Int × Int × Unit
def QN (l:List Int):Nat:=l.foldl (fun w n => if n = 0 then w else max w (Yt n)) 0
def ZhF:List Nat → Nat
 | [] => 0
 | x :: l => x + ZhF l
def Zft (l:List Int) (kk:Nat):Nat:=(kk + 1) * l.length + ZhF (l.map fun n => Z0 n / 2 ^ kk)
def Zmy (l:List Int) (kk:Nat):Bool:=l.any fun n => decide (65536 < Z0 n / 2 ^ kk)
def ZgK (l:List Int) (B:Prt × Bool) (kk:Nat):Prt × Bool :=
 if Zmy l kk = false ∧ (B.2 = false ∨ ((Zft l kk:Nat):Int) < B.1.2.2.1) then (((kk:Int),0,((Zft l kk:Nat):Int),()),true) else B
def kF (l:List Int):Nat → Nat → Prt × Bool → Prt × Bool
 | 0,_,B => B
 | d + 1,kk,B => kF l d (kk + 1) (ZgK l B kk)
def Q7 (l:List Int) (m:Int):Prt × Bool :=
 let B:=kF l (Xe m) 0 ((0,0,0,()),false)
 if QN l ≤ 31 ∧ (B.2 = false ∨ ((5 + QN l * l.length:Nat):Int) < B.1.2.2.1) then (((Xe m:Nat),((QN l:Nat):Int),((5 + QN l * l.length:Nat):Int),()),true) else B
theorem ZP5 {l:List Nat} {b:Nat} (h:∀ x ∈ l,x ≤ b):ZhF l ≤ l.length * b:=by
 induction l with
 | nil => simp [ZhF]
 | cons x l ih =>
  have h1:=h x (Jm ..)
  have h2:=ih fun y hy => h y (Jn _ hy)
  simp only [ZhF,JF,Jg,Jp]
  omega
theorem ZhI:∀ (l:List Int) (w:Nat),(∀ x ∈ l,ZG x) → w ≤ 32 → w ≤ l.foldl (fun w n => if n = 0 then w else max w (Yt n)) w ∧ l.foldl (fun w n => if n = 0 then w else max w (Yt n)) w ≤ 32 ∧
   ∀ x ∈ l,x ≠ 0 → Yt x ≤ l.foldl (fun w n => if n = 0 then w else max w (Yt n)) w
 | [],w,_,hw => ⟨Jj _,hw,by simp⟩
 | x :: l,w,hl,hw => by
  simp only [HW]
  have hx:=Zn7 (hl x (Jm ..))
  have h1:(if x = 0 then w else max w (Yt x)) ≤ 32:=by split <;> omega
  obtain ⟨a,b,c⟩:=ZhI l _ (fun y hy => hl y (Jn _ hy)) h1
  grind
theorem Ztx {l:List Int} (hl:∀ x ∈ l,ZG x):∀ x ∈ l,Xg x (QN l) = true:=by
 intro x hx
 obtain ⟨_,_,h⟩:=ZhI l 0 hl (by omega)
 by_cases h0:x = 0
 ·subst h0
  unfold Xg
  split
  ·rfl
  ·rw [decide_eq_true_eq]
   have hp:(0:Int) < 2 ^ (QN l - 1):=Hm (by omega)
   omega
 ·exact ZFw (hl x hx) (h x hx h0)
theorem ZsW {n:Int} (h:ZG n) (kk:Nat):Z0 n / 2 ^ kk ≤ 4294967295:=by
 have:=Zp3 h
 have:=Eg (Z0 n) (2 ^ kk)
 omega
theorem ZFq:ZbS = Zeq:=Zr3
theorem ZTr:Zkw = Zg6:=Zr4
theorem ZAS (k:Nat) (L2:Int × Int × List Int × Bool × Int × Int × List Int × Int × Int × Int × Int × Int × Int → Option (((Int × Int × Int × Unit) × Bool × Unit) × Unit))
  {l:List Int} (hl:∀ x ∈ l,ZG x) (hn:l.length ≤ 512) (hk:l.length < k) {kk:Nat} (hkk:kk ≤ 31) (ok:Bool) (e w m b0 b1 b2 c0 c1 c2:Int) :
  Zif k L2 (UJ l.length,(0:Int),((kk + 1) * l.length:Nat),(kk:Int),false,ok,(kk:Int),e,l,w,m,l.map fun n => ((Z0 n:Nat):Int),b0,b1,b2,c0,c1,c2) =
   L2 (e,((kk + 1:Nat):Int),l,(ZgK l ((b0,b1,b2,()),ok) kk).2,w,m,l.map fun n => ((Z0 n:Nat):Int),(ZgK l ((b0,b1,b2,()),ok) kk).1.1,(ZgK l ((b0,b1,b2,()),ok) kk).1.2.1,(ZgK l ((b0,b1,b2,()),ok) kk).1.2.2.1,c0,c1,c2):=by
 have hml:(l.map fun n => ((Z0 n:Nat):Int)).length = l.length:=by simp
 have:=Zs (A:=Int × Bool) (R:=((Int × Int × Int × Unit) × Bool × Unit) × Unit) (step:=fun L3 => Zcq k L2 L3) (fun i a => (UJ l.length,UJ i,a.1,(kk:Int),a.2,ok,(kk:Int),e,l,w,m,l.map (fun n => ((Z0 n:Nat):Int)),b0,b1,b2,c0,c1,c2)) l
  (fun l' a => bif !(a.2 || Zmy l' kk) then bif !ok then L2 (e,((kk + 1:Nat):Int),l,true,w,m,l.map (fun n => ((Z0 n:Nat):Int)),(kk:Int),0,a.1 + (ZhF (l'.map fun n => Z0 n / 2 ^ kk):Nat),c0,c1,c2)
    else bif decide (a.1 + (ZhF (l'.map fun n => Z0 n / 2 ^ kk):Nat) < b2) then L2 (e,((kk + 1:Nat):Int),l,true,w,m,l.map (fun n => ((Z0 n:Nat):Int)),(kk:Int),0,a.1 + (ZhF (l'.map fun n => Z0 n / 2 ^ kk):Nat),c0,c1,c2)
    else L2 (e,((kk + 1:Nat):Int),l,ok,w,m,l.map (fun n => ((Z0 n:Nat):Int)),b0,b1,b2,c0,c1,c2)
   else L2 (e,((kk + 1:Nat):Int),l,ok,w,m,l.map (fun n => ((Z0 n:Nat):Int)),b0,b1,b2,c0,c1,c2))
  (fun i a => 0 ≤ a.1 ∧ a.1 ≤ 16384 + (i:Int) * 4294967296)
  (fun L a _ => by
   simp only [Zcq]
   rw [Zl (Zaa _),Z2 (n:=(kk:Int) + 1) (by omega)]
   simp_all [Zmy,List.any_nil,Bool.or_false,VE,ZhF,Int.natCast_zero,Int.add_zero])
  (fun L i hi a ha hL => by
   simp only [Zcq]
   have hx:=hl l[i] (Ha hi)
   have hp:=ZsW hx kk
   have hg:(l.map fun n => ((Z0 n:Nat):Int)).getD (Int.toNat (UJ i)) 0 = ((Z0 l[i]:Nat):Int):=by
    simp_all
   rw [Zb (KX hi),Zb (by rw [hml]; exact Ya hi),Zb (by rw [hml]; simpa using hi),Zb (by omega),hg]
   simp only [Xa,Hl (show kk ≤ 64 by omega),Ze2]
   have hfar:Zmy (l[i] :: l.drop (i + 1)) kk = (decide (65536 < Z0 l[i] / 2 ^ kk) || Zmy (l.drop (i + 1)) kk):=by unfold Zmy; rw [HK]
   have hsum:a.1 + ((ZhF ((l[i] :: l.drop (i + 1)).map fun n => Z0 n / 2 ^ kk):Nat):Int) = a.1 + ((Z0 l[i] / 2 ^ kk:Nat):Int) + ((ZhF ((l.drop (i + 1)).map fun n => Z0 n / 2 ^ kk):Nat):Int):=by
    grind [ZhF]
   generalize Z0 l[i] / 2 ^ kk = q at hp hfar hsum ⊢
   have hi5:(i:Int) ≤ 512:=by omega
   rw [Z2 (n:=a.1 + ((q:Nat):Int)) (by omega),Qc hi (by omega)]
   rw [hfar,hsum]
   cases h4:a.2 with
   | true =>
    simp only [cond_true]
    rw [hL (a.1 + ((q:Nat):Int),true) ⟨by omega,by push_cast; omega⟩]
    simp
   | false =>
    simp only [cond_false]
    rw [Zb (by omega)]
    have hd:decide ((65536:Int) < ((q:Nat):Int)) = decide (65536 < q):=by
     grind
    rw [hd,hL (a.1 + ((q:Nat):Int),decide (65536 < q)) ⟨by omega,by push_cast; omega⟩]
    simp) k 0 ((((kk + 1) * l.length:Nat):Int),false) ⟨by omega,by
     have:(kk + 1) * l.length ≤ 32 * 512:=J4 (by omega) hn
     omega⟩ (by omega) (UH _)
 refine Hn this ?_
 rw [U9]
 unfold ZgK
 have hsz:(((kk + 1) * l.length:Nat):Int) + ((ZhF (l.map fun n => Z0 n / 2 ^ kk):Nat):Int) = ((Zft l kk:Nat):Int):=by unfold Zft; push_cast; rfl
 grind
theorem ZJQ (k:Nat) {l:List Int} (hl:∀ x ∈ l,ZG x) (hn:l.length ≤ 512) (hk:l.length < k) {m:Int} (hm:m = 0 ∨ m = 1) (c0 c1 c2:Int) (hw:QN l ≤ 32) :
  ∀ (d kk j:Nat) (B:Prt × Bool),kk + d = Xe m → d < j →
  Zh (fun L2 => Zcp k (Zif k L2) L2) j (((Xe m:Nat):Int),(kk:Int),l,B.2,((QN l:Nat):Int),m,l.map (fun n => ((Z0 n:Nat):Int)),B.1.1,B.1.2.1,B.1.2.2.1,c0,c1,c2) =
   some ((let B:=kF l d kk B; if QN l ≤ 31 ∧ (B.2 = false ∨ ((5 + QN l * l.length:Nat):Int) < B.1.2.2.1) then ((((Xe m:Nat):Int),((QN l:Nat):Int),((5 + QN l * l.length:Nat):Int),()),true,()) else (B.1,B.2,())),()):=by
 have he:Xe m ≤ 31:=by unfold Xe; split <;> omega
 intro d
 induction d with
 | zero =>
  intro kk j B hkk hj
  obtain ⟨j,rfl⟩:=Zw hj
  rw [Zd]
  simp only [Zcp]
  rw [Zl (by omega)]
  have hwl:QN l * l.length ≤ 32 * 512:=J4 hw hn
  have e1:Jx.wrap ((5:Int) + Jx.wrap (((QN l:Nat):Int) * UJ l.length)) = ((5 + QN l * l.length:Nat):Int):=by
   have:((QN l:Nat):Int) * UJ l.length = ((QN l * l.length:Nat):Int):=by rfl
   rw [this,Z2 (n:=((QN l * l.length:Nat):Int)) (by omega),Z2 (by omega)]
   push_cast; rfl
  rw [e1,ZFq,Zcd k hm]
  simp only [ZX]
  rw [show kF l 0 kk B = B from rfl]
  grind
 | succ d ih =>
  intro kk j B hkk hj
  obtain ⟨j,rfl⟩:=Zw (show 0 < j by omega)
  rw [Zd]
  simp only [Zcp]
  rw [Zb (by omega)]
  have hkl:(kk + 1) * l.length ≤ 32 * 512:=J4 (by omega) hn
  have e1:Jx.wrap (Jx.wrap ((kk:Int) + 1) * UJ l.length) = (((kk + 1) * l.length:Nat):Int):=by
   have h1:Jx.wrap ((kk:Int) + 1) = ((kk + 1:Nat):Int):=by rw [Z2 (by omega)]; push_cast; rfl
   rw [h1]
   have:((kk + 1:Nat):Int) * UJ l.length = (((kk + 1) * l.length:Nat):Int):=by rfl
   rw [this,Z2 (by omega)]
  rw [e1]
  have e2:UJ (l.map fun n => ((Z0 n:Nat):Int)).length = UJ l.length:=by simp
  rw [e2,ZAS k _ hl hn hk (by omega)]
  rw [ih (kk + 1) j (ZgK l B kk) (by omega) (by omega)]
  rfl
theorem ZGR (k:Nat) {l:List Int} (hl:∀ x ∈ l,ZG x) (hn:l.length ≤ 512) (hk:l.length + 40 < k) {m:Int} (hm:m = 0 ∨ m = 1) :
  ZAR k (l,m,()) = some (((Q7 l m).1,(Q7 l m).2,()),()):=by
 show Zf2 k (Zni k) _ = _
 simp only [Zf2]
 rw [Zb (by simp only [QY]; omega)]
 have hwid:=(ZhI l 0 hl (by omega)).2.1
 have he:Xe m ≤ 31:=by unfold Xe; split <;> omega
 have:=Zs (A:=Nat × List Int) (step:=fun L1 => Zco k (Zie k) L1) (fun i a => (UJ l.length,UJ i,l,((a.1:Nat):Int),m,l,false,a.2,0,0,0,0,0,0)) l
  (fun l' a => Zie k (((Xe m:Nat):Int),0,l,false,((l'.foldl (fun w n => if n = 0 then w else max w (Yt n)) a.1:Nat):Int),m,a.2.take (l.length - l'.length) ++ l'.map (fun n => ((Z0 n:Nat):Int)),0,0,0,0,0,0))
  (fun i a => a.1 ≤ 32 ∧ a.2.length = l.length)
  (fun L a ha => by
   simp only [Zco]
   rw [Zl (Zaa _),ZFq,Zcd k hm]
   simp only [ZX,List.foldl_nil,VE,Vg,HY,Nat.sub_zero]
   rw [Ep (by omega)])
  (fun L i hi a ha hL => by
   simp only [Zco]
   have hx:=hl l[i] (Ha hi)
   have hb:=Zn7 hx
   rw [Zb (KX hi),Zb (Ya hi),ZE hi,ZTr,Zr5 k hx]
   simp only [ZX]
   rw [Zb (by rw [ha.2]; exact Ya hi),Zb (by rw [ha.2]; simpa using hi),ZD,Qc hi (by omega)]
   have hdl:(l.drop (i + 1)).length = l.length - (i + 1):=by simp
   have hset:(a.2.set (UJ i).toNat ((Z0 l[i]:Nat):Int)).take (l.length - (l.drop (i + 1)).length) ++ (l.drop (i + 1)).map (fun n => ((Z0 n:Nat):Int)) =
     a.2.take (l.length - (l[i] :: l.drop (i + 1)).length) ++ (l[i] :: l.drop (i + 1)).map (fun n => ((Z0 n:Nat):Int)):=by
    rw [hdl,JF,hdl,show l.length - (l.length - (i + 1)) = i + 1 by omega,show l.length - (l.length - (i + 1) + 1) = i by omega]
    rw [JR,EE,List.take_set_of_le (by simp)]
    simp_all
   have hfold:(l[i] :: l.drop (i + 1)).foldl (fun w n => if n = 0 then w else max w (Yt n)) a.1 = (l.drop (i + 1)).foldl (fun w n => if n = 0 then w else max w (Yt n)) (if l[i] = 0 then a.1 else max a.1 (Yt l[i])):=rfl
   by_cases h0:l[i] = 0
   ·simp_all
   ·rw [Zb h0,ZG2 k hx]
    simp only [ZX]
    have e1:(if ((a.1:Nat):Int) < ((Yt l[i]:Nat):Int) then ((Yt l[i]:Nat):Int) else ((a.1:Nat):Int)) = ((max a.1 (Yt l[i]):Nat):Int):=by split <;> omega
    rw [e1,hL (max a.1 (Yt l[i]),a.2.set (UJ i).toNat ((Z0 l[i]:Nat):Int)) ⟨by omega,by simpa using ha.2⟩,hset,hfold,if_neg h0])
  k 0 (0,Jd l.length 0) ⟨by omega,by simp⟩ (by omega) (UH _)
 rw [U9] at this
 refine Hn this ?_
 have:=ZJQ k hl hn (by omega) hm 0 0 0 hwid (Xe m) 0 k ((0,0,0,()),false) (by omega) (by omega)
 rw [Nat.sub_self,List.take_zero,VT]
 refine Hn this ?_
 unfold Q7
 simp only
 split <;> rfl
end Go.Sh
namespace Go.Sh
open Go Go.Proofs
theorem ZRa:Zg5 = Zep:=Zr2
theorem ZUw:ZoW = Zeu:=Zsd
theorem Zkv (k:Nat) {m:Int} (h:m = 0 ∨ m = 1):Zep k (m,()) = some (4 + m,()):=by
 rcases h with rfl | rfl <;> rfl
theorem ZGM (k:Nat) (x:Int):ZAP k (x,()) = some (Qy x,()):=by
 show ZkW k _ = _
 simp only [ZkW]
 unfold Qy
 grind
theorem Zw3 (k:Nat) (c:List Int) (hk:c.length < k) (hn:c.length < 4294967296):ZoD k (c,(),()) = some (c.any Qy,()):=by
 show Zem k _ = _
 simp only [Zem]
 have key:∃ i:Int,ZoQ k (c,(),()) = some (i,()) ∧ (0 ≤ i ↔ c.any Qy = true):=by
  have:=Qv (A:=Unit) (R:=Int × Unit) (step:=fun L1 => KE k L1) (fun i _ => (UJ c.length,UJ i,c)) c
   (fun l _ => some (if l.any Qy then UJ (c.length - l.length + (l.takeWhile (fun x => !Qy x)).length) else -1,()))
   (fun L _ => by grind [KE])
   (fun L i hi _ hL => by
    simp only [KE]
    rw [Zb (KX hi),Zb (Ya hi),ZE hi,ZGM]
    simp only [ZX]
    have hlen:(US (i + 1) c).length = c.length - (i + 1):=by simp
    cases hc:Qy c[i] with
    | false =>
     simp only [cond_false]
     rw [Qc hi (by omega),hL ()]
     simp only [HK,hc,Bool.false_or,Ht,Ej,if_true,JF,hlen]
     grind
    | true =>
     simp only [cond_true,HK,hc,Bool.true_or,if_true,Ht,Hz,JJ,if_false,JF,hlen,HY]
     congr 3; omega) k 0 () (by omega) (UH _)
  rw [U9] at this
  refine ⟨_,this,?_⟩
  cases c.any Qy <;> simp
 grind
def ZbQ (n o:Int):Bool:=decide (1 ≤ n ∧ n ≤ 512 ∧ 0 ≤ o ∧ o ≤ 8 ∧ o ≤ n)
theorem Zsc (k:Nat) (n o:Int):Zuo k (n,o,()) = some (ZbQ n o,()):=by
 show ZkV k _ = _
 simp only [ZkV]
 unfold ZbQ
 by_cases h1:1 ≤ n
 ·rw [Zb h1]
  by_cases h2:n ≤ 512
  ·rw [Zb h2]
   by_cases h3:0 ≤ o
   ·rw [Zb h3]
    congr 2
    grind
   grind
  grind
 grind
def Yb (l:List Int) (o:Int):Int:=if o < 0 ∨ 8 < o then 1 else if ZbQ ((l.length:Int) + o) o = false then 1 else if l.any Qy then 12 else 0
theorem ZrZ (k:Nat) (l:List Int) (o:Int) (hk:l.length < k) (hn:l.length < 4294967296):Zua k (l,o,()) = some (Yb l o,()):=by
 show Zku k _ = _
 simp only [Zku]
 unfold Yb
 by_cases h1:o < 0
 ·rw [Zb h1,if_pos (.inl h1)]
 ·rw [Zl h1]
  by_cases h2:8 < o
  ·rw [Zb h2,if_pos (.inr h2)]
  ·rw [Zl h2,if_neg (by omega),Z2 (by simp only [QY]; omega),Zsc]
   simp only [ZX,QY]
   cases hb:ZbQ ((l.length:Int) + o) o with
   | false => rfl
   | true =>
    simp only [Hz,cond_false,HR,if_false]
    rw [Zw3 k l hk hn]
    grind
theorem ZSR {p:Nat} (hp:p ≤ 31):Jx.wrap (Jx.wrap ((1:Int) * (2:Int) ^ min ((p:Int)).toNat 64) - 1) = ((2 ^ p - 1:Nat):Int):=by
 have h1:2 ^ p ≤ 2 ^ 31:=Hr (by omega) hp
 have h0:0 < 2 ^ p:=Hj (by omega)
 rw [Xa,Hl (by omega),El,Xu]
 rw [Z2 (n:=((2 ^ p:Nat):Int)) (by omega),Z2 (by omega)]
 omega
theorem ZnM {p:Nat} (hp:p ≤ 31):Jx.wrap ((1:Int) * (2:Int) ^ min ((p:Int)).toNat 64) = ((2 ^ p:Nat):Int):=by
 have h1:2 ^ p ≤ 2 ^ 31:=Hr (by omega) hp
 rw [Xa,Hl (by omega),El,Xu]
 generalize 2 ^ p = Q at h1 ⊢
 rw [Z2 (by omega)]
theorem Zwz {n p:Nat} (hn:n < 4294967296) (hp:p ≤ 31):Jx.wrap (UJ (UN 64 (n:Int) &&& UN 64 (Jx.wrap (Jx.wrap ((1:Int) * (2:Int) ^ min ((p:Int)).toNat 64) - 1))).toNat) = ((n % 2 ^ p:Nat):Int):=by
 have h1:2 ^ p ≤ 2 ^ 31:=Hr (by omega) hp
 rw [ZSR hp,ZFs (by omega) (by omega),HL]
 have:n % 2 ^ p ≤ n:=Er _ _
 rw [Z2 (by omega)]
def Zd4 (n o p:Nat):Bool:=decide (n % 2 ^ p = 0) && decide (o ≤ n / 2 ^ p)
theorem Zse (k:Nat) {n o p:Nat} (hn:n < 4294967296) (hp:p ≤ 31):Zeu k ((n:Int),(o:Int),(p:Int),()) = some (Zd4 n o p,()):=by
 show ZkX k _ = _
 simp only [ZkX]
 rw [Zb (by omega),Zwz hn hp,ZP,Xa,Hl (by omega),Ze2]
 unfold Zd4
 by_cases h:n % 2 ^ p = 0
 ·rw [Zb (by omega),Zb (by omega),dTr h,UC]
  congr 2
  grind
 grind
def Y3 (size:Nat):Nat → List Int → List (List Int)
 | 0,_ => []
 | d + 1,r => r.take size :: Y3 size d (r.drop size)
def Yg (l:List Int) (o p:Nat):List (List Int):=l.take ((l.length + o) / 2 ^ p - o) :: Y3 ((l.length + o) / 2 ^ p) (2 ^ p - 1) (l.drop ((l.length + o) / 2 ^ p - o))
theorem Zoj (size:Nat):∀ (d:Nat) (r:List Int),(Y3 size d r).length = d
 | 0,_ => rfl
 | d + 1,r => by simp [Y3,Zoj size d]
theorem Zh0 (l:List Int) (o p:Nat):(Yg l o p).length = 2 ^ p:=by
 grind [Yg,JF,Zoj]
theorem Zok {size:Nat}:∀ {d:Nat} {r c:List Int},c ∈ Y3 size d r → ∀ x ∈ c,x ∈ r
 | d + 1,r,c,h,x,hx => by
  rcases VM.1 h with rfl | h
  ·exact JT hx
  ·exact JS (Zok h x hx)
theorem Zar {l:List Int} {o p:Nat} {c:List Int} (h:c ∈ Yg l o p):∀ x ∈ c,x ∈ l:=by
 intro x hx
 rcases VM.1 h with rfl | h
 ·exact JT hx
 ·exact JS (Zok h x hx)
theorem ZrK {size:Nat}:∀ {d:Nat} {r c:List Int},c ∈ Y3 size d r → c.length ≤ r.length
 | d + 1,r,c,h => by
  rcases VM.1 h with rfl | h
  ·rw [Jz]; omega
  ·have:=ZrK h
   grind
theorem ZhZ {l:List Int} {o p:Nat} {c:List Int} (h:c ∈ Yg l o p):c.length ≤ l.length:=by
 rcases VM.1 h with rfl | h
 ·rw [Jz]; omega
 ·have:=ZrK h
  rw [Vi] at this
  omega
theorem ZGc (k:Nat) {p size:Nat} (hp:p ≤ 15):∀ (d m:Nat) (r:List Int) (out:List (List Int)),d < m → out.length + d = 2 ^ p → r.length = d * size → r.length < 4294967296 →
  Zh (fun L1 => Zcc k L1) m ((p:Int),r,(size:Int),out) = some (out ++ Y3 size d r,()):=by
 have h15:2 ^ p ≤ 2 ^ 15:=Hr (by omega) hp
 intro d
 induction d with
 | zero =>
  intro m r out hm ho hr hn
  obtain ⟨m,rfl⟩:=Zw hm
  rw [Zd]
  simp only [Zcc]
  rw [Zb (by omega),ZnM (by omega),Zl (by simp only [QY]; omega)]
  simp [Y3]
 | succ d ih =>
  intro m r out hm ho hr hn
  obtain ⟨m,rfl⟩:=Zw (show 0 < m by omega)
  rw [Zd]
  simp only [Zcc]
  have hs:(d + 1) * size = d * size + size:=by rw [Jg,Jp]
  have hle:size ≤ r.length:=by omega
  rw [Zb (by omega),ZnM (by omega),Zb (by simp only [QY]; omega),Zb (by simp only [QY]; omega),
   Zb (by grind),Zb (by simp only [QY]; omega)]
  rw [Xa,show (UJ r.length).toNat = r.length from rfl,Ef,U9]
  grind [Y3]
theorem Zr1 (k:Nat) {l:List Int} {o p:Nat} (hp:p ≤ 15) (hn:l.length + o < 4294967296) (hk:32768 < k) (hf:Zd4 (l.length + o) o p = true) :
  Zue k (l,(o:Int),(p:Int),()) = some (Yg l o p,()):=by
 show ZfN k (ZmU k) _ = _
 have h15:2 ^ p ≤ 2 ^ 15:=Hr (by omega) hp
 have h0:0 < 2 ^ p:=Hj (by omega)
 unfold Zd4 at hf
 simp only [Jh,decide_eq_true_eq] at hf
 obtain ⟨hm,ho⟩:=hf
 simp only [ZfN]
 have e1:Jx.wrap (UJ l.length + (o:Int)) = ((l.length + o:Nat):Int):=by rw [Z2 (by simp only [QY]; omega)]; rfl
 have hd:(l.length + o) / 2 ^ p ≤ l.length + o:=Eg _ _
 have hmul:2 ^ p * ((l.length + o) / 2 ^ p) = l.length + o:=by have:=Nat.div_add_mod (l.length + o) (2 ^ p); omega
 unfold Yg
 rw [e1]
 simp only [Xa,Hl (show p ≤ 64 by omega),Ze2]
 generalize hsz:(l.length + o) / 2 ^ p = size at ho hd hmul
 have e2:Jx.wrap ((size:Int) - (o:Int)) = ((size - o:Nat):Int):=by rw [Z2 (by omega)]; omega
 have hle:size ≤ l.length + o:=hd
 have e3:(2 ^ p - 1) * size = 2 ^ p * size - size:=by rw [Nat.sub_mul,Jp]
 rw [e2,Zb (by omega),Zb (by simp only [QY]; omega),Zb (by simp only [QY]; omega)]
 rw [Xa,show (UJ l.length).toNat = l.length from rfl,Ef,U9]
 have hps:size ≤ 2 ^ p * size:=EF _ h0
 refine Hn (ZGc k hp (2 ^ p - 1) k _ _ (by omega) (by rw [Us]; omega) (by rw [Vi,e3]; omega) (by rw [Vi]; omega)) ?_
 rfl
end Go.Sh
namespace Go.Sh
open Go Go.Proofs
def KY (c:List Int) (m:Int) (y:Prt):Prop :=
 (∃ kk:Nat,kk < Xe m ∧ Zmy c kk = false ∧ y = ((kk:Int),0,((Zft c kk:Nat):Int),())) ∨
 (QN c ≤ 31 ∧ y = (((Xe m:Nat):Int),((QN c:Nat):Int),((5 + QN c * c.length:Nat):Int),()))
theorem ZQ0 {c:List Int} {m:Int}:∀ (d kk:Nat) (B:Prt × Bool),kk + d = Xe m → (B.2 = true → KY c m B.1) → ((kF c d kk B).2 = true → KY c m (kF c d kk B).1)
 | 0,_,B,_,hB => hB
 | d + 1,kk,B,hk,hB => by
  refine ZQ0 d (kk + 1) _ (by omega) fun h => ?_
  unfold ZgK at h ⊢
  split
  ·rename_i hc
   exact .inl ⟨kk,by omega,hc.1,rfl⟩
  simp_all
theorem Zef {c:List Int} {m:Int} (h:(Q7 c m).2 = true):KY c m (Q7 c m).1:=by
 unfold Q7 at h ⊢
 simp only at h ⊢
 split
 ·rename_i hc
  exact .inr ⟨hc.1,rfl⟩
 ·rename_i hc
  rw [if_neg hc] at h
  exact ZQ0 _ _ _ (by omega) (fun h => by cases h) h
theorem ZEW {c:List Int}:∀ (d kk:Nat) (B:Prt × Bool),B.2 = true → (kF c d kk B).2 = true
 | 0,_,B,hB => hB
 | d + 1,kk,B,hB => by
  refine ZEW d (kk + 1) _ ?_
  unfold ZgK
  split
  ·rfl
  ·exact hB
theorem ZEX {c:List Int} {j:Nat} (hj:Zmy c j = false):∀ (d kk:Nat) (B:Prt × Bool),kk ≤ j → j < kk + d → (kF c d kk B).2 = true
 | 0,_,B,h1,h2 => by omega
 | d + 1,kk,B,h1,h2 => by
  by_cases he:kk = j
  ·subst he
   refine ZEW d _ _ ?_
   unfold ZgK
   grind
  ·exact ZEX hj d (kk + 1) _ (by omega) (by omega)
theorem ZT6 {c:List Int} (hc:∀ x ∈ c,ZG x):Zmy c 16 = false:=by
 unfold Zmy
 rw [Uk]
 intro x hx
 have h1:=Zp3 (hc x hx)
 grind
theorem ZAf {c:List Int} (hc:∀ x ∈ c,ZG x):(Q7 c 1).2 = true:=by
 unfold Q7
 simp only
 split
 ·rfl
 ·exact ZEX (ZT6 hc) _ _ _ (by omega) (by decide)
theorem KY.size {c:List Int} {m:Int} {y:Prt} (h:KY c m y) (hc:∀ x ∈ c,ZG x) (hn:c.length ≤ 512):0 ≤ y.2.2.1 ∧ y.2.2.1 ≤ 4398046511104:=by
 have he:Xe m ≤ 31:=by unfold Xe; split <;> omega
 rcases h with ⟨kk,hk,_,rfl⟩ | ⟨hw,rfl⟩
 ·simp only
  have h1:(kk + 1) * c.length ≤ 32 * 512:=J4 (by omega) hn
  have h2:ZhF (c.map fun n => Z0 n / 2 ^ kk) ≤ (c.map fun n => Z0 n / 2 ^ kk).length * 4294967295:=ZP5 fun x hx => by
   obtain ⟨n,hn,rfl⟩:=VG.1 hx
   exact ZsW (hc n hn) kk
  rw [Eo] at h2
  unfold Zft
  omega
 ·simp only
  have h1:QN c * c.length ≤ 31 * 512:=J4 hw hn
  omega
def QA (m:Int):List (List Int) → List Prt → Int → List Prt × Int × Bool
 | [],ps,sz => (ps,sz,true)
 | c :: cs,ps,sz => if (Q7 c m).2 = true then QA m cs (ps ++ [(Q7 c m).1]) (sz + (4 + m + (Q7 c m).1.2.2.1)) else (ps,sz,false)
theorem Zht {m:Int} {c:List Int} (cs:List (List Int)) (ps:List Prt) (sz:Int) (h:(Q7 c m).2 = true):QA m (c :: cs) ps sz = QA m cs (ps ++ [(Q7 c m).1]) (sz + (4 + m + (Q7 c m).1.2.2.1)):=by
 show (if (Q7 c m).2 = true then _ else _) = _
 rw [if_pos h]
theorem Zlz {m:Int} {c:List Int} (cs:List (List Int)) (ps:List Prt) (sz:Int) (h:(Q7 c m).2 = false):QA m (c :: cs) ps sz = (ps,sz,false):=by
 show (if (Q7 c m).2 = true then _ else _) = _
 rw [if_neg (by rw [h]; simp)]
abbrev XO:=Int × Int × Int × List Prt
def XJ (l:List Int) (o p:Nat) (m:Int) (B:XO):XO :=
 if (QA m (Yg l o p) [] 6).2.2 = true ∧ (B.2.2.1 < 0 ∨ (QA m (Yg l o p) [] 6).2.1 < B.2.2.1) then (m,(p:Int),(QA m (Yg l o p) [] 6).2.1,(QA m (Yg l o p) [] 6).1) else B
def ZjU (l:List Int) (o:Nat) (B:XO) (p:Nat):XO:=if Zd4 (l.length + o) o p = true then XJ l o p 1 (XJ l o p 0 B) else B
def X8 (l:List Int) (o:Nat):Nat → Nat → XO → XO
 | 0,_,B => B
 | d + 1,p,B => X8 l o d (p + 1) (ZjU l o B p)
def WK (l:List Int) (o:Nat):XO:=X8 l o 5 0 (0,0,-1,[])
theorem ZAE (k:Nat) (L1:Int × List Int × Int × Int × Int × Int × List (Int × Int × Int × Unit) × Int × Int × Int → Option ((Int × Int × List (Int × Int × Int × Unit) × Int × Unit) × Unit))
  (L2:Int × Int × List Int × Int × Int × Int × Int × List (Int × Int × Int × Unit) × Int × Int × Int → Option ((Int × Int × List (Int × Int × Int × Unit) × Int × Unit) × Unit))
  {cs:List (List Int)} (hcs:∀ c ∈ cs,(∀ x ∈ c,ZG x) ∧ c.length ≤ 512) (hn:cs.length ≤ 16) (hk:600 < k) {m:Int} (hm:m = 0 ∨ m = 1) (p:Int) (l:List Int) (o:Int) (B:XO) :
  Zc9 k L1 L2 (UJ cs.length,(0:Int),cs,m,p,l,o,true,B.1,B.2.1,B.2.2.1,B.2.2.2,m,p,(6:Int),[],0,0,0) =
   L2 (m + 1,p,l,o,if (QA m cs [] 6).2.2 = true ∧ (B.2.2.1 < 0 ∨ (QA m cs [] 6).2.1 < B.2.2.1) then (m,p,(QA m cs [] 6).2.1,(QA m cs [] 6).1,0,0,0) else (B.1,B.2.1,B.2.2.1,B.2.2.2,0,0,0)):=by
 have hm1:Jx.wrap (m + 1) = m + 1:=by rcases hm with rfl | rfl <;> rfl
 have:=Zs (A:=Int × List Prt) (R:=(Int × Int × List (Int × Int × Int × Unit) × Int × Unit) × Unit) (step:=fun L3 => Zcb k L1 L2 L3)
  (fun i a => (UJ cs.length,UJ i,cs,m,p,l,o,true,B.1,B.2.1,B.2.2.1,B.2.2.2,m,p,a.1,a.2,0,0,0)) cs
  (fun cs' a => L2 (m + 1,p,l,o,if (QA m cs' a.2 a.1).2.2 = true ∧ (B.2.2.1 < 0 ∨ (QA m cs' a.2 a.1).2.1 < B.2.2.1) then (m,p,(QA m cs' a.2 a.1).2.1,(QA m cs' a.2 a.1).1,0,0,0) else (B.1,B.2.1,B.2.2.1,B.2.2.2,0,0,0)))
  (fun i a => 0 ≤ a.1 ∧ a.1 ≤ 6 + (i:Int) * 8796093022208 ∧ a.2.length = i)
  (fun L a _ => by
   simp only [Zcb]
   rw [Zl (Zaa _),hm1]
   simp only [cond_true,QA,true_and]
   grind)
  (fun L i hi a ha hL => by
   simp only [Zcb]
   obtain ⟨hc1,hc2⟩:=hcs cs[i] (Ha hi)
   rw [Zb (KX hi),Zb (Ya hi),ZE hi,ZGR k hc1 hc2 (by omega) hm]
   simp only [ZX]
   cases hb:(Q7 cs[i] m).2 with
   | false =>
    rw [Zlz _ _ _ hb]
    simp_all
   | true =>
    rw [Zht _ _ _ hb]
    simp only [Hz,cond_false]
    have hs:=(Zef hb).size hc1 hc2
    have hi16:(i:Int) < 16:=by omega
    have hm01:0 ≤ m ∧ m ≤ 1:=by rcases hm with rfl | rfl <;> omega
    rw [Zb (by grind),ZRa,Zkv k hm]
    simp only [ZX]
    rw [Qc hi (by omega),Z2 (n:=4 + m + (Q7 cs[i] m).1.2.2.1) (by omega),Z2 (by omega)]
    exact hL (a.1 + (4 + m + (Q7 cs[i] m).1.2.2.1),a.2 ++ [(Q7 cs[i] m).1]) ⟨by omega,by push_cast; omega,by simp; omega⟩)
  k 0 ((6:Int),[]) ⟨by omega,by simp,rfl⟩ (by omega) (UH _)
 rw [U9] at this
 exact this
theorem ZF7 (k:Nat) (L1:Int × List Int × Int × Int × Int × Int × List (Int × Int × Int × Unit) × Int × Int × Int → Option ((Int × Int × List (Int × Int × Int × Unit) × Int × Unit) × Unit))
  {l:List Int} (hl:∀ x ∈ l,ZG x) {o p:Nat} (hn:l.length + o ≤ 512) (hp:p ≤ 4) (hk:40000 < k) (hf:Zd4 (l.length + o) o p = true) (B:XO) :
  Zib k L1 ((0:Int),(p:Int),l,(o:Int),B.1,B.2.1,B.2.2.1,B.2.2.2,0,0,0) =
   L1 (((p + 1:Nat):Int),l,(o:Int),(XJ l o p 1 (XJ l o p 0 B)).1,(XJ l o p 1 (XJ l o p 0 B)).2.1,(XJ l o p 1 (XJ l o p 0 B)).2.2.1,(XJ l o p 1 (XJ l o p 0 B)).2.2.2,0,0,0):=by
 have hcs:∀ c ∈ Yg l o p,(∀ x ∈ c,ZG x) ∧ c.length ≤ 512:=fun c hc => ⟨fun x hx => hl x (Zar hc x hx),by have:=ZhZ hc; omega⟩
 have hlen:(Yg l o p).length ≤ 16:=by
  rw [Zh0]
  have:2 ^ p ≤ 2 ^ 4:=Hr (by omega) hp
  omega
 have hcut:=Zr1 k (l:=l) (o:=o) (p:=p) (by omega) (by omega) (by omega) hf
 have one:∀ (j:Nat) (m:Int) (B:XO),m = 0 ∨ m = 1 → Zh (fun L2 => Y4 k (Zc9 k L1 L2) L1 L2) (j + 1) (m,(p:Int),l,(o:Int),B.1,B.2.1,B.2.2.1,B.2.2.2,0,0,0) =
   Zh (fun L2 => Y4 k (Zc9 k L1 L2) L1 L2) j (m + 1,(p:Int),l,(o:Int),(XJ l o p m B).1,(XJ l o p m B).2.1,(XJ l o p m B).2.2.1,(XJ l o p m B).2.2.2,0,0,0):=by
  intro j m B hm
  rw [Zd]
  simp only [Y4]
  rw [Zb (by rcases hm with rfl | rfl <;> omega),hcut]
  simp only [ZX]
  refine (ZAE k L1 _ hcs hlen (by omega) hm (p:Int) l (o:Int) B).trans ?_
  unfold XJ
  split <;> rfl
 obtain ⟨j,rfl⟩:∃ j,k = j + 3:=⟨k - 3,by omega⟩
 show Zh (fun L2 => Y4 (j + 3) (Zc9 (j + 3) L1 L2) L1 L2) (j + 3) _ = _
 rw [one (j + 2) 0 B (.inl rfl),show (0:Int) + 1 = 1 from rfl,one (j + 1) 1 _ (.inr rfl),Zd]
 simp only [Y4]
 rw [Zl (by omega),Z2 (by omega)]
 rfl
theorem Zr0 (k:Nat) {l:List Int} (hl:∀ x ∈ l,ZG x) {o:Nat} (hn:l.length + o ≤ 512) (hk:40000 < k) :
  Zuc k (l,(o:Int),()) = some (((WK l o).1,(WK l o).2.1,(WK l o).2.2.2,(WK l o).2.2.1,()),()):=by
 show ZfM k (ZmR k) _ = _
 simp only [ZfM]
 suffices H:∀ (d p m:Nat) (B:XO),d < m → p + d = 5 → Zh (fun L1 => Zca k (Zib k L1) L1) m ((p:Int),l,(o:Int),B.1,B.2.1,B.2.2.1,B.2.2.2,0,0,0) =
   some (((X8 l o d p B).1,(X8 l o d p B).2.1,(X8 l o d p B).2.2.2,(X8 l o d p B).2.2.1,()),()) from H 5 0 k (0,0,-1,[]) (by omega) rfl
 intro d
 induction d with
 | zero =>
  intro p m B hm hp
  obtain ⟨m,rfl⟩:=Zw hm
  rw [Zd]
  simp only [Zca]
  rw [Zl (by omega)]
  rfl
 | succ d ih =>
  intro p m B hm hp
  obtain ⟨m,rfl⟩:=Zw (show 0 < m by omega)
  rw [Zd]
  simp only [Zca]
  have e1:Jx.wrap (UJ l.length + (o:Int)) = ((l.length + o:Nat):Int):=by rw [Z2 (by simp only [QY]; omega)]; rfl
  rw [Zb (by omega),e1,ZUw,Zse k (by omega) (by omega)]
  simp only [ZX]
  have e2:Jx.wrap ((p:Int) + 1) = ((p + 1:Nat):Int):=by rw [Z2 (by omega)]; rfl
  cases hf:Zd4 (l.length + o) o p with
  | false =>
   simp only [Ej,cond_true]
   rw [e2,ih (p + 1) m B (by omega) (by omega)]
   simp only [X8,ZjU,hf,JJ,if_false]
  | true =>
   simp only [Hz,cond_false]
   rw [ZF7 k _ hl hn (by omega) hk hf,ih (p + 1) m _ (by omega) (by omega)]
   simp only [X8,ZjU,hf,if_true]
structure RGood (l:List Int) (o:Nat) (R:XO) (p:Nat):Prop where
 hp:R.2.1 = (p:Int)
 p4:p ≤ 4
 fit:Zd4 (l.length + o) o p = true
 hm:R.1 = 0 ∨ R.1 = 1
 parts:QA R.1 (Yg l o p) [] 6 = (R.2.2.2,R.2.2.1,true)
theorem ZlA {m:Int} (hm:0 ≤ m):∀ (cs:List (List Int)) (ps:List Prt) (sz:Int),(∀ c ∈ cs,(∀ x ∈ c,ZG x) ∧ c.length ≤ 512) → sz ≤ (QA m cs ps sz).2.1
 | [],_,_,_ => Ek _
 | c :: cs,ps,sz,h => by
  unfold QA
  split
  ·rename_i hb
   have h1:=h c (Jm ..)
   have h2:=(Zef hb).size h1.1 h1.2
   have:=ZlA hm cs (ps ++ [(Q7 c m).1]) (sz + (4 + m + (Q7 c m).1.2.2.1)) fun c hc => h c (Jn _ hc)
   omega
  ·exact Ek _
theorem ZqC {l:List Int} {o p:Nat} {m:Int} {B:XO} (hm:m = 0 ∨ m = 1) (hp:p ≤ 4) (hf:Zd4 (l.length + o) o p = true) (hB:B.2.2.1 < 0 ∨ ∃ q,RGood l o B q) :
  (XJ l o p m B).2.2.1 < 0 ∨ ∃ q,RGood l o (XJ l o p m B) q:=by
 unfold XJ
 split
 ·rename_i hc
  right
  refine ⟨p,rfl,hp,hf,hm,?_⟩
  simp only
  rw [← hc.1]
 ·exact hB
theorem ZCx {l:List Int} {o p:Nat} {B:XO} (hp:p ≤ 4) (hB:B.2.2.1 < 0 ∨ ∃ q,RGood l o B q):(ZjU l o B p).2.2.1 < 0 ∨ ∃ q,RGood l o (ZjU l o B p) q:=by
 unfold ZjU
 split
 ·rename_i hf
  exact ZqC (.inr rfl) hp hf (ZqC (.inl rfl) hp hf hB)
 ·exact hB
theorem ZhR {l:List Int} {o:Nat}:∀ (d p:Nat) (B:XO),p + d ≤ 5 → (B.2.2.1 < 0 ∨ ∃ q,RGood l o B q) → (X8 l o d p B).2.2.1 < 0 ∨ ∃ q,RGood l o (X8 l o d p B) q
 | 0,_,B,_,hB => hB
 | d + 1,p,B,h,hB => ZhR d (p + 1) _ (by omega) (ZCx (by omega) hB)
theorem ZqD {l:List Int} {o p:Nat} {m:Int} {B:XO} (hl:∀ x ∈ l,ZG x) (hn:l.length ≤ 512) (hm:0 ≤ m) (hB:0 ≤ B.2.2.1):0 ≤ (XJ l o p m B).2.2.1:=by
 unfold XJ
 split
 ·have:=ZlA hm (Yg l o p) [] 6 fun c hc => ⟨fun x hx => hl x (Zar hc x hx),by have:=ZhZ hc; omega⟩
  simp only
  omega
 ·exact hB
theorem Zoi {l:List Int} {o:Nat} (hl:∀ x ∈ l,ZG x) (hn:l.length ≤ 512):∀ (d p:Nat) (B:XO),0 ≤ B.2.2.1 → 0 ≤ (X8 l o d p B).2.2.1
 | 0,_,B,hB => hB
 | d + 1,p,B,hB => Zoi hl hn d (p + 1) _ (by
  unfold ZjU
  split
  ·exact ZqD hl hn (by omega) (ZqD hl hn (by omega) hB)
  ·exact hB)
theorem Zte {m:Int}:∀ (cs:List (List Int)) (ps:List Prt) (sz:Int),(∀ c ∈ cs,(Q7 c m).2 = true) → (QA m cs ps sz).2.2 = true
 | [],_,_,_ => rfl
 | c :: cs,ps,sz,h => by
  unfold QA
  rw [if_pos (h c (Jm ..))]
  exact Zte cs _ _ fun c hc => h c (Jn _ hc)
theorem K5 {l:List Int} {o:Nat} (hl:∀ x ∈ l,ZG x) (hn:l.length + o ≤ 512) (ho:o ≤ l.length + o):0 ≤ (WK l o).2.2.1 ∧ ∃ q,RGood l o (WK l o) q:=by
 have hnn:0 ≤ (WK l o).2.2.1:=by
  show 0 ≤ (X8 l o 4 1 (ZjU l o (0,0,-1,[]) 0)).2.2.1
  refine Zoi hl (by omega) 4 1 _ ?_
  unfold ZjU
  have hf:Zd4 (l.length + o) o 0 = true:=by unfold Zd4; simp [Nat.mod_one]
  rw [if_pos hf]
  generalize XJ l o 0 0 (0,0,-1,[]) = B
  by_cases hB:0 ≤ B.2.2.1
  ·exact ZqD hl (by omega) (by omega) hB
  ·unfold XJ
   have hok:=Zte (m:=1) (Yg l o 0) [] 6 fun c hc => ZAf fun x hx => hl x (Zar hc x hx)
   rw [if_pos ⟨hok,.inl (by omega)⟩]
   have:=ZlA (m:=1) (by omega) (Yg l o 0) [] 6 fun c hc => ⟨fun x hx => hl x (Zar hc x hx),by have:=ZhZ hc; omega⟩
   simp only
   omega
 refine ⟨hnn,?_⟩
 rcases ZhR (l:=l) (o:=o) 5 0 (0,0,-1,[]) (by omega) (.inl (by show (-1:Int) < 0; omega)) with h | h
 ·exact absurd h (by unfold WK at hnn; omega)
 ·exact h
end Go.Sh
namespace Go.Sh
open Go Go.Proofs
theorem ZGI (k:Nat) {l:List Int} (hl:l.length ≤ 512) {o:Nat} (hk:40000 < k) :
  ZAL k (l,(o:Int),()) = some ((if Yb l o = 0 then ((WK l o).2.2.1,0,()) else (0,Yb l o,())),()):=by
 show ZkQ k _ = _
 simp only [ZkQ]
 rw [ZrZ k l o (by omega) (by omega)]
 simp only [ZX]
 rw [ZD]
 by_cases h:Yb l o = 0
 ·rw [Zl (by simpa using h),if_pos h]
  have hc:ZbQ ((l.length:Int) + o) o = true ∧ l.any Qy = false:=by
   unfold Yb at h
   grind
  have hb:=of_decide_eq_true hc.1
  rw [Zr0 k (Kh hc.2) (by omega) hk]
  rfl
 ·rw [Zb h,if_neg h]
theorem Zfq {l:List Int} {o:Nat}:Yb l o = 0 ↔ (1 ≤ l.length + o ∧ l.length + o ≤ 512 ∧ o ≤ 8) ∧ l.any Qy = false:=by
 unfold Yb
 constructor
 ·intro h
  split at h
  ·omega
  ·split at h
   ·omega
   ·rename_i h1 h2
    split at h
    ·omega
    ·rename_i hw
     have:=of_decide_eq_true (by simpa using h2:ZbQ ((l.length:Int) + o) o = true)
     exact ⟨by omega,by simpa using hw⟩
 ·rintro ⟨h1,h2⟩
  rw [if_neg (by omega),if_neg,if_neg (by simp [h2])]
  unfold ZbQ
  rw [dTr (by omega)]
  simp
def Kv (kk:Nat) (n:Int):List Bool:=(Jd (Z0 n / 2 ^ kk) false ++ [true]) ++ Za (Z0 n % 2 ^ kk) kk
def YP (m:Int) (y:Prt) (c:List Int):List Bool:=if y.1 = (Xe m:Int) then c.flatMap (fun n => WA n y.2.1.toNat) else c.flatMap (Kv y.1.toNat)
def Xt (m:Int) (x:List Int × Prt):List Bool:=Za x.2.1.toNat (4 + m.toNat) ++ ((if x.2.1 = (Xe m:Int) then Za x.2.2.1.toNat 5 else []) ++ YP m x.2 x.1)
def Zfm (l:List Int) (o:Nat) (R:XO):List Bool:=(Za R.1.toNat 2 ++ Za R.2.1.toNat 4) ++ ((Yg l o R.2.1.toNat).zip R.2.2.2).flatMap (Xt R.1)
def W8 (l:List Int) (o:Nat):List Bool:=Zfm l o (WK l o)
theorem Zfk (kk:Nat) (n:Int):(Kv kk n).length = Z0 n / 2 ^ kk + 1 + kk:=by
 simp [Kv,Ze]
 omega
theorem ZyF (k:Nat) (L1:Int × Int × List (List Int) × Int × List Int × Int × Int × List (Int × Int × Int × Unit) × Int → Option (Int × (List Int × Int × Unit) × Unit))
  {c:List Int} (hc:∀ x ∈ c,ZG x) (hn:c.length ≤ 512) (hk:70000 < k) {m:Int} (hm:m = 0 ∨ m = 1) {y:Prt} (hy:KY c m y) (v3 v4:Int) (v5:List (List Int)) (v12:Int) (v13:List Prt) (v14:Int)
  (hv3:0 ≤ v3 ∧ v3 ≤ 65536) (bs:List Bool) (hb:bs.length ≤ 2147483648) :
  Zli k L1 (UJ c.length,(0:Int),c,v3,v4,v5,(bs.length:Int),ZF bs,y.1,y.2.1,y.2.2.1,m,v12,v13,v14) =
   L1 (v4,v3 + 1,v5,((bs ++ YP m y c).length:Int),ZF (bs ++ YP m y c),m,v12,v13,v14):=by
 have he:Xe m ≤ 31:=by unfold Xe; split <;> omega
 have hfin:∀ (g:Int → List Bool),(∀ x ∈ c,(g x).length ≤ 70000) →
   (∀ (L:Int × Int × List Int × Int × Int × List (List Int) × Int × List Int × Int × Int × Int × Int × Int × List (Int × Int × Int × Unit) × Int → Option (Int × (List Int × Int × Unit) × Unit)) (i:Nat) (hi:i < c.length) (a:List Bool),a.length ≤ 2147483648 + i * 70000 →
    ZaV k L1 L (UJ c.length,UJ i,c,v3,v4,v5,(a.length:Int),ZF a,y.1,y.2.1,y.2.2.1,m,v12,v13,v14) =
    L (UJ c.length,UJ (i + 1),c,v3,v4,v5,((a ++ g c[i]).length:Int),ZF (a ++ g c[i]),y.1,y.2.1,y.2.2.1,m,v12,v13,v14)) →
   Zli k L1 (UJ c.length,(0:Int),c,v3,v4,v5,(bs.length:Int),ZF bs,y.1,y.2.1,y.2.2.1,m,v12,v13,v14) =
   L1 (v4,v3 + 1,v5,((bs ++ c.flatMap g).length:Int),ZF (bs ++ c.flatMap g),m,v12,v13,v14):=by
  intro g hg hstep
  have:=Zs (A:=List Bool) (R:=Int × (List Int × Int × Unit) × Unit) (step:=fun L2 => ZaV k L1 L2)
   (fun i a => (UJ c.length,UJ i,c,v3,v4,v5,(a.length:Int),ZF a,y.1,y.2.1,y.2.2.1,m,v12,v13,v14)) c
   (fun c' a => L1 (v4,v3 + 1,v5,((a ++ c'.flatMap g).length:Int),ZF (a ++ c'.flatMap g),m,v12,v13,v14))
   (fun i a => a.length ≤ 2147483648 + i * 70000)
   (fun L a _ => by
    simp only [ZaV]
    rw [Zl (Zaa _),Z2 (by omega)]
    simp)
   (fun L i hi a ha hL => by
    grind)
   k 0 bs (by omega) (by omega) (UH _)
  rw [U9] at this
  exact this
 unfold YP
 rcases hy with ⟨kk,hkk,hfar,rfl⟩ | ⟨hw,rfl⟩
 ·simp only
  rw [if_neg (by omega)]
  have hq:∀ x ∈ c,Z0 x / 2 ^ kk ≤ 65536:=by
   intro x hx
   unfold Zmy at hfar
   simp_all
  rw [Xa]
  refine hfin (Kv kk) (fun x hx => by have:=hq x hx; rw [Zfk]; omega) ?_
  intro L i hi a ha
  have hx:=hc c[i] (Ha hi)
  have hxq:=hq c[i] (Ha hi)
  simp only [ZaV]
  rw [Zb (KX hi),Zb (Ya hi),ZFq,Zcd k hm]
  simp only [ZX]
  rw [ZP,Zl (by omega),ZE hi,ZTr,Zr5 k hx]
  simp only [ZX]
  have hf32:=Zp3 hx
  rw [Zb (by omega),Zwz (by omega) (by omega)]
  simp only [Xa,Hl (show kk ≤ 64 by omega),Ze2]
  rw [show ((ZF a,((a.length:Nat):Int),()):List Int × Int × Unit) = Kn a from rfl,ZyE k a _ (by omega) hxq (by omega)]
  simp only [ZX]
  rw [Zb (by omega)]
  have hlen:(a ++ (Jd (Z0 c[i] / 2 ^ kk) false ++ [true])).length = a.length + (Z0 c[i] / 2 ^ kk + 1):=by simp
  rw [QI k (a ++ (Jd (Z0 c[i] / 2 ^ kk) false ++ [true])) _ kk (by omega) (by omega) (U1 _ (Hj (by omega))) (by rw [hlen]; omega)]
  simp only [ZX]
  rw [Qc hi (by omega)]
  unfold Kv
  simp only [Ju]
 ·simp only
  rw [if_pos trivial,Xa]
  refine hfin (fun n => WA n (QN c)) (fun x hx => by simp only [Zak]; omega) ?_
  intro L i hi a ha
  have hx:=Ztx hc c[i] (Ha hi)
  simp only [ZaV]
  rw [Zb (KX hi),Zb (Ya hi),ZFq,Zcd k hm]
  simp only [ZX]
  rw [ZP,Zb rfl,ZE hi]
  rw [show ((ZF a,((a.length:Nat):Int),()):List Int × Int × Unit) = Kn a from rfl,ZrY k a _ (QN c) (by omega) (by omega) hx (by omega)]
  simp only [ZX]
  rw [Qc hi (by omega)]
theorem Zy8 {c:List Int} (hc:∀ x ∈ c,ZG x) (hn:c.length ≤ 512) {m:Int} {y:Prt} (hy:KY c m y):(YP m y c).length ≤ c.length * 70000:=by
 have he:Xe m ≤ 31:=by unfold Xe; split <;> omega
 have key:∀ (g:Int → List Bool) (l:List Int),(∀ x ∈ l,(g x).length ≤ 70000) → (l.flatMap g).length ≤ l.length * 70000:=by
  intro g l
  induction l with
  | nil => intro _; simp
  | cons a l ih =>
   grind
 unfold YP
 rcases hy with ⟨kk,hkk,hfar,rfl⟩ | ⟨hw,rfl⟩
 ·simp only
  rw [if_neg (by omega)]
  refine key _ c fun x hx => ?_
  unfold Zmy at hfar
  rw [Uk] at hfar
  have:=hfar x hx
  simp only [decide_eq_true_eq] at this
  rw [Zfk,Xa]
  omega
 ·simp only
  rw [if_pos trivial]
  refine key _ c fun x hx => ?_
  rw [Zak,Xa]
  omega
def Ko (m:Int):List (List Int) → List Prt → Prop
 | [],[] => True
 | c :: cs,y :: ys => KY c m y ∧ Ko m cs ys
 | _,_ => False
theorem Zfl {m:Int}:∀ (cs:List (List Int)) (ps:List Prt) (sz:Int),(QA m cs ps sz).2.2 = true → ∃ ys,(QA m cs ps sz).1 = ps ++ ys ∧ Ko m cs ys ∧ ys = cs.map fun c => (Q7 c m).1
 | [],ps,sz,_ => ⟨[],by simp [QA],trivial,rfl⟩
 | c :: cs,ps,sz,h => by
  unfold QA at h ⊢
  split at h
  ·rename_i hb
   rw [if_pos hb]
   obtain ⟨ys,h1,h2,h3⟩:=Zfl cs _ _ h
   refine ⟨(Q7 c m).1 :: ys,by rw [h1]; simp,⟨Zef hb,h2⟩,by rw [h3]; rfl⟩
  ·cases h
theorem Ko.len {m:Int}:∀ {cs:List (List Int)} {ys:List Prt},Ko m cs ys → ys.length = cs.length
 | [],[],_ => rfl
 | c :: cs,y :: ys,h => by simp [Ko.len h.2]
theorem Ko.get {m:Int}:∀ {cs:List (List Int)} {ys:List Prt},Ko m cs ys → ∀ (i:Nat) (h1:i < cs.length) (h2:i < ys.length),KY cs[i] m ys[i]
 | c :: cs,y :: ys,h,0,_,_ => h.1
 | c :: cs,y :: ys,h,i + 1,h1,h2 => by
  simp only [EA]
  exact Ko.get h.2 i (by simpa using h1) (by simpa using h2)
theorem RGood.ys {l:List Int} {o p:Nat} {R:XO} (h:RGood l o R p):Ko R.1 (Yg l o p) R.2.2.2:=by
 obtain ⟨ys,h1,h2,_⟩:=Zfl (m:=R.1) (Yg l o p) [] 6 (by rw [h.parts])
 rw [h.parts] at h1
 simp_all
theorem ZqA {c:List Int} {m:Int} (hm:m = 0 ∨ m = 1) {y:Prt} (hy:KY c m y):∃ a w:Nat,y.1 = (a:Int) ∧ a < 2 ^ (4 + m.toNat) ∧ y.2.1 = (w:Int) ∧ w ≤ 31:=by
 rcases hy with ⟨kk,hkk,hfar,rfl⟩ | ⟨hw,rfl⟩
 ·refine ⟨kk,0,rfl,?_,rfl,by omega⟩
  rcases hm with rfl | rfl
  ·have:Xe 0 = 15:=rfl
   grind
  ·have:Xe 1 = 31:=rfl
   grind
 ·refine ⟨Xe m,QN c,rfl,?_,rfl,hw⟩
  rcases hm with rfl | rfl <;> decide
theorem ZyG (k:Nat) {l:List Int} {o:Nat} (hk:70000 < k) (h:Yb l o = 0) (bs:List Bool) (hb:bs.length ≤ 1073741824) :
  Zmd k (Kn bs,l,(o:Int),()) = some (0,Kn (bs ++ W8 l o),()):=by
 show Zjl k (ZvF k) _ = _
 have ⟨h1,h2⟩:=Zfq.1 h
 have hl:=Kh h2
 obtain ⟨hsz,q,hg⟩:=K5 hl (o:=o) (by omega) (by omega)
 simp only [Zjl]
 rw [ZrZ k l o (by omega) (by omega),h]
 simp only [ZX]
 rw [show ((0:Int) != 0) = false from rfl]
 simp only [cond_false]
 rw [Zr0 k hl (by omega) (by omega)]
 simp only [ZX]
 unfold W8 Zfm
 generalize WK l o = R at hg hsz
 have hys:=hg.ys
 obtain ⟨m,p,sz,ys⟩:=R
 obtain ⟨hp,p4,hfit,hm,hparts⟩:=hg
 simp only at hp hm hparts hys
 subst hp
 simp only [Xa]
 have hmn:m = ((m.toNat:Nat):Int):=by rcases hm with rfl | rfl <;> rfl
 have hm2:m.toNat < 2 ^ 2:=by rcases hm with rfl | rfl <;> decide
 have e1:=QI k bs m.toNat 2 (by omega) (by omega) hm2 (by omega)
 rw [← hmn] at e1
 rw [show ((ZF bs,((bs.length:Nat):Int),()):List Int × Int × Unit) = Kn bs from rfl,show (2:Int) = ((2:Nat):Int) from rfl,e1]
 simp only [ZX]
 have hl1:(bs ++ Za m.toNat 2).length = bs.length + 2:=by rw [Q3,Ze]
 have e2:=QI k (bs ++ Za m.toNat 2) q 4 (by omega) (by omega) (by omega) (by rw [hl1]; omega)
 rw [show (4:Int) = ((4:Nat):Int) from rfl,e2]
 simp only [ZX]
 rw [Zr1 k (by omega) (by omega) (by omega) hfit]
 simp only [ZX]
 have hcs:∀ c ∈ Yg l o q,(∀ x ∈ c,ZG x) ∧ c.length ≤ 512:=fun c hc => ⟨fun x hx => hl x (Zar hc x hx),by have:=ZhZ hc; omega⟩
 have hclen:(Yg l o q).length ≤ 16:=by
  rw [Zh0]
  have:2 ^ q ≤ 2 ^ 4:=Hr (by omega) p4
  omega
 have hyl:=hys.len
 generalize Yg l o q = cs at hcs hclen hys hyl
 have hzl:(cs.zip ys).length = cs.length:=by rw [Ee]; omega
 have hl2:(bs ++ Za m.toNat 2 ++ Za q 4).length = bs.length + 6:=by rw [Q3,hl1,Ze]
 have:=Zs (A:=List Bool) (R:=Int × (List Int × Int × Unit) × Unit) (step:=fun L1 => ZeZ k (Zli k L1) L1)
  (fun i a => (UJ cs.length,UJ i,cs,(a.length:Int),ZF a,m,(q:Int),ys,sz)) (cs.zip ys)
  (fun l' a => some (0,Kn (a ++ l'.flatMap (Xt m)),()))
  (fun i a => a.length ≤ 1073741900 + i * 35900000)
  (fun L a _ => by
   grind [ZeZ])
  (fun L i hi a ha hL => by
   have hi1:i < cs.length:=by omega
   have hi2:i < ys.length:=by omega
   obtain ⟨hc1,hc2⟩:=hcs cs[i] (Ha hi1)
   have hy:=hys.get i hi1 hi2
   have hzi:(cs.zip ys)[i] = (cs[i],ys[i]):=by rw [Ed]
   simp only [ZeZ]
   rw [Zb (KX hi1),Zb (Ya hi1),Zb (Ya hi2),ZRa,Zkv k hm]
   simp only [ZX]
   rw [ZE hi1,ZE hi2]
   obtain ⟨b,w,hb1,hb2,hw1,hw2⟩:=ZqA hm hy
   have hll:=Zy8 hc1 hc2 hy
   have e4:(4:Int) + m = ((4 + m.toNat:Nat):Int):=by rcases hm with rfl | rfl <;> rfl
   have hm1:m.toNat ≤ 1:=by rcases hm with rfl | rfl <;> decide
   rw [hb1,hw1,e4,show ((ZF a,((a.length:Nat):Int),()):List Int × Int × Unit) = Kn a from rfl,QI k a b (4 + m.toNat) (by omega) (by omega) hb2 (by omega)]
   simp only [ZX]
   rw [ZFq,Zcd k hm]
   simp only [ZX]
   have hla:(a ++ Za b (4 + m.toNat)).length = a.length + (4 + m.toNat):=by rw [Q3,Ze]
   have hI:((i:Nat):Int) ≤ 16:=by omega
   have hout:Xt m (cs[i],ys[i]) = Za b (4 + m.toNat) ++ ((if (b:Int) = (Xe m:Int) then Za w 5 else []) ++ YP m ys[i] cs[i]):=by
    unfold Xt
    simp only [hb1,hw1,Xa]
   rw [hzi,Hi,hout,ZP]
   have hnext:UJ i + 1 = UJ (i + 1):=rfl
   by_cases hesc:(b:Int) = (Xe m:Int)
   ·rw [Zb hesc,if_pos hesc]
    have h5:w < 2 ^ 5:=by omega
    rw [show ((5:Int)) = ((5:Nat):Int) from rfl,QI k (a ++ Za b (4 + m.toNat)) w 5 (by omega) (by omega) h5 (by omega)]
    simp only [ZX]
    have hlb:(a ++ Za b (4 + m.toNat) ++ Za w 5).length = a.length + (4 + m.toNat) + 5:=by rw [Q3,hla,Ze]
    have:=ZyF k L hc1 hc2 (by omega) hm hy (UJ i) (UJ cs.length) cs (q:Int) ys sz (by simp only [QY]; omega) (a ++ Za b (4 + m.toNat) ++ Za w 5) (by omega)
    grind
   ·rw [Zl hesc,if_neg hesc]
    have:=ZyF k L hc1 hc2 (by omega) hm hy (UJ i) (UJ cs.length) cs (q:Int) ys sz (by simp only [QY]; omega) (a ++ Za b (4 + m.toNat)) (by omega)
    grind)
  k 0 (bs ++ Za m.toNat 2 ++ Za q 4) (by omega) (by omega) (UH _)
 rw [U9] at this
 refine Hn this ?_
 simp
end Go.Sh
namespace Go.Sh
open Go Go.Proofs
theorem ZyI (k:Nat) (n d:Int):ZEM k (n,d,()) = some (decide (1 ≤ n ∧ n ≤ 512 ∧ 4 ≤ d ∧ d ≤ 25),()):=by
 show ZpT k _ = _
 grind [ZpT]
theorem ZyJ (k:Nat) (x:Int) {d:Nat} (h1:1 ≤ d) (h2:d ≤ 64):ZEN k (x,(d:Int),()) = some (Xg x d,()):=by
 show ZpW k _ = _
 simp only [ZpW]
 have e1:Jx.wrap ((d:Int) - 1) = ((d - 1:Nat):Int):=by rw [Z2 (by omega)]; omega
 rw [e1,Zzu x (by omega)]
 grind
theorem ZFU (k:Nat) (x:Int) {d:Nat} (h1:1 ≤ d) (h2:d ≤ 64):ZAz k (x,((d:Int),()),()) = some (!Xg x d,((d:Int),()),()):=by
 show Zko k _ = _
 simp only [Zko]
 rw [ZyJ k x h1 h2]
 rfl
theorem Zw1 (k:Nat) (c:List Int) {d:Nat} (h1:1 ≤ d) (h2:d ≤ 64) (hk:c.length < k) (hn:c.length < 4294967296) :
  ZoA k (c,(((d:Int),()),()),()) = some (!c.all (Xg · d),((d:Int),()),()):=by
 show Zej k _ = _
 simp only [Zej]
 have key:∃ i:Int,ZoK k (c,(((d:Int),()),()),()) = some (i,((d:Int),()),()) ∧ (0 ≤ i ↔ c.all (Xg · d) = false):=by
  have:=Qv (A:=Unit) (R:=Int × (Int × Unit) × Unit) (step:=fun L1 => KB k L1) (fun i _ => (UJ c.length,UJ i,c,(d:Int))) c
   (fun l _ => some (if l.all (Xg · d) then -1 else UJ (c.length - l.length + (l.takeWhile (fun x => Xg x d)).length),((d:Int),()),()))
   (fun L _ => by grind [KB])
   (fun L i hi _ hL => by
    simp only [KB]
    rw [Zb (KX hi),Zb (Ya hi),ZE hi,ZFU k _ h1 h2]
    simp only [ZX]
    have hlen:(US (i + 1) c).length = c.length - (i + 1):=by simp
    cases hc:Xg c[i] d with
    | true =>
     simp only [Hz,cond_false]
     rw [Qc hi (by omega),hL ()]
     simp only [UA,hc,UC,Ht,if_true,JF,hlen]
     grind
    | false =>
     simp only [Ej,cond_true,UA,hc,Bool.false_and,JJ,if_false,Ht,JF,hlen,HY]
     congr 3; omega) k 0 () (by omega) (UH _)
  rw [U9] at this
  refine ⟨_,this,?_⟩
  cases c.all (Xg · d) <;> simp
 grind
def Zgs (s:List Int) (d:Int):Int:=if 1 ≤ s.length ∧ s.length ≤ 512 ∧ 4 ≤ d ∧ d ≤ 25 then (if s.all (Xg · d.toNat) = true then 0 else 12) else 1
theorem ZLU (k:Nat) (s:List Int) (d:Int) (hk:1000 < k):ZEz k (s,d,()) = some (Zgs s d,()):=by
 show ZpN k _ = _
 simp only [ZpN]
 rw [ZyI]
 simp only [ZX]
 unfold Zgs
 by_cases h:1 ≤ s.length ∧ s.length ≤ 512 ∧ 4 ≤ d ∧ d ≤ 25
 ·rw [if_pos h,dTr (by simp only [QY]; omega)]
  simp only [Hz,cond_false]
  obtain ⟨e,rfl⟩:=Vp (show 0 ≤ d by omega)
  rw [Zw1 k s (by omega) (by omega) (by omega) (by omega),Xa]
  grind
 grind
def K9 (x:Int):Nat:=(x % 18446744073709551616).toNat
def ZtH (s:List Int):Nat:=s.foldl (fun v x => v ||| K9 x) 0
def ZC (s:List Int):Nat:=if ZtH s = 0 then 0 else Lib.ctz 64 (ZtH s)
theorem ZEZ (x:Int):K9 x < 2 ^ 64:=by unfold K9; omega
theorem KP (x:Int):(UN 64 x).toNat = K9 x:=by rw [Ei]; rfl
theorem Zs5 {n:Nat} (h:n < 2 ^ 64):K9 (Jx.wrap (n:Int)) = n:=by
 unfold K9
 rw [IntKind.wrap_i64]
 omega
theorem Zqy:∀ (s:List Int) (v:Nat),v < 2 ^ 64 → s.foldl (fun v x => v ||| K9 x) v < 2 ^ 64
 | [],_,h => h
 | x :: s,v,h => Zqy s _ (Es h (ZEZ x))
theorem ZNQ (s:List Int):ZtH s < 2 ^ 64:=Zqy s 0 (by decide)
theorem ZFW (k:Nat) (s:List Int) (hk:s.length < k) (hn:s.length < 4294967296):ZAA k (s,()) = some (((ZC s:Nat):Int),()):=by
 show ZfH k (ZmK k) _ = _
 simp only [ZfH]
 have:=Zs (A:=Nat) (R:=Int × Unit) (step:=fun L1 => Zb7 k L1) (fun i v => (UJ s.length,UJ i,s,Jx.wrap (v:Int))) s
  (fun s' v => some ((((if s'.foldl (fun v x => v ||| K9 x) v = 0 then 0 else Lib.ctz 64 (s'.foldl (fun v x => v ||| K9 x) v)):Nat):Int),()))
  (fun i v => v < 2 ^ 64)
  (fun L v hv => by
   simp only [Zb7]
   rw [Zl (Zaa _),ZP,List.foldl_nil]
   by_cases h0:v = 0
   ·subst h0; rfl
   ·have hne:¬ Jx.wrap (v:Int) = 0:=by
     intro h
     have:=Zs5 hv
     rw [h] at this
     exact h0 this.symm
    rw [Zl hne,if_neg h0]
    have hu:UO.wrap (Jx.wrap (v:Int)) = (v:Int):=by
     rw [IntKind.wrap_u64,IntKind.wrap_i64]; omega
    rw [hu]
    show (tzF _).bind _ = _
    unfold tzF
    grind)
  (fun L i hi v hv hL => by
   simp only [Zb7]
   rw [Zb (KX hi),Zb (Ya hi),ZE hi,Ev,KP,KP,Zs5 hv,Qc hi (by omega),HW]
   exact hL (v ||| K9 s[i]) (Es hv (ZEZ _)))
  k 0 0 (by decide) (by omega) (UH _)
 rw [U9] at this
 exact this
theorem Zzd {a b k:Nat} (h:(a ||| b) % 2 ^ k = 0):a % 2 ^ k = 0 ∧ b % 2 ^ k = 0:=by
 rw [Nat.or_mod_two_pow] at h
 simp_all
theorem ZjC {k:Nat}:∀ (s:List Int) (v:Nat),(s.foldl (fun v x => v ||| K9 x) v) % 2 ^ k = 0 → v % 2 ^ k = 0 ∧ ∀ x ∈ s,K9 x % 2 ^ k = 0
 | [],v,h => ⟨h,by simp⟩
 | x :: s,v,h => by
  obtain ⟨h1,h2⟩:=ZjC s _ h
  obtain ⟨h3,h4⟩:=Zzd h1
  simp_all
theorem ZPD {x:Int} {k:Nat} (hk:k ≤ 64) (h:K9 x % 2 ^ k = 0):((2:Int) ^ k) ∣ x:=by
 have:=Zml x k 64 hk
 unfold K9 at h
 simp_all <;> omega
theorem ZzR {s:List Int} (h:ZtH s ≠ 0):∃ m,ZtH s = 2 ^ ZC s * (2 * m + 1) ∧ ZC s < 64:=by
 unfold ZC Lib.ctz
 rw [if_neg h,if_neg h]
 exact Lib.ctzFrom_spec 64 (ZtH s) (by omega) (ZNQ s)
theorem ZhH {s:List Int}:∀ x ∈ s,((2:Int) ^ ZC s) ∣ x:=by
 intro x hx
 by_cases h:ZtH s = 0
 ·unfold ZC
  rw [if_pos h]
  exact Int.one_dvd _
 ·obtain ⟨m,hm,hlt⟩:=ZzR h
  have:ZtH s % 2 ^ ZC s = 0:=by rw [hm]; exact Nat.mul_mod_right _ _
  exact ZPD (by omega) ((ZjC s 0 this).2 x hx)
theorem ZwA:∀ (s:List Int) (v:Nat),v = 0 → (∀ x ∈ s,x = 0) → s.foldl (fun v x => v ||| K9 x) v = 0
 | [],v,h,_ => h
 | x :: s,v,h,hx => by
  refine ZwA s _ ?_ fun y hy => hx y (Jn _ hy)
  rw [h,hx x (Jm ..)]
  rfl
theorem Zc1 {s:List Int} {d:Nat} (hd:1 ≤ d) (hs:∀ x ∈ s,Xg x d = true):ZC s < d:=by
 by_cases h:ZtH s = 0
 ·unfold ZC
  rw [if_pos h]
  omega
 ·have:∃ x ∈ s,x ≠ 0:=by
   apply Classical.byContradiction
   intro hc
   refine h (ZwA s 0 rfl fun x hx => ?_)
   grind
  obtain ⟨x,hx,hne⟩:=this
  have h1:=hs x hx
  unfold Xg at h1
  rw [if_neg (by omega),decide_eq_true_eq] at h1
  have h2:=Int.natAbs_dvd_natAbs.2 (ZhH x hx)
  rw [Int.natAbs_pow] at h2
  have h3:=Nat.le_of_dvd (by omega) h2
  have h4:x.natAbs ≤ 2 ^ (d - 1):=by
   grind
  have h5:2 ^ ZC s ≤ 2 ^ (d - 1):=VI h3 h4
  have:=(Nat.pow_le_pow_iff_right (by omega:1 < 2)).1 h5
  omega
def QX (s:List Int):List Int:=s.map fun x => x.fdiv (2 ^ ZC s)
theorem Zal (s:List Int):(QX s).length = s.length:=by simp [QX]
theorem ZyO {x:Int} {k:Nat} (h:((2:Int) ^ k) ∣ x):x.fdiv (2 ^ k) * 2 ^ k = x:=by
 rw [HC _ (Int.pow_nonneg (by omega))]
 exact Int.ediv_mul_cancel h
theorem ZH1 {x:Int} {d k:Nat} (hk:k < d) (h:((2:Int) ^ k) ∣ x) (hx:Xg x d = true):Xg (x.fdiv (2 ^ k)) (d - k) = true:=by
 have he:=ZyO h
 generalize x.fdiv (2 ^ k) = y at he
 unfold Xg at hx ⊢
 rw [if_neg (by omega),decide_eq_true_eq] at hx
 rw [if_neg (by omega),decide_eq_true_eq]
 have hp:(0:Int) < 2 ^ k:=Hm (by omega)
 have e:(2:Int) ^ (d - 1) = 2 ^ (d - k - 1) * 2 ^ k:=by rw [← Int.pow_add]; congr 1; omega
 rw [e,← he,← Int.neg_mul] at hx
 exact ⟨Int.le_of_mul_le_mul_right hx.1 hp,Int.lt_of_mul_lt_mul_right hx.2 (by omega)⟩
theorem ZhC {s:List Int} {d:Nat} (hd:1 ≤ d) (hs:∀ x ∈ s,Xg x d = true):∀ x ∈ QX s,Xg x (d - ZC s) = true:=by
 intro y hy
 obtain ⟨x,hx,rfl⟩:=VG.1 hy
 exact ZH1 (Zc1 hd hs) (ZhH x hx) (hs x hx)
theorem ZCw {x:Int} {d:Nat} (hd:d ≤ 31) (h:Xg x d = true):ZG x:=by
 unfold Xg at h
 unfold ZG
 split at h
 ·simp_all
 ·rw [decide_eq_true_eq,Xu] at h
  have:2 ^ (d - 1) ≤ 2 ^ 30:=Hr (by omega) (by omega)
  omega
end Go.Sh
namespace Go.Sh
open Go Go.Proofs
abbrev Xd:=Int × List Int × Int × List Int × Int
def Zqo (s:List Int) (d:Nat) (kind:Int) (c:List Int) (sh head:Int):Option Xd :=
 if (QM c sh s).2 = 0 then some (kind,c,sh,(QM c sh s).1,head + (c.length:Int) * (d:Int) + (WK (QM c sh s).1 c.length).2.2.1) else none
def Q8 (b:Option Xd) (x:Option Xd):Option Xd :=
 match x with
 | none => b
 | some x => match b with
  | none => some x
  | some b => if x.2.2.2.2 < b.2.2.2.2 then some x else some b
abbrev FPl:=Int × Int × Int × List Int × List Int × Int × List Int × Int × Unit
abbrev SPl:=Int × Int × Int × List Int × (List Int × Int × Unit) × List Int × Int × Unit
def Qq (kk d:Int) (s:List Int):Option Xd → FPl
 | none => (0,0,0,[],[],0,[],-1,())
 | some (kind,c,sh,r,sz) => (kind,kk,d,s,c,sh,r,sz,())
abbrev ZSZ (kk d:Int) (s:List Int) (x:Xd):SPl:=(x.1,kk,d,s,(x.2.1,x.2.2.1,()),x.2.2.2.1,x.2.2.2.2,())
def nnC (b:Option Xd):Prop := ∀ c,b = some c → 0 ≤ c.2.2.2.2
theorem ZcW {b x:Option Xd} (hb:nnC b) (hx:nnC x):nnC (Q8 b x):=by
 intro c hc
 unfold Q8 at hc
 match x,b,hc with
 | none,b,hc => exact hb c hc
 | some x,none,hc => exact hx c hc
 | some x,some b,hc =>
  simp only at hc
  split at hc
  ·exact hx c hc
  ·exact hb c hc
theorem Zw6 (k:Nat) (kk d:Int) (s:List Int) (x:Xd) (b:Option Xd) (hb:nnC b) :
  Zeo k (ZSZ kk d s x,true,Qq kk d s b,()) = some ((),Qq kk d s (Q8 b (some x)),()):=by
 match b with
 | none => rfl
 | some b =>
  have h0:=hb b rfl
  show (bif decide (b.2.2.2.2 < 0) then _ else bif decide (x.2.2.2.2 < b.2.2.2.2) then _ else _) = _
  rw [Zl (by omega)]
  unfold Q8
  simp only
  by_cases h:x.2.2.2.2 < b.2.2.2.2
  ·rw [Zb h,if_pos h]; rfl
  ·rw [Zl h,if_neg h]; rfl
theorem ZhS {l:List Int} {o:Nat} (hl:∀ x ∈ l,ZG x) (hn:l.length + o ≤ 512):0 ≤ (WK l o).2.2.1 ∧ (WK l o).2.2.1 ≤ 281474976710656:=by
 obtain ⟨h1,q,hg⟩:=K5 hl hn (by omega)
 refine ⟨h1,?_⟩
 have key:∀ (cs:List (List Int)) (ps:List Prt) (sz m:Int),(m = 0 ∨ m = 1) → (∀ c ∈ cs,(∀ x ∈ c,ZG x) ∧ c.length ≤ 512) → (QA m cs ps sz).2.1 ≤ sz + (cs.length:Int) * 8796093022208:=by
  intro cs
  induction cs with
  | nil => intro ps sz m _ _; simp [QA]
  | cons c cs ih =>
   intro ps sz m hm h
   cases hb:(Q7 c m).2 with
   | false => rw [Zlz _ _ _ hb]; simp only [JF]; omega
   | true =>
    rw [Zht _ _ _ hb]
    have h1:=h c (Jm ..)
    have h2:=(Zef hb).size h1.1 h1.2
    have:=ih (ps ++ [(Q7 c m).1]) (sz + (4 + m + (Q7 c m).1.2.2.1)) m hm fun c hc => h c (Jn _ hc)
    grind
 have:=key (Yg l o q) [] 6 _ hg.hm fun c hc => ⟨fun x hx => hl x (Zar hc x hx),by have:=ZhZ hc; omega⟩
 rw [hg.parts,Zh0] at this
 have h16:2 ^ q ≤ 2 ^ 4:=Hr (by omega) hg.p4
 grind
theorem Zfs {c s:List Int} {sh:Int} (h:(QM c sh s).2 = 0):(QM c sh s).1 = XN c sh s ∧ c.length ≤ s.length ∧ Za1 c sh = true:=by
 unfold QM at h ⊢
 grind
theorem Kw {c s:List Int} {sh:Int} (h:(QM c sh s).2 = 0) (h1:1 ≤ s.length) (h2:s.length ≤ 512):(QM c sh s).1.length + c.length = s.length ∧ c.length ≤ 8 ∧ Yb (QM c sh s).1 (c.length:Nat) = 0:=by
 have hz:=Zfs h
 have hlen:(QM c sh s).1.length + c.length = s.length:=by rw [hz.1,XN,ZqO]; omega
 have h8:=(Zfg hz.2.2).1
 refine ⟨hlen,h8,Zfq.2 ⟨⟨by omega,by omega,h8⟩,?_⟩⟩
 rw [Uk]
 intro x hx
 have:=X4 c sh s x hx
 unfold ZG at this
 unfold Qy
 simp only [decide_eq_true_eq]
 omega
def ZSS (p:SPl) (kk d:Int) (s:List Int):Option Xd → SPl × Bool × Unit
 | none => (p,false,())
 | some x => (ZSZ kk d s x,true,())
theorem ZF1 (k:Nat) (hk:40000 < k) {s:List Int} (h1:1 ≤ s.length) (h2:s.length ≤ 512) {d:Nat} (hd:d ≤ 25) {head:Int} (hh:0 ≤ head ∧ head ≤ 1000) (kind:Int) (c:List Int) (sh a0 a1 a5:Int) (a4 a6:List Int) (a7:Int) :
  ZoF k ((a0,a1,(d:Int),s,(a4,a5,()),a6,a7,()),kind,(c,sh,()),head,()) = some (ZSS (a0,a1,(d:Int),s,(a4,a5,()),a6,a7,()) a1 d s (Zqo s d kind c sh head),()):=by
 show Zks k _ = _
 simp only [Zks]
 rw [Zr8 k c sh s (by omega) (by omega)]
 simp only [ZX]
 rw [ZD]
 unfold Zqo
 by_cases h:(QM c sh s).2 = 0
 ·rw [Zl (by simpa using h),if_pos h]
  obtain ⟨hl,h8,hr⟩:=Kw h h1 h2
  have hc:=ZGI k (l:=(QM c sh s).1) (o:=c.length) (by omega) hk
  rw [if_pos hr] at hc
  rw [show UJ c.length = ((c.length:Nat):Int) from rfl,hc]
  simp only [ZX]
  rw [show ((0:Int) != 0) = false from rfl]
  simp only [cond_false]
  have hsz:=ZhS (X4 c sh s) (o:=c.length) (by omega)
  have hcd:c.length * d ≤ 8 * 25:=J4 h8 hd
  have e1:((c.length:Nat):Int) * (d:Int) = ((c.length * d:Nat):Int):=by push_cast; rfl
  rw [e1,Z2 (n:=((c.length * d:Nat):Int)) (by omega),Z2 (n:=head + ((c.length * d:Nat):Int)) (by omega),Z2 (by omega)]
  rfl
 ·rw [Zb h,if_neg h]
  rfl
theorem Zw2 (k:Nat) {s:List Int} (h1:1 ≤ s.length) (h2:s.length ≤ 512) (hk:1000 < k) (a0 a1 a2 a5 a7:Int) (a4 a6:List Int) :
  ZoB k (s,((a0,a1,a2,s,a4,a5,a6,a7,()),()),()) = some (!s.all (fun x => decide (x = s.headD 0)),(a0,a1,a2,s,a4,a5,a6,a7,()),()):=by
 show Zek k _ = _
 simp only [Zek]
 have hhd:s.getD 0 0 = s.headD 0:=by cases s <;> rfl
 have key:∃ i:Int,ZoM k (s,((a0,a1,a2,s,a4,a5,a6,a7,()),()),()) = some (i,(a0,a1,a2,s,a4,a5,a6,a7,()),()) ∧ (0 ≤ i ↔ s.all (fun x => decide (x = s.headD 0)) = false):=by
  have:=Qv (A:=Unit) (R:=Int × FPl × Unit) (step:=fun L1 => KC k L1) (fun i _ => (UJ s.length,UJ i,s,a0,a1,a2,s,a4,a5,a6,a7)) s
   (fun l _ => some (if l.all (fun x => decide (x = s.headD 0)) then -1 else UJ (s.length - l.length + (l.takeWhile (fun x => decide (x = s.headD 0))).length),(a0,a1,a2,s,a4,a5,a6,a7,()),()))
   (fun L _ => by grind [KC])
   (fun L i hi _ hL => by
    simp only [KC]
    have e:ZAB k (s[i],(a0,a1,a2,s,a4,a5,a6,a7,()),()) = some (s[i] != s.headD 0,(a0,a1,a2,s,a4,a5,a6,a7,()),()):=by
     show Zkp k _ = _
     grind [Zkp,QY]
    rw [Zb (KX hi),Zb (Ya hi),ZE hi,e]
    simp only [ZX]
    have hlen:(US (i + 1) s).length = s.length - (i + 1):=by simp
    rw [ZD]
    by_cases hc:s[i] = s.headD 0
    ·rw [Zl (by simpa using hc),Qc hi (by omega),hL ()]
     simp only [UA,hc,decide_true,UC,Ht,if_true,JF,hlen]
     grind
    ·rw [Zb hc]
     simp only [UA,hc,decide_false,Bool.false_and,JJ,if_false,Ht,JF,hlen,HY]
     congr 3; omega) k 0 () (by omega) (UH _)
  rw [U9] at this
  refine ⟨_,this,?_⟩
  grind
 grind
def Ze6 (s:List Int) (d:Nat):Option Xd:=if s.all (fun x => decide (x = s.headD 0)) = true then some (0,[],0,[],(d:Int)) else none
def ZPv (s:List Int) (d:Nat) (o:Nat):Option Xd:=Zqo s d (8 + (o:Int)) (Xr o) 0 0
def Zd6 (s:List Int) (d:Nat) (o:Nat):Option Xd:=if o < s.length then Zqo s d (31 + (o:Int)) (ZbL s o) 4 (9 + 12 * (o:Int)) else none
def ZNG (s:List Int) (d:Nat):Option Xd:=some (1,[],0,[],(s.length:Int) * (d:Int))
def ZHs (s:List Int) (d:Nat):Nat → Nat → Option Xd → Option Xd
 | 0,_,b => b
 | e + 1,o,b => ZHs s d e (o + 1) (Q8 b (ZPv s d o))
def ZmF (s:List Int) (d:Nat):Option Xd :=
 Q8 (Q8 (Q8 (Q8 (ZHs s d (min 4 s.length + 1) 0 (Q8 none (Ze6 s d))) (Zd6 s d 2)) (Zd6 s d 4)) (Zd6 s d 8)) (ZNG s d)
theorem ZE1 {s:List Int} {d:Nat} {kind:Int} {c:List Int} {sh head:Int} (h1:1 ≤ s.length) (h2:s.length ≤ 512) (hh:0 ≤ head):nnC (Zqo s d kind c sh head):=by
 intro x hx
 unfold Zqo at hx
 split at hx
 ·rename_i h
  obtain rfl:=(VF.inj hx).symm
  obtain ⟨hl,h8,_⟩:=Kw h h1 h2
  have:=(ZhS (X4 c sh s) (o:=c.length) (by omega)).1
  grind
 ·cases hx
theorem ZE3:nnC none:=fun _ h => by cases h
theorem ZHq (s:List Int) (d:Nat):nnC (Ze6 s d):=by
 intro x hx
 unfold Ze6 at hx
 grind
theorem ZER {s:List Int} {d o:Nat} (h1:1 ≤ s.length) (h2:s.length ≤ 512):nnC (ZPv s d o):=ZE1 h1 h2 (Ek _)
theorem ZvX {s:List Int} {d o:Nat} (h1:1 ≤ s.length) (h2:s.length ≤ 512):nnC (Zd6 s d o):=by
 unfold Zd6
 split
 ·exact ZE1 h1 h2 (by omega)
 ·exact ZE3
theorem ZES {s:List Int} {d:Nat} (h1:1 ≤ s.length) (h2:s.length ≤ 512):∀ (e o:Nat) (b:Option Xd),nnC b → nnC (ZHs s d e o b)
 | 0,_,b,h => h
 | e + 1,o,b,h => ZES h1 h2 e (o + 1) _ (ZcW h (ZER h1 h2))
theorem Ztw (k:Nat) (hk:40000 < k) {s:List Int} (h1:1 ≤ s.length) (h2:s.length ≤ 512) {d:Nat} (hd:d ≤ 25) {head:Int} (hh:0 ≤ head ∧ head ≤ 1000) (kind:Int) (c:List Int) (sh a0 a1 a5:Int) (a4 a6:List Int) (a7:Int) {b:Option Xd} (hb:nnC b)
  {R:Type} (K:Unit × FPl × Unit → Option R) :
  ((ZoF k ((a0,a1,(d:Int),s,(a4,a5,()),a6,a7,()),kind,(c,sh,()),head,())).bind fun y =>
   (Zeo k ((y.1.1.1,y.1.1.2.1,y.1.1.2.2.1,y.1.1.2.2.2.1,(y.1.1.2.2.2.2.1.1,y.1.1.2.2.2.2.1.2.1,()),y.1.1.2.2.2.2.2.1,y.1.1.2.2.2.2.2.2.1,()),y.1.2.1,((Qq a1 d s b).1,(Qq a1 d s b).2.1,(Qq a1 d s b).2.2.1,(Qq a1 d s b).2.2.2.1,(Qq a1 d s b).2.2.2.2.1,(Qq a1 d s b).2.2.2.2.2.1,(Qq a1 d s b).2.2.2.2.2.2.1,(Qq a1 d s b).2.2.2.2.2.2.2.1,()),())).bind K) =
  K ((),Qq a1 d s (Q8 b (Zqo s d kind c sh head)),()):=by
 rw [ZF1 k hk h1 h2 hd hh]
 simp only [ZX]
 cases hm:Zqo s d kind c sh head with
 | none => rfl
 | some x =>
  have:=Zw6 k a1 d s x b hb
  exact (congrArg (fun z => z.bind K) this).trans rfl
end Go.Sh
namespace Go.Sh
open Go Go.Proofs
theorem Zi {α β:Type} {x:Option α} {a:α} (h:x = some a) (K:α → Option β):x.bind K = K a:=by rw [h]; rfl
theorem ZPs (k:Nat) (hk:40000 < k) {s:List Int} (h1:1 ≤ s.length) (h2:s.length ≤ 512) {d:Nat} (hd:d ≤ 25) (kk:Int) :
  ∀ (e o j:Nat) (b:Option Xd),e < j → o + e ≤ 5 → nnC b →
  Zh (fun L2 => ZeV k (Zlf k) L2) j (((o + e:Nat):Int),(o:Int),UJ s.length,(Qq kk d s b).1,(Qq kk d s b).2.1,(Qq kk d s b).2.2.1,(Qq kk d s b).2.2.2.1,(Qq kk d s b).2.2.2.2.1,(Qq kk d s b).2.2.2.2.2.1,(Qq kk d s b).2.2.2.2.2.2.1,(Qq kk d s b).2.2.2.2.2.2.2.1,
    0,kk,(d:Int),s,[],0,[],0,0,kk,(d:Int),0,(d:Int),s,0,0,0,0,0) =
   (fun b => Zlf k ((0:Int),(2:Int),(4:Int),(8:Int),UJ s.length,0,kk,(d:Int),s,[],0,[],0,(Qq kk d s b).1,(Qq kk d s b).2.1,(Qq kk d s b).2.2.1,(Qq kk d s b).2.2.2.1,(Qq kk d s b).2.2.2.2.1,(Qq kk d s b).2.2.2.2.2.1,(Qq kk d s b).2.2.2.2.2.2.1,(Qq kk d s b).2.2.2.2.2.2.2.1,
    0,kk,(d:Int),0,(d:Int),s,0,0,0,0,0)) (ZHs s d e o b):=by
 intro e
 induction e with
 | zero =>
  intro o j b hj ho hb
  obtain ⟨j,rfl⟩:=Zw hj
  rw [Zd]
  simp only [ZeV]
  rw [Zl (by omega)]
  rfl
 | succ e ih =>
  intro o j b hj ho hb
  obtain ⟨j,rfl⟩:=Zw (show 0 < j by omega)
  rw [Zd]
  simp only [ZeV]
  rw [Zb (by omega),Zkr k o (by omega) (by omega)]
  simp only [ZX]
  have e1:Jx.wrap ((8:Int) + (o:Int)) = 8 + (o:Int):=by rw [Z2 (by omega)]
  have e2:Jx.wrap ((o:Int) + 1) = ((o + 1:Nat):Int):=by rw [Z2 (by omega)]; rfl
  rw [e1,e2]
  refine (Ztw k hk h1 h2 hd (show (0:Int) ≤ 0 ∧ (0:Int) ≤ 1000 by omega) (8 + (o:Int)) (Xr o) 0 0 kk 0 [] [] 0 hb _).trans ?_
  have:=ih (o + 1) j (Q8 b (ZPv s d o)) (by omega) (by omega) (ZcW hb (ZER h1 h2))
  rw [show o + 1 + e = o + (e + 1) by omega] at this
  exact this
theorem ZPt (k:Nat) (hk:40000 < k) {s:List Int} (h1:1 ≤ s.length) (h2:s.length ≤ 512) (hs:∀ x ∈ s,ZG x) {d:Nat} (hd:d ≤ 25) (kk:Int) (b:Option Xd) (hb:nnC b) :
  Zlf k ((0:Int),(2:Int),(4:Int),(8:Int),UJ s.length,0,kk,(d:Int),s,[],0,[],0,(Qq kk d s b).1,(Qq kk d s b).2.1,(Qq kk d s b).2.2.1,(Qq kk d s b).2.2.2.1,(Qq kk d s b).2.2.2.2.1,(Qq kk d s b).2.2.2.2.2.1,(Qq kk d s b).2.2.2.2.2.2.1,(Qq kk d s b).2.2.2.2.2.2.2.1,
    0,kk,(d:Int),0,(d:Int),s,0,0,0,0,0) =
   (fun b => some (((Qq kk d s b).1,(Qq kk d s b).2.1,(Qq kk d s b).2.2.1,(Qq kk d s b).2.2.2.1,((Qq kk d s b).2.2.2.2.1,(Qq kk d s b).2.2.2.2.2.1,()),(Qq kk d s b).2.2.2.2.2.2.1,(Qq kk d s b).2.2.2.2.2.2.2.1,()),()))
    (Q8 (Q8 (Q8 (Q8 b (Zd6 s d 2)) (Zd6 s d 4)) (Zd6 s d 8)) (ZNG s d)):=by
 have one:∀ (j i o:Nat) (b:Option Xd),(i = 0 ∧ o = 2 ∨ i = 1 ∧ o = 4 ∨ i = 2 ∧ o = 8) → nnC b →
   Zh (fun L3 => ZcE k L3) (j + 1) ((i:Int),(2:Int),(4:Int),(8:Int),UJ s.length,0,kk,(d:Int),s,[],0,[],0,(Qq kk d s b).1,(Qq kk d s b).2.1,(Qq kk d s b).2.2.1,(Qq kk d s b).2.2.2.1,(Qq kk d s b).2.2.2.2.1,(Qq kk d s b).2.2.2.2.2.1,(Qq kk d s b).2.2.2.2.2.2.1,(Qq kk d s b).2.2.2.2.2.2.2.1,
    0,kk,(d:Int),0,(d:Int),s,0,0,0,0,0) =
   (fun b => Zh (fun L3 => ZcE k L3) j (((i + 1:Nat):Int),(2:Int),(4:Int),(8:Int),UJ s.length,0,kk,(d:Int),s,[],0,[],0,(Qq kk d s b).1,(Qq kk d s b).2.1,(Qq kk d s b).2.2.1,(Qq kk d s b).2.2.2.1,(Qq kk d s b).2.2.2.2.1,(Qq kk d s b).2.2.2.2.2.1,(Qq kk d s b).2.2.2.2.2.2.1,(Qq kk d s b).2.2.2.2.2.2.2.1,
    0,kk,(d:Int),0,(d:Int),s,0,0,0,0,0)) (Q8 b (Zd6 s d o)):=by
  intro j i o b hio hb
  rw [Zd]
  simp only [ZcE]
  have ho:o = 2 ∨ o = 4 ∨ o = 8:=by omega
  have hg:[(2:Int),4,8].getD ((i:Int)).toNat 0 = (o:Int):=by
   grind
  have e2:Jx.wrap ((i:Int) + 1) = ((i + 1:Nat):Int):=by rw [Z2 (by omega)]; rfl
  rw [Zb (by omega),Zb (by omega),hg,e2]
  unfold Zd6
  by_cases hlt:o < s.length
  ·rw [Zb (by simp only [QY]; omega),if_pos hlt,ZF6 k s o ho (by omega) hs (by omega) (by omega)]
   simp only [ZX]
   have e1:Jx.wrap ((31:Int) + (o:Int)) = 31 + (o:Int):=by rw [Z2 (by omega)]
   have e3:Jx.wrap ((9:Int) + Jx.wrap ((12:Int) * (o:Int))) = 9 + 12 * (o:Int):=by rw [Z2 (n:=12 * (o:Int)) (by omega),Z2 (by omega)]
   rw [e1,e3]
   exact Ztw k hk h1 h2 hd (show (0:Int) ≤ 9 + 12 * (o:Int) ∧ 9 + 12 * (o:Int) ≤ 1000 by omega) (31 + (o:Int)) (ZbL s o) 4 0 kk 0 [] [] 0 hb _
  ·rw [Zl (by simp only [QY]; omega),if_neg hlt]
   rfl
 obtain ⟨j,rfl⟩:∃ j,k = j + 4:=⟨k - 4,by omega⟩
 have nn1:=ZcW hb (ZvX (o:=2) (d:=d) h1 h2)
 have nn2:=ZcW nn1 (ZvX (o:=4) (d:=d) h1 h2)
 have nn3:=ZcW nn2 (ZvX (o:=8) (d:=d) h1 h2)
 refine (one (j + 3) 0 2 b (by omega) hb).trans ((one (j + 2) 1 4 _ (by omega) nn1).trans ((one (j + 1) 2 8 _ (by omega) nn2).trans ?_))
 generalize Q8 (Q8 (Q8 b (Zd6 s d 2)) (Zd6 s d 4)) (Zd6 s d 8) = b3 at nn3
 simp only
 rw [Zd]
 simp only [ZcE]
 rw [Zl (by omega)]
 have hmul:s.length * d ≤ 512 * 25:=J4 h2 hd
 have e1:Jx.wrap (UJ s.length * (d:Int)) = (s.length:Int) * (d:Int):=by
  have:UJ s.length * (d:Int) = ((s.length * d:Nat):Int):=by rfl
  rw [this,Z2 (by omega)]; push_cast; rfl
 rw [e1]
 have:=Zw6 (j + 4) kk d s (1,[],0,[],(s.length:Int) * (d:Int)) b3 nn3
 exact Zi this _
theorem ZL1 (k:Nat) (hk:40000 < k) {s:List Int} (h1:1 ≤ s.length) (h2:s.length ≤ 512) {d:Nat} (hd1:1 ≤ d) (hd:d ≤ 25) (hs:∀ x ∈ s,Xg x d = true) :
  ZEB k (s,(d:Int),()) = (fun b => some (((Qq (ZC s:Nat) ((d - ZC s:Nat):Int) (QX s) b).1,(Qq (ZC s:Nat) ((d - ZC s:Nat):Int) (QX s) b).2.1,(Qq (ZC s:Nat) ((d - ZC s:Nat):Int) (QX s) b).2.2.1,(Qq (ZC s:Nat) ((d - ZC s:Nat):Int) (QX s) b).2.2.2.1,((Qq (ZC s:Nat) ((d - ZC s:Nat):Int) (QX s) b).2.2.2.2.1,(Qq (ZC s:Nat) ((d - ZC s:Nat):Int) (QX s) b).2.2.2.2.2.1,()),(Qq (ZC s:Nat) ((d - ZC s:Nat):Int) (QX s) b).2.2.2.2.2.2.1,(Qq (ZC s:Nat) ((d - ZC s:Nat):Int) (QX s) b).2.2.2.2.2.2.2.1,()),()))
   (ZmF (QX s) (d - ZC s)):=by
 show Zji k (Zvy k) _ = _
 simp only [Zji]
 rw [ZFW k s (by omega) (by omega)]
 simp only [ZX]
 have hw:=Zc1 hd1 hs
 have hsg:=ZhC hd1 hs
 have hsl:=Zal s
 have e1:Jx.wrap ((d:Int) - ((ZC s:Nat):Int)) = ((d - ZC s:Nat):Int):=by rw [Z2 (by omega)]; omega
 rw [e1]
 generalize hkk:ZC s = kk at hw hsg
 generalize hdd:d - kk = dd at hsg
 have:=Zs (A:=List Int) (R:=SPl × Unit) (step:=fun L1 => KL k (Zle k) L1)
  (fun i a => (UJ s.length,UJ i,s,(kk:Int),(0:Int),(kk:Int),(dd:Int),(0:Int),(0:Int),a,(0:Int),(0:Int),(0:Int),(0:Int),(0:Int))) s
  (fun s' a => KL k (Zle k) (fun _ => none) (UJ s.length,UJ s.length,s,(kk:Int),(0:Int),(kk:Int),(dd:Int),(0:Int),(0:Int),a ++ s'.map (fun x => x.fdiv (2 ^ kk)),(0:Int),(0:Int),(0:Int),(0:Int),(0:Int)))
  (fun i a => a.length = i)
  (fun L a _ => by
   grind [KL])
  (fun L i hi a ha hL => by
   have key:KL k (Zle k) L (UJ s.length,UJ i,s,(kk:Int),(0:Int),(kk:Int),(dd:Int),(0:Int),(0:Int),a,(0:Int),(0:Int),(0:Int),(0:Int),(0:Int)) =
     L (UJ s.length,UJ (i + 1),s,(kk:Int),(0:Int),(kk:Int),(dd:Int),(0:Int),(0:Int),a ++ [s[i].fdiv (2 ^ kk)],(0:Int),(0:Int),(0:Int),(0:Int),(0:Int)):=by
    simp only [KL]
    rw [Zb (KX hi),Zb (Ya hi),Zb (by omega),Zb (by grind),ZE hi,Xa,Hl (by omega),Qc hi (by omega)]
   grind)
  k 0 [] rfl (by omega) (UH _)
 rw [U9,VT] at this
 refine Hn this ?_
 have hsh:s.map (fun x => x.fdiv (2 ^ kk)) = QX s:=by unfold QX; rw [hkk]
 rw [hsh]
 generalize QX s = t at hsg hsl
 simp only [KL]
 rw [Zl (Zaa _),Zw2 k (by omega) (by omega) (by omega)]
 simp only [ZX,Bool.not_not]
 have nar:∀ x ∈ t,ZG x:=fun x hx => ZCw (by omega) (hsg x hx)
 have hfirst:Zeo k (((0:Int),(kk:Int),(dd:Int),t,([],0,()),[],(dd:Int),()),t.all (fun x => decide (x = t.headD 0)),(0,0,0,[],[],0,[],(-1:Int),()),()) = some ((),Qq kk dd t (Q8 none (Ze6 t dd)),()):=by
  unfold Ze6
  cases t.all (fun x => decide (x = t.headD 0)) with
  | false => rfl
  | true => rfl
 rw [hfirst]
 simp only [ZX]
 have e4:Jx.wrap ((if UJ t.length < (4:Int) then UJ t.length else (4:Int)) + (1:Int)) = ((0 + (min 4 t.length + 1):Nat):Int):=by
  have:(if UJ t.length < (4:Int) then UJ t.length else (4:Int)) = ((min 4 t.length:Nat):Int):=by
   grind
  rw [this,Z2 (by omega)]
  omega
 rw [e4]
 have nn0:nnC (Q8 none (Ze6 t dd)):=ZcW ZE3 (ZHq t dd)
 refine (ZPs k hk (by omega) (by omega) (show dd ≤ 25 by omega) kk (min 4 t.length + 1) 0 k _ (by omega) (by omega) nn0).trans ?_
 exact ZPt k hk (by omega) (by omega) nar (by omega) kk _ (ZES (by omega) (by omega) _ _ _ nn0)
end Go.Sh
namespace Go.Sh
open Go Go.Proofs
theorem WP (w:Nat):∀ c:List Int,(c.flatMap fun n => WA n w).length = w * c.length
 | [] => rfl
 | a :: c => by rw [Hi,Q3,Zak,WP w c,JF,Nat.mul_add,Nat.mul_one]; omega
theorem Zjo (kk:Nat):∀ c:List Int,(c.flatMap (Kv kk)).length = Zft c kk
 | [] => rfl
 | a :: c => by
  rw [Hi,Q3,Zfk,Zjo kk c]
  unfold Zft
  simp only [JF,JR,ZhF,Nat.mul_add,Nat.mul_one]
  omega
theorem Zv5 {c:List Int} {m:Int} (hm:m = 0 ∨ m = 1) {y:Prt} (hy:KY c m y):((Xt m (c,y)).length:Int) = 4 + m + y.2.2.1:=by
 have hmn:((m.toNat:Nat):Int) = m:=by rcases hm with rfl | rfl <;> rfl
 unfold Xt YP
 rcases hy with ⟨kk,hkk,hfar,rfl⟩ | ⟨hw,rfl⟩
 ·grind [Q3,Ze,HY,Xa,Zjo]
 ·simp only
  rw [if_pos trivial,if_pos trivial]
  simp only [Q3,Ze,Xa,WP]
  omega
theorem Ztf {m:Int} (hm:m = 0 ∨ m = 1):∀ (cs:List (List Int)) (ps:List Prt) (sz:Int),(QA m cs ps sz).2.2 = true →
  ((((cs.zip (cs.map fun c => (Q7 c m).1)).flatMap (Xt m)).length:Nat):Int) = (QA m cs ps sz).2.1 - sz
 | [],ps,sz,_ => by simp [QA]
 | c :: cs,ps,sz,h => by
  cases hb:(Q7 c m).2 with
  | false => rw [Zlz _ _ _ hb] at h; cases h
  | true =>
   rw [Zht _ _ _ hb] at h ⊢
   have h1:=Zv5 hm (Zef hb)
   have h2:=Ztf hm cs _ _ h
   simp_all <;> omega
theorem RGood.map {l:List Int} {o p:Nat} {R:XO} (h:RGood l o R p):R.2.2.2 = (Yg l o p).map fun c => (Q7 c R.1).1:=by
 obtain ⟨ys,h1,h2,h3⟩:=Zfl (m:=R.1) (Yg l o p) [] 6 (by rw [h.parts])
 rw [h.parts] at h1
 simp_all
theorem RGood.len {l:List Int} {o p:Nat} {R:XO} (h:RGood l o R p):((Zfm l o R).length:Int) = R.2.2.1:=by
 have h1:=Ztf h.hm (Yg l o p) [] 6 (by rw [h.parts])
 rw [h.parts,← h.map] at h1
 unfold Zfm
 rw [h.hp,Xa]
 grind [Q3,Ze]
theorem Zwe {l:List Int} {o:Nat} (hl:∀ x ∈ l,ZG x) (hn:l.length + o ≤ 512):((W8 l o).length:Int) = (WK l o).2.2.1:=by
 obtain ⟨_,q,hg⟩:=K5 hl hn (by omega)
 exact hg.len
def Zd9 (s:List Int) (d:Nat) (x:Xd):Prop :=
 (x = (0,[],0,[],(d:Int)) ∧ s.all (fun x => decide (x = s.headD 0)) = true) ∨ x = (1,[],0,[],(s.length:Int) * (d:Int)) ∨
 (∃ o,o ≤ 4 ∧ o ≤ s.length ∧ ZPv s d o = some x) ∨ (∃ o,(o = 2 ∨ o = 4 ∨ o = 8) ∧ o < s.length ∧ Zqo s d (31 + (o:Int)) (ZbL s o) 4 (9 + 12 * (o:Int)) = some x)
def ZrF (s:List Int) (d:Nat) (b:Option Xd):Prop := ∀ x,b = some x → Zd9 s d x
theorem ZzH {b x:Option Xd} {y:Xd} (h:Q8 b x = some y):b = some y ∨ x = some y:=by
 unfold Q8 at h
 grind
theorem ZcX {s:List Int} {d:Nat} {b x:Option Xd} (hb:ZrF s d b) (hx:ZrF s d x):ZrF s d (Q8 b x):=fun y hy => by
 rcases ZzH hy with h | h
 ·exact hb y h
 ·exact hx y h
theorem ZNs {b x:Option Xd}:(∀ y,b = some y → ∃ z,Q8 b x = some z ∧ z.2.2.2.2 ≤ y.2.2.2.2) ∧ (∀ y,x = some y → ∃ z,Q8 b x = some z ∧ z.2.2.2.2 ≤ y.2.2.2.2):=by
 unfold Q8
 grind
theorem ZET {s:List Int} {d:Nat}:∀ (e o:Nat) (b:Option Xd),o + e ≤ min 4 s.length + 1 → ZrF s d b → ZrF s d (ZHs s d e o b)
 | 0,_,b,_,h => h
 | e + 1,o,b,he,h => ZET e (o + 1) _ (by omega) (ZcX h fun x hx => .inr (.inr (.inl ⟨o,by omega,by omega,hx⟩)))
theorem ZvY {s:List Int} {d o:Nat} (ho:o = 2 ∨ o = 4 ∨ o = 8):ZrF s d (Zd6 s d o):=by
 intro x hx
 unfold Zd6 at hx
 split at hx
 ·exact .inr (.inr (.inr ⟨o,ho,by omega,hx⟩))
 ·cases hx
theorem ZAs (s:List Int) (d:Nat):∃ x,ZmF s d = some x ∧ Zd9 s d x ∧ x.2.2.2.2 ≤ (s.length:Int) * (d:Int):=by
 obtain ⟨z,h1,h2⟩:=(ZNs (b:=Q8 (Q8 (Q8 (ZHs s d (min 4 s.length + 1) 0 (Q8 none (Ze6 s d))) (Zd6 s d 2)) (Zd6 s d 4)) (Zd6 s d 8)) (x:=ZNG s d)).2 _ rfl
 refine ⟨z,h1,?_,h2⟩
 refine ZcX (ZcX (ZcX (ZcX (ZET _ _ _ (by omega) (ZcX (fun x hx => by cases hx) ?_)) (ZvY (.inl rfl))) (ZvY (.inr (.inl rfl)))) (ZvY (.inr (.inr rfl)))) ?_ z h1
 ·intro x hx
  unfold Ze6 at hx
  split at hx
  ·rename_i h
   exact .inl ⟨(VF.inj hx).symm,h⟩
  ·cases hx
 ·intro x hx
  exact .inr (.inl (VF.inj hx).symm)
def XP (s:List Int) (d:Nat) (x:Xd):List Bool :=
 if x.1 = 0 then (s.take 1).flatMap (fun n => WA n d) else if x.1 = 1 then s.flatMap (fun n => WA n d)
 else (s.take x.2.1.length).flatMap (fun n => WA n d) ++ ((if 31 < x.1 then Za 11 4 ++ (Za x.2.2.1.toNat 5 ++ x.2.1.flatMap (fun n => WA n 12)) else []) ++ W8 x.2.2.2.1 x.2.1.length)
def XX (kind:Int) (kk:Nat):List Bool:=Za kind.toNat 7 ++ (if 0 < kk then [true] ++ (Jd (kk - 1) false ++ [true]) else [false])
def Wn (s:List Int) (d:Nat):List Bool:=match ZmF (QX s) (d - ZC s) with
 | none => []
 | some x => XX x.1 (ZC s) ++ XP (QX s) (d - ZC s) x
theorem ZvQ (kind:Int) (kk:Nat):(XX kind kk).length = 8 + kk:=by
 unfold XX
 rw [Q3,Ze]
 split
 ·simp; omega
 ·simp; omega
theorem Yy {s:List Int} {d:Nat} {kind:Int} {c:List Int} {sh head:Int} {x:Xd} (h1:1 ≤ s.length) (h2:s.length ≤ 512) (h:Zqo s d kind c sh head = some x) :
  x.1 = kind ∧ x.2.1 = c ∧ x.2.2.1 = sh ∧ x.2.2.2.1 = XN c sh s ∧ x.2.2.2.2 = head + (c.length:Int) * (d:Int) + ((W8 (XN c sh s) c.length).length:Int) ∧ Yb (XN c sh s) (c.length:Nat) = 0 ∧ c.length ≤ s.length ∧ c.length ≤ 8 ∧ Za1 c sh = true ∧
   (QM c sh s).2 = 0:=by
 unfold Zqo at h
 split at h
 ·rename_i hz
  obtain rfl:=(VF.inj h).symm
  obtain ⟨hl,h8,hr⟩:=Kw hz h1 h2
  obtain ⟨e1,e2,e3⟩:=Zfs hz
  have:=Zwe (X4 c sh s) (o:=c.length) (by omega)
  simp_all
 ·cases h
theorem X5 (s:List Int) (d j:Nat) (h:j ≤ s.length):((s.take j).flatMap (fun n => WA n d)).length = d * j:=by
 rw [WP,Jz,Hl h]
theorem Zp1 (o:Nat) (h:o ≤ 4):(Xr o).length = o:=by
 obtain rfl | rfl | rfl | rfl | rfl:o = 0 ∨ o = 1 ∨ o = 2 ∨ o = 3 ∨ o = 4:=by omega
 all_goals rfl
theorem ZtM {s:List Int} {d:Nat} {x:Xd} (h1:1 ≤ s.length) (h2:s.length ≤ 512) (h:Zd9 s d x):((XP s d x).length:Int) = x.2.2.2.2:=by
 unfold XP
 rcases h with ⟨rfl,_⟩ | rfl | ⟨o,ho,hos,hx⟩ | ⟨o,ho,hos,hx⟩
 ·simp only
  rw [if_pos trivial,X5 _ _ _ h1]
  omega
 ·simp only
  rw [if_neg (by omega),if_pos trivial,WP]
  push_cast
  rw [Int.mul_comm]
 ·obtain ⟨e1,e2,e3,e4,e5,e6,e7,e8,e9,_⟩:=Yy h1 h2 hx
  rw [e1,e2,e3,e4,e5,if_neg (by omega),if_neg (by omega),if_neg (by omega)]
  simp only [Q3,HY,X5 _ _ _ e7]
  grind
 ·obtain ⟨e1,e2,e3,e4,e5,e6,e7,e8,e9,_⟩:=Yy h1 h2 hx
  have hsl:=(ZhB s o ho).1
  rw [e1,e2,e3,e4,e5,if_neg (by omega),if_neg (by omega),if_pos (by omega)]
  simp only [Q3,X5 _ _ _ e7,Ze,WP]
  grind
theorem ZdN (s:List Int) (d:Nat) (h1:1 ≤ s.length) (h2:s.length ≤ 512):∃ x,ZmF (QX s) (d - ZC s) = some x ∧ Zd9 (QX s) (d - ZC s) x ∧ Wn s d = XX x.1 (ZC s) ++ XP (QX s) (d - ZC s) x ∧
  ((Wn s d).length:Int) = 8 + (ZC s:Int) + x.2.2.2.2 ∧ x.2.2.2.2 ≤ (s.length:Int) * ((d - ZC s:Nat):Int):=by
 obtain ⟨x,h3,h4,h5⟩:=ZAs (QX s) (d - ZC s)
 have hb:=ZtM (by rw [Zal]; exact h1) (by rw [Zal]; exact h2) h4
 rw [Zal] at h5
 have e:Wn s d = XX x.1 (ZC s) ++ XP (QX s) (d - ZC s) x:=by unfold Wn; rw [h3]
 refine ⟨x,h3,h4,e,?_,h5⟩
 rw [e,Q3,ZvQ]
 omega
theorem Zzz {s:List Int} {d:Nat} (h1:1 ≤ s.length) (h2:s.length ≤ 512) (hw:ZC s < d):(Wn s d).length ≤ 8 + s.length * d:=by
 obtain ⟨x,_,_,_,h4,h5⟩:=ZdN s d h1 h2
 have e:(s.length:Int) * ((d - ZC s:Nat):Int) = ((s.length * d - s.length * ZC s:Nat):Int):=by
  rw [← Nat.mul_sub]; push_cast; rfl
 have h6:ZC s ≤ s.length * ZC s:=EF _ h1
 grind
end Go.Sh
namespace Go.Sh
open Go Go.Proofs
theorem ZeY (k:Nat) {l:List Int} {w:Nat} (hk:10000 < k) (hl:l.length ≤ 8192) (hw:w ≤ 32) (hs:∀ x ∈ l,Xg x w = true) (bs:List Bool) (hb:bs.length ≤ 2147483648) :
  Zbv k (Kn bs,l,(w:Int),()) = some ((),Kn (bs ++ l.flatMap (fun n => WA n w)),()):=by
 show Zjk k (ZvD k) _ = _
 simp only [Zjk]
 have:=Zs (A:=List Bool) (R:=Unit × (List Int × Int × Unit) × Unit) (step:=fun L1 => ZeX k L1)
  (fun i a => (UJ l.length,UJ i,l,(w:Int),(a.length:Int),ZF a)) l
  (fun l' a => some ((),Kn (a ++ l'.flatMap (fun n => WA n w)),()))
  (fun i a => a.length ≤ 2147483648 + i * 32)
  (fun L a _ => by
   grind [ZeX])
  (fun L i hi a ha hL => by
   simp only [ZeX]
   rw [Zb (KX hi),Zb (Ya hi),ZE hi]
   rw [show ((ZF a,((a.length:Nat):Int),()):List Int × Int × Unit) = Kn a from rfl,ZrY k a _ w (by omega) hw (hs _ (Ha hi)) (by omega)]
   simp only [ZX]
   rw [Qc hi (by omega),hL (a ++ WA l[i] w) (by rw [Q3,Zak]; omega),Hi,Ju])
  k 0 bs (by omega) (by omega) (UH _)
 rw [U9] at this
 exact this
noncomputable def Zi8 (k:Nat) (p:SPl) (w:List Int × Int × Unit):Option (Int × (List Int × Int × Unit) × Unit) :=
 bif p.1 == (0:Int) then bif decide ((0:Int) ≤ (0:Int) ∧ (0:Int) ≤ (1:Int) ∧ (1:Int) ≤ UJ (UP p.2.2.2.1)) then (Zbv k (w,US (0:Nat) (UR (1:Nat) p.2.2.2.1),p.2.2.1,())).bind fun y => some (0,(y.2.1.1,y.2.1.2.1,()),()) else none
 else bif p.1 == (1:Int) then (Zbv k (w,p.2.2.2.1,p.2.2.1,())).bind fun y => some (0,(y.2.1.1,y.2.1.2.1,()),())
 else bif decide ((0:Int) ≤ (0:Int) ∧ (0:Int) ≤ UJ (UP p.2.2.2.2.1.1) ∧ UJ (UP p.2.2.2.2.1.1) ≤ UJ (UP p.2.2.2.1)) then
  (Zbv k (w,US (0:Nat) (UR (UJ (UP p.2.2.2.2.1.1)).toNat p.2.2.2.1),p.2.2.1,())).bind fun y_4 =>
   bif decide ((31:Int) < p.1) then (ZO k ((y_4.2.1.1,y_4.2.1.2.1,()),11,4,())).bind fun y_5 => (ZO k ((y_5.2.1.1,y_5.2.1.2.1,()),p.2.2.2.2.1.2.1,5,())).bind fun y_6 => (Zbv k ((y_6.2.1.1,y_6.2.1.2.1,()),p.2.2.2.2.1.1,12,())).bind fun y_7 => (Zmd k ((y_7.2.1.1,y_7.2.1.2.1,()),p.2.2.2.2.2.1,UJ (UP p.2.2.2.2.1.1),())).bind fun y => some (y.1,(y.2.1.1,y.2.1.2.1,()),())
   else (Zmd k ((y_4.2.1.1,y_4.2.1.2.1,()),p.2.2.2.2.2.1,UJ (UP p.2.2.2.2.1.1),())).bind fun y => some (y.1,(y.2.1.1,y.2.1.2.1,()),())
 else none
theorem ZHk (k:Nat) (w:List Int × Int × Unit) (s:List Int) (d:Int):ZEm k (w,s,d,()) =
  (ZEz k (s,d,())).bind fun y => bif y.1 != (0:Int) then some (y.1,w,()) else (ZEB k (s,d,())).bind fun y => (ZO k (w,y.1.1,7,())).bind fun y_1 =>
   bif decide ((0:Int) < y.1.2.1) then (ZO k ((y_1.2.1.1,y_1.2.1.2.1,()),1,1,())).bind fun y_2 => (ZsQ k ((y_2.2.1.1,y_2.2.1.2.1,()),Jx.wrap (y.1.2.1 - (1:Int)),())).bind fun y_3 => Zi8 k y.1 (y_3.2.1.1,y_3.2.1.2.1,())
   else (ZO k ((y_1.2.1.1,y_1.2.1.2.1,()),0,1,())).bind fun y_2 => Zi8 k y.1 (y_2.2.1.1,y_2.2.1.2.1,()):=rfl
theorem ZgF (k:Nat) (hk:70000 < k) {s:List Int} (h1:1 ≤ s.length) (h2:s.length ≤ 512) {d:Nat} (hd1:1 ≤ d) (hd:d ≤ 25) (hs:∀ x ∈ s,Xg x d = true) {x:Xd} (hx:Zd9 s d x) (kk:Int) (bs:List Bool) (hb:bs.length ≤ 1000000000) :
  Zi8 k (ZSZ kk d s x) (Kn bs) = some (0,Kn (bs ++ XP s d x),()):=by
 unfold Zi8 XP
 rcases hx with ⟨rfl,_⟩ | rfl | ⟨o,ho,hos,hx⟩ | ⟨o,ho,hos,hx⟩
 ·simp only
  rw [ZP,Zb rfl,Zb (by simp only [QY]; omega),if_pos trivial,U9]
  rw [ZeY k (by omega) (by rw [Jz]; omega) (by omega) (fun y hy => hs y (JT hy)) bs (by omega)]
  rfl
 ·simp only
  rw [ZP,Zl (by omega),ZP,Zb rfl,if_neg (by omega),if_pos trivial]
  rw [ZeY k (by omega) (by omega) (by omega) hs bs (by omega)]
  rfl
 ·obtain ⟨e1,e2,e3,e4,e5,e6,e7,e8,e9,_⟩:=Yy h1 h2 hx
  obtain ⟨kind,c,sh,r,sz⟩:=x
  simp only at e1 e2 e3 e4 e5
  subst e1; subst e2; subst e3; subst e4
  simp only
  rw [ZP,Zl (by omega),ZP,Zl (by omega),Zb (by simp only [QY]; omega),if_neg (by omega),if_neg (by omega),if_neg (by omega),U9]
  rw [show (UJ (Xr o).length).toNat = (Xr o).length from rfl]
  rw [ZeY k (by omega) (by rw [Jz]; omega) (by omega) (fun y hy => hs y (JT hy)) bs (by omega)]
  simp only [ZX]
  rw [Zl (by omega),show UJ (Xr o).length = ((Xr o).length:Nat) from rfl]
  have hlen:=X5 s d (Xr o).length e7
  have hmul:d * (Xr o).length ≤ 25 * 8:=J4 hd e8
  refine (Zi (ZyG k (by omega) e6 (bs ++ (s.take (Xr o).length).flatMap (fun n => WA n d)) (by rw [Q3]; omega)) _).trans ?_
  simp_all
 ·obtain ⟨e1,e2,e3,e4,e5,e6,e7,e8,e9,_⟩:=Yy h1 h2 hx
  obtain ⟨hsl,hsr⟩:=ZhB s o ho
  obtain ⟨kind,c,sh,r,sz⟩:=x
  simp only at e1 e2 e3 e4 e5
  subst e1; subst e2; subst e3; subst e4
  simp only
  rw [ZP,Zl (by omega),ZP,Zl (by omega),Zb (by simp only [QY]; omega),if_neg (by omega),if_neg (by omega),if_pos (by omega),U9]
  generalize ZbL s o = c at hsl hsr e6 e7 e8 e9
  rw [show (UJ c.length).toNat = c.length from rfl]
  rw [ZeY k (by omega) (by rw [Jz]; omega) (by omega) (fun y hy => hs y (JT hy)) bs (by omega)]
  simp only [ZX]
  rw [Zb (by omega),show UJ c.length = (c.length:Nat) from rfl]
  have hlen:=X5 s d c.length e7
  have hmul:d * c.length ≤ 25 * 8:=J4 hd e8
  generalize hW:(s.take c.length).flatMap (fun n => WA n d) = W at hlen
  have l1:(bs ++ W).length = bs.length + d * c.length:=by rw [Q3,hlen]
  refine (Zi (QI k (bs ++ W) 11 4 (by omega) (by omega) (by omega) (by omega)) _).trans ?_
  have l2:(bs ++ W ++ Za 11 4).length = bs.length + d * c.length + 4:=by rw [Q3,l1,Ze]
  refine (Zi (QI k (bs ++ W ++ Za 11 4) 4 5 (by omega) (by omega) (by omega) (by omega)) _).trans ?_
  have l3:(bs ++ W ++ Za 11 4 ++ Za 4 5).length = bs.length + d * c.length + 9:=by rw [Q3,l2,Ze]
  refine (Zi (ZeY k (l:=c) (w:=12) (by omega) (by omega) (by omega) (fun y hy => by
   have:=hsr y hy
   unfold Xg
   grind) (bs ++ W ++ Za 11 4 ++ Za 4 5) (by omega)) _).trans ?_
  have l4:(bs ++ W ++ Za 11 4 ++ Za 4 5 ++ c.flatMap (fun n => WA n 12)).length = bs.length + d * c.length + 9 + 12 * c.length:=by rw [Q3,l3,WP]
  refine (Zi (ZyG k (by omega) e6 (bs ++ W ++ Za 11 4 ++ Za 4 5 ++ c.flatMap (fun n => WA n 12)) (by omega)) _).trans ?_
  simp_all
theorem Zd9.kind {s:List Int} {d:Nat} {x:Xd} (h1:1 ≤ s.length) (h2:s.length ≤ 512) (h:Zd9 s d x):∃ n:Nat,x.1 = (n:Int) ∧ n < 2 ^ 7:=by
 rcases h with ⟨rfl,_⟩ | rfl | ⟨o,ho,hos,hx⟩ | ⟨o,ho,hos,hx⟩
 ·exact ⟨0,rfl,by omega⟩
 ·exact ⟨1,rfl,by omega⟩
 ·exact ⟨8 + o,by rw [(Yy h1 h2 hx).1]; omega,by omega⟩
 ·exact ⟨31 + o,by rw [(Yy h1 h2 hx).1]; omega,by omega⟩
theorem Zmr {s:List Int} {d:Nat}:Zgs s (d:Int) = 0 ↔ (1 ≤ s.length ∧ s.length ≤ 512 ∧ 4 ≤ d ∧ d ≤ 25) ∧ ∀ x ∈ s,Xg x d = true:=by
 unfold Zgs
 grind
theorem ZLc (k:Nat) (hk:70000 < k) {s:List Int} {d:Nat} (h:Zgs s (d:Int) = 0) (bs:List Bool) (hb:bs.length ≤ 900000000) :
  ZEm k (Kn bs,s,(d:Int),()) = some (0,Kn (bs ++ Wn s d),()):=by
 obtain ⟨⟨h1,h2,h3,h4⟩,hs⟩:=Zmr.1 h
 rw [ZHk,ZLU k s d (by omega),h]
 simp only [ZX]
 rw [show ((0:Int) != 0) = false from rfl]
 simp only [cond_false]
 rw [ZL1 k (by omega) h1 h2 (by omega) h4 hs]
 obtain ⟨x,hx,hok,hsub,hlen,_⟩:=ZdN s d h1 h2
 rw [hx,hsub]
 have hw:=Zc1 (by omega) hs
 have hsg:=ZhC (by omega) hs
 have hsl:=Zal s
 generalize ZC s = kk at hw hsg hok ⊢
 generalize QX s = t at hsg hsl hok ⊢
 generalize hdd:d - kk = dd at hsg hok ⊢
 obtain ⟨kn,hk1,hk2⟩:=hok.kind (by omega) (by omega)
 show (ZO k (Kn bs,x.1,7,())).bind _ = _
 unfold XX
 rw [hk1,Xa]
 refine (Zi (QI k bs kn 7 (by omega) (by omega) hk2 (by omega)) _).trans ?_
 have l1:(bs ++ Za kn 7).length = bs.length + 7:=by rw [Q3,Ze]
 show (bif decide ((0:Int) < (kk:Int)) then _ else _) = _
 by_cases h0:0 < kk
 ·rw [Zb (by omega),if_pos h0]
  refine (Zi (QI k (bs ++ Za kn 7) 1 1 (by omega) (by omega) (by omega) (by omega)) _).trans ?_
  have l2:(bs ++ Za kn 7 ++ Za 1 1).length = bs.length + 8:=by rw [Q3,l1,Ze]
  show (ZsQ k (Kn (bs ++ Za kn 7 ++ Za 1 1),Jx.wrap ((kk:Int) - 1),())).bind _ = _
  have e1:Jx.wrap ((kk:Int) - 1) = ((kk - 1:Nat):Int):=by rw [Z2 (by omega)]; omega
  rw [e1]
  refine (Zi (ZyE k (bs ++ Za kn 7 ++ Za 1 1) (kk - 1) (by omega) (by omega) (by omega)) _).trans ?_
  have l3:(bs ++ Za kn 7 ++ Za 1 1 ++ (Jd (kk - 1) false ++ [true])).length = bs.length + 8 + kk:=by
   grind
  have:=ZgF k hk (by omega) (by omega) (d:=dd) (by omega) (by omega) hsg hok (kk:Int) (bs ++ Za kn 7 ++ Za 1 1 ++ (Jd (kk - 1) false ++ [true])) (by omega)
  refine Hn this ?_
  rw [show Za 1 1 = [true] from rfl]
  simp only [Ju]
 ·rw [Zl (by omega),if_neg h0]
  refine (Zi (QI k (bs ++ Za kn 7) 0 1 (by omega) (by omega) (by omega) (by omega)) _).trans ?_
  have l2:(bs ++ Za kn 7 ++ Za 0 1).length = bs.length + 8:=by rw [Q3,l1,Ze]
  have:=ZgF k hk (by omega) (by omega) (d:=dd) (by omega) (by omega) hsg hok (kk:Int) (bs ++ Za kn 7 ++ Za 0 1) (by omega)
  refine Hn this ?_
  rw [show Za 0 1 = [false] from rfl]
  simp only [Ju]
end Go.Sh
namespace Go.Sh
open Go Go.Proofs
def Qx (n:Nat):Nat:=if 256 < n then 7 else 6
def Qm (mode num n:Nat):List Bool :=
 Za 16382 14 ++ (Za (Qx n) 6 ++ (Za mode 8 ++ (Za 0 4 ++ ((Qp num).flatMap (fun x => Za x 8) ++ Za (n - 1) (8 * (Qx n - 5))))))
def Qj (mode num n:Nat):List Bool:=Qm mode num n ++ Za (Zgu (ZF (Qm mode num n))) 8
def Qb (ls:List (List Int)) (ds:List Int):List Bool:=(ls.zip ds).flatMap fun x => Wn x.1 x.2.toNat
def XM (bs:List Bool):List Bool:=bs ++ Jd (Zac bs.length) false
def Yf (bs:List Bool):List Bool:=XM bs ++ Za (Zb0 (ZF (XM bs))) 16
def Yr (c d r n:Int) (ch:List (List Int)):List Int × Int :=
 if Ye c d r n ch = 0 then (ZF (Yf (Qj (YO ch).2.toNat n.toNat (ch.headD []).length ++ Qb (YO ch).1 (Z8 c d (YO ch).2))),0) else ([],Ye c d r n ch)
theorem Zap {c d r n:Int} {ch:List (List Int)} (h:Ye c d r n ch = 0):(1 ≤ c ∧ c ≤ 2 ∧ 4 ≤ d ∧ d ≤ 24 ∧ 1 ≤ r ∧ r ≤ 655350) ∧ (0 ≤ n ∧ n ≤ 2147483647) ∧ (ch.length:Int) = c ∧
  (∀ l ∈ ch,l.length = (ch.headD []).length ∧ 1 ≤ l.length ∧ l.length ≤ 512) ∧ (∀ l ∈ ch,∀ x ∈ l,Xg x d.toNat = true):=by
 unfold Ye at h
 split at h
 ·omega
 ·rename_i h1
  split at h
  ·omega
  ·rename_i h2
   split at h
   ·omega
   ·rename_i h3
    split at h
    ·omega
    ·rename_i h4
     refine ⟨of_decide_eq_true (by simpa [ZbX] using h1),by omega,by omega,?_,?_⟩
     ·intro l hl
      have h3:ch.all (Zlq (ch.headD []).length) = true:=by simpa using h3
      have:=of_decide_eq_true (Vf.1 h3 l hl)
      exact ⟨this.1,by omega,by omega⟩
     grind
theorem ZbM {x:Int} {d:Nat} (hd:d ≤ 24) (h:Xg x d = true):Qe x:=by
 unfold Xg at h
 unfold Qe
 split at h
 ·simp_all
 ·rw [decide_eq_true_eq,Xu] at h
  have:2 ^ (d - 1) ≤ 2 ^ 23:=Hr (by omega) (by omega)
  omega
theorem ZjQ {l r:Int} {d:Nat} (h1:1 ≤ d) (hl:Xg l d = true) (hr:Xg r d = true):Xg (l - r) (d + 1) = true ∧ Xg ((l + r) / 2) d = true:=by
 unfold Xg at hl hr ⊢
 rw [if_neg (by omega),decide_eq_true_eq] at hl hr
 rw [if_neg (by omega),decide_eq_true_eq,if_neg (by omega),decide_eq_true_eq]
 have e:(2:Int) ^ (d + 1 - 1) = 2 * 2 ^ (d - 1):=by
  rw [show d + 1 - 1 = (d - 1) + 1 by omega,Int.pow_succ,Int.mul_comm]
 omega
structure LayOk (n d:Nat) (ls:List (List Int)) (ds:List Int):Prop where
 len:ls.length = ds.length
 two:ls.length = 1 ∨ ls.length = 2
 all:∀ (i:Nat) (h1:i < ls.length) (h2:i < ds.length),ls[i].length = n ∧ (ds[i] = (d:Int) ∨ ds[i] = (d:Int) + 1) ∧ ∀ x ∈ ls[i],Xg x ds[i].toNat = true
theorem ZCa {c d r n:Int} {ch:List (List Int)} (h:Ye c d r n ch = 0):LayOk (ch.headD []).length d.toNat (YO ch).1 (Z8 c d (YO ch).2) ∧ (∃ m:Nat,(YO ch).2 = (m:Int) ∧ (m = 0 ∧ c = 1 ∨ c = 2 ∧ (m = 1 ∨ m = 8 ∨ m = 9 ∨ m = 10))) ∧ ((YO ch).1.headD []).length = (ch.headD []).length:=by
 obtain ⟨hs,hn,hc,hlen,hsg⟩:=Zap h
 obtain ⟨dn,rfl⟩:=Vp (show 0 ≤ d by omega)
 simp only [Xa] at hsg ⊢
 match ch,hc,hlen,hsg with
 | [],hc,_,_ => simp at hc; omega
 | [l],hc,hlen,hsg =>
  have hc:c = 1:=by simp at hc; omega
  subst hc
  refine ⟨⟨rfl,.inl rfl,?_⟩,⟨0,rfl,.inl ⟨rfl,rfl⟩⟩,rfl⟩
  intro i h1 h2
  obtain rfl:i = 0:=by simp [YO] at h1; omega
  exact ⟨rfl,.inl rfl,hsg l (by simp)⟩
 | [l,r'],hc,hlen,hsg =>
  have hc:c = 2:=by simp at hc; omega
  subst hc
  have hr:=(hlen r' (by simp)).1
  simp only [List.headD_cons] at hr
  have hsl:=hsg l (by simp)
  have hsr:=hsg r' (by simp)
  have hmd:=Zg0 l r'
  show LayOk _ _ [WX (Z1 l r') l r',WY (Z1 l r') l r'] (Z8 2 dn (if Z1 l r' = 0 then 1 else Z1 l r')) ∧ _ ∧ _
  refine ⟨?_,?_,(ZfB hr.symm).1⟩
  ·have e:Z8 2 (dn:Int) (if Z1 l r' = 0 then 1 else Z1 l r') = Z8 2 dn (Z1 l r'):=by
    rcases hmd with h | h | h | h <;> rw [h] <;> rfl
   rw [e]
   obtain ⟨la,lb⟩:=ZfB (m:=Z1 l r') hr.symm
   have hz:∀ x ∈ l.zip r',Xg x.1 dn = true ∧ Xg x.2 dn = true:=fun x hx => ⟨hsl _ (Vy hx).1,hsr _ (Vy hx).2⟩
   generalize Z1 l r' = m at hmd la lb ⊢
   have hA:∀ y ∈ WX m l r',∃ a b,y = apA m a b ∧ Xg a dn = true ∧ Xg b dn = true:=by
    intro y hy
    obtain ⟨x,hx,rfl⟩:=VG.1 hy
    grind
   have hB:∀ y ∈ WY m l r',∃ a b,y = apB m a b ∧ Xg a dn = true ∧ Xg b dn = true:=by
    intro y hy
    obtain ⟨x,hx,rfl⟩:=VG.1 hy
    grind
   have hdn:1 ≤ dn:=by omega
   have eN:((dn:Int) + 1).toNat = dn + 1:=by omega
   rcases hmd with rfl | rfl | rfl | rfl
   ·refine ⟨rfl,.inr rfl,fun i h1 h2 => ?_⟩
    obtain rfl | rfl:i = 0 ∨ i = 1:=by simp at h1; omega
    ·simp_all [apA,Z8]
    simp_all [hr,apB,Z8]
   ·refine ⟨rfl,.inr rfl,fun i h1 h2 => ?_⟩
    obtain rfl | rfl:i = 0 ∨ i = 1:=by simp at h1; omega
    ·simp_all [apA,Z8]
    ·exact ⟨by simpa [hr] using lb,.inr rfl,fun y hy => by obtain ⟨a,b,rfl,ha,hb⟩:=hB y hy; simpa [apB,Z8,eN] using (ZjQ hdn ha hb).1⟩
   ·refine ⟨rfl,.inr rfl,fun i h1 h2 => ?_⟩
    obtain rfl | rfl:i = 0 ∨ i = 1:=by simp at h1; omega
    ·exact ⟨la,.inr rfl,fun y hy => by obtain ⟨a,b,rfl,ha,hb⟩:=hA y hy; simpa [apA,Z8,eN] using (ZjQ hdn ha hb).1⟩
    simp_all [hr,apB,Z8]
   ·refine ⟨rfl,.inr rfl,fun i h1 h2 => ?_⟩
    obtain rfl | rfl:i = 0 ∨ i = 1:=by simp at h1; omega
    ·exact ⟨la,.inl rfl,fun y hy => by obtain ⟨a,b,rfl,ha,hb⟩:=hA y hy; simpa [apA,Z8] using (ZjQ hdn ha hb).2⟩
    ·exact ⟨by simpa [hr] using lb,.inr rfl,fun y hy => by obtain ⟨a,b,rfl,ha,hb⟩:=hB y hy; simpa [apB,Z8,eN] using (ZjQ hdn ha hb).1⟩
  ·rcases hmd with h | h | h | h
   ·exact ⟨1,by simp [YO,h],.inr ⟨rfl,by omega⟩⟩
   ·exact ⟨8,by simp [YO,h],.inr ⟨rfl,by omega⟩⟩
   ·exact ⟨9,by simp [YO,h],.inr ⟨rfl,by omega⟩⟩
   ·exact ⟨10,by simp [YO,h],.inr ⟨rfl,by omega⟩⟩
 | _ :: _ :: _ :: _,hc,_,_ => simp at hc; omega
theorem ZfE:∀ (i n:Nat),(XQ n i).length = i
 | 0,_ => rfl
 | i + 1,n => by simp [XQ,ZfE i]
theorem ZwR:∀ (i n:Nat),∀ x ∈ XQ n i,x < 256
 | 0,_,x,h => by simp [XQ] at h
 | i + 1,n,x,h => by
  rcases Js.1 h with h | h
  ·exact ZwR i _ x h
  ·simp at h; omega
theorem ZvV (n:Nat):1 ≤ Zbf n ∧ Zbf n ≤ 7:=by
 unfold Zbf
 repeat' split
 all_goals omega
theorem ZHp {k m:Nat} (hm:m < 64):ZdC k m < 256:=by
 unfold ZdC
 exact Es (n:=8) (U1 _ (by omega)) (by omega)
theorem ZrM (n:Nat):1 ≤ (Qp n).length ∧ (Qp n).length ≤ 7:=by
 unfold Qp
 have:=ZvV n
 grind [JF,ZfE]
theorem Zs4 {n:Nat} (h:n < 2 ^ 36) (h2:128 ≤ n):2 ≤ Zbf n ∧ n < 2 ^ YB (Zbf n):=by
 obtain ⟨r2,r3,r4,r5,r6,r7⟩:=ZqS
 unfold Zbf
 grind
theorem ZwO {n:Nat} (h:n < 2 ^ 36):∀ x ∈ Qp n,x < 256:=by
 intro x hx
 unfold Qp at hx
 split at hx
 ·simp at hx; omega
 ·rcases VM.1 hx with rfl | hx
  ·obtain ⟨h1,h2⟩:=Zs4 h (by omega)
   exact ZHp (Zhm h1 (ZvV n).2 h2)
  ·exact ZwR _ _ x hx
theorem Zgg:∀ l:List Nat,(l.flatMap fun x => Za x 8).length = 8 * l.length
 | [] => rfl
 | a :: l => by rw [Hi,Q3,Ze,Zgg l,JF]; omega
theorem ZbH (mode num n:Nat):(Qm mode num n).length = 32 + 8 * (Qp num).length + 8 * (Qx n - 5):=by
 unfold Qm
 simp only [Q3,Ze,Zgg]
 omega
theorem Zfe (n:Nat):Qx n = 6 ∨ Qx n = 7:=by unfold Qx; split <;> omega
theorem ZHE {l:List Nat} {i:Nat} (h:i < (Q6 l).length):(Q6 l)[i] = ((l[i]'(by simpa [Q6] using h):Nat):Int):=by simp [Q6]
theorem Zgk (l:List Nat):(Q6 l).length = l.length:=by simp [Q6]
end Go.Sh
namespace Go.Sh
open Go Go.Proofs
theorem Zoh {n d:Nat} {ls:List (List Int)} {ds:List Int} (h:LayOk n d ls ds) (hn:1 ≤ n) (hn2:n ≤ 512) (hd1:4 ≤ d) (hd2:d ≤ 24):(Qb ls ds).length ≤ 30000:=by
 have one:∀ (i:Nat) (h1:i < ls.length) (h2:i < ds.length),(Wn ls[i] ds[i].toNat).length ≤ 13000:=by
  intro i h1 h2
  obtain ⟨a,b,c⟩:=h.all i h1 h2
  have hw:=Zc1 (d:=ds[i].toNat) (by omega) c
  have:=Zzz (s:=ls[i]) (by omega) (by omega) hw
  have hm:ls[i].length * ds[i].toNat ≤ 512 * 25:=J4 (by omega) (by omega)
  omega
 unfold Qb
 have hl:=h.len
 rcases h.two with h2 | h2
 ·match ls,ds,h2,hl,one with
  | [a],[x],_,_,one =>
   have:=one 0 (by simp) (by simp)
   simp at this ⊢
   omega
 ·match ls,ds,h2,hl,one with
  | [a,b],[x,y],_,_,one =>
   have h1:=one 0 (by simp) (by simp)
   have h2:=one 1 (by simp) (by simp)
   simp at h1 h2 ⊢
   omega
theorem Zxx (k:Nat) (hk:100000 < k) {n d:Nat} {ls:List (List Int)} {ds:List Int} (h:LayOk n d ls ds) (hn:1 ≤ n) (hn2:n ≤ 512) (hd1:4 ≤ d) (hd2:d ≤ 24) (bs:List Bool) (hb:bs.length ≤ 200) :
  Zg8 k (UJ ds.length,(0:Int),ds,ls,(bs.length:Int),ZF bs) = some ((ZF (Yf (bs ++ Qb ls ds)),0,()),()):=by
 have hdl:ds.length ≤ 2:=by have:=h.len; have:=h.two; omega
 have hall:(bs ++ Qb ls ds).length ≤ 30200:=by have:=Zoh h hn hn2 hd1 hd2; rw [Q3]; omega
 have hpart:∀ i,(bs ++ ((ls.zip ds).take i).flatMap (fun x => Wn x.1 x.2.toNat)).length ≤ 30200:=by
  intro i
  refine VI ?_ hall
  unfold Qb
  conv => rhs; rw [← List.take_append_drop i (ls.zip ds),Em]
  simp_all
 have hzl:(ls.zip ds).length = ds.length:=by rw [Ee]; have:=h.len; omega
 have hend:∀ L,Zcm k L (UJ ds.length,UJ ds.length,ds,ls,(((bs ++ Qb ls ds).length:Nat):Int),ZF (bs ++ Qb ls ds)) = some ((ZF (Yf (bs ++ Qb ls ds)),0,()),()):=by
  intro L
  generalize bs ++ Qb ls ds = B at hall
  simp only [Zcm]
  rw [Zl (Zaa _)]
  have hp:Zac B.length < 8:=by unfold Zac; omega
  have hpl:(XM B).length ≤ 30210:=by unfold XM; grind
  refine (Zi (ZLe k B (by omega)) _).trans ?_
  refine (Zi (Zi7 k (XM B) (by omega)) _).trans ?_
  have hb16:=Yl (XM B)
  have hpk:(ZF (XM B)).length ≤ 4000:=by rw [Z9]; omega
  refine (Zi (Zyp k (ZF (XM B)) hb16 (by omega) (by omega)) _).trans ?_
  refine (Zi (QI k (XM B) (Zb0 (ZF (XM B))) 16 (by omega) (by omega) (ZwT hb16) (by omega)) _).trans ?_
  have hcl:(Yf B).length ≤ 30300:=by unfold Yf; rw [Q3,Ze]; omega
  refine (Zi (Zi7 k (Yf B) (by omega)) _).trans ?_
  rfl
 have:=Zs (A:=List Bool) (R:=(List Int × Int × Unit) × Unit) (step:=fun L2 => Zcm k L2)
  (fun i a => (UJ ds.length,UJ i,ds,ls,(a.length:Int),ZF a)) (ls.zip ds)
  (fun l' a => some ((ZF (Yf (a ++ l'.flatMap fun x => Wn x.1 x.2.toNat)),0,()),()))
  (fun i a => a = bs ++ ((ls.zip ds).take i).flatMap (fun x => Wn x.1 x.2.toNat))
  (fun L a ha => by
   rw [Ef] at ha
   have:=hend L
   unfold Qb at this
   simp_all)
  (fun L i hi a ha hL => by
   have h1:i < ls.length:=by have:=h.len; omega
   have h2:i < ds.length:=by omega
   obtain ⟨o1,o2,o3⟩:=h.all i h1 h2
   have hal:a.length ≤ 30200:=by rw [ha]; exact hpart i
   simp only [Zcm]
   rw [Zb (KX h2),Zb (Ya h2),Zb (Ya h1),ZE h1,ZE h2]
   have hds:ds[i] = ((ds[i].toNat:Nat):Int):=by omega
   have hsc:Zgs ls[i] ((ds[i].toNat:Nat):Int) = 0:=Zmr.2 ⟨by omega,o3⟩
   have e:=ZLc k (by omega) hsc a (by omega)
   rw [← hds] at e
   refine (Zi e _).trans ?_
   have hzi:(ls.zip ds)[i] = (ls[i],ds[i]):=by rw [Ed]
   have hnext:a ++ Wn ls[i] ds[i].toNat = bs ++ ((ls.zip ds).take (i + 1)).flatMap (fun x => Wn x.1 x.2.toNat):=by
    rw [ha,EE,VO hi,hzi,Em]
    simp
   have:=hL (a ++ Wn ls[i] ds[i].toNat) hnext
   show L (UJ ds.length,Jx.wrap (UJ i + 1),ds,ls,(((a ++ Wn ls[i] ds[i].toNat).length:Nat):Int),ZF (a ++ Wn ls[i] ds[i].toNat)) = _
   rw [Qc h2 (by omega),this,hzi,Hi,Ju])
  k 0 bs (by simp) (by omega) (UH _)
 rw [U9] at this
 exact this
theorem Zxw (k:Nat) (hk:100000 < k) {c d r:Int} {mode num n dn:Nat} (hnum:num < 2 ^ 31) (hd:d = (dn:Int)) {ls:List (List Int)} (hc:c = 1 ∧ mode = 0 ∨ c = 2) (hn:1 ≤ n) (hn2:n ≤ 512) (hd1:4 ≤ dn) (hd2:dn ≤ 24)
  (h:LayOk n dn ls (Z8 c d (mode:Int))) (bs:List Bool) (hb:bs = Za 16382 14 ++ (Za (Qx n) 6 ++ (Za mode 8 ++ Za 0 4))) :
  ZkR k (UJ (Q6 (Qp num)).length,(0:Int),Q6 (Qp num),(n:Int),((Qx n:Nat):Int),(mode:Int),ls,(bs.length:Int),ZF bs,c,d,r) =
   some ((ZF (Yf (Qj mode num n ++ Qb ls (Z8 c d (mode:Int)))),0,()),()):=by
 have hbl:bs.length = 32:=by grind [Q3,Ze]
 have hcl:=ZrM num
 have hlt:=ZwO (n:=num) (by omega)
 have hkn:=Zfe n
 have:=Zs (A:=List Bool) (R:=(List Int × Int × Unit) × Unit) (step:=fun L1 => KG k (Zg8 k) L1)
  (fun i a => (UJ (Q6 (Qp num)).length,UJ i,Q6 (Qp num),(n:Int),((Qx n:Nat):Int),(mode:Int),ls,(a.length:Int),ZF a,c,d,r)) (Qp num)
  (fun l' a => KG k (Zg8 k) (fun _ => none) (UJ (Qp num).length,UJ (Qp num).length,Q6 (Qp num),(n:Int),((Qx n:Nat):Int),(mode:Int),ls,(((a ++ l'.flatMap fun x => Za x 8).length:Nat):Int),ZF (a ++ l'.flatMap fun x => Za x 8),c,d,r))
  (fun i a => a.length ≤ 32 + 8 * i)
  (fun L a ha => by
   rw [Zgk]
   grind [KG])
  (fun L i hi a ha hL => by
   have hi2:i < (Q6 (Qp num)).length:=by rw [Zgk]; exact hi
   have key:KG k (Zg8 k) L (UJ (Q6 (Qp num)).length,UJ i,Q6 (Qp num),(n:Int),((Qx n:Nat):Int),(mode:Int),ls,(a.length:Int),ZF a,c,d,r) =
     L (UJ (Q6 (Qp num)).length,UJ (i + 1),Q6 (Qp num),(n:Int),((Qx n:Nat):Int),(mode:Int),ls,(((a ++ Za (Qp num)[i] 8).length:Nat):Int),ZF (a ++ Za (Qp num)[i] 8),c,d,r):=by
    simp only [KG]
    rw [Zb (KX hi2),Zb (Ya hi2),ZE hi2,ZHE hi2]
    have hx:=hlt _ (Ha hi)
    have hil:=Zgk (Qp num)
    rw [Z2 (by omega)]
    refine (Zi (QI k a (Qp num)[i] 8 (by omega) (by omega) (by omega) (by omega)) _).trans ?_
    rw [Qc hi2 (by omega)]
   rw [key,hL _ (by rw [Q3,Ze]; omega),Hi,Ju])
  k 0 bs (by omega) (by omega) (UH _)
 rw [U9] at this
 refine Hn this ?_
 have hpre:bs ++ (Qp num).flatMap (fun x => Za x 8) ++ Za (n - 1) (8 * (Qx n - 5)) = Qm mode num n:=by
  rw [hb]
  rfl
 have hprel:=ZbH mode num n
 have hB:(bs ++ (Qp num).flatMap (fun x => Za x 8)).length ≤ 100:=by rw [Q3,Zgg]; omega
 generalize bs ++ (Qp num).flatMap (fun x => Za x 8) = B at hpre hB
 simp only [KG]
 rw [Zl (Zaa _)]
 have e1:Jx.wrap ((n:Int) - 1) = ((n - 1:Nat):Int):=by rw [Z2 (by omega)]; omega
 have e2:Jx.wrap ((8:Int) * Jx.wrap (Jx.wrap (((Qx n:Nat):Int) - (6:Int)) + (1:Int))) = ((8 * (Qx n - 5):Nat):Int):=by
  rcases hkn with h | h <;> rw [h] <;> rfl
 have hw:n - 1 < 2 ^ (8 * (Qx n - 5)):=by
  unfold Qx
  grind
 rw [e1,e2]
 refine (Zi (QI k B (n - 1) (8 * (Qx n - 5)) (by omega) (by omega) hw (by omega)) _).trans ?_
 rw [hpre]
 refine (Zi (Zi7 k (Qm mode num n) (by omega)) _).trans ?_
 have hb8:=Yl (Qm mode num n)
 refine (Zi (Zyn k (ZF (Qm mode num n)) hb8 (by rw [Z9]; omega) (by rw [Z9]; omega)) _).trans ?_
 refine (Zi (QI k (Qm mode num n) (Zgu (ZF (Qm mode num n))) 8 (by omega) (by omega) (ZCX hb8) (by omega)) _).trans ?_
 refine (Zi (Zyo k (c:=c) (d:=d) (r:=r) (m:=(mode:Int)) (by omega) (by omega)) _).trans ?_
 exact Zxx k hk h hn hn2 hd1 hd2 (Qj mode num n) (by unfold Qj; rw [Q3,Ze]; omega)
theorem ZJI (k:Nat) (hk:100000 < k) (c d r n:Int) (ch:List (List Int)):ZJC k ((c,d,r,()),(n,ch,()),()) = some (((Yr c d r n ch).1,(Yr c d r n ch).2,()),()):=by
 show Zid k (ZkR k) _ = _
 simp only [Zid]
 rw [Zyj k c d r n ch (by omega)]
 simp only [ZX]
 unfold Yr
 rw [ZD]
 by_cases h:Ye c d r n ch = 0
 ·rw [Zl (by simpa using h),if_pos h]
  obtain ⟨hs,hn,hc,hlen,hsg⟩:=Zap h
  obtain ⟨hlay,⟨mode,hm,hmc⟩,hn0⟩:=ZCa h
  have hch:ch.length = 1 ∨ (∃ L R,ch = [L,R] ∧ L.length = R.length ∧ L.length ≤ 8192 ∧ (∀ x ∈ L,Qe x) ∧ ∀ x ∈ R,Qe x):=by
   match ch,hc,hlen,hsg with
   | [],hc,_,_ => simp at hc; omega
   | [_],_,_,_ => exact .inl rfl
   | [l,r'],_,hlen,hsg =>
    refine .inr ⟨l,r',rfl,?_,?_,?_,?_⟩
    ·simp_all
    ·have:=(hlen l (by simp)).2.2; omega
    ·exact fun x hx => ZbM (by omega) (hsg l (by simp) x hx)
    ·exact fun x hx => ZbM (by omega) (hsg r' (by simp) x hx)
   | _ :: _ :: _ :: _,hc,_,_ => simp at hc; omega
  refine (Zi (ZK0 k n ch (by omega) hch) _).trans ?_
  rw [show ((0:Int) != 0) = false from rfl]
  simp only [cond_false]
  have hbig:∃ l0,(YO ch).1.getD 0 [] = l0 ∧ l0.length = (ch.headD []).length ∧ 0 < (YO ch).1.length:=by
   have:=hlay.two
   match hh:(YO ch).1,this with
   | [],h => simp at h
   | l :: ls,_ => simp_all
  obtain ⟨l0,hl0,hl0n,hpos⟩:=hbig
  rw [Zb (by simp only [QY]; omega),hl0,hl0n]
  have hn1:1 ≤ (ch.headD []).length ∧ (ch.headD []).length ≤ 512:=by
   obtain ⟨a,b,c⟩:=hlay.all 0 hpos (by rw [← hlay.len]; exact hpos)
   have:0 < ch.length:=by omega
   match ch,this with
   | l :: _,_ => exact (hlen l (by simp)).2
  rw [hm] at hlay ⊢
  obtain ⟨num,hnum⟩:=Vp hn.1
  obtain ⟨dn,hdn⟩:=Vp (show 0 ≤ d by omega)
  subst hnum
  rw [Xa,Xa]
  have hdt:d.toNat = dn:=by omega
  rw [hdt] at hlay
  have hmode:mode < 2 ^ 8:=by omega
  have e14:(16382:Int) = ((16382:Nat):Int):=rfl
  generalize hN:(ch.headD []).length = N at hn1 hlay
  have l1:(([]:List Bool) ++ Za 16382 14).length = 14:=by rfl
  have fin:∀ kd:Nat,kd = Qx N → ((ZsO k ()).bind fun y_1 => (ZO k ((y_1.1.1,y_1.1.2.1,()),16382,14,())).bind fun y_2 => (ZO k ((y_2.2.1.1,y_2.2.1.2.1,()),(kd:Int),6,())).bind fun y_3 => (ZO k ((y_3.2.1.1,y_3.2.1.2.1,()),(mode:Int),8,())).bind fun y_4 => (ZO k ((y_4.2.1.1,y_4.2.1.2.1,()),0,4,())).bind fun y_5 => (Zyl k ((num:Int),())).bind fun y_6 => bif y_6.1.2.1 != (0:Int) then some (([],y_6.1.2.1,()),()) else ZkR k (UJ (UP y_6.1.1),(0:Int),y_6.1.1,(N:Int),(kd:Int),(mode:Int),(YO ch).1,y_5.2.1.2.1,y_5.2.1.1,c,d,r)) =
    some ((ZF (Yf (Qj mode num N ++ Qb (YO ch).1 (Z8 c d (mode:Int)))),0,()),()):=by
   rintro kd rfl
   have hkn:=Zfe N
   refine (Zi (Zyk k) _).trans ?_
   refine (Zi (QI k [] 16382 14 (by omega) (by omega) (by omega) (by simp)) _).trans ?_
   refine (Zi (QI k ([] ++ Za 16382 14) (Qx N) 6 (by omega) (by omega) (by omega) (by omega)) _).trans ?_
   have l2:([] ++ Za 16382 14 ++ Za (Qx N) 6).length = 20:=by rw [Q3,l1,Ze]
   refine (Zi (QI k ([] ++ Za 16382 14 ++ Za (Qx N) 6) mode 8 (by omega) (by omega) hmode (by omega)) _).trans ?_
   have l3:([] ++ Za 16382 14 ++ Za (Qx N) 6 ++ Za mode 8).length = 28:=by rw [Q3,l2,Ze]
   refine (Zi (QI k ([] ++ Za 16382 14 ++ Za (Qx N) 6 ++ Za mode 8) 0 4 (by omega) (by omega) (by omega) (by omega)) _).trans ?_
   refine (Zi (ZK8 k (by omega) (n:=num) (by omega)) _).trans ?_
   exact Zxw k hk (by omega) hdn (hmc.elim (fun h => .inl ⟨h.2,h.1⟩) (fun h => .inr h.1)) hn1.1 hn1.2 (by omega) (by omega) hlay _ (by rfl)
  by_cases h256:256 < N
  ·rw [Zb (by simp only [QY]; omega)]
   exact fin 7 (by unfold Qx; rw [if_pos h256])
  ·rw [Zl (by simp only [QY]; omega)]
   exact fin 6 (by unfold Qx; rw [if_neg h256])
 ·rw [Zb h,if_neg h]
end Go.Sh
namespace Go.Sh
open Go Go.Proofs
def XH (l:List Nat):List Bool:=l.flatMap fun x => Za x 8
theorem QO (l:List Nat):(XH l).length = 8 * l.length:=by
 unfold XH
 rw [Ze8 (B:=8) fun x _ => Ze x 8]; omega
theorem ZAm (a b:List Nat):XH (a ++ b) = XH a ++ XH b:=by simp [XH]
theorem W4 {k:Nat} {bs:List Bool} {n w:Nat} (hk:64 < k) (hw:w ≤ 32) (hn:n < 2 ^ w) (hb:bs.length + w < 4294967296) {α:Type} (K:Int × (List Int × Int × Unit) × Unit → Option α) :
  (ZO k (Kn bs,(n:Int),(w:Int),())).bind K = K (0,Kn (bs ++ Za n w),()):=by
 rw [QI k bs n w hk hw hn hb]; rfl
section prog
variable {k:Nat}
theorem Zdv (hk:100 ≤ k) (bs:List Bool) (s:ByteArray) (hs:s.size < k) (hb:bs.length + 8 * s.size < 4000000000):Zbu k (Kn bs,s,()) = some ((),Kn (bs ++ XH (Za2 s)),()):=by
 have hl:=Yp s
 have key:=Zs (A:=List Bool) (step:=fun L1 => ZaP k L1) (fun i a => (UJ s.size,UJ i,s,(a.length:Int),ZF a)) s.data.toList
  (fun rest a => some ((),Kn (a ++ XH (rest.map UInt8.toNat)),())) (fun i a => a.length = bs.length + 8 * i)
  (fun L a _ => by
   simp_all [ZaP,XH,Kn])
  (fun L i hi a hI hL => by
   rw [hl] at hi
   simp only [ZaP]
   rw [Zb (KX hi),Zb (Ya hi),ZE (by omega)]
   have h256:=(s.data.toList[i]'(by omega)).toNat_lt
   rw [show Jx.wrap (UJ (s.data.toList[i]'(by omega)).toNat) = (((s.data.toList[i]'(by omega)).toNat:Nat):Int) from Z2 (by simp only [QY]; omega)]
   refine Hn (W4 (k:=k) (bs:=a) (w:=8) (by omega) (by omega) h256 (by omega) _) ?_
   rw [Qc hi (by omega)]
   refine Hn (hL _ (by rw [Q3,Ze,hI]; omega)) ?_
   simp [XH])
  k 0 bs (by simp) (by omega) (by omega)
 rw [U9] at key
 exact key
theorem Zhg (hk:100 ≤ k) (bs:List Bool) {a b n:Nat} (ha:a < 2) (hb:b < 128) (hn:n < 16777216) (hl:bs.length < 4000000000):Zdw k (Kn bs,(a:Int),(b:Int),(n:Int),()) = some ((),Kn (bs ++ (Za a 1 ++ Za b 7 ++ Za n 24)),()):=by
 show Zhf k _ = _
 simp only [Zhf]
 refine Hn (W4 (k:=k) (bs:=bs) (w:=1) (by omega) (by omega) ha (by omega) _) ?_
 refine Hn (W4 (k:=k) (bs:=bs ++ Za a 1) (w:=7) (by omega) (by omega) hb (by rw [Q3,Ze]; omega) _) ?_
 refine Hn (W4 (k:=k) (bs:=bs ++ Za a 1 ++ Za b 7) (w:=24) (by omega) (by omega) hn (by simp only [Q3,Ze]; omega) _) ?_
 simp [Kn]
theorem ZRf {n i:Nat} (hn:n < 4294967296) (hi:i < 4):Jx.wrap (UJ (UN 64 (UT (n:Int) ((2:Int) ^ min (((8 * i:Nat):Int)).toNat 64)) &&& UN 64 (255:Int)).toNat) = ((n / 2 ^ (8 * i) % 256:Nat):Int):=by
 have e1:min (((8 * i:Nat):Int)).toNat 64 = 8 * i:=by omega
 have hd:n / 2 ^ (8 * i) ≤ n:=Eg _ _
 have e:(n / 2 ^ (8 * i)) &&& 255 = n / 2 ^ (8 * i) % 256:=HL _ 8
 rw [e1,show ((2:Int) ^ (8 * i)) = ((2 ^ (8 * i):Nat):Int) by simp,ZyN,HQ,ZIB (by omega),show (UN 64 (255:Int)).toNat = 255 from rfl,e]
 rw [show UJ (n / 2 ^ (8 * i) % 256) = ((n / 2 ^ (8 * i) % 256:Nat):Int) from rfl,ZyZ (by omega)]
theorem ZMH (N i:Nat):XH (K2 N (i + 1)) = XH (K2 N i) ++ Za (N / 2 ^ (8 * i) % 256) 8:=by
 rw [Zy6,ZAm]; simp [XH]
theorem ZD5 (hk:100 ≤ k) (bs:List Bool) {N:Nat} (hN:N < 4294967296) (hl:bs.length < 4000000000):∀ (n i fuel:Nat),i + n = 4 → n < fuel →
  Zh (fun L1 => Zdz k L1) fuel (((8 * i:Nat):Int),(N:Int),(((bs ++ XH (K2 N i)).length:Nat):Int),ZF (bs ++ XH (K2 N i))) = some ((),Kn (bs ++ XH (K2 N 4)),())
 | 0,i,fuel + 1,h1,h2 => by
  obtain rfl:i = 4:=by omega
  rfl
 | n + 1,i,fuel + 1,h1,h2 => by
  rw [Zd]
  simp only [Zdz]
  rw [Zb (by omega),Zb (by omega)]
  simp only [ZRf hN (show i < 4 by omega)]
  refine Hn (W4 (k:=k) (bs:=bs ++ XH (K2 N i)) (w:=8) (by omega) (by omega) (U1 _ (by omega)) (by rw [Q3,QO,Wm]; omega) _) ?_
  rw [show Jx.wrap (((8 * i:Nat):Int) + 8) = ((8 * (i + 1):Nat):Int) by rw [Z2 (by omega)]; omega,Ju,← ZMH]
  exact ZD5 hk bs hN hl n (i + 1) fuel (by omega) (by omega)
 | 0,_,0,_,h2 => absurd h2 (Nat.lt_irrefl _)
 | n + 1,_,0,_,h2 => absurd h2 (Nat.not_lt_zero _)
theorem Zhh (hk:100 ≤ k) (bs:List Bool) {N:Nat} (hN:N < 4294967296) (hl:bs.length < 4000000000):Zi1 k (Kn bs,(N:Int),()) = some ((),Kn (bs ++ XH (K2 N 4)),()):=by
 have:=ZD5 hk bs hN hl 4 0 k rfl (by omega)
 rw [show K2 N 0 = [] from rfl,show XH [] = [] from rfl,Vg] at this
 exact this
def Zqn:List Nat → Nat
 | [] => 0
 | x :: l => l.foldl min x
def Zql:List Nat → Nat
 | [] => 0
 | x :: l => l.foldl max x
theorem ZBP {l:List Nat} (h:l ≠ []) (hk:l.length < k) (hl:l.length < 4294967296):Zu2 k (Zr l,()) = some ((Zqn l:Int),()):=by
 match l,h with
 | x :: l,_ =>
  show Zdx k (ZiY k) _ = _
  simp only [Zdx]
  rw [ZT,Zl (by grind),Zb (by simp_all)]
  have hc:(Zr (x :: l)).length = l.length + 1:=by rw [ZT]; rfl
  have key:=Qv (A:=Nat) (step:=fun L1 => ZaQ k L1) (fun i a => (UJ i,Zr (x :: l),(a:Int))) (x :: l) (fun rest a => some (((rest.foldl min a:Nat):Int),()))
   (fun L a => by
    grind [ZaQ])
   (fun L i hi a hL => by
    simp only [ZaQ]
    rw [ZT,Zb (KX hi),Zb (Ya hi)]
    have e:(Zr (x :: l)).getD (UJ i).toNat 0 = (((x :: l)[i]:Nat):Int):=by
     rw [show (UJ i).toNat = i from rfl,Q0,Wl hi]
    rw [e,Qc hi (by omega)]
    grind) k 1 x (by simp at hk ⊢; omega) (by simp)
  exact key
theorem ZBR {l:List Nat} (h:l ≠ []) (hk:l.length < k) (hl:l.length < 4294967296):Zu3 k (Zr l,()) = some ((Zql l:Int),()):=by
 match l,h with
 | x :: l,_ =>
  show Zdy k (Zi0 k) _ = _
  simp only [Zdy]
  rw [ZT,Zl (by grind),Zb (by simp_all)]
  have hc:(Zr (x :: l)).length = l.length + 1:=by rw [ZT]; rfl
  have key:=Qv (A:=Nat) (step:=fun L1 => ZaR k L1) (fun i a => (UJ i,Zr (x :: l),(a:Int))) (x :: l) (fun rest a => some (((rest.foldl max a:Nat):Int),()))
   (fun L a => by
    grind [ZaR])
   (fun L i hi a hL => by
    simp only [ZaR]
    rw [ZT,Zb (KX hi),Zb (Ya hi)]
    have e:(Zr (x :: l)).getD (UJ i).toNat 0 = (((x :: l)[i]:Nat):Int):=by
     rw [show (UJ i).toNat = i from rfl,Q0,Wl hi]
    rw [e,Qc hi (by omega)]
    have e2:(if (a:Int) < (((x :: l)[i]:Nat):Int) then (((x :: l)[i]:Nat):Int) else (a:Int)) = ((max a (x :: l)[i]:Nat):Int):=by
     split <;> omega
    rw [e2]
    exact hL _) k 1 x (by simp at hk ⊢; omega) (by simp)
  exact key
end prog
end Go.Sh
namespace Go.Sh
open Go Go.Proofs
def ZdG:List Nat:=[102,76,97,67]
def Zc0:List Nat:=[115,104,101,108,108,97,99]
def Y2 (a b n:Nat):List Bool:=Za a 1 ++ Za b 7 ++ Za n 24
def ZlB (size n i at_:Nat):List Bool:=Za 0 32 ++ Za (i * size) 32 ++ Za 0 32 ++ Za at_ 32 ++ Za (min size (n - i * size)) 16
def ZzF (size n:Nat):Nat → Nat → List Nat → List Bool
 | _,_,[] => []
 | i,at_,x :: l => ZlB size n i at_ ++ ZzF size n (i + 1) (at_ + x) l
def Zbb (tags:List ByteArray):List Bool:=tags.flatMap fun t => XH (K2 t.size 4) ++ XH (Za2 t)
def Zq4 (tags:List ByteArray):Nat:=(tags.map fun t => 4 + t.size).sum
def Zmi (c d r size n small great:Nat):List Bool:=XH ZdG ++ Y2 0 0 34 ++ Za size 16 ++ Za size 16 ++ Za small 24 ++ Za great 24 ++ Za r 20 ++ Za (c - 1) 3 ++ Za (d - 1) 5 ++ Za 0 4 ++ Za n 32
def KA (tags:List ByteArray):List Bool:=Y2 1 4 (15 + Zq4 tags) ++ XH (K2 7 4) ++ XH Zc0 ++ XH (K2 tags.length 4) ++ Zbb tags
def Yn (size n:Nat) (lens:List Nat):List Bool:=if 1 < lens.length then Y2 0 3 (18 * lens.length) ++ ZzF size n 0 0 lens else []
noncomputable def Zq1 (d:Nat) (ch:List (List Int)):List Nat:=ZCf (ZgO (nbD d) ch (ch.getD 0 []).length)
noncomputable def KZ (d r:Nat) (tags:List ByteArray) (ch:List (List Int)) (size:Nat) (lens:List Nat):List Bool :=
 Zmi ch.length d r size (ch.getD 0 []).length (Zqn lens) (Zql lens) ++ XH (Zq1 d ch) ++ Yn size (ch.getD 0 []).length lens ++ KA tags
theorem Wr (a b n:Nat):(Y2 a b n).length = 32:=by simp [Y2,Ze]
theorem ZqE (size n i a:Nat):(ZlB size n i a).length = 144:=by simp [ZlB,Ze]
theorem ZSV (s:S4):XK (ZM1 s):=by
 intro x hx
 simp only [ZM1,le4,Js,VM,List.not_mem_nil,or_false] at hx
 omega
theorem Zba (d:Nat) (ch:List (List Int)):(Zq1 d ch).length = 16:=by simp [Zq1,ZCf,ZM1,le4]
theorem Zjr:∀ (l:List Nat) (a:Nat),l.foldl min a ≤ a
 | [],a => Jj a
 | x :: l,a => VI (Zjr l (min a x)) (Nat.min_le_left a x)
theorem ZPK {l:List Nat} {B:Nat} (hB:0 < B) (h:∀ x ∈ l,x < B):Zqn l < B:=by
 match l,h with
 | [],_ => exact hB
 | x :: l,h => exact Hb (Zjr l x) (h x (Jm ..))
theorem Zjq {B:Nat}:∀ (l:List Nat) (a:Nat),a < B → (∀ x ∈ l,x < B) → l.foldl max a < B
 | [],a,h,_ => h
 | x :: l,a,h,h2 => Zjq l (max a x) (by simp_all <;> omega) fun y hy => h2 y (Jn _ hy)
theorem ZPF {l:List Nat} {B:Nat} (hB:0 < B) (h:∀ x ∈ l,x < B):Zql l < B:=by
 match l,h with
 | [],_ => exact hB
 | x :: l,h => exact Zjq l x (h x (Jm ..)) fun y hy => h y (Jn _ hy)
section prog
variable {k:Nat} {c d r:Int} {tags:List ByteArray} {ch:List (List Int)}
def Tg (tags:List ByteArray):Prop:=tags.length ≤ 8 ∧ ∀ t ∈ tags,t.size ≤ 12
theorem ZO7 (hk:100 ≤ k) (hT:Tg tags) (bs:List Bool) (hb:bs.length < 1000000000):ZeE k (UJ tags.length,(0:Int),tags,(bs.length:Int),ZF bs) = some (ZF (bs ++ Zbb tags),()):=by
 have key:=Zs (A:=List Bool) (step:=fun L3 => ZaL k L3) (fun i a => (UJ tags.length,UJ i,tags,(a.length:Int),ZF a)) tags
  (fun rest a => some (ZF (a ++ Zbb rest),())) (fun i a => a.length ≤ bs.length + 200 * i)
  (fun L a hI => by
   simp only [ZaL]
   rw [Zl (Zaa _)]
   refine Hn (congrArg (fun x => Ec x _) (Zi7 k a (by have:=hT.1; omega))) ?_
   simp [Zbb])
  (fun L i hi a hI hL => by
   have ht:=hT.2 _ (Ha hi)
   have ht8:=hT.1
   simp only [ZaL]
   rw [Zb (KX hi),Zb (Ya hi),ZE hi]
   refine Hn (congrArg (fun x => Ec x _) (Zhh hk a (N:=tags[i].size) (by omega) (by omega))) ?_
   simp only [ZX]
   refine Hn (congrArg (fun x => Ec x _) (Zdv hk (a ++ XH (K2 tags[i].size 4)) tags[i] (by omega) (by rw [Q3,QO,Wm]; omega))) ?_
   simp only [ZX]
   rw [Qc hi (by omega)]
   grind [Q3,QO,Wm,ZcM,Zbb,Ju])
  k 0 bs (by simp) (by have:=hT.1; omega) (by omega)
 rw [U9] at key
 exact key
theorem ZDT (hk:100 ≤ k) (hT:Tg tags) (bs:List Bool) (hb:bs.length < 900000000):YJ k (UJ tags.length,(0:Int),tags,(15:Int),(bs.length:Int),ZF bs,c,d,r,tags,ch) = some (ZF (bs ++ KA tags),()):=by
 have h8:=hT.1
 have key:=Zs (A:=Nat) (step:=fun L2 => ZaK k (ZeE k) L2) (fun i a => (UJ tags.length,UJ i,tags,(a:Int),(bs.length:Int),ZF bs,c,d,r,tags,ch)) tags
  (fun rest a => some (ZF (bs ++ (Y2 1 4 (a + Zq4 rest) ++ XH (K2 7 4) ++ XH Zc0 ++ XH (K2 tags.length 4) ++ Zbb tags)),())) (fun i a => a ≤ 15 + 16 * i)
  (fun L a hI => by
   simp only [ZaK]
   rw [Zl (Zaa _)]
   refine Hn (congrArg (fun x => Ec x _) (Zhg hk bs (a:=1) (b:=4) (n:=a) (by omega) (by omega) (by omega) (by omega))) ?_
   simp only [ZX]
   refine Hn (congrArg (fun x => Ec x _) (Zhh hk (bs ++ Y2 1 4 a) (N:=7) (by omega) (by rw [Q3,Wr]; omega))) ?_
   simp only [ZX]
   have hv:(UZ #[115,104,101,108,108,97,99]).size = 7:=rfl
   have hn:Za2 (UZ #[115,104,101,108,108,97,99]) = Zc0:=rfl
   refine Hn (congrArg (fun x => Ec x _) (Zdv hk (bs ++ Y2 1 4 a ++ XH (K2 7 4)) (UZ #[115,104,101,108,108,97,99]) (by rw [hv]; omega) (by simp only [Q3,Wr,QO,Wm,hv]; omega))) ?_
   rw [hn]
   simp only [ZX]
   refine Hn (congrArg (fun x => Ec x _) (Zhh hk (bs ++ Y2 1 4 a ++ XH (K2 7 4) ++ XH Zc0) (N:=tags.length) (by omega) (by simp only [Q3,Wr,QO,Wm,Zc0,JF,HY]; omega))) ?_
   simp only [ZX]
   refine Hn (ZO7 hk hT (bs ++ Y2 1 4 a ++ XH (K2 7 4) ++ XH Zc0 ++ XH (K2 tags.length 4)) (by simp only [Q3,Wr,QO,Wm,Zc0,JF,HY]; omega)) ?_
   simp [Zq4,Ju])
  (fun L i hi a hI hL => by
   have ht:=hT.2 _ (Ha hi)
   simp only [ZaK]
   rw [Zb (KX hi),Zb (Ya hi),ZE hi,Qc hi (by omega)]
   have e:Jx.wrap ((a:Int) + Jx.wrap ((4:Int) + UJ tags[i].size)) = ((a + (4 + tags[i].size):Nat):Int):=by
    simp only [QY]
    rw [Z2 (n:=(4:Int) + (tags[i].size:Int)) (by omega),Z2 (by omega)]; omega
   rw [e]
   refine Hn (hL _ (by omega)) ?_
   simp only [Zq4,JR,List.sum_cons,Nat.add_assoc])
  k 0 15 (by omega) (by omega) (by omega)
 rw [U9] at key
 exact key
theorem ZO6 (hk:1000 ≤ k) (hT:Tg tags) {size n:Nat} (hs:16 ≤ size ∧ size ≤ 512) (hn:(ch.getD 0 []).length = n) (hn4:n ≤ 4096) {lens:List Nat} (hl:lens.length ≤ 300) (hB:∀ x ∈ lens,x < 65536) (hi:∀ i,i < lens.length → i * size ≤ n) (bs:List Bool) (hb:bs.length < 100000000) :
  ZeD k (UJ lens.length,(0:Int),Zr lens,(size:Int),(0:Int),(bs.length:Int),ZF bs,c,d,r,tags,ch) = some (ZF (bs ++ ZzF size n 0 0 lens ++ KA tags),()):=by
 have key:=Zs (A:=List Bool × Nat) (step:=fun L1 => ZaJ k (YJ k) L1) (fun i a => (UJ lens.length,UJ i,Zr lens,(size:Int),(a.2:Int),(a.1.length:Int),ZF a.1,c,d,r,tags,ch)) lens
  (fun rest a => some (ZF (a.1 ++ ZzF size n (lens.length - rest.length) a.2 rest ++ KA tags),())) (fun i a => a.1.length ≤ bs.length + 144 * i ∧ a.2 ≤ 65536 * i)
  (fun L a hI => by
   simp only [ZaJ]
   rw [Zl (Zaa _)]
   refine Hn (ZDT (by omega) hT a.1 (by omega)) ?_
   simp [ZzF])
  (fun L i hlt a hI hL => by
   obtain ⟨B,at_⟩:=a
   simp only at hI hL ⊢
   have hx:=hB _ (Ha hlt)
   have hin:=hi i hlt
   have him:i * size < 4294967296:=by omega
   simp only [ZaJ]
   rw [ZT,Zb (KX hlt),Zb (Ya hlt)]
   refine Hn (W4 (k:=k) (bs:=B) (n:=0) (w:=32) (by omega) (by omega) (by omega) (by omega) _) ?_
   have e1:Jx.wrap (UJ i * (size:Int)) = ((i * size:Nat):Int):=by
    rw [show UJ i * (size:Int) = ((i * size:Nat):Int) by simp,ZyZ (by omega)]
   rw [e1]
   refine Hn (W4 (k:=k) (bs:=B ++ Za 0 32) (w:=32) (by omega) (by omega) him (by simp only [Q3,Ze]; omega) _) ?_
   refine Hn (W4 (k:=k) (bs:=B ++ Za 0 32 ++ Za (i * size) 32) (n:=0) (w:=32) (by omega) (by omega) (by omega) (by simp only [Q3,Ze]; omega) _) ?_
   refine Hn (W4 (k:=k) (bs:=B ++ Za 0 32 ++ Za (i * size) 32 ++ Za 0 32) (n:=at_) (w:=32) (by omega) (by omega) (by omega) (by simp only [Q3,Ze]; omega) _) ?_
   rw [Yh,hn]
   simp only [ZX]
   have e2:(if Jx.wrap (UJ n - ((i * size:Nat):Int)) < (size:Int) then Jx.wrap (UJ n - ((i * size:Nat):Int)) else (size:Int)) = ((min size (n - i * size):Nat):Int):=by
    simp only [QY]
    generalize i * size = q at *
    rw [Z2 (by omega)]
    split <;> omega
   rw [e2]
   refine Hn (W4 (k:=k) (bs:=B ++ Za 0 32 ++ Za (i * size) 32 ++ Za 0 32 ++ Za at_ 32) (w:=16) (by omega) (by omega) (by omega) (by simp only [Q3,Ze]; omega) _) ?_
   have e3:(Zr lens).getD (UJ i).toNat 0 = ((lens[i]:Nat):Int):=by
    rw [show (UJ i).toNat = i from rfl,Q0,Wl hlt]
   have e4:Jx.wrap ((at_:Int) + ((lens[i]:Nat):Int)) = ((at_ + lens[i]:Nat):Int):=by rw [Z2 (by omega)]; omega
   rw [e3,e4,Qc hlt (by omega)]
   refine Hn (hL (B ++ ZlB size n i at_,at_ + lens[i]) ⟨by rw [Q3,ZqE]; omega,by simp only; omega⟩ |> fun h => by
    simp only [ZlB,← Ju] at h ⊢
    exact h) ?_
   have e5:lens.length - (lens[i] :: lens.drop (i + 1)).length = i:=by grind
   have e6:lens.length - (lens.drop (i + 1)).length = i + 1:=by rw [Vi]; omega
   simp only [e5,e6,ZzF,ZlB,Ju])
  k 0 (bs,0) ⟨by simp,by simp⟩ (by omega) (by omega)
 rw [U9] at key
 simp only [Nat.sub_self] at key
 exact key
end prog
end Go.Sh
namespace Go.Sh
open Go Go.Proofs
theorem Zq2 (size n:Nat):∀ (l:List Nat) (i a:Nat),(ZzF size n i a l).length = 144 * l.length
 | [],_,_ => rfl
 | x :: l,i,a => by simp only [ZzF,Q3,ZqE,Zq2 size n l,JF]; omega
theorem Good0.tg {tags:List ByteArray} (h:tags.all Zq3 = true) (h8:tags.length ≤ 8):Tg tags :=
 ⟨h8,fun t ht => by
  have:=Vf.1 h t ht
  unfold Zq3 at this
  simp_all⟩
structure Lens (size n:Nat) (lens:List Nat):Prop where
 sz:16 ≤ size ∧ size ≤ 512
 len:lens.length ≤ 300
 small:∀ x ∈ lens,x < 65536
 in_:∀ i,i < lens.length → i * size ≤ n
theorem ZQZ {k:Nat} (hk:1000 ≤ k) {size small great r c1 d1:Nat} (hs:size < 65536) (h1:small < 16777216) (h2:great < 16777216) (h3:r < 1048576) (h4:c1 < 8) (h5:d1 < 32) (B:List Bool) (hB:B.length ≤ 1000) {α:Type} (K:Int × (List Int × Int × Unit) × Unit → Option α) :
  ((ZO k (Kn B,(size:Int),16,())).bind fun y => (ZO k ((y.2.1.1,y.2.1.2.1,()),(size:Int),16,())).bind fun y => (ZO k ((y.2.1.1,y.2.1.2.1,()),(small:Int),24,())).bind fun y => (ZO k ((y.2.1.1,y.2.1.2.1,()),(great:Int),24,())).bind fun y => (ZO k ((y.2.1.1,y.2.1.2.1,()),(r:Int),20,())).bind fun y => (ZO k ((y.2.1.1,y.2.1.2.1,()),(c1:Int),3,())).bind fun y => (ZO k ((y.2.1.1,y.2.1.2.1,()),(d1:Int),5,())).bind fun y => (ZO k ((y.2.1.1,y.2.1.2.1,()),0,4,())).bind K) =
   K (0,Kn (B ++ Za size 16 ++ Za size 16 ++ Za small 24 ++ Za great 24 ++ Za r 20 ++ Za c1 3 ++ Za d1 5 ++ Za 0 4),()):=by
 refine Hn (W4 (k:=k) (bs:=B) (w:=16) (by omega) (by omega) hs (by omega) _) ?_
 refine Hn (W4 (k:=k) (bs:=B ++ Za size 16) (w:=16) (by omega) (by omega) hs (by simp only [Q3,Ze]; omega) _) ?_
 refine Hn (W4 (k:=k) (bs:=B ++ Za size 16 ++ Za size 16) (w:=24) (by omega) (by omega) h1 (by simp only [Q3,Ze]; omega) _) ?_
 refine Hn (W4 (k:=k) (bs:=B ++ Za size 16 ++ Za size 16 ++ Za small 24) (w:=24) (by omega) (by omega) h2 (by simp only [Q3,Ze]; omega) _) ?_
 refine Hn (W4 (k:=k) (bs:=B ++ Za size 16 ++ Za size 16 ++ Za small 24 ++ Za great 24) (w:=20) (by omega) (by omega) h3 (by simp only [Q3,Ze]; omega) _) ?_
 refine Hn (W4 (k:=k) (bs:=B ++ Za size 16 ++ Za size 16 ++ Za small 24 ++ Za great 24 ++ Za r 20) (w:=3) (by omega) (by omega) h4 (by simp only [Q3,Ze]; omega) _) ?_
 refine Hn (W4 (k:=k) (bs:=B ++ Za size 16 ++ Za size 16 ++ Za small 24 ++ Za great 24 ++ Za r 20 ++ Za c1 3) (w:=5) (by omega) (by omega) h5 (by simp only [Q3,Ze]; omega) _) ?_
 exact W4 (k:=k) (bs:=B ++ Za size 16 ++ Za size 16 ++ Za small 24 ++ Za great 24 ++ Za r 20 ++ Za c1 3 ++ Za d1 5) (n:=0) (w:=4) (by omega) (by omega) (by omega) (by simp only [Q3,Ze]; omega) K
theorem Zpd {k:Nat} (hk:16777216 ≤ k) {d r:Nat} {tags:List ByteArray} {ch:List (List Int)} (h0:chk (ch.length:Int) (d:Int) (r:Int) tags ch = 0) (hS:Small tags ch) {size:Nat} {lens:List Nat} (hL:Lens size (ch.getD 0 []).length lens) :
  ZnA k ((((ch.length:Int),(d:Int),(r:Int),()),tags,ch,()),(size:Int),Zr lens,()) = some (ZF (KZ d r tags ch size lens),()):=by
 obtain ⟨hg,hshape,-,htv,ht8⟩:=WN h0
 have hT:=Good0.tg htv ht8
 have hsh:=of_decide_eq_true hshape
 have hs:=hL.sz
 have hn4:=hg.n4
 generalize hn:(ch.getD 0 []).length = n at *
 have hmin:Zqn lens < 65536:=ZPK (by omega) hL.small
 have hmax:Zql lens < 65536:=ZPF (by omega) hL.small
 show Zds k _ _ _ = _
 simp only [Zds]
 refine Hn (congrArg (fun x => Ec x _) (Zyk k)) ?_
 simp only [ZX]
 have hmg:Za2 (UZ #[102,76,97,67]) = ZdG:=rfl
 refine Hn (congrArg (fun x => Ec x _) (Zdv (by omega) [] (UZ #[102,76,97,67]) (by rw [show (UZ #[102,76,97,67]).size = 4 from rfl]; omega) (by rw [show (UZ #[102,76,97,67]).size = 4 from rfl]; simp))) ?_
 rw [hmg,VT]
 simp only [ZX]
 refine Hn (congrArg (fun x => Ec x _) (Zhg (by omega) (XH ZdG) (a:=0) (b:=0) (n:=34) (by omega) (by omega) (by omega) (by rw [QO]; simp [ZdG]))) ?_
 simp only [ZX]
 rw [show (Za 0 1 ++ Za 0 7 ++ Za 34 24) = Y2 0 0 34 from rfl]
 have hA:(XH ZdG ++ Y2 0 0 34).length = 64:=by rfl
 generalize hAe:XH ZdG ++ Y2 0 0 34 = A at hA
 have e1:Jx.wrap ((ch.length:Int) - 1) = ((ch.length - 1:Nat):Int):=by rw [Z2 (by omega)]; omega
 have e2:Jx.wrap ((d:Int) - 1) = ((d - 1:Nat):Int):=by rw [Z2 (by omega)]; omega
 have e3:Jx.wrap ((18:Int) * UJ (Zr lens).length) = ((18 * lens.length:Nat):Int):=by
  have:=hL.len
  rw [ZT,Z2 (by simp only [QY]; omega)]; simp
 rw [ZT] at e3
 have nl:=hL.len
 have tail:∀ (C:List Bool),C.length ≤ 1000 →
   ((ZO k (Kn C,(n:Int),32,())).bind fun y => (Zde k ((((ch.length:Int),(d:Int),(r:Int),()),tags,ch,()),())).bind fun y_4 => (Zbu k ((y.2.1.1,y.2.1.2.1,()),y_4.1.1,())).bind fun y => bif decide ((1:Int) < UJ lens.length) then (Zdw k ((y.2.1.1,y.2.1.2.1,()),0,3,Jx.wrap ((18:Int) * UJ lens.length),())).bind fun y => ZeD k (UJ lens.length,(0:Int),Zr lens,(size:Int),(0:Int),y.2.1.2.1,y.2.1.1,(ch.length:Int),(d:Int),(r:Int),tags,ch) else YJ k (UJ tags.length,(0:Int),tags,(15:Int),y.2.1.2.1,y.2.1.1,(ch.length:Int),(d:Int),(r:Int),tags,ch)) =
    some (ZF (C ++ Za n 32 ++ XH (Zq1 d ch) ++ Yn size n lens ++ KA tags),()):=by
  intro C hC
  refine Hn (W4 (k:=k) (bs:=C) (w:=32) (by omega) (by omega) (by omega) (by omega) _) ?_
  rw [ZoZ hk hS,if_pos h0]
  simp only [ZX]
  have hst:(Za2 (ZhE (ZCf (ZgO (nbD d) ch (ch.getD 0 []).length)))) = Zq1 d ch:=ZCh (ZSV _)
  have hsz:(ZhE (ZCf (ZgO (nbD d) ch (ch.getD 0 []).length))).size = 16:=by rw [← ZcM,hst,Zba]
  refine Hn (congrArg (fun x => Ec x _) (Zdv (by omega) (C ++ Za n 32) (ZhE (ZCf (ZgO (nbD d) ch (ch.getD 0 []).length))) (by omega) (by simp only [Q3,Ze]; omega))) ?_
  simp only [ZX]
  rw [hst,e3]
  by_cases h1:1 < lens.length
  ·rw [Zb (by simp only [QY]; omega)]
   refine Hn (congrArg (fun x => Ec x _) (Zhg (by omega) (C ++ Za n 32 ++ XH (Zq1 d ch)) (a:=0) (b:=3) (n:=18 * lens.length) (by omega) (by omega) (by omega) (by simp only [Q3,Ze,QO,Zba]; omega))) ?_
   simp only [ZX]
   refine Hn (ZO6 (by omega) hT hs hn hn4 nl hL.small hL.in_ (C ++ Za n 32 ++ XH (Zq1 d ch) ++ (Za 0 1 ++ Za 3 7 ++ Za (18 * lens.length) 24)) (by simp only [Q3,Ze,QO,Zba]; omega)) ?_
   simp only [Yn,if_pos h1,Y2,Ju]
  ·rw [Zl (by simp only [QY]; omega)]
   refine Hn (ZDT (by omega) hT (C ++ Za n 32 ++ XH (Zq1 d ch)) (by simp only [Q3,Ze,QO,Zba]; omega)) ?_
   simp only [Yn,if_neg h1,Vg]
 have fin:A ++ Za size 16 ++ Za size 16 ++ Za (Zqn lens) 24 ++ Za (Zql lens) 24 ++ Za r 20 ++ Za (ch.length - 1) 3 ++ Za (d - 1) 5 ++ Za 0 4 ++ Za n 32 ++ XH (Zq1 d ch) ++ Yn size n lens ++ KA tags = KZ d r tags ch size lens:=by
  unfold KZ Zmi
  rw [hn,hAe]
 have hC:(A ++ Za size 16 ++ Za size 16 ++ Za (Zqn lens) 24 ++ Za (Zql lens) 24 ++ Za r 20 ++ Za (ch.length - 1) 3 ++ Za (d - 1) 5 ++ Za 0 4).length ≤ 1000:=by
  simp only [Q3,Ze,hA]; omega
 rw [ZT,e1,e2]
 by_cases hl0:0 < lens.length
 ·have hne:lens ≠ []:=by intro h; rw [h] at hl0; simp at hl0
  rw [Zb (by simp only [QY]; omega),ZBP hne (by omega) (by omega)]
  simp only [ZX]
  rw [ZBR hne (by omega) (by omega)]
  simp only [ZX]
  refine Hn (ZQZ (by omega) (by omega) (by omega) (by omega) (by omega) (by omega) (by omega) A (by omega) _) ?_
  rw [Yh,hn]
  grind
 ·have hne:lens = []:=List.length_eq_zero_iff.1 (by omega)
  rw [Zl (by simp only [QY]; omega)]
  have hm0:Zqn lens = 0:=by rw [hne]; rfl
  have hx0:Zql lens = 0:=by rw [hne]; rfl
  rw [hm0,hx0] at fin hC
  refine Hn (ZQZ (small:=0) (great:=0) (by omega) (by omega) (by omega) (by omega) (by omega) (by omega) (by omega) A (by omega) _) ?_
  rw [Yh,hn]
  grind
end Go.Sh
namespace Go.Sh
open Go Go.Proofs
def ZY (b:List Int):List Bool:=b.flatMap fun x => Za x.toNat 8
theorem Ql:∀ b:List Int,(ZY b).length = 8 * b.length
 | [] => rfl
 | a :: b => by
  have:=Ql b
  unfold ZY at this ⊢
  rw [Hi,Q3,Ze,this,JF]; omega
theorem Zn4 (a:Int) (b:List Int):ZY (a :: b) = Za a.toNat 8 ++ ZY b:=by unfold ZY; rw [Hi]
theorem ZhN (a b:List Int):ZY (a ++ b) = ZY a ++ ZY b:=by unfold ZY; rw [Em]
theorem Zn5:∀ (b:List Int) (i:Nat),(ZY b).drop (8 * i) = ZY (b.drop i)
 | b,0 => rfl
 | [],i + 1 => by simp [ZY]
 | a :: b,i + 1 => by
  rw [List.drop_succ_cons,Zn4,Ez,Ze,UL (by rw [Ze]; omega),VT,show 8 * (i + 1) - 8 = 8 * i by omega]
  exact Zn5 b i
theorem Zn8 (n:Nat):∀ (w i:Nat) (h:i < (Za n w).length),(Za n w)[i] = n.testBit (w - 1 - i)
 | w + 1,0,_ => by simp [Za]
 | w + 1,i + 1,h => by
  simp only [Za,EA]
  rw [Zn8 n w i (by simpa [Za] using h)]
  congr 1
  omega
theorem Zj8 {b:List Int} {i:Nat} (h:i < 8 * b.length):(ZY b)[i]'(by rw [Ql]; exact h) = (b[i / 8]'(by omega)).toNat.testBit (7 - i % 8):=by
 have h1:i / 8 < b.length:=by omega
 have h2:(ZY b)[i]'(by rw [Ql]; exact h) = (ZY (b.drop (i / 8)))[i % 8]'(by rw [Ql,Vi]; omega):=by
  simp only [← Zn5,List.getElem_drop]
  congr 1
  omega
 rw [h2]
 have h3:b.drop (i / 8) = b[i / 8] :: b.drop (i / 8 + 1):=Ul h1
 simp only [h3,Zn4]
 rw [List.getElem_append_left (by rw [Ze]; omega),Zn8]
def ZM (b:List Int) (r:List Bool):Nat:=8 * b.length - r.length
abbrev YV (b:List Int) (r:List Bool):List Int × Int × Unit:=(b,((ZM b r:Nat):Int),())
def Zg (b:List Int) (r:List Bool):Prop:=r <:+ ZY b
theorem Zg.len {b:List Int} {r:List Bool} (h:Zg b r):r.length ≤ 8 * b.length:=by
 have:=h.length_le
 rwa [Ql] at this
theorem Zg.eq {b:List Int} {r:List Bool} (h:Zg b r):r = (ZY b).drop (ZM b r):=by
 have:=List.suffix_iff_eq_drop.1 h
 unfold ZM
 rwa [Ql] at this
theorem Zg.drop {b:List Int} {r:List Bool} (h:Zg b r) (i:Nat):Zg b (r.drop i):=(List.drop_suffix i r).trans h
theorem Zg.get {b:List Int} {r:List Bool} (h:Zg b r) {i:Nat} (hi:i < r.length):(ZY b)[ZM b r + i]'(by have:=h.len; rw [Ql]; unfold ZM; omega) = r[i]:=by
 have:=h.eq
 grind
theorem Zgn {b:List Int} {r:List Bool} (h:Zg b r) {i:Nat} (hi:i ≤ r.length):ZM b (r.drop i) = ZM b r + i:=by
 have:=h.len
 unfold ZM
 rw [Vi]
 omega
theorem Zzm (b:List Int):Zg b (ZY b):=List.suffix_refl _
theorem ZTx (v:Fin 256) (r:Fin 8):Jx.wrap (UJ (UN 64 (Jx.wrap (UT (v.val:Int) ((2:Int) ^ min (7 - r.val) 8))) &&& UN 64 1).toNat) = if v.val.testBit (7 - r.val) then 1 else 0:=by
 revert v r
 decide +kernel
theorem ZpZ (k:Nat) {b:List Int} (hb:Zu b = true) (hn:b.length < 536870912) (at_:Int) {i:Nat} (hi:i < 8 * b.length) :
  ZyK k ((b,at_,()),(i:Int),()) = some (if (ZY b)[i]'(by rw [Ql]; exact hi) then 1 else 0,(b,at_,()),()):=by
 show ZpY k _ = _
 simp only [ZpY]
 rw [Ztu,ZQ5,Z2 (n:=((i / 8:Nat):Int)) (by omega)]
 have h1:i / 8 < b.length:=by omega
 rw [Zb (by simp only [QY]; omega)]
 have e1:Jx.wrap ((7:Int) - ((i % 8:Nat):Int)) = ((7 - i % 8:Nat):Int):=by rw [Z2 (by omega)]; omega
 rw [e1,Zb (by omega),Zj8 hi]
 obtain ⟨x,hx,hxe⟩:=Zao hb h1
 have hg:b.getD (((i / 8:Nat):Int)).toNat 0 = (x:Int):=by rw [Xa,Wl h1,hxe]
 rw [hg,hxe,Xa,Xa]
 have:=ZTx ⟨x,hx⟩ ⟨i % 8,U1 _ (by omega)⟩
 simp only at this
 rw [this]
def Xi (l:List Bool):Nat:=l.foldl (fun a b => 2 * a + b.toNat) 0
theorem Zbi:∀ (l:List Bool) (a:Nat),l.foldl (fun a b => 2 * a + b.toNat) a = a * 2 ^ l.length + Xi l
 | [],a => by simp [Xi]
 | x :: l,a => by
  unfold Xi
  rw [HW,HW,Zbi l (2 * a + x.toNat),Zbi l (2 * 0 + x.toNat),JF,HN]
  grind
theorem Zj7:∀ (l:List Bool),Xi l < 2 ^ l.length
 | [] => by simp [Xi]
 | x :: l => by
  have:=Zj7 l
  unfold Xi
  rw [HW,Zbi,JF,HN]
  cases x <;> simp <;> omega
theorem Zrk (l m:List Bool):Xi (l ++ m) = Xi l * 2 ^ m.length + Xi m:=by
 unfold Xi
 rw [List.foldl_append,Zbi]
 rfl
theorem ZbP (n:Nat):∀ w,Xi (Za n w) = n % 2 ^ w
 | 0 => by simp [Za,Xi,Nat.mod_one]
 | w + 1 => by
  have:=ZbP n w
  rw [show Za n (w + 1) = [n.testBit w] ++ Za n w from rfl,Zrk,Ze,this,Nat.mod_pow_succ,Nat.testBit_eq_decide_div_mod_eq]
  have h2:n / 2 ^ w % 2 < 2:=U1 _ (by omega)
  generalize n / 2 ^ w % 2 = m at h2
  match m,h2 with
  | 0,_ => simp [Xi]
  | 1,_ => simp [Xi]; omega
def ZK (w:Nat) (r:List Bool):Nat × Int × List Bool:=if w ≤ r.length then (Xi (r.take w),0,r.drop w) else (0,10,r)
theorem Z5 {b:List Int} {r:List Bool} (h:Zg b r) (w:Nat):Zg b (ZK w r).2.2:=by
 unfold ZK
 split
 ·exact h.drop w
 ·exact h
theorem K6 (w:Nat) (r:List Bool):(ZK w r).1 < 2 ^ w:=by
 unfold ZK
 split
 ·rename_i h
  have:=Zj7 (r.take w)
  simp_all
 ·exact Hj (by omega)
theorem ZGl (k:Nat) {b:List Int} (hb:Zu b = true) (hn:b.length < 536870912):∀ (w m i v:Nat) (r:List Bool),Zg b r → w ≤ r.length → w < m → i + w ≤ 32 → v < 2 ^ i →
  Zh (fun L1 => Zce k L1) m (((i + w:Nat):Int),(i:Int),(v:Int),b,((ZM b r:Nat):Int)) = some (((((r.take w).foldl (fun a b => 2 * a + b.toNat) v:Nat):Int),0,()),YV b (r.drop w),()):=by
 intro w
 induction w with
 | zero =>
  intro m i v r hr hw hm hi hv
  obtain ⟨m,rfl⟩:=Zw hm
  rw [Zd]
  grind [Zce]
 | succ w ih =>
  intro m i v r hr hw hm hi hv
  obtain ⟨m,rfl⟩:=Zw (show 0 < m by omega)
  rw [Zd]
  simp only [Zce]
  have hl:=hr.len
  have hp:ZM b r < 8 * b.length:=by unfold ZM; omega
  rw [Zb (by omega),ZpZ k hb hn _ hp]
  simp only [ZX]
  have hg:=hr.get (i:=0) (by omega)
  simp only [JH] at hg
  rw [hg]
  have hv2:v < 2 ^ 32:=V0 hv (Hr (by omega) (by omega))
  have hcons:r = r[0] :: r.drop 1:=by
   have:=Ul (l:=r) (i:=0) (by omega)
   rwa [U9] at this
  have e1:Jx.wrap (UJ (UN 64 (Jx.wrap ((v:Int) * 2)) ||| UN 64 (if r[0] = true then 1 else 0)).toNat) = ((2 * v + r[0].toNat:Nat):Int):=by
   have h1:Jx.wrap ((v:Int) * 2) = ((v * 2:Nat):Int):=by rw [Z2 (by omega)]; omega
   have h2:(if r[0] = true then (1:Int) else 0) = ((r[0].toNat:Nat):Int):=by cases r[0] <;> rfl
   have hb1:r[0].toNat < 2 ^ 1:=by cases r[0] <;> decide
   rw [h1,h2,orN (by omega) (by omega)]
   have:=Eh hb1 v
   rw [Hs] at this
   rw [show v * 2 = v * 2 ^ 1 from rfl,← this,Z2 (by omega)]
   omega
  rw [e1]
  have e2:Jx.wrap ((i:Int) + 1) = ((i + 1:Nat):Int):=by rw [Z2 (by omega)]; rfl
  have e3:Jx.wrap (((ZM b r:Nat):Int) + 1) = ((ZM b (r.drop 1):Nat):Int):=by
   rw [Zgn hr (by omega),Z2 (by omega)]; rfl
  rw [e2,e3]
  have hp2:2 * v + r[0].toNat < 2 ^ (i + 1):=by
   grind
  have:=ih m (i + 1) (2 * v + r[0].toNat) (r.drop 1) (hr.drop 1) (by rw [Vi]; omega) (by omega) (by omega) hp2
  grind
theorem XA (k:Nat) {b:List Int} (hb:Zu b = true) (hn:b.length < 536870912) {r:List Bool} (hr:Zg b r) {w:Nat} (hw:w ≤ 32) (hk:100 < k) :
  Y5 k (YV b r,(w:Int),()) = some (((((ZK w r).1:Nat):Int),(ZK w r).2.1,()),YV b (ZK w r).2.2,()):=by
 show ZfO k (ZmW k) _ = _
 simp only [ZfO]
 rw [ZpK k w hw]
 simp only [ZX,cond_false]
 have hl:=hr.len
 have e1:ZAT k ((b,((ZM b r:Nat):Int),()),()) = some ((r.length:Int),(b,((ZM b r:Nat):Int),()),()):=by
  show ZkY k _ = _
  simp only [ZkY]
  have:Jx.wrap (Jx.wrap ((8:Int) * UJ b.length) - ((ZM b r:Nat):Int)) = (r.length:Int):=by
   unfold ZM
   simp only [QY]
   rw [Z2 (n:=(8:Int) * (b.length:Int)) (by omega),Z2 (by omega)]
   omega
  rw [this]
 rw [e1]
 simp only [ZX]
 unfold ZK
 by_cases h:w ≤ r.length
 ·rw [Zl (by omega),if_pos h]
  have:=ZGl k hb hn w k 0 0 r hr h (by omega) (by omega) (by simp)
  rw [Ub] at this
  exact this
 grind
def ZP3 (w v:Nat):Int:=if 0 < w ∧ 2 ^ (w - 1) ≤ v then (v:Int) - 2 ^ w else v
def WI (w:Nat) (r:List Bool):Int × Int × List Bool:=if w ≤ r.length then (ZP3 w (Xi (r.take w)),0,r.drop w) else (0,10,r)
theorem ZdD {b:List Int} {r:List Bool} (h:Zg b r) (w:Nat):Zg b (WI w r).2.2:=by
 unfold WI
 split
 ·exact h.drop w
 ·exact h
theorem Zsf (k:Nat) {b:List Int} (hb:Zu b = true) (hn:b.length < 536870912) {r:List Bool} (hr:Zg b r) {w:Nat} (hw:w ≤ 32) (hk:100 < k) :
  Zus k (YV b r,(w:Int),()) = some (((WI w r).1,(WI w r).2.1,()),YV b (WI w r).2.2,()):=by
 show ZkZ k _ = _
 simp only [ZkZ]
 rw [XA k hb hn hr hw hk]
 simp only [ZX]
 unfold ZK WI
 by_cases h:w ≤ r.length
 ·rw [if_pos h,if_pos h]
  simp only
  rw [show ((0:Int) == 0) = true from rfl]
  simp only [cond_true]
  have hlt:=Zj7 (r.take w)
  rw [Jz,Hl h] at hlt
  generalize Xi (r.take w) = v at hlt
  unfold ZP3
  by_cases h0:0 < w
  ·have e1:Jx.wrap ((w:Int) - 1) = ((w - 1:Nat):Int):=by rw [Z2 (by omega)]; omega
   rw [Zb (by omega),e1,Zb (by omega),Xa,Hl (by omega),Ze2,ZP]
   have hpw:2 ^ w = 2 * 2 ^ (w - 1):=by rw [show w = (w - 1) + 1 by omega,HN,Nat.add_sub_cancel]; omega
   have hq:v / 2 ^ (w - 1) = if 2 ^ (w - 1) ≤ v then 1 else 0:=by
    split
    ·rename_i hle
     rw [Nat.div_eq_iff (Hj (by omega))]
     omega
    simp_all
   rw [hq]
   have h32:2 ^ w ≤ 2 ^ 32:=Hr (by omega) hw
   by_cases hle:2 ^ (w - 1) ≤ v
   ·rw [if_pos hle,Zb (show ((1:Nat):Int) = 1 from rfl),if_pos ⟨h0,hle⟩,Zb (by omega),Hl (by omega:((w:Int)).toNat ≤ 64),Xa,El,Xu]
    generalize 2 ^ w = Q at h32 hlt ⊢
    rw [Z2 (n:=(Q:Int)) (by omega),Z2 (by omega)]
   grind
  simp_all
 ·rw [if_neg h,if_neg h]
  rfl
end Go.Sh
namespace Go.Sh
open Go Go.Proofs
def ZgT:Nat → List Bool → Option (Nat × List Bool)
 | _,[] => none
 | n,true :: r => some (n,r)
 | n,false :: r => ZgT (n + 1) r
def unS (r:List Bool):Nat × Int × List Bool:=match ZgT 0 r with
 | some (n,r') => (n,0,r')
 | none => (0,10,r)
theorem ZdQ:∀ (r:List Bool) (n m:Nat) (r':List Bool),ZgT n r = some (m,r') → r' <:+ r ∧ m + 1 + r'.length = n + r.length
 | true :: r,n,m,r',h => by
  grind [ZgT,VF.injEq,Prod.mk.injEq]
 | false :: r,n,m,r',h => by
  obtain ⟨h1,h2⟩:=ZdQ r (n + 1) m r' h
  grind
theorem ZcZ {b:List Int} {r:List Bool} (h:Zg b r):Zg b (unS r).2.2:=by
 unfold unS
 split
 ·rename_i n r' hu
  exact (ZdQ r 0 n r' hu).1.trans h
 ·exact h
theorem ZNB {r:List Bool}:(unS r).1 ≤ r.length:=by
 unfold unS
 split
 ·rename_i n r' hu
  have:=(ZdQ r 0 n r' hu).2
  simp only
  omega
 ·exact UH _
theorem ZGr (k:Nat) {b:List Int} (hb:Zu b = true) (hn:b.length < 536870912) {r0:List Bool} (hr0:Zg b r0):∀ (r:List Bool) (m n:Nat),Zg b r → r.length < m → n + r.length = r0.length →
  Zh (fun L1 => Zch k L1) m (((ZM b r:Nat):Int),b,((ZM b r0:Nat):Int)) = some (((match ZgT n r with | some (n,r') => (n:Int) | none => 0),(match ZgT n r with | some (n,r') => 0 | none => 10),()),YV b (match ZgT n r with | some (n,r') => r' | none => r0),()):=by
 intro r
 induction r with
 | nil =>
  intro m n hr hm hl
  obtain ⟨m,rfl⟩:=Zw hm
  rw [Zd]
  simp only [Zch]
  have e1:Jx.wrap ((8:Int) * UJ b.length) = ((8 * b.length:Nat):Int):=by simp only [QY]; rw [Z2 (by omega)]; omega
  rw [e1,Zl (by unfold ZM; simp)]
  rfl
 | cons x r ih =>
  intro m n hr hm hl
  obtain ⟨m,rfl⟩:=Zw (show 0 < m by omega)
  rw [Zd]
  simp only [Zch]
  have e1:Jx.wrap ((8:Int) * UJ b.length) = ((8 * b.length:Nat):Int):=by simp only [QY]; rw [Z2 (by omega)]; omega
  have hlen:=hr.len
  have hlen0:=hr0.len
  simp only [JF] at hlen hl hm
  have hp:ZM b (x :: r) < 8 * b.length:=by unfold ZM; simp only [JF]; omega
  rw [e1,Zb (by omega),ZpZ k hb hn _ hp]
  simp only [ZX]
  have hg:=hr.get (i:=0) (by simp)
  simp only [JH,EB] at hg
  rw [hg]
  have e2:Jx.wrap (((ZM b (x :: r):Nat):Int) + 1) = ((ZM b r:Nat):Int):=by
   have:=Zgn hr (i:=1) (by simp)
   rw [List.drop_one,List.tail_cons] at this
   rw [this,Z2 (by omega)]; rfl
  have hr':Zg b r:=by have:=hr.drop 1; simp_all
  rw [e2,ZP]
  cases x with
  | true =>
   rw [if_pos rfl,Zb rfl]
   have e3:Jx.wrap (((ZM b (true :: r):Nat):Int) - ((ZM b r0:Nat):Int)) = (n:Int):=by
    unfold ZM at hp ⊢
    simp only [JF] at hp ⊢
    rw [Z2 (by omega)]
    omega
   rw [e3]
   rfl
  | false =>
   rw [if_neg (by simp),Zl (by omega)]
   exact ih m (n + 1) hr' (by omega) (by omega)
theorem Zr6 (k:Nat) {b:List Int} (hb:Zu b = true) (hn:b.length < 536870912) {r:List Bool} (hr:Zg b r) (hk:8 * b.length < k) :
  ZoI k (YV b r,()) = some (((((unS r).1:Nat):Int),(unS r).2.1,()),YV b (unS r).2.2,()):=by
 show ZfQ k (Zm0 k) _ = _
 simp only [ZfQ]
 have hl:=hr.len
 refine (ZGr k hb hn hr r k 0 hr (by omega) (by omega)).trans ?_
 unfold unS
 grind
def alS (r:List Bool):Int × List Bool:=if (r.take (r.length % 8)).all (fun x => !x) then (0,r.drop (r.length % 8)) else (2,r)
theorem ZIm {b:List Int} {r:List Bool} (h:Zg b r):Zg b (alS r).2:=by
 unfold alS
 split
 ·exact h.drop _
 ·exact h
theorem up8 {n:Nat} (h:n < 4294967296):Jx.wrap (UJ (UN 64 (Jx.wrap ((n:Int) + 7)) &&& ~~~UN 64 7).toNat) = (((n + 7) / 8 * 8:Nat):Int):=by
 rw [Z2 (n:=(n:Int) + 7) (by omega),show (n:Int) + 7 = ((n + 7:Nat):Int) from rfl]
 have e:(UN 64 ((n + 7:Nat):Int) &&& ~~~UN 64 7).toNat = (n + 7) / 8 * 8:=by
  have h1:UN 64 ((n + 7:Nat):Int) &&& ~~~UN 64 7 = ((Hx 64 (n + 7)) >>> 3) <<< 3:=by
   rw [BitVec.ofInt_natCast,show ~~~UN 64 7 = Hx 64 18446744073709551608 from by decide]
   apply BitVec.eq_of_getLsbD_eq
   intro i hi
   simp only [BitVec.getLsbD_and,BitVec.getLsbD_shiftLeft,BitVec.getLsbD_ushiftRight]
   have hm:=(by decide +kernel:∀ j:Fin 64,(Hx 64 18446744073709551608).getLsbD j.val = decide (3 ≤ j.val)) ⟨i,hi⟩
   grind
  simp_all <;> omega
 rw [e,Z2 (by simp only [QY]; omega)]
 rfl
theorem ZLn (k:Nat) {b:List Int} (hb:Zu b = true) (hn:b.length < 536870912) {r0:List Bool}:∀ (p m:Nat) (r:List Bool),Zg b r → p ≤ r.length → p < m →
  Zh (fun L1 => ZeO k L1) m (((ZM b r:Nat):Int),((ZM b r + p:Nat):Int),b,((ZM b r0:Nat):Int)) = some (if (r.take p).all (fun x => !x) then (0,YV b (r.drop p),()) else (2,YV b r0,())):=by
 intro p
 induction p with
 | zero =>
  intro m r hr hp hm
  obtain ⟨m,rfl⟩:=Zw hm
  rw [Zd]
  grind [ZeO]
 | succ p ih =>
  intro m r hr hp hm
  obtain ⟨m,rfl⟩:=Zw (show 0 < m by omega)
  rw [Zd]
  simp only [ZeO]
  have hlen:=hr.len
  have hpos:ZM b r < 8 * b.length:=by unfold ZM; omega
  rw [Zb (by omega),ZpZ k hb hn _ hpos]
  simp only [ZX]
  have hg:=hr.get (i:=0) (by omega)
  simp only [JH] at hg
  rw [hg,ZP]
  have hcons:r = r[0] :: r.drop 1:=by
   have:=Ul (l:=r) (i:=0) (by omega)
   rwa [U9] at this
  have e5:r.take (p + 1) = r[0] :: (r.drop 1).take p:=by
   conv => lhs; rw [hcons]
   rfl
  rw [e5,UA]
  cases hx:r[0] with
  | true =>
   rw [if_pos rfl,Zb rfl]
   simp
  | false =>
   rw [if_neg (by simp),Zl (by omega)]
   have e3:Jx.wrap (((ZM b r:Nat):Int) + 1) = ((ZM b (r.drop 1):Nat):Int):=by
    rw [Zgn hr (by omega),Z2 (by omega)]; rfl
   have e4:ZM b r + (p + 1) = ZM b (r.drop 1) + p:=by rw [Zgn hr (by omega)]; omega
   rw [e3,e4,ih m (r.drop 1) (hr.drop 1) (by rw [Vi]; omega) (by omega)]
   grind
theorem ZLo (k:Nat) {b:List Int} (hb:Zu b = true) (hn:b.length < 536870912) {r:List Bool} (hr:Zg b r) (hk:10 < k) :
  ZLl k (YV b r,()) = some ((alS r).1,YV b (alS r).2,()):=by
 show Zja k (Zvf k) _ = _
 simp only [Zja]
 have hlen:=hr.len
 have hp:ZM b r ≤ 8 * b.length:=by unfold ZM; omega
 rw [up8 (by omega)]
 have e:(ZM b r + 7) / 8 * 8 = ZM b r + r.length % 8:=by unfold ZM; omega
 rw [e]
 refine (ZLn k hb hn (r.length % 8) k r hr (Er _ _) (by omega)).trans ?_
 unfold alS
 split <;> rfl
def ZjZ (f:Nat):Int:=if f % 2 = 1 then -((f:Int) + 1) / 2 else (f:Int) / 2
theorem ZG8 (k:Nat) {f:Nat} (h:f < 4294967296):ZA4 k ((f:Int),()) = some ((ZjZ f,0,()),()):=by
 show Zk7 k _ = _
 simp only [Zk7]
 rw [Zl (by omega),Zl (by omega),show (1:Int) = ((1:Nat):Int) from rfl,ZFs (by omega) (by omega),HZ,Z2 (n:=((f % 2:Nat):Int)) (by omega)]
 have hd:((f:Nat):Int).fdiv 2 = ((f / 2:Nat):Int):=by grind
 rw [hd]
 unfold ZjZ
 by_cases h1:f % 2 = 1
 ·rw [if_pos h1,h1,show Jx.wrap ((0:Int) - ((1:Nat):Int)) = -1 from rfl,show UN 64 (-1) = Et 64 from by decide,Ew,Eu,ZTy (by omega)]
  have e2:Jx.wrap (UJ (2 ^ 64 - 1 - f / 2)) = -((f:Int) + 1) / 2:=by
   simp only [QY]
   rw [IntKind.wrap_i64]
   omega
  rw [e2]
 ·rw [if_neg h1,show f % 2 = 0 by omega,show Jx.wrap ((0:Int) - ((0:Nat):Int)) = 0 from rfl,show UN 64 0 = 0#64 from rfl,Ey,ZTy (by omega)]
  rw [Z2 (by simp only [QY]; omega)]
  rfl
theorem ZzP {n:Int} (h:ZG n):ZjZ (Z0 n) = n:=by
 unfold ZG at h
 unfold ZjZ Z0
 grind
def Zbg (kk:Nat) (r:List Bool):Int × Int × List Bool :=
 if (unS r).2.1 ≠ 0 then (0,(unS r).2.1,(unS r).2.2)
 else if (ZK kk (unS r).2.2).2.1 ≠ 0 then (0,(ZK kk (unS r).2.2).2.1,(ZK kk (unS r).2.2).2.2)
 else if 4294967295 ≤ (unS r).1 * 2 ^ kk + (ZK kk (unS r).2.2).1 then (0,12,(ZK kk (unS r).2.2).2.2)
 else (ZjZ ((unS r).1 * 2 ^ kk + (ZK kk (unS r).2.2).1),0,(ZK kk (unS r).2.2).2.2)
theorem Zta {b:List Int} {r:List Bool} (h:Zg b r) (kk:Nat):Zg b (Zbg kk r).2.2:=by
 unfold Zbg
 split
 ·exact ZcZ h
 ·split
  ·exact Z5 (ZcZ h) kk
  ·split
   ·exact Z5 (ZcZ h) kk
   ·exact Z5 (ZcZ h) kk
theorem ZS9 {q d kk:Nat} (hq:q < 4294967296) (hk:kk ≤ 30) (hd:d < 2 ^ kk):Jx.wrap (UJ (UN 64 (Jx.wrap ((q:Int) * (2:Int) ^ min ((kk:Int)).toNat 64)) ||| UN 64 (d:Int)).toNat) = ((q * 2 ^ kk + d:Nat):Int):=by
 have h1:2 ^ kk ≤ 2 ^ 30:=Hr (by omega) hk
 have h2:q * 2 ^ kk ≤ 4294967295 * 1073741824:=J4 (by omega) (by omega)
 rw [Xa,Hl (by omega),Xu,← HI]
 have h3:=Eh hd q
 rw [Hs] at h3
 rw [Z2 (n:=((q * 2 ^ kk:Nat):Int)) (by generalize q * 2 ^ kk = X at h2; omega),orN (by generalize q * 2 ^ kk = X at h2; omega) (by omega),← h3]
 generalize q * 2 ^ kk = X at h2 ⊢
 rw [Z2 (by omega)]
theorem ZG5 (k:Nat) {b:List Int} (hb:Zu b = true) (hn:b.length < 268435456) {r:List Bool} (hr:Zg b r) {kk:Nat} (hkk:kk ≤ 30) (hk:8 * b.length + 100 < k) :
  ZA0 k (YV b r,(kk:Int),()) = some (((Zbg kk r).1,(Zbg kk r).2.1,()),YV b (Zbg kk r).2.2,()):=by
 show Zk4 k _ = _
 simp only [Zk4]
 rw [Zr6 k hb (by omega) hr (by omega)]
 simp only [ZX]
 unfold Zbg
 have hu:=ZNB (r:=r)
 have hl:=hr.len
 rw [ZD]
 by_cases h1:(unS r).2.1 = 0
 ·rw [Zl (by simpa using h1),if_neg (by simpa using h1),XA k hb (by omega) (ZcZ hr) (by omega) (by omega)]
  simp only [ZX]
  rw [ZD]
  by_cases h2:(ZK kk (unS r).2.2).2.1 = 0
  ·rw [Zl (by simpa using h2),if_neg (by simpa using h2),Zb (by omega),ZS9 (by omega) hkk (K6 kk _)]
   by_cases h3:4294967295 ≤ (unS r).1 * 2 ^ kk + (ZK kk (unS r).2.2).1
   ·rw [Zb (by omega),if_pos h3]
   ·rw [Zl (by omega),if_neg h3,ZG8 k (by omega)]
    rfl
  ·rw [Zb h2,if_pos h2]
 ·rw [Zb h1,if_pos h1]
end Go.Sh
namespace Go.Sh
open Go Go.Proofs
abbrev ZCN:=List Bool → Int × Int × List Bool
def X0 (one:ZCN):Nat → List Bool → List Int → List Int × Int × List Bool
 | 0,r,acc => (acc,0,r)
 | n + 1,r,acc => if (one r).2.1 ≠ 0 then ([],(one r).2.1,(one r).2.2) else X0 one n (one r).2.2 (acc ++ [(one r).1])
theorem Zhn {b:List Int} {one:ZCN} (h1:∀ r,Zg b r → Zg b (one r).2.2):∀ (n:Nat) (r:List Bool) (acc:List Int),Zg b r → Zg b (X0 one n r acc).2.2
 | 0,r,acc,h => h
 | n + 1,r,acc,h => by
  unfold X0
  split
  ·exact h1 r h
  ·exact Zhn h1 n _ _ (h1 r h)
theorem Zls {one:ZCN}:∀ (n:Nat) (r:List Bool) (acc:List Int),(X0 one n r acc).1.length ≤ acc.length + n
 | 0,r,acc => Jj _
 | n + 1,r,acc => by
  unfold X0
  split
  ·simp
  ·have:=Zls (one:=one) n (one r).2.2 (acc ++ [(one r).1])
   grind
theorem ZOF (k:Nat) (L2:Int × Int × List Int × Int × Int × List Int → Option ((List Int × Int × Unit) × (List Int × Int × Unit) × Unit)) {b:List Int} (hb:Zu b = true) (hn:b.length < 268435456) (hk:8 * b.length + 100 < k) {w:Nat} (hw:w ≤ 32) :
  ∀ (d m i:Nat) (r:List Bool) (acc:List Int),Zg b r → d < m → i + d ≤ 4096 → acc.length ≤ i →
  Zh (fun L1 => Zcr k L1) m (((i + d:Nat):Int),(i:Int),b,((ZM b r:Nat):Int),(w:Int),acc) = some (((X0 (WI w) d r acc).1,(X0 (WI w) d r acc).2.1,()),YV b (X0 (WI w) d r acc).2.2,()):=by
 intro d
 induction d with
 | zero =>
  intro m i r acc hr hm hi ha
  obtain ⟨m,rfl⟩:=Zw hm
  rw [Zd]
  simp only [Zcr]
  rw [Zl (by omega)]
  rfl
 | succ d ih =>
  intro m i r acc hr hm hi ha
  obtain ⟨m,rfl⟩:=Zw (show 0 < m by omega)
  rw [Zd]
  simp only [Zcr]
  have e:ZA1 k (((b,((ZM b r:Nat):Int),()),()),((w:Int),()),()) = some (((WI w r).1,(WI w r).2.1,()),((YV b (WI w r).2.2),()),((w:Int),()),()):=by
   show Zk5 k _ = _
   simp only [Zk5]
   rw [Zsf k hb (by omega) hr hw (by omega)]
   rfl
  rw [Zb (by omega),e]
  simp only [ZX]
  unfold X0
  rw [ZD]
  by_cases h:(WI w r).2.1 = 0
  ·rw [Zl (by simpa using h),Zb (by grind),if_neg (by simpa using h)]
   have e2:Jx.wrap ((i:Int) + 1) = ((i + 1:Nat):Int):=by rw [Z2 (by omega)]; rfl
   rw [e2]
   have:=ih m (i + 1) (WI w r).2.2 (acc ++ [(WI w r).1]) (ZdD hr w) (by omega) (by omega) (by simp; omega)
   grind
  ·rw [Zb h,if_pos h]
theorem ZJT (k:Nat) {b:List Int} (hb:Zu b = true) (hn:b.length < 268435456) (hk:8 * b.length + 100 < k) {w:Nat} (hw:w ≤ 30) :
  ∀ (d m i:Nat) (r:List Bool) (acc:List Int),Zg b r → d < m → i + d ≤ 4096 → acc.length ≤ i →
  Zh (fun L2 => Zcs k L2) m (((i + d:Nat):Int),(i:Int),b,((ZM b r:Nat):Int),(w:Int),acc) = some (((X0 (Zbg w) d r acc).1,(X0 (Zbg w) d r acc).2.1,()),YV b (X0 (Zbg w) d r acc).2.2,()):=by
 intro d
 induction d with
 | zero =>
  intro m i r acc hr hm hi ha
  obtain ⟨m,rfl⟩:=Zw hm
  rw [Zd]
  simp only [Zcs]
  rw [Zl (by omega)]
  rfl
 | succ d ih =>
  intro m i r acc hr hm hi ha
  obtain ⟨m,rfl⟩:=Zw (show 0 < m by omega)
  rw [Zd]
  simp only [Zcs]
  have e:ZAZ k (((b,((ZM b r:Nat):Int),()),()),((w:Int),()),()) = some (((Zbg w r).1,(Zbg w r).2.1,()),((YV b (Zbg w r).2.2),()),((w:Int),()),()):=by
   show Zk3 k _ = _
   simp only [Zk3]
   rw [ZG5 k hb (by omega) hr hw (by omega)]
   rfl
  rw [Zb (by omega),e]
  simp only [ZX]
  unfold X0
  rw [ZD]
  by_cases h:(Zbg w r).2.1 = 0
  ·rw [Zl (by simpa using h),Zb (by grind),if_neg (by simpa using h)]
   have e2:Jx.wrap ((i:Int) + 1) = ((i + 1:Nat):Int):=by rw [Z2 (by omega)]; rfl
   rw [e2]
   have:=ih m (i + 1) (Zbg w r).2.2 (acc ++ [(Zbg w r).1]) (Zta hr w) (by omega) (by omega) (by simp; omega)
   grind
  ·rw [Zb h,if_pos h]
def X3 (m count : Nat) (r : List Bool) : List Int × Int × List Bool :=
  if (ZK (4 + m) r).2.1 ≠ 0 then ([], (ZK (4 + m) r).2.1, (ZK (4 + m) r).2.2)
  else if (ZK (4 + m) r).1 = Xe m then
    (if (ZK 5 (ZK (4 + m) r).2.2).2.1 ≠ 0 then ([], (ZK 5 (ZK (4 + m) r).2.2).2.1, (ZK 5 (ZK (4 + m) r).2.2).2.2)
     else X0 (WI (ZK 5 (ZK (4 + m) r).2.2).1) count (ZK 5 (ZK (4 + m) r).2.2).2.2 [])
  else X0 (Zbg (ZK (4 + m) r).1) count (ZK (4 + m) r).2.2 []
theorem Zhs {b:List Int} {r:List Bool} (h:Zg b r) (m count:Nat):Zg b (X3 m count r).2.2:=by
 unfold X3
 split
 ·exact Z5 h _
 ·split
  ·split
   ·exact Z5 (Z5 h _) _
   ·exact Zhn (fun r h => ZdD h _) _ _ _ (Z5 (Z5 h _) _)
  ·exact Zhn (fun r h => Zta h _) _ _ _ (Z5 h _)
theorem Ztd (m count:Nat) (r:List Bool):(X3 m count r).1.length ≤ count:=by
 unfold X3
 split
 ·simp
 ·split
  ·split
   ·simp
   ·have:=Zls (one:=WI (ZK 5 (ZK (4 + m) r).2.2).1) count (ZK 5 (ZK (4 + m) r).2.2).2.2 []
    simpa using this
  ·have:=Zls (one:=Zbg (ZK (4 + m) r).1) count (ZK (4 + m) r).2.2 []
   simpa using this
theorem ZGX (k:Nat) {b:List Int} (hb:Zu b = true) (hn:b.length < 268435456) {r:List Bool} (hr:Zg b r) (hk:8 * b.length + 5000 < k) {m count:Nat} (hm:m = 0 ∨ m = 1) (hc:count ≤ 4096) :
  ZoX k (YV b r,(m:Int),(count:Int),()) = some (((X3 m count r).1,(X3 m count r).2.1,()),YV b (X3 m count r).2.2,()):=by
 show Zf3 k (Znk k) (Zih k) _ = _
 simp only [Zf3]
 have hmi:(m:Int) = 0 ∨ (m:Int) = 1:=by omega
 rw [ZRa,Zkv k hmi]
 simp only [ZX]
 have e4:(4:Int) + (m:Int) = ((4 + m:Nat):Int):=rfl
 rw [e4,XA k hb (by omega) hr (by omega) (by omega)]
 simp only [ZX]
 unfold X3
 have hlt:=K6 (4 + m) r
 rw [ZD]
 by_cases h1:(ZK (4 + m) r).2.1 = 0
 ·rw [Zl (by simpa using h1),if_neg (by simpa using h1),ZFq,Zcd k hmi]
  simp only [ZX]
  rw [ZP]
  by_cases h2:(ZK (4 + m) r).1 = Xe m
  ·rw [Zb (by omega),if_pos h2,show (5:Int) = ((5:Nat):Int) from rfl,XA k hb (by omega) (Z5 hr _) (by omega) (by omega)]
   simp only [ZX]
   rw [ZD]
   by_cases h3:(ZK 5 (ZK (4 + m) r).2.2).2.1 = 0
   ·rw [Zl (by simpa using h3),if_neg (by simpa using h3)]
    have hlt5:=K6 5 (ZK (4 + m) r).2.2
    have:=ZOF k (Zih k) hb hn (by omega) (w:=(ZK 5 (ZK (4 + m) r).2.2).1) (by omega) count k 0 (ZK 5 (ZK (4 + m) r).2.2).2.2 [] (Z5 (Z5 hr _) _) (by omega) (by omega) (by simp)
    rw [Ub] at this
    exact this
   ·rw [Zb h3,if_pos h3]
  ·rw [Zl (by omega),if_neg h2]
   have h30:(ZK (4 + m) r).1 ≤ 30:=by
    rcases hm with rfl | rfl
    ·omega
    ·have h32:(ZK (4 + 1) r).1 < 32:=hlt
     have:Xe (1:Nat) = 31:=rfl
     omega
   have:=ZJT k hb hn (by omega) h30 count k 0 (ZK (4 + m) r).2.2 [] (Z5 hr _) (by omega) (by omega) (by simp)
   rw [Ub] at this
   exact this
 ·rw [Zb h1,if_pos h1]
def Wk (m n o p:Nat):Nat → Nat → List Bool → List Int → List Int × Int × List Bool
 | 0,_,r,acc => (acc,0,r)
 | d + 1,i,r,acc => if (X3 m (n / 2 ^ p - if i = 0 then o else 0) r).2.1 ≠ 0 then ([],(X3 m (n / 2 ^ p - if i = 0 then o else 0) r).2.1,(X3 m (n / 2 ^ p - if i = 0 then o else 0) r).2.2)
  else Wk m n o p d (i + 1) (X3 m (n / 2 ^ p - if i = 0 then o else 0) r).2.2 (acc ++ (X3 m (n / 2 ^ p - if i = 0 then o else 0) r).1)
theorem ZhO {b:List Int} {m n o p:Nat}:∀ (d i:Nat) (r:List Bool) (acc:List Int),Zg b r → Zg b (Wk m n o p d i r acc).2.2
 | 0,_,r,acc,h => h
 | d + 1,i,r,acc,h => by
  unfold Wk
  generalize (n / 2 ^ p - if i = 0 then o else 0) = cnt
  split
  ·exact Zhs h _ _
  ·exact ZhO d (i + 1) _ _ (Zhs h _ _)
theorem ZGx (k:Nat) {b:List Int} (hb:Zu b = true) (hn:b.length < 268435456) (hk:8 * b.length + 5000 < k) {m n o p:Nat} (hm:m = 0 ∨ m = 1) (hnn:n ≤ 512) (hp:p ≤ 15) (ho:o ≤ n / 2 ^ p) :
  ∀ (d j i:Nat) (r:List Bool) (acc:List Int),Zg b r → d < j → i + d ≤ 32768 → acc.length ≤ i * 512 →
  Zh (fun L1 => Zah k L1) j (((i + d:Nat):Int),(i:Int),(n:Int),(p:Int),(o:Int),(m:Int),b,((ZM b r:Nat):Int),acc) = some (((Wk m n o p d i r acc).1,(Wk m n o p d i r acc).2.1,()),YV b (Wk m n o p d i r acc).2.2,()):=by
 intro d
 have hdiv:n / 2 ^ p ≤ n:=Eg _ _
 induction d with
 | zero =>
  intro j i r acc hr hj hi ha
  obtain ⟨j,rfl⟩:=Zw hj
  rw [Zd]
  simp only [Zah]
  rw [Zl (by omega)]
  rfl
 | succ d ih =>
  intro j i r acc hr hj hi ha
  obtain ⟨j,rfl⟩:=Zw (show 0 < j by omega)
  rw [Zd]
  simp only [Zah,Xa,Hl (show p ≤ 64 by omega),Ze2]
  have e2:Jx.wrap ((i:Int) + 1) = ((i + 1:Nat):Int):=by rw [Z2 (by omega)]; rfl
  have e3:Jx.wrap (((n / 2 ^ p:Nat):Int) - (o:Int)) = ((n / 2 ^ p - o:Nat):Int):=by generalize n / 2 ^ p = q at hdiv ho ⊢; rw [Z2 (by omega)]; omega
  have fin:∀ cnt:Nat,cnt = (n / 2 ^ p - if i = 0 then o else 0) → ((ZoX k ((b,((ZM b r:Nat):Int),()),(m:Int),(cnt:Int),())).bind fun y => bif y.1.2.1 != (0:Int) then some (([],y.1.2.1,()),(y.2.1.1,y.2.1.2.1,()),()) else bif decide (acc.length + UP y.1.1 < (2147483648:Nat)) then Zh (fun L1 => Zah k L1) j (((i + (d + 1):Nat):Int),Jx.wrap ((i:Int) + 1),(n:Int),(p:Int),(o:Int),(m:Int),y.2.1.1,y.2.1.2.1,acc ++ y.1.1) else none) =
    some (((Wk m n o p (d + 1) i r acc).1,(Wk m n o p (d + 1) i r acc).2.1,()),YV b (Wk m n o p (d + 1) i r acc).2.2,()):=by
   intro cnt hcnt
   have hcl:cnt ≤ 512:=by omega
   refine (Zi (ZGX k hb hn hr hk hm (by omega)) _).trans ?_
   simp only
   unfold Wk
   rw [← hcnt,ZD]
   have hlen:=Ztd m cnt r
   by_cases h:(X3 m cnt r).2.1 = 0
   ·rw [Zl (by simpa using h),Zb (by omega),if_neg (by simpa using h),e2]
    have:=ih j (i + 1) (X3 m cnt r).2.2 (acc ++ (X3 m cnt r).1) (Zhs hr _ _) (by omega) (by omega) (by rw [Q3]; omega)
    grind
   ·rw [Zb h,if_pos h]
  grind
def YU (n o:Nat) (r:List Bool):List Int × Int × List Bool :=
 if ZbQ n o = false then ([],1,r)
 else if (ZK 2 r).2.1 ≠ 0 then ([],(ZK 2 r).2.1,(ZK 2 r).2.2)
 else if 1 < (ZK 2 r).1 then ([],2,(ZK 2 r).2.2)
 else if (ZK 4 (ZK 2 r).2.2).2.1 ≠ 0 then ([],(ZK 4 (ZK 2 r).2.2).2.1,(ZK 4 (ZK 2 r).2.2).2.2)
 else if Zd4 n o (ZK 4 (ZK 2 r).2.2).1 = false then ([],2,(ZK 4 (ZK 2 r).2.2).2.2)
 else Wk (ZK 2 r).1 n o (ZK 4 (ZK 2 r).2.2).1 (2 ^ (ZK 4 (ZK 2 r).2.2).1) 0 (ZK 4 (ZK 2 r).2.2).2.2 []
theorem ZqR {b:List Int} {r:List Bool} (h:Zg b r) (n o:Nat):Zg b (YU n o r).2.2:=by
 unfold YU
 repeat' split
 all_goals first | exact h | exact Z5 h _ | exact Z5 (Z5 h _) _ | exact ZhO _ _ _ _ (Z5 (Z5 h _) _)
theorem ZGy (k:Nat) {b:List Int} (hb:Zu b = true) (hn:b.length < 268435456) {r:List Bool} (hr:Zg b r) (hk:8 * b.length + 50000 < k) (n o:Nat) :
  Zes k (YV b r,(n:Int),(o:Int),()) = some (((YU n o r).1,(YU n o r).2.1,()),YV b (YU n o r).2.2,()):=by
 show ZfU k (Zm6 k) _ = _
 simp only [ZfU]
 rw [Zsc]
 simp only [ZX]
 unfold YU
 cases hbl:ZbQ n o with
 | false => rfl
 | true =>
  have hbb:=of_decide_eq_true hbl
  simp only [Hz,cond_false,HR,if_false]
  have g2:Y5 k (YV b r,2,()) = _:=XA k hb (by omega) hr (w:=2) (by omega) (by omega)
  rw [g2]
  simp only [ZX]
  rw [ZD]
  have hlt2:=K6 2 r
  by_cases h1:(ZK 2 r).2.1 = 0
  ·rw [Zl (by simpa using h1),if_neg (by simpa using h1)]
   by_cases h2:1 < (ZK 2 r).1
   ·rw [Zb (by omega),if_pos h2]
   ·have g4:Y5 k (YV b (ZK 2 r).2.2,4,()) = _:=XA k hb (by omega) (Z5 hr _) (w:=4) (by omega) (by omega)
    rw [Zl (by omega),if_neg h2,g4]
    simp only [ZX]
    rw [ZD]
    have hlt4:=K6 4 (ZK 2 r).2.2
    by_cases h3:(ZK 4 (ZK 2 r).2.2).2.1 = 0
    ·rw [Zl (by simpa using h3),if_neg (by simpa using h3),Zse k (by omega) (by omega)]
     simp only [ZX]
     cases hf:Zd4 n o (ZK 4 (ZK 2 r).2.2).1 with
     | false => rfl
     | true =>
      simp only [Hz,cond_false,HR,if_false]
      have hfit:=hf
      unfold Zd4 at hfit
      simp only [Jh,decide_eq_true_eq] at hfit
      rw [Zb (by omega),ZnM (by omega)]
      have h15:2 ^ (ZK 4 (ZK 2 r).2.2).1 ≤ 2 ^ 15:=Hr (by omega) (by omega)
      have:=ZGx k hb hn (by omega) (m:=(ZK 2 r).1) (n:=n) (o:=o) (p:=(ZK 4 (ZK 2 r).2.2).1) (by omega) (by omega) (by omega) hfit.2 (2 ^ (ZK 4 (ZK 2 r).2.2).1) k 0 (ZK 4 (ZK 2 r).2.2).2.2 [] (Z5 (Z5 hr _) _) (by omega) (by omega) (by simp)
      rw [Ub] at this
      exact this
    ·rw [Zb h3,if_pos h3]
  ·rw [Zb h1,if_pos h1]
theorem ZUE:∀ n:Fin 513,Zk2 0 (1,(n.val:Int),()) = some ((0,(n.val:Int),()),()):=by decide +kernel
theorem ZJR (k:Nat) {n:Nat} (hn:n ≤ 512):ZAU k (1,(n:Int),()) = some ((0,(n:Int),()),()):=by
 have:=ZUE ⟨n,by omega⟩
 simp only at this
 show (Zk2 0 (1,(n:Int),())).bind _ = _
 rw [this]
 rfl
theorem ZGt (k:Nat) (x:Int) {n:Nat} (hn:n ≤ 512):∀ (d m i:Nat),i + d = n → d < m → 1 ≤ i →
  Zh (fun L1 => ZfS k L1) m ((i:Int),Jd i x ++ Jd d 0) = some (Jd n x,()):=by
 intro d
 induction d using Nat.strongRecOn with
 | ind d ih =>
  intro m i hi hm h1
  obtain ⟨m,rfl⟩:=Zw (show 0 < m by omega)
  rw [Zd]
  simp only [ZfS]
  have hlen:(Jd i x ++ Jd d (0:Int)).length = n:=by simp; omega
  rw [hlen]
  by_cases h0:d = 0
  ·simp_all
  ·rw [Zb (by simp only [QY]; omega),Zb (by simp only [QY]; omega),Zb (by simp only [QY]; omega)]
   simp only [Xa,show (UJ n).toNat = n from rfl]
   rw [Zb (by omega),Zb (by omega),U9]
   have ht:(Jd i x ++ Jd d (0:Int)).take i = Jd i x:=by
    simp_all
   rw [ht,Ur]
   have e1:Jx.wrap ((i:Int) + UJ (min i (n - i))) = ((i + min i (n - i):Nat):Int):=by simp only [QY]; rw [Z2 (by omega)]; omega
   have e2:Jd i x ++ UR (n - i) (Jd i x) ++ US (i + min i (n - i)) (Jd i x ++ Jd d (0:Int)) = Jd (i + min i (n - i)) x ++ Jd (d - min i (n - i)) 0:=by
    rw [List.take_replicate,List.replicate_append_replicate,Ez]
    simp
    omega
   rw [e1,e2]
   exact ih (d - min i (n - i)) (by omega) m _ (by omega) (by omega) (by omega)
theorem ZGu (k:Nat) (x:Int) {n:Nat} (h1:1 ≤ n) (hn:n ≤ 512) (hk:1000 < k):ZAI k ([x],(n:Int),()) = some (Jd n x,()):=by
 show ZfR k (Zm2 k) _ = _
 simp only [ZfR]
 have e1:UO.wrap (UJ [x].length) = 1:=rfl
 have e2:UO.wrap (n:Int) = (n:Int):=by rw [IntKind.wrap_u64]; omega
 rw [Zl (by omega),e1,e2,ZJR k hn]
 simp only [ZX]
 have e3:Jx.wrap (n:Int) = (n:Int):=by rw [Z2 (by omega)]
 rw [Zl (by omega),Zl (by omega),e3,Zb (by omega)]
 simp only [Xa,Ur,Us,Nat.sub_zero,List.take_zero,VT,Ub]
 rw [Hl h1,Ep (by simp; omega),List.drop_replicate]
 exact ZGt k x hn (n - 1) k 1 (by omega) (by omega) (by omega)
end Go.Sh
namespace Go.Sh
open Go Go.Proofs
def ZjL (c:List Int) (sh:Int):List Int → List Int → List Int × Int
 | [],out => (out,0)
 | x :: xs,out => if Qy (x + ZdZ c sh out) = true then ([],12) else ZjL c sh xs (out ++ [x + ZdZ c sh out])
def KS (c:List Int) (sh:Int) (warm res:List Int):List Int × Int :=
 if Za1 c sh = false then ([],2) else if warm.length ≠ c.length then ([],1) else if warm.any Qy = true then ([],12) else if res.any Qy = true then ([],12) else ZjL c sh res warm
theorem Ztk {c:List Int} {sh:Int}:∀ (xs out:List Int),(ZjL c sh xs out).1.length ≤ out.length + xs.length
 | [],out => Jj _
 | x :: xs,out => by
  unfold ZjL
  split
  ·simp
  ·have:=Ztk (c:=c) (sh:=sh) xs (out ++ [x + ZdZ c sh out])
   grind
theorem ZzT {x:Int} (h:Qy x = false):ZG x:=by
 unfold Qy at h
 rw [decide_eq_false_iff_not] at h
 unfold ZG
 omega
theorem ZGA (k:Nat) {c warm res:List Int} {sh:Int} (hk:1000 < k) (hc:c.length ≤ 8192) (hw:warm.length ≤ 900) (hr:res.length ≤ 900) :
  Zet k ((c,sh,()),warm,res,()) = some (((KS c sh warm res).1,(KS c sh warm res).2,()),()):=by
 show ZfV k (Zm8 k) _ = _
 simp only [ZfV]
 rw [Zsg k c sh (by omega)]
 simp only [ZX]
 unfold KS
 cases hm:Za1 c sh with
 | false => rfl
 | true =>
  simp only [if_true,HR,if_false]
  rw [show ((0:Int) != 0) = false from rfl]
  simp only [cond_false]
  rw [ZD]
  by_cases hl:warm.length = c.length
  ·rw [Zl (by simp [hl]),if_neg (by simpa using hl),Zbo k warm (by omega) (by omega)]
   simp only [ZX]
   cases hw1:warm.any Qy with
   | true => rfl
   | false =>
    simp only [cond_false,JJ,if_false]
    rw [Zbo k res (by omega) (by omega)]
    simp only [ZX]
    cases hr1:res.any Qy with
    | true => rfl
    | false =>
     simp only [cond_false,JJ,if_false]
     have ecl:ZkU k (warm,()) = some (warm,()):=by show XL _ = _; unfold XL; rw [Zb (by simp only; omega)]
     rw [ecl]
     simp only [ZX]
     obtain ⟨h8,hsh,hco⟩:=Zfg hm
     have:=Zs (A:=List Int) (R:=(List Int × Int × Unit) × Unit) (step:=fun L1 => Zck k L1)
      (fun i out => (UJ res.length,UJ i,res,c,sh,out)) res
      (fun l' out => some (((ZjL c sh l' out).1,(ZjL c sh l' out).2,()),()))
      (fun i out => c.length ≤ out.length ∧ out.length = warm.length + i ∧ ∀ x ∈ out,ZG x)
      (fun L out _ => by simp only [Zck]; rw [Zl (Zaa _)]; rfl)
      (fun L i hi out ho hL => by
       simp only [Zck]
       rw [Zb (KX hi),Zb (Ya hi),Zsh k (by omega) h8 ho.1 (by omega) hsh hco ho.2.2,ZE hi]
       simp only [ZX]
       have hx:=Kh hr1 res[i] (Ha hi)
       have hp:=Zmq (sh:=sh) hco ho.2.2 h8
       unfold ZG at hx
       rw [Z2 (n:=res[i] + ZdZ c sh out) (by omega),ZkT]
       simp only [ZX]
       unfold ZjL
       cases hwi:Qy (res[i] + ZdZ c sh out) with
       | true => rfl
       | false =>
        simp only [cond_false,JJ,if_false]
        rw [Zb (by grind),Qc hi (by omega)]
        exact hL _ ⟨by simp; omega,by simp; omega,fun x hx => by
         rcases Js.1 hx with h | h
         ·exact ho.2.2 x h
         ·rw [Vx.1 h]; exact ZzT hwi⟩)
      k 0 warm ⟨by omega,by omega,Kh hw1⟩ (by omega) (UH _)
     rw [U9] at this
     exact this
  grind
abbrev IS:=List Bool × Int
def gI (w:Nat) (s:IS):Nat × IS:=if s.2 = 0 then ((ZK w s.1).1,(ZK w s.1).2.2,(ZK w s.1).2.1) else (0,s)
def mI (ok:Bool) (s:IS) (code:Int):IS:=if s.2 = 0 ∧ ok = false then (s.1,code) else s
theorem Qz {b:List Int} {s:IS} (h:Zg b s.1) (w:Nat):Zg b (gI w s).2.1:=by
 unfold gI
 split
 ·exact Z5 h w
 ·exact h
theorem Qt {b:List Int} {s:IS} (h:Zg b s.1) (ok:Bool) (code:Int):Zg b (mI ok s code).1:=by
 unfold mI
 split
 ·exact h
 ·exact h
theorem ZT7 (w:Nat) (s:IS):(gI w s).1 < 2 ^ w:=by
 unfold gI
 split
 ·exact K6 w _
 ·exact Hj (by omega)
theorem Zcg (k:Nat) {b:List Int} (hb:Zu b = true) (hn:b.length < 268435456) (hk:100 < k) {s:IS} (hs:Zg b s.1) {w:Nat} (hw:w ≤ 32) :
  K0 k ((YV b s.1,s.2,()),(w:Int),()) = some ((((gI w s).1:Nat):Int),(YV b (gI w s).2.1,(gI w s).2.2,()),()):=by
 show Zkz k _ = _
 simp only [Zkz]
 unfold gI
 rw [ZP]
 by_cases h:s.2 = 0
 ·rw [Zb h,if_pos h,XA k hb (by omega) hs hw hk]
  rfl
 ·rw [Zl h,if_neg h]
  rfl
theorem Yw (k:Nat) {b:List Int} {s:IS} (ok:Bool):Xo k ((YV b s.1,s.2,()),ok,()) = some ((),(YV b (mI ok s 2).1,(mI ok s 2).2,()),()):=by
 show Zky k _ = _
 simp only [Zky]
 unfold mI
 grind
def ZcJ (n:Nat):Bool:=n = 0 ∨ n = 1 ∨ 8 ≤ n ∧ n ≤ 12 ∨ 32 ≤ n ∧ n ≤ 39
theorem ZGp (k n:Nat):ZAH k ((n:Int),()) = some (ZcJ n,()):=by
 show ZkA k _ = _
 simp only [ZkA]
 unfold ZcJ
 rw [ZP,ZP]
 by_cases h0:n = 0
 ·simp_all
 ·rw [Zl (by omega)]
  by_cases h1:n = 1
  ·simp_all
  ·rw [Zl (by omega)]
   by_cases h8:8 ≤ n
   ·rw [Zb (by omega)]
    by_cases h12:n ≤ 12
    ·grind
    ·rw [Zl (by omega)]
     by_cases h31:31 < n
     ·rw [Zb (by omega)]
      by_cases h39:n ≤ 39
      ·grind
      grind
     grind
   grind
def XC (w:Nat):Nat → IS → List Int → List Int × IS
 | 0,s,acc => (acc,s)
 | n + 1,s,acc => if s.2 = 0 then XC w n ((WI w s.1).2.2,(WI w s.1).2.1) (acc ++ [(WI w s.1).1]) else XC w n s (acc ++ [0])
theorem XD {b:List Int} {w:Nat}:∀ (n:Nat) (s:IS) (acc:List Int),Zg b s.1 → Zg b (XC w n s acc).2.1
 | 0,s,acc,h => h
 | n + 1,s,acc,h => by
  unfold XC
  split
  ·exact XD n _ _ (ZdD h w)
  ·exact XD n _ _ h
theorem KN {w:Nat}:∀ (n:Nat) (s:IS) (acc:List Int),(XC w n s acc).1.length = acc.length + n
 | 0,s,acc => rfl
 | n + 1,s,acc => by
  unfold XC
  split
  ·rw [KN n,Q3,Us]; omega
  ·rw [KN n,Q3,Us]; omega
theorem Zcj (k:Nat) {b:List Int} (hb:Zu b = true) (hn:b.length < 268435456) (hk:1000 < k) {s:IS} (hs:Zg b s.1) {w n:Nat} (hw:w ≤ 32) (hnn:n ≤ 512) :
  Zda k ((YV b s.1,s.2,()),(n:Int),(w:Int),()) = some ((XC w n s []).1,(YV b (XC w n s []).2.1,(XC w n s []).2.2,()),()):=by
 show ZfT k (Zm4 k) _ = _
 simp only [ZfT]
 suffices H:∀ (d m i:Nat) (s:IS) (acc:List Int),Zg b s.1 → d < m → i + d ≤ 512 → acc.length = i →
   Zh (fun L1 => Zci k L1) m (((i + d:Nat):Int),(i:Int),(w:Int),s.2,b,((ZM b s.1:Nat):Int),acc) = some ((XC w d s acc).1,(YV b (XC w d s acc).2.1,(XC w d s acc).2.2,()),()) by
  have:=H n k 0 s [] hs (by omega) (by omega) rfl
  rw [Ub] at this
  exact this
 intro d
 induction d with
 | zero =>
  intro m i s acc hs hm hi ha
  obtain ⟨m,rfl⟩:=Zw hm
  rw [Zd]
  simp only [Zci]
  rw [Zl (by omega)]
  rfl
 | succ d ih =>
  intro m i s acc hs hm hi ha
  obtain ⟨m,rfl⟩:=Zw (show 0 < m by omega)
  rw [Zd]
  simp only [Zci]
  have e2:Jx.wrap ((i:Int) + 1) = ((i + 1:Nat):Int):=by rw [Z2 (by omega)]; rfl
  rw [Zb (by omega),ZP]
  unfold XC
  by_cases h:s.2 = 0
  ·rw [Zb h,if_pos h,Zsf k hb (by omega) hs hw (by omega)]
   simp only [ZX]
   rw [Zb (by grind),e2]
   have:=ih m (i + 1) ((WI w s.1).2.2,(WI w s.1).2.1) (acc ++ [(WI w s.1).1]) (ZdD hs w) (by omega) (by omega) (by simp; omega)
   grind
  ·rw [Zl h,if_neg h,Zb (by omega),e2]
   have:=ih m (i + 1) s (acc ++ [0]) hs (by omega) (by omega) (by simp; omega)
   grind
def ZbN (s:IS):IS:=mI ((gI 1 s).1 == 0) (gI 1 s).2 2
def YA (s:IS):Nat × IS:=((gI 6 s).1,mI (ZcJ (gI 6 s).1) (gI 6 s).2 2)
def ZcV (kind depth:Nat) (s:IS):Nat × Nat × IS :=
 if (gI 1 s).1 = 1 ∧ (gI 1 s).2.2 = 0 then (kind,(unS (gI 1 s).2.1).1 + 1,mI (decide ((unS (gI 1 s).2.1).1 + 1 < depth)) ((unS (gI 1 s).2.1).2.2,(unS (gI 1 s).2.1).2.1) 2)
 else (kind,0,mI (decide (0 < depth)) (gI 1 s).2 2)
def ZR (depth:Nat) (s:IS):Nat × Nat × IS:=ZcV (YA (ZbN s)).1 depth (YA (ZbN s)).2
theorem Ws (a b:Nat):((a:Int) == (b:Int)) = (a == b):=by
 grind
theorem ZCC {b:List Int} {s:IS} (h:Zg b s.1) (kind d:Nat):Zg b (ZcV kind d s).2.2.1:=by
 unfold ZcV
 split
 ·exact Qt (s:=(_,_)) (ZcZ (Qz h _)) _ _
 ·exact Qt (Qz h _) _ _
theorem ZqY {b:List Int} {s:IS} (h:Zg b s.1):Zg b (ZbN s).1:=Qt (Qz h _) _ _
theorem ZqZ {b:List Int} {s:IS} (h:Zg b s.1):Zg b (YA s).2.1:=Qt (Qz h _) _ _
theorem ZjV {b:List Int} {s:IS} (h:Zg b s.1) (d:Nat):Zg b (ZR d s).2.2.1:=ZCC (ZqZ (ZqY h)) _ _
theorem ZMg (k:Nat) {b:List Int} (hb:Zu b = true) (hn:b.length < 268435456) (hk:8 * b.length + 1000 < k) {s:IS} (hs:Zg b s.1) (d:Nat) :
  ZMf k ((YV b s.1,s.2,()),(d:Int),()) = some (((((ZR d s).1:Nat):Int),(((ZR d s).2.1:Nat):Int),()),(YV b (ZR d s).2.2.1,(ZR d s).2.2.2,()),()):=by
 show ZpU k _ = _
 simp only [ZpU]
 refine (Zi (Zcg k hb hn (by omega) hs (w:=1) (by omega)) _).trans ?_
 refine (Zi (Yw k (s:=(gI 1 s).2) _) _).trans ?_
 rw [show ((((gI 1 s).1:Nat):Int) == (0:Int)) = ((gI 1 s).1 == 0) from Ws _ 0]
 have r2:=ZqY hs
 unfold ZR
 change ((K0 k ((YV b (ZbN s).1,(ZbN s).2,()),6,())).bind _) = _
 generalize ZbN s = s1 at r2 ⊢
 refine (Zi (Zcg k hb hn (by omega) r2 (w:=6) (by omega)) _).trans ?_
 refine (Zi (ZGp k (gI 6 s1).1) _).trans ?_
 refine (Zi (Yw k (s:=(gI 6 s1).2) _) _).trans ?_
 have r4:=ZqZ r2
 change ((K0 k ((YV b (YA s1).2.1,(YA s1).2.2,()),1,())).bind fun y_3 => bif y_3.1 == (1:Int) then bif y_3.2.1.2.1 == (0:Int) then (ZoI k ((y_3.2.1.1.1,y_3.2.1.1.2.1,()),())).bind fun y_4 => (Xo k (((y_4.2.1.1,y_4.2.1.2.1,()),y_4.1.2.1,()),decide (Jx.wrap (y_4.1.1 + (1:Int)) < d),())).bind fun y_5 => some (((((YA s1).1:Nat):Int),Jx.wrap (y_4.1.1 + (1:Int)),()),((y_5.2.1.1.1,y_5.2.1.1.2.1,()),y_5.2.1.2.1,()),())
  else (Xo k (((y_3.2.1.1.1,y_3.2.1.1.2.1,()),y_3.2.1.2.1,()),decide ((0:Int) < d),())).bind fun y_4 => some (((((YA s1).1:Nat):Int),0,()),((y_4.2.1.1.1,y_4.2.1.1.2.1,()),y_4.2.1.2.1,()),())
  else (Xo k (((y_3.2.1.1.1,y_3.2.1.1.2.1,()),y_3.2.1.2.1,()),decide ((0:Int) < d),())).bind fun y_4 => some (((((YA s1).1:Nat):Int),0,()),((y_4.2.1.1.1,y_4.2.1.1.2.1,()),y_4.2.1.2.1,()),())) = _
 generalize (YA s1).1 = kind
 generalize (YA s1).2 = s2 at r4 ⊢
 unfold ZcV
 have r5:=Qz r4 1
 refine (Zi (Zcg k hb hn (by omega) r4 (w:=1) (by omega)) _).trans ?_
 simp only
 rw [show ((((gI 1 s2).1:Nat):Int) == (1:Int)) = ((gI 1 s2).1 == 1) from Ws _ 1]
 have fin0:((Xo k ((YV b (gI 1 s2).2.1,(gI 1 s2).2.2,()),decide ((0:Int) < (d:Int)),())).bind fun y_4 => some ((((kind:Nat):Int),0,()),((y_4.2.1.1.1,y_4.2.1.1.2.1,()),y_4.2.1.2.1,()),())) =
   some ((((kind:Nat):Int),(((0:Nat):Int)),()),(YV b (mI (decide (0 < d)) (gI 1 s2).2 2).1,(mI (decide (0 < d)) (gI 1 s2).2 2).2,()),()):=by
  refine (Zi (Yw k (s:=(gI 1 s2).2) _) _).trans ?_
  simp_all
 by_cases h1:(gI 1 s2).1 = 1
 ·rw [show ((gI 1 s2).1 == 1) = true from by simp [h1]]
  simp only [cond_true]
  rw [ZP]
  by_cases h2:(gI 1 s2).2.2 = 0
  ·rw [Zb h2,if_pos ⟨h1,h2⟩]
   refine (Zi (Zr6 k hb (by omega) r5 (by omega)) _).trans ?_
   have hu:=ZNB (r:=(gI 1 s2).2.1)
   have hl:=r5.len
   have e1:Jx.wrap ((((unS (gI 1 s2).2.1).1:Nat):Int) + 1) = (((unS (gI 1 s2).2.1).1 + 1:Nat):Int):=by rw [Z2 (by omega)]; rfl
   simp only
   rw [e1]
   refine (Zi (Yw k (b:=b) (s:=((unS (gI 1 s2).2.1).2.2,(unS (gI 1 s2).2.1).2.1)) _) _).trans ?_
   have:decide ((((unS (gI 1 s2).2.1).1 + 1:Nat):Int) < (d:Int)) = decide ((unS (gI 1 s2).2.1).1 + 1 < d):=by
    grind
   rw [this]
  simp_all
 grind
end Go.Sh
namespace Go.Sh
open Go Go.Proofs
def ZbZ (coefs:List Int) (sh:Int) (c n:Nat) (warm:List Int) (s:IS):List Int × IS :=
 if (YU n c s.1).2.1 ≠ 0 then ([],((YU n c s.1).2.2,(YU n c s.1).2.1))
 else ((KS coefs sh warm (YU n c s.1).1).1,((YU n c s.1).2.2,(KS coefs sh warm (YU n c s.1).1).2))
def Zaq (s:IS):IS:=mI ((gI 4 s).1 == 11) (gI 4 s).2 2
def WD (s:IS):Nat × IS:=((gI 5 s).1,mI (decide ((gI 5 s).1 ≤ 15)) (gI 5 s).2 2)
def ZdU (c n:Nat) (warm:List Int) (sh:Nat) (x:List Int × IS):List Int × IS :=
 if x.2.2 ≠ 0 then ([],x.2) else ZbZ x.1 sh c n warm x.2
def Zbj (num:Bool) (c n:Nat) (w:List Int × IS):List Int × IS :=
 if num = true then ZdU c n w.1 (WD (Zaq w.2)).1 (XC 12 c (WD (Zaq w.2)).2 [])
 else if w.2.2 ≠ 0 then ([],w.2) else ZbZ (Xr (min 4 c)) 0 c n w.1 w.2
def ZgB (num:Bool) (c n depth:Nat) (s:IS):List Int × IS :=
 if (mI (decide (c ≤ n)) s 2).2 ≠ 0 then ([],mI (decide (c ≤ n)) s 2) else Zbj num c n (XC depth c (mI (decide (c ≤ n)) s 2) [])
def WM (kind n depth:Nat) (s:IS):List Int × IS :=
 if kind = 0 then (Jd n ((XC depth 1 s []).1.headD 0),(XC depth 1 s []).2)
 else if kind = 1 then XC depth n s []
 else if 31 < kind then ZgB true (kind - 31) n depth s else ZgB false (kind - 8) n depth s
theorem ZlU {m n o p:Nat}:∀ (d i:Nat) (r:List Bool) (acc:List Int),(Wk m n o p d i r acc).1.length ≤ acc.length + d * (n / 2 ^ p)
 | 0,_,r,acc => by simp [Wk]
 | d + 1,i,r,acc => by
  unfold Wk
  have hle:(n / 2 ^ p - if i = 0 then o else 0) ≤ n / 2 ^ p:=Nat.sub_le _ _
  generalize (n / 2 ^ p - if i = 0 then o else 0) = cnt at hle ⊢
  have h1:=Ztd m cnt r
  rw [Jg,Jp]
  split
  ·simp
  ·have:=ZlU (m:=m) (n:=n) (o:=o) (p:=p) d (i + 1) (X3 m cnt r).2.2 (acc ++ (X3 m cnt r).1)
   grind
theorem Ztl {n o:Nat} (r:List Bool):(YU n o r).1.length ≤ n:=by
 unfold YU
 repeat' split
 all_goals try simp
 rename_i hf
 have hf:Zd4 n o (ZK 4 (ZK 2 r).2.2).1 = true:=by simpa using hf
 unfold Zd4 at hf
 simp only [Jh,decide_eq_true_eq] at hf
 have:=ZlU (m:=(ZK 2 r).1) (n:=n) (o:=o) (p:=(ZK 4 (ZK 2 r).2.2).1) (2 ^ (ZK 4 (ZK 2 r).2.2).1) 0 (ZK 4 (ZK 2 r).2.2).2.2 []
 rw [HY,Ub] at this
 refine VI this ?_
 rw [Nat.mul_comm]
 exact Nat.div_mul_le_self _ _
theorem ZbB {ok:Bool} {s:IS} {code:Int} (hc:code ≠ 0):(mI ok s code).2 = 0 ↔ s.2 = 0 ∧ ok = true:=by
 unfold mI
 grind
theorem ZjW {d:Nat} {s:IS} (h:(ZR d s).2.2.2 = 0):(ZR d s).2.1 < d ∧ ZcJ (ZR d s).1 = true:=by
 unfold ZR at h ⊢
 have hk:(YA (ZbN s)).2.2 = 0 → ZcJ (YA (ZbN s)).1 = true:=fun h => ((ZbB (by decide)).1 h).2
 generalize (YA (ZbN s)).1 = kind at h hk ⊢
 generalize (YA (ZbN s)).2 = s2 at h hk ⊢
 have g0:(gI 1 s2).2.2 = 0 → s2.2 = 0:=by
  unfold gI
  grind
 unfold ZcV at h ⊢
 split
 ·rename_i hc
  rw [if_pos hc] at h
  have:=(ZbB (by decide)).1 h
  simp_all
 ·rename_i hc
  rw [if_neg hc] at h
  have:=(ZbB (by decide)).1 h
  simp_all
theorem Zob {b:List Int} {coefs warm:List Int} {sh:Int} {c n:Nat} {s:IS} (h:Zg b s.1):Zg b (ZbZ coefs sh c n warm s).2.1:=by
 unfold ZbZ
 split
 ·exact ZqR h _ _
 ·exact ZqR h _ _
theorem ZrJ {coefs warm:List Int} {sh:Int} {c n:Nat} {s:IS}:(ZbZ coefs sh c n warm s).1.length ≤ warm.length + n:=by
 unfold ZbZ
 split
 ·simp
 ·have h1:=Ztl (n:=n) (o:=c) s.1
  simp only
  unfold KS
  repeat' split
  all_goals try simp
  have:=Ztk (c:=coefs) (sh:=sh) (YU n c s.1).1 warm
  omega
theorem Zol {b:List Int} {s:IS} (h:Zg b s.1):Zg b (Zaq s).1:=Qt (Qz h _) _ _
theorem Zom {b:List Int} {s:IS} (h:Zg b s.1):Zg b (WD s).2.1:=Qt (Qz h _) _ _
theorem ZAi {b:List Int} {c n:Nat} {warm:List Int} {sh:Nat} {x:List Int × IS} (h:Zg b x.2.1):Zg b (ZdU c n warm sh x).2.1:=by
 unfold ZdU
 split
 ·exact h
 ·exact Zob h
theorem ZAj {b:List Int} {num:Bool} {c n:Nat} {w:List Int × IS} (h:Zg b w.2.1):Zg b (Zbj num c n w).2.1:=by
 unfold Zbj
 split
 ·exact ZAi (XD _ _ _ (Zom (Zol h)))
 ·split
  ·exact h
  ·exact Zob h
theorem Zoa {b:List Int} {num:Bool} {c n d:Nat} {s:IS} (h:Zg b s.1):Zg b (ZgB num c n d s).2.1:=by
 unfold ZgB
 split
 ·exact Qt h _ _
 ·exact ZAj (XD _ _ _ (Qt h _ _))
theorem ZAh {b:List Int} {kind n d:Nat} {s:IS} (h:Zg b s.1):Zg b (WM kind n d s).2.1:=by
 unfold WM
 split
 ·exact XD _ _ _ h
 ·split
  ·exact XD _ _ _ h
  ·split
   ·exact Zoa h
   ·exact Zoa h
theorem ZrH {num:Bool} {c n d:Nat} {s:IS} (hc:c ≤ 8):(ZgB num c n d s).1.length ≤ 8 + n:=by
 unfold ZgB
 split
 ·simp
 ·have hl:=KN (w:=d) c (mI (decide (c ≤ n)) s 2) []
  generalize XC d c (mI (decide (c ≤ n)) s 2) [] = w at hl
  simp only [HY,Ub] at hl
  unfold Zbj ZdU
  repeat' split
  all_goals try simp
  ·have:=ZrJ (coefs:=(XC 12 c (WD (Zaq w.2)).2 []).1) (warm:=w.1) (sh:=((WD (Zaq w.2)).1:Nat)) (c:=c) (n:=n) (s:=(XC 12 c (WD (Zaq w.2)).2 []).2)
   omega
  ·have:=ZrJ (coefs:=Xr (min 4 c)) (warm:=w.1) (sh:=0) (c:=c) (n:=n) (s:=w.2)
   omega
theorem ZrG {kind n d:Nat} {s:IS} (hk:ZcJ kind = true):(WM kind n d s).1.length ≤ 8 + n:=by
 have hk:=of_decide_eq_true hk
 unfold WM
 split
 ·simp
 ·split
  ·rw [KN]; simp
  ·split
   ·exact ZrH (by omega)
   ·exact ZrH (by omega)
abbrev BT:=List Int × ((List Int × Int × Unit) × Int × Unit) × Unit
theorem ZQS (k:Nat) {b:List Int} (hb:Zu b = true) (hn:b.length < 268435456) (hk:8 * b.length + 50000 < k) {s:IS} (hs:Zg b s.1) {coefs warm:List Int} (hco:coefs.length ≤ 8192) (hw:warm.length ≤ 8) {sh:Int} {n c:Nat} (hnn:n ≤ 512) :
  ((Zes k (YV b s.1,(n:Int),(c:Int),())).bind fun y_2 => bif y_2.1.2.1 != (0:Int) then some (([],((y_2.2.1.1,y_2.2.1.2.1,()),y_2.1.2.1,()),()):BT) else (Zet k ((coefs,sh,()),warm,y_2.1.1,())).bind fun y => some (y.1.1,((y_2.2.1.1,y_2.2.1.2.1,()),y.1.2.1,()),())) =
   some ((ZbZ coefs sh c n warm s).1,(YV b (ZbZ coefs sh c n warm s).2.1,(ZbZ coefs sh c n warm s).2.2,()),()):=by
 refine (Zi (ZGy k hb hn hs hk n c) _).trans ?_
 unfold ZbZ
 simp only
 rw [ZD]
 by_cases h:(YU n c s.1).2.1 = 0
 ·rw [Zl (by simpa using h),if_neg (by simpa using h)]
  have hl:=Ztl (n:=n) (o:=c) s.1
  exact Zi (ZGA k (by omega) hco (by omega) (by omega)) _
 ·rw [Zb h,if_pos h]
theorem ZMi (k:Nat) {b:List Int} (hb:Zu b = true) (hn:b.length < 268435456) (hk:8 * b.length + 50000 < k) {s:IS} (hs:Zg b s.1) {kind n d:Nat} (hkd:ZcJ kind = true) (h1:1 ≤ n) (hnn:n ≤ 512) (hd:d ≤ 32) :
  ZMh k ((YV b s.1,s.2,()),(kind:Int),(n:Int),(d:Int),()) = some ((WM kind n d s).1,(YV b (WM kind n d s).2.1,(WM kind n d s).2.2,()),()):=by
 show ZpV k _ = _
 simp only [ZpV]
 have hkd:=of_decide_eq_true hkd
 unfold WM
 rw [ZP,ZP]
 by_cases h0:kind = 0
 ·rw [Zb (by omega),if_pos h0]
  refine (Zi (Zcj k hb hn (by omega) hs (w:=d) (n:=1) hd (by omega)) _).trans ?_
  have hl:=KN (w:=d) 1 s []
  generalize XC d 1 s [] = w at hl
  obtain ⟨w1,w2⟩:=w
  match w1,hl with
  | [x],_ =>
   refine (Zi (ZGu k x h1 hnn (by omega)) _).trans ?_
   rfl
 ·rw [Zl (by omega),if_neg h0]
  by_cases hk1:kind = 1
  ·rw [Zb (by omega),if_pos hk1]
   exact Zi (Zcj k hb hn (by omega) hs (w:=d) (n:=n) hd hnn) _
  ·rw [Zl (by omega),if_neg hk1]
   by_cases h31:31 < kind
   ·simp only [Zb (show (31:Int) < (kind:Int) by omega)]
    rw [if_pos h31]
    have ec:Jx.wrap ((kind:Int) - 31) = ((kind - 31:Nat):Int):=by rw [Z2 (by omega)]; omega
    simp only [ec]
    have hc8:kind - 31 ≤ 8:=by omega
    generalize kind - 31 = c at hc8
    have edn:decide ((c:Int) ≤ (n:Int)) = decide (c ≤ n):=by
     simp_all
    rw [edn]
    refine (Zi (Yw k (s:=s) _) _).trans ?_
    unfold ZgB
    have r1:=Qt hs (decide (c ≤ n)) 2
    generalize mI (decide (c ≤ n)) s 2 = s1 at r1 ⊢
    simp only
    rw [ZD]
    by_cases he:s1.2 = 0
    ·rw [Zl (by simpa using he),if_neg (show ¬ s1.2 ≠ 0 by simpa using he)]
     refine (Zi (Zcj k hb hn (by omega) r1 (w:=d) (n:=c) hd (by omega)) _).trans ?_
     have r2:=XD (w:=d) c s1 [] r1
     have hl:=KN (w:=d) c s1 []
     generalize XC d c s1 [] = w at r2 hl ⊢
     simp only [HY,Ub] at hl
     have e4:(if (4:Int) < (c:Int) then (4:Int) else (c:Int)) = ((min 4 c:Nat):Int):=by split <;> omega
     simp only
     rw [e4]
     refine (Zi (Zkr k (min 4 c) (by omega) (by omega)) _).trans ?_
     unfold Zbj
     rw [if_pos rfl]
     refine (Zi (Zcg k hb hn (by omega) r2 (w:=4) (by omega)) _).trans ?_
     refine (Zi (Yw k (s:=(gI 4 w.2).2) _) _).trans ?_
     rw [show ((((gI 4 w.2).1:Nat):Int) == (11:Int)) = ((gI 4 w.2).1 == 11) from Ws _ 11]
     have r3:=Zol r2
     change ((K0 k ((YV b (Zaq w.2).1,(Zaq w.2).2,()),5,())).bind _) = _
     generalize Zaq w.2 = s3 at r3 ⊢
     refine (Zi (Zcg k hb hn (by omega) r3 (w:=5) (by omega)) _).trans ?_
     refine (Zi (Yw k (s:=(gI 5 s3).2) _) _).trans ?_
     have e15:decide ((((gI 5 s3).1:Nat):Int) ≤ 15) = decide ((gI 5 s3).1 ≤ 15):=by
      grind
     rw [e15]
     have r4:=Zom r3
     change ((Zda k ((YV b (WD s3).2.1,(WD s3).2.2,()),(c:Int),12,())).bind fun y_6 => bif y_6.2.1.2.1 != (0:Int) then some (([],((y_6.2.1.1.1,y_6.2.1.1.2.1,()),y_6.2.1.2.1,()),()):BT) else (Zes k ((y_6.2.1.1.1,y_6.2.1.1.2.1,()),(n:Int),(c:Int),())).bind fun y_7 => bif y_7.1.2.1 != (0:Int) then some ([],((y_7.2.1.1,y_7.2.1.2.1,()),y_7.1.2.1,()),()) else (Zet k ((y_6.1,(((WD s3).1:Nat):Int),()),w.1,y_7.1.1,())).bind fun y => some (y.1.1,((y_7.2.1.1,y_7.2.1.2.1,()),y.1.2.1,()),())) = _
     generalize (WD s3).1 = sh
     generalize (WD s3).2 = s4 at r4 ⊢
     refine (Zi (Zcj k hb hn (by omega) r4 (w:=12) (n:=c) (by omega) (by omega)) _).trans ?_
     have r5:=XD (w:=12) c s4 [] r4
     have hl5:=KN (w:=12) c s4 []
     generalize XC 12 c s4 [] = x at r5 hl5 ⊢
     simp only [HY,Ub] at hl5
     unfold ZdU
     simp only
     rw [ZD]
     by_cases hx:x.2.2 = 0
     ·rw [Zl (by simpa using hx),if_neg (by simpa using hx)]
      exact ZQS k hb hn hk r5 (by omega) (by omega) hnn
     ·rw [Zb hx,if_pos hx]
    ·rw [Zb he,if_pos he]
   ·simp only [Zl (show ¬ (31:Int) < (kind:Int) by omega)]
    rw [if_neg h31]
    have ec:Jx.wrap ((kind:Int) - 8) = ((kind - 8:Nat):Int):=by rw [Z2 (by omega)]; omega
    simp only [ec]
    have hc8:kind - 8 ≤ 4:=by omega
    generalize kind - 8 = c at hc8
    have edn:decide ((c:Int) ≤ (n:Int)) = decide (c ≤ n):=by
     simp_all
    rw [edn]
    refine (Zi (Yw k (s:=s) _) _).trans ?_
    unfold ZgB
    have r1:=Qt hs (decide (c ≤ n)) 2
    generalize mI (decide (c ≤ n)) s 2 = s1 at r1 ⊢
    simp only
    rw [ZD]
    by_cases he:s1.2 = 0
    ·rw [Zl (by simpa using he),if_neg (show ¬ s1.2 ≠ 0 by simpa using he)]
     refine (Zi (Zcj k hb hn (by omega) r1 (w:=d) (n:=c) hd (by omega)) _).trans ?_
     have r2:=XD (w:=d) c s1 [] r1
     have hl:=KN (w:=d) c s1 []
     generalize XC d c s1 [] = w at r2 hl ⊢
     simp only [HY,Ub] at hl
     have e4:(if (4:Int) < (c:Int) then (4:Int) else (c:Int)) = ((min 4 c:Nat):Int):=by split <;> omega
     simp only
     rw [e4]
     refine (Zi (Zkr k (min 4 c) (by omega) (by omega)) _).trans ?_
     unfold Zbj
     rw [if_neg (by simp)]
     simp only
     rw [ZD]
     by_cases hx:w.2.2 = 0
     ·rw [Zl (by simpa using hx),if_neg (by simpa using hx)]
      exact ZQS k hb hn hk r2 (by rw [Zp1 _ (by omega)]; omega) (by omega) hnn
     ·rw [Zb hx,if_pos hx]
    ·rw [Zb he,if_pos he]
def QJ (n d:Nat) (r:List Bool):List Int × Int × List Bool :=
 if ¬ (1 ≤ n ∧ n ≤ 512 ∧ 4 ≤ d ∧ d ≤ 25) then ([],1,r)
 else if (ZR d (r,0)).2.2.2 ≠ 0 then ([],(ZR d (r,0)).2.2.2,(ZR d (r,0)).2.2.1)
 else if (WM (ZR d (r,0)).1 n (d - (ZR d (r,0)).2.1) (ZR d (r,0)).2.2).2.2 ≠ 0 then ([],(WM (ZR d (r,0)).1 n (d - (ZR d (r,0)).2.1) (ZR d (r,0)).2.2).2.2,(WM (ZR d (r,0)).1 n (d - (ZR d (r,0)).2.1) (ZR d (r,0)).2.2).2.1)
 else if (WM (ZR d (r,0)).1 n (d - (ZR d (r,0)).2.1) (ZR d (r,0)).2.2).1.all (Xg · (d - (ZR d (r,0)).2.1)) = true then
  ((WM (ZR d (r,0)).1 n (d - (ZR d (r,0)).2.1) (ZR d (r,0)).2.2).1.map (fun x => x * 2 ^ (ZR d (r,0)).2.1),0,(WM (ZR d (r,0)).1 n (d - (ZR d (r,0)).2.1) (ZR d (r,0)).2.2).2.1)
 else ([],12,(WM (ZR d (r,0)).1 n (d - (ZR d (r,0)).2.1) (ZR d (r,0)).2.2).2.1)
theorem ZrD {b:List Int} {r:List Bool} (h:Zg b r) (n d:Nat):Zg b (QJ n d r).2.2:=by
 unfold QJ
 have h1:=ZjV (s:=(r,0)) h d
 repeat' split
 all_goals first | exact h | exact h1 | exact ZAh h1
theorem ZFi {x:Int} {d k:Nat} (hk:k < d) (hd:d ≤ 32) (h:Xg x (d - k) = true):Xg (x * 2 ^ k) d = true ∧ -9223372036854775808 ≤ x * 2 ^ k ∧ x * 2 ^ k ≤ 9223372036854775807:=by
 unfold Xg at h ⊢
 rw [if_neg (by omega),decide_eq_true_eq] at h
 rw [if_neg (by omega),decide_eq_true_eq]
 have hp:(0:Int) < 2 ^ k:=Hm (by omega)
 have e:(2:Int) ^ (d - 1) = 2 ^ (d - k - 1) * 2 ^ k:=by rw [← Int.pow_add]; congr 1; omega
 have h1 : -(2 ^ (d - 1):Int) ≤ x * 2 ^ k:=by rw [e,← Int.neg_mul]; simp_all
 have h2:x * 2 ^ k < 2 ^ (d - 1):=by simp_all
 refine ⟨⟨h1,h2⟩,?_⟩
 rw [Xu (d - 1)] at h1 h2
 have:2 ^ (d - 1) ≤ 2 ^ 31:=Hr (by omega) (by omega)
 omega
theorem ZLk (k:Nat) {b:List Int} (hb:Zu b = true) (hn:b.length < 268435456) (hk:8 * b.length + 50000 < k) {r:List Bool} (hr:Zg b r) (n d:Nat) :
  ZLh k (YV b r,(n:Int),(d:Int),()) = some (((QJ n d r).1,(QJ n d r).2.1,()),YV b (QJ n d r).2.2,()):=by
 show Zi9 k (Zvd k) _ = _
 simp only [Zi9]
 rw [ZyI]
 simp only [ZX]
 unfold QJ
 by_cases h:1 ≤ n ∧ n ≤ 512 ∧ 4 ≤ d ∧ d ≤ 25
 ·rw [if_neg (by simpa using h),dTr (by omega)]
  simp only [Hz,cond_false]
  refine (Zi (ZMg k hb hn (by omega) (s:=(r,0)) hr d) _).trans ?_
  have hz:=ZjW (d:=d) (s:=(r,0))
  have r1:=ZjV (s:=(r,0)) hr d
  generalize ZR d (r,0) = hd at hz r1 ⊢
  obtain ⟨kind,kk,s1⟩:=hd
  simp only at hz r1 ⊢
  rw [ZD]
  by_cases he:s1.2 = 0
  ·rw [Zl (by simpa using he),if_neg (by simpa using he)]
   obtain ⟨hkd,hkind⟩:=hz he
   have e1:Jx.wrap ((d:Int) - (kk:Int)) = ((d - kk:Nat):Int):=by rw [Z2 (by omega)]; omega
   rw [e1]
   refine (Zi (ZMi k hb hn hk r1 hkind h.1 h.2.1 (d:=d - kk) (by omega)) _).trans ?_
   have hl:=ZrG (kind:=kind) (n:=n) (d:=d - kk) (s:=s1) hkind
   generalize WM kind n (d - kk) s1 = y at hl ⊢
   simp only
   rw [ZD]
   by_cases hy:y.2.2 = 0
   ·rw [Zl (by simpa using hy),if_neg (by simpa using hy)]
    have:=Zs (A:=List Int) (R:=(List Int × Int × Unit) × (List Int × Int × Unit) × Unit) (step:=fun L1 => ZeN k L1)
     (fun i out => (UJ y.1.length,UJ i,y.1,(d:Int),(kk:Int),b,((ZM b y.2.1:Nat):Int),out)) y.1
     (fun l' out => some (if l'.all (Xg · (d - kk)) = true then ((out ++ l'.map (fun x => x * 2 ^ kk),0,()),YV b y.2.1,()) else (([],12,()),YV b y.2.1,())))
     (fun i out => out.length = i)
     (fun L out _ => by grind [ZeN])
     (fun L i hi out ho hL => by
      simp only [ZeN]
      rw [Zb (KX hi),Zb (Ya hi),ZE hi,e1,ZyJ k _ (by omega) (by omega)]
      simp only [ZX]
      rw [UA]
      cases hs:Xg y.1[i] (d - kk) with
      | false => simp
      | true =>
       simp only [Hz,cond_false,UC]
       have hsh:=(ZFi hkd (by omega) hs).2
       rw [Zb (by omega),Xa,Hl (by omega),Z2 hsh,Zb (by grind),Qc hi (by omega),hL _ (by simp; omega)]
       grind)
     k 0 [] rfl (by omega) (UH _)
    rw [U9] at this
    refine Hn this ?_
    split <;> simp
   ·rw [Zb hy,if_pos hy]
  ·rw [Zb he,if_pos he]
 grind
end Go.Sh
namespace Go.Sh
open Go Go.Proofs
def Zbh (x:Nat):Nat:=if x < 128 then 0 else if x < 192 then 1 else if x < 224 then 2 else if x < 240 then 3 else if x < 248 then 4 else if x < 252 then 5 else if x < 254 then 6 else if x < 255 then 7 else 8
theorem ZMY:∀ x:Fin 256,Zur 0 (UQ.wrap (UJ (UN 8 255 ^^^ UN 8 (x.val:Int)).toNat),()) = some (((Zbh x.val:Nat):Int),()):=by decide +kernel
theorem ZGT (k:Nat) {x:Nat} (h:x < 256):Zur k (UQ.wrap (UJ (UN 8 255 ^^^ UN 8 (x:Int)).toNat),()) = some (((Zbh x:Nat):Int),()):=ZMY ⟨x,h⟩
theorem ZPP (x:Nat):Zbh x ≤ 8:=by
 unfold Zbh
 repeat' split
 all_goals omega
theorem ZML:∀ (x:Fin 256) (k:Fin 8),Jx.wrap (UJ (UN 64 (Jx.wrap (x.val:Int)) &&& UN 64 (UT (127:Int) ((2:Int) ^ min k.val 64))).toNat) = ((x.val % 2 ^ (7 - k.val):Nat):Int):=by decide +kernel
def cgL:Nat → List Int → Nat → Nat → Option (Nat × Nat)
 | 0,_,a,g => some (a,g)
 | n + 1,[],a,g => cgL n [] (a * 64) (g * 64 + 63)
 | n + 1,x :: xs,a,g => if x.toNat / 64 = 2 then cgL n xs (a * 64 + x.toNat % 64) (g * 64 + x.toNat % 64) else none
def Zd5 (b:List Int):Nat × Nat × Int:=match b with
 | [] => (0,0,10)
 | x :: xs => if Zbh x.toNat = 0 then (x.toNat,1,0) else if Zbh x.toNat = 1 then (0,0,2) else if 7 < Zbh x.toNat then (0,0,2)
  else match cgL (Zbh x.toNat - 1) xs (x.toNat % 2 ^ (7 - Zbh x.toNat)) (x.toNat % 2 ^ (7 - Zbh x.toNat)) with
   | none => (0,0,2)
   | some (a,g) => if g < 2 ^ YB (Zbh x.toNat - 1) then (0,0,2) else if xs.length + 1 < Zbh x.toNat then (0,0,10) else (a,Zbh x.toNat,0)
theorem ZPT {a m:Nat} (ha:a < 1125899906842624) (hm:m < 64):Jx.wrap (UJ (UN 64 (Jx.wrap ((a:Int) * 64)) ||| UN 64 (m:Int)).toNat) = ((a * 64 + m:Nat):Int):=by
 have h1:Jx.wrap ((a:Int) * 64) = ((a * 64:Nat):Int):=by rw [Z2 (by omega)]; omega
 rw [h1,orN (by omega) (by omega)]
 have:=Eh (i:=6) (show m < 2 ^ 6 from hm) a
 rw [Hs] at this
 rw [show a * 64 = a * 2 ^ 6 from rfl,← this,Z2 (by omega)]
theorem ZTv {x:Nat} (hx:x < 256):Jx.wrap (UJ (UN 64 (Jx.wrap (x:Int)) &&& UN 64 63).toNat) = ((x % 64:Nat):Int):=by
 rw [Z2 (n:=(x:Int)) (by omega),show (63:Int) = ((63:Nat):Int) from rfl,ZFs (by omega) (by omega),show (63:Nat) = 2 ^ 6 - 1 from rfl,HL,Z2 (by omega)]
theorem ZGn (k:Nat) {b:List Int} (hb:Zu b = true) {kk:Nat} (h2:2 ≤ kk) (h7:kk ≤ 7):∀ (d m i a g:Nat),i + d = kk → 1 ≤ i → d < m → a < 2 ^ (6 * i + 6) → g < 2 ^ (6 * i + 6) →
  Zh (fun L1 => Zcf k L1) m ((i:Int),(kk:Int),b,(a:Int),(g:Int)) = some (match cgL d (b.drop i) a g with
   | none => (0,0,2,())
   | some (a,g) => if g < 2 ^ YB (kk - 1) then (0,0,2,()) else if b.length < kk then (0,0,10,()) else ((a:Int),(kk:Int),0,()),()):=by
 intro d
 induction d with
 | zero =>
  intro m i a g hi h1 hm ha hg
  obtain ⟨m,rfl⟩:=Zw hm
  rw [Zd]
  simp only [Zcf]
  have e1:Jx.wrap ((kk:Int) - 1) = ((kk - 1:Nat):Int):=by rw [Z2 (by omega)]; omega
  rw [Zl (by omega),e1,ZpM k (kk - 1) (by omega)]
  simp only [ZX,cgL]
  have hr:YB (kk - 1) ≤ 31:=by unfold YB; split <;> omega
  rw [Zb (by omega),ZnM hr]
  grind
 | succ d ih =>
  intro m i a g hi h1 hm ha hg
  obtain ⟨m,rfl⟩:=Zw (show 0 < m by omega)
  rw [Zd]
  simp only [Zcf]
  have hpow:2 ^ (6 * i + 6) ≤ 2 ^ 42:=Hr (by omega) (by omega)
  have hnext:2 ^ (6 * (i + 1) + 6) = 64 * 2 ^ (6 * i + 6):=by grind
  have e2:Jx.wrap ((i:Int) + 1) = ((i + 1:Nat):Int):=by rw [Z2 (by omega)]; rfl
  rw [Zb (by omega)]
  by_cases hlt:i < b.length
  ·obtain ⟨x,hx,hxe⟩:=Zao hb hlt
   rw [Zb (by simp only [QY]; omega),Zb (by simp only [QY]; omega),Xa,Wl hlt,hxe,Ul hlt,hxe]
   have hd:((x:Nat):Int).fdiv 64 = ((x / 64:Nat):Int):=by grind
   rw [hd,ZD]
   simp only [cgL,Xa]
   by_cases h64:x / 64 = 2
   ·rw [Zl (by omega),if_pos h64,Zb (by simp only [QY]; omega),ZTv hx,ZPT (by omega) (by omega),ZPT (by omega) (by omega),e2]
    exact ih m (i + 1) _ _ (by omega) (by omega) (by omega) (by omega) (by omega)
   ·rw [Zb (by omega),if_neg h64]
  ·rw [Zl (by simp only [QY]; omega),show (0:Int) = ((0:Nat):Int) from rfl,show (63:Int) = ((63:Nat):Int) from rfl,ZPT (by omega) (by omega),ZPT (by omega) (by omega),e2]
   have hd0:b.drop i = []:=UL (by omega)
   have hd1:b.drop (i + 1) = []:=UL (by omega)
   have:=ih m (i + 1) (a * 64 + 0) (g * 64 + 63) (by omega) (by omega) (by omega) (by omega) (by omega)
   rw [hd1] at this
   rw [hd0]
   exact this
theorem ZGo (k:Nat) {b:List Int} (hb:Zu b = true) (hk:20 < k):ZAG k (b,()) = some (((((Zd5 b).1:Nat):Int),(((Zd5 b).2.1:Nat):Int),(Zd5 b).2.2,()),()):=by
 show ZfP k (ZmY k) _ = _
 simp only [ZfP]
 match b,hb with
 | [],_ => rfl
 | x :: xs,hb =>
  obtain ⟨y,hy,hye⟩:=Zao hb (i:=0) (by simp)
  simp only [EB] at hye
  subst hye
  rw [show (UJ ((y:Int) :: xs).length == (0:Int)) = false from by rfl]
  simp only [cond_false]
  have hpos:(0:Int) ≤ 0 ∧ (0:Int) < UJ ((y:Int) :: xs).length:=by simp_all
  rw [Zb hpos,show ((y:Int) :: xs).getD 0 0 = (y:Int) from rfl,ZGT k hy]
  simp only [ZX]
  unfold Zd5
  simp only [Xa]
  have h8:=ZPP y
  rw [ZP]
  by_cases h0:Zbh y = 0
  ·rw [Zb (by omega),Zb hpos,if_pos h0,Z2 (by omega)]
   rfl
  ·rw [Zl (by omega),if_neg h0,ZP]
   by_cases h1:Zbh y = 1
   ·simp_all
   ·rw [Zl (by omega),if_neg h1]
    by_cases h7:7 < Zbh y
    ·grind
    ·rw [Zl (by omega),if_neg h7,Zb hpos,Zb (by omega),Zb hpos,Zb (by omega)]
     have hm:=ZML ⟨y,hy⟩ ⟨Zbh y,by omega⟩
     simp only at hm
     rw [hm]
     have hlt:y % 2 ^ (7 - Zbh y) < 2 ^ (6 * 1 + 6):=Hb (Er _ _) (by omega)
     refine (ZGn k hb (kk:=Zbh y) (by omega) (by omega) (Zbh y - 1) k 1 _ _ (by omega) (by omega) (by omega) hlt hlt).trans ?_
     grind
def tgL (m x y:Int):Int:=if m = 9 then x + y else if m = 10 then (2 * x + y % 2 + y) / 2 else x
def tgR (m x y:Int):Int:=if m = 8 then x - y else if m = 10 then (2 * x + y % 2 - y) / 2 else y
theorem ZSU {x y:Int} (hx:Qo x) (hy:Qo y):Jx.wrap (UJ (UN 64 (Jx.wrap (x * 2)) ||| UN 64 (Jx.wrap (UJ (UN 64 y &&& UN 64 1).toNat))).toNat) = 2 * x + y % 2:=by
 unfold Qo at hx hy
 have e1:Jx.wrap (UJ (UN 64 y &&& UN 64 1).toNat) = (((y % 2).toNat:Nat):Int):=by
  rw [HQ,KP,show (UN 64 1).toNat = 1 from rfl,HZ]
  have:K9 y % 2 = (y % 2).toNat:=by unfold K9; omega
  rw [this,Z2 (by simp only [QY]; omega)]
  rfl
 rw [e1,Z2 (n:=x * 2) (by omega),Ev,KP,KP]
 have e2:K9 (((y % 2).toNat:Nat):Int) = (y % 2).toNat:=by unfold K9; omega
 obtain ⟨q,hq⟩:∃ q,K9 (x * 2) = q * 2:=⟨K9 (x * 2) / 2,by unfold K9; omega⟩
 have hb:(y % 2).toNat < 2 ^ 1:=by omega
 have:=Eh hb q
 rw [Hs] at this
 rw [e2,hq,show q * 2 = q * 2 ^ 1 from rfl,← this]
 have h3:q * 2 = K9 (x * 2):=hq.symm
 unfold K9 at h3
 rw [IntKind.wrap_i64]
 grind
def Zgz (m:Int) (A B:List Int):List Int:=(A.zip B).map fun x => tgL m x.1 x.2
def ZgA (m:Int) (A B:List Int):List Int:=(A.zip B).map fun x => tgR m x.1 x.2
def ZaW (x:Int):Bool:=decide (-16777216 ≤ x ∧ x ≤ 16777216)
theorem ZPq (k:Nat) {L R:List Int} (hk:L.length < k) (h:L.length = R.length) (hn:L.length ≤ 8192) :
  Zyx k (L,R,()) = some (if (L.zip R).all (fun x => ZaW x.1 && ZaW x.2) = true then (Zfd L R,0,()) else ([],12,()),()):=by
 show ZcD k (ZpH k) _ = _
 simp only [ZcD]
 rw [show (UJ L.length != UJ R.length) = false from by rw [h]; simp]
 simp only [cond_false]
 rw [Zl (by simp only [QY]; omega)]
 have:=Zs (A:=List (Nat × Nat)) (step:=fun L1 => KK k L1) (fun i acc => (UJ L.length,UJ i,L,R,acc)) (L.zip R)
  (fun l acc => some (if l.all (fun x => ZaW x.1 && ZaW x.2) = true then (acc ++ l.map (fun x => (Je.nearest x.1,Je.nearest x.2)),0,()) else ([],12,()),())) (fun i acc => acc.length = i)
  (fun L1 acc ha => by
   grind [KK])
  (fun L1 i hi acc ha hL1 => by
   have hi2:i < L.length:=by simp at hi; omega
   have hi3:i < R.length:=by omega
   simp only [KK]
   rw [Zb (KX hi2),Zb (Ya hi2),Zb (Ya hi3),ZE hi2,ZE hi3,UA,Ed]
   have hok:∀ x:Int,ZaW x = true ↔ (¬ x < -16777216 ∧ ¬ 16777216 < x):=by intro x; unfold ZaW; rw [decide_eq_true_eq]; omega
   by_cases h1:L[i] < -16777216
   ·grind
   ·rw [Zl h1]
    by_cases h2:16777216 < L[i]
    ·grind
    ·have hl:ZaW L[i] = true:=(hok _).2 ⟨h1,h2⟩
     rw [Zl h2]
     by_cases h3:R[i] < -16777216
     ·grind
     ·rw [Zl h3]
      by_cases h4:16777216 < R[i]
      ·grind
      ·have hr:ZaW R[i] = true:=(hok _).2 ⟨h3,h4⟩
       rw [Zl h4,Zb (by simp; omega),Qc hi2 (by omega),hL1 _ (by simp [ha]),hl,hr]
       grind) k 0 [] rfl (by simp; omega) (UH _)
 exact Hn this (by rw [U9]; rfl)
theorem ZNw {m x y:Int} (hm:Zju m) (hx:Qo x) (hy:Qo y) : -300000000 ≤ tgL m x y ∧ tgL m x y ≤ 300000000 ∧ -300000000 ≤ tgR m x y ∧ tgR m x y ≤ 300000000:=by
 unfold Qo at hx hy
 unfold tgL tgR
 omega
def QZ (m:Int) (A B:List Int):List (Nat × Nat) × Int :=
 if A.length ≠ B.length then ([],1) else if ((Zgz m A B).zip (ZgA m A B)).all (fun x => ZaW x.1 && ZaW x.2) = true then (Zfd (Zgz m A B) (ZgA m A B),0) else ([],12)
theorem Zzt {xs:List Int} {g:List Int} {i:Nat} {v:Int} (h:i < xs.length) (hx:∀ j (h:j < i),xs[j]? = g[j]?) (hv:g[i]? = some v):∀ j,j < i + 1 → (xs.set i v)[j]? = g[j]? := by
 grind
theorem ZLs (k:Nat) {A B:List Int} {m:Int} (hm:Zju m) (hn:A.length ≤ 600) (hk:1000 < k) (hA:∀ x ∈ A,Qo x) (hB:∀ x ∈ B,Qo x) :
  Zyu k (A,B,m,()) = some (((QZ m A B).1,(QZ m A B).2,()),()):=by
 show Zjb k (Zvh k) _ = _
 simp only [Zjb]
 rw [ZyL k hm]
 simp only [ZX,Hz,cond_false]
 by_cases hl:A.length = B.length
 case neg =>
  rw [ZD,Zb (by simp only [QY]; omega)]
  unfold QZ
  rw [if_pos hl]
 rw [show (UJ A.length != UJ B.length) = false from by rw [hl]; simp]
 simp only [cond_false]
 rw [Zl (by simp only [QY]; omega),Zb (by simp only [QY]; omega),Zb (by simp only [QY]; omega)]
 have hzl:(A.zip B).length = A.length:=by rw [Ee]; omega
 have hLl:(Zgz m A B).length = A.length:=by unfold Zgz; rw [Eo,hzl]
 have hRl:(ZgA m A B).length = A.length:=by unfold ZgA; rw [Eo,hzl]
 have hgL:∀ (i:Nat) (h:i < A.length),(Zgz m A B)[i]? = some (tgL m A[i] (B[i]'(by omega))):=by
  intro i h
  rw [VO (by omega)]
  unfold Zgz
  rw [EC,Ed]
 have hgR:∀ (i:Nat) (h:i < A.length),(ZgA m A B)[i]? = some (tgR m A[i] (B[i]'(by omega))):=by
  intro i h
  rw [VO (by omega)]
  unfold ZgA
  rw [EC,Ed]
 have:=Zs (A:=List Int × List Int) (R:=(List (Nat × Nat) × Int × Unit) × Unit) (step:=fun L1 => ZcC k L1)
  (fun i a => (UJ A.length,UJ i,A,B,m,a.1,a.2)) A
  (fun l' a => some (((QZ m A B).1,(QZ m A B).2,()),()))
  (fun i a => a.1.length = A.length ∧ a.2.length = A.length ∧ (∀ j,j < i → a.1[j]? = (Zgz m A B)[j]?) ∧ (∀ j,j < i → a.2[j]? = (ZgA m A B)[j]?))
  (fun L a ha => by
   simp only [ZcC]
   rw [Zl (Zaa _)]
   have e1:a.1 = Zgz m A B:=by
    apply Jr
    grind
   have e2:a.2 = ZgA m A B:=by
    apply Jr
    grind
   rw [e1,e2,ZPq k (by omega) (by omega) (by omega)]
   simp only [ZX]
   unfold QZ
   grind)
  (fun L i hi a ha hL => by
   have hi2:i < B.length:=by omega
   have hx:=hA A[i] (Ha hi)
   have hy:=hB B[i] (Ha hi2)
   have hbd:=ZNw hm hx hy
   have key:ZcC k L (UJ A.length,UJ i,A,B,m,a.1,a.2) = L (UJ A.length,UJ (i + 1),A,B,m,a.1.set i (tgL m A[i] B[i]),a.2.set i (tgR m A[i] B[i])):=by
    have hor:=ZSU hx hy
    unfold Qo at hx hy
    simp only [ZcC]
    rw [Zb (KX hi),Zb (Ya hi),Zb (Ya hi2),ZE hi,ZE hi2,Zl (by split <;> omega),Zl (by split <;> omega)]
    have c1:(0:Int) ≤ UJ i ∧ UJ i < UJ a.1.length:=by rw [ha.1]; exact Ya hi
    have c2:(0:Int) ≤ UJ i ∧ UJ i < UJ a.2.length:=by rw [ha.2.1]; exact Ya hi
    have c3:(UJ i).toNat < a.1.length:=by rw [ha.1]; simpa using hi
    have c4:(UJ i).toNat < a.2.length:=by rw [ha.2.1]; simpa using hi
    rw [ZP,ZP,ZP,ZP]
    simp only [dTr c1,dTr c2,dTr c3,dTr c4,cond_true]
    rw [hor,Qc hi (by omega)]
    unfold tgL tgR
    rcases hm with rfl | rfl | rfl | rfl
    ·rfl
    ·rw [Z2 (n:=A[i] - B[i]) (by omega)]; rfl
    ·rw [Z2 (n:=A[i] + B[i]) (by omega)]; rfl
    ·rw [Z2 (n:=2 * A[i] + B[i] % 2 + B[i]) (by omega),Z2 (n:=2 * A[i] + B[i] % 2 - B[i]) (by omega),HC _ (by omega),HC _ (by omega)]
     rfl
   rw [key]
   exact hL (a.1.set i (tgL m A[i] B[i]),a.2.set i (tgR m A[i] B[i])) ⟨by simp [ha.1],by simp [ha.2.1],Zzt (by omega) ha.2.2.1 (hgL i hi),Zzt (by omega) ha.2.2.2 (hgR i hi)⟩)
  k 0 (Jd A.length 0,Jd A.length 0) ⟨by simp,by simp,fun j hj => by omega,fun j hj => by omega⟩ (by omega) (UH _)
 exact this
theorem ZLt (k:Nat) {p:List (Nat × Nat)} {L R:List Int} (hp:PP p L R) (hk:p.length + 4 < k) (hn:p.length ≤ 8192):Zyv k (p,()) = some ((L,R,0,()),()):=by
 show ZpG k _ = _
 simp only [ZpG]
 rw [ZpI k hp hk hn (.inl rfl)]
 have hlr:L.length = R.length:=by rw [← hp.hl,hp.hr]
 have e1:WX 0 L R = L:=by
  unfold WX
  show (L.zip R).map (fun x => x.1) = L
  exact List.map_fst_zip (by omega)
 have e2:WY 0 L R = R:=by
  unfold WY
  show (L.zip R).map (fun x => x.2) = R
  exact List.map_snd_zip (by omega)
 rw [e1,e2]
 rfl
end Go.Sh
namespace Go.Sh
open Go Go.Proofs
abbrev InT:=List Int × (List Int × Int × Unit) × Int × Unit
abbrev inp (b:List Int) (s:IS):InT:=(b,YV b s.1,s.2,())
theorem XV (k:Nat) {b:List Int} (hb:Zu b = true) (hn:b.length < 268435456) (hk:100 < k) {s:IS} (hs:Zg b s.1) {w:Nat} (hw:w ≤ 32) :
  WO k (inp b s,(w:Int),()) = some ((((gI w s).1:Nat):Int),inp b (gI w s).2,()):=by
 show ZpQ k _ = _
 simp only [ZpQ]
 unfold gI
 rw [ZP]
 by_cases h:s.2 = 0
 ·rw [Zb h,if_pos h,XA k hb (by omega) hs hw hk]
  rfl
 ·rw [Zl h,if_neg h]
  rfl
theorem Wu (k:Nat) {b:List Int} {s:IS} (ok:Bool) (code:Int):Wg k (inp b s,ok,code,()) = some ((),inp b (mI ok s code),()):=by
 show ZpP k _ = _
 simp only [ZpP]
 unfold mI
 grind
def ZdY (c:Int) (m:Nat):Bool:=if c = 1 then m == 0 else m == 1 || (decide (8 ≤ m) && decide (m ≤ 10))
theorem ZMa (k:Nat) (c d r:Int) (m:Nat):ZyH k ((c,d,r,()),(m:Int),()) = some (ZdY c m,()):=by
 show ZpR k _ = _
 simp only [ZpR]
 unfold ZdY
 rw [ZP,show ((m:Int) == (0:Int)) = (m == 0) from Ws m 0,show ((m:Int) == (1:Int)) = (m == 1) from Ws m 1]
 by_cases h:c = 1
 ·rw [Zb h,if_pos h]
 ·rw [Zl h,if_neg h]
  cases m == 1 with
  | true => rfl
  | false =>
   simp only [cond_false,Bool.false_or]
   by_cases h8:8 ≤ m
   ·rw [Zb (by omega),dTr h8,UC]
    simp_all <;> omega
   grind
def Ztp:Nat → IS → IS
 | 0,s => s
 | n + 1,s => Ztp n (gI 8 s).2
theorem ZqU {b:List Int}:∀ (n:Nat) (s:IS),Zg b s.1 → Zg b (Ztp n s).1
 | 0,s,h => h
 | n + 1,s,h => ZqU n _ (Qz h 8)
def ZjB (b:List Int) (s:IS):Nat × IS :=
 if s.2 ≠ 0 then (0,s) else ((Zd5 (b.drop (ZM b s.1 / 8))).1,mI (decide ((Zd5 (b.drop (ZM b s.1 / 8))).1 ≤ 2147483647)) (Ztp (Zd5 (b.drop (ZM b s.1 / 8))).2.1 (s.1,(Zd5 (b.drop (ZM b s.1 / 8))).2.2)) 2)
theorem Zs8 {b:List Int} {s:IS} (h:Zg b s.1):Zg b (ZjB b s).2.1:=by
 unfold ZjB
 split
 ·exact h
 ·exact Qt (ZqU (Zd5 (b.drop (ZM b s.1 / 8))).2.1 (s.1,(Zd5 (b.drop (ZM b s.1 / 8))).2.2) h) _ _
theorem ZwM {b:List Int} (h:Zu b = true) (i:Nat):Zu (b.drop i) = true :=
 Vf.2 fun x hx => Vf.1 h x (JS hx)
theorem Zl1 {b:List Int} (h:Zu b = true) (i:Nat):Zu (b.take i) = true :=
 Vf.2 fun x hx => Vf.1 h x (JT hx)
theorem ZHx (b:List Int):(Zd5 b).2.1 ≤ 8:=by
 unfold Zd5
 grind
theorem ZMe (k:Nat) {b:List Int} (hb:Zu b = true) (hn:b.length < 268435456) (hk:1000 < k) {s:IS} (hs:Zg b s.1) :
  ZpS k (inp b s,()) = some ((((ZjB b s).1:Nat):Int),inp b (ZjB b s).2,()):=by
 show Zjm k (ZvH k) _ = _
 simp only [Zjm]
 unfold ZjB
 rw [ZD]
 by_cases h:s.2 = 0
 ·rw [Zl (by simpa using h),if_neg (by simpa using h)]
  have e51:ZaU k ((b,((ZM b s.1:Nat):Int),()),()) = some (((ZM b s.1:Nat):Int),YV b s.1,()):=rfl
  rw [e51]
  simp only [ZX]
  have hp:ZM b s.1 ≤ 8 * b.length:=by unfold ZM; omega
  rw [Ztu,Z2 (n:=((ZM b s.1 / 8:Nat):Int)) (by omega),Zb (by simp only [QY]; omega),Xa,show (UJ b.length).toNat = b.length from rfl,Ef]
  rw [ZGo k (ZwM hb _) (by omega)]
  simp only [ZX]
  have hu:=ZHx (b.drop (ZM b s.1 / 8))
  generalize Zd5 (b.drop (ZM b s.1 / 8)) = c at hu
  have H:∀ (d m i:Nat) (t:IS),Zg b t.1 → d < m → i + d ≤ 8 →
    Zh (fun L1 => Ze0 k L1) m (((i + d:Nat):Int),(i:Int),((c.1:Nat):Int),b,t.2,b,((ZM b t.1:Nat):Int)) = some (((c.1:Nat):Int),inp b (mI (decide (c.1 ≤ 2147483647)) (Ztp d t) 2),()):=by
   intro d
   induction d with
   | zero =>
    intro m i t ht hm hi
    obtain ⟨m,rfl⟩:=Zw hm
    rw [Zd]
    simp only [Ze0]
    rw [Zl (by omega)]
    refine (Zi (Wu k (b:=b) (s:=t) _ _) _).trans ?_
    have:decide (((c.1:Nat):Int) ≤ 2147483647) = decide (c.1 ≤ 2147483647):=by
     grind
    rw [this]
    rfl
   | succ d ih =>
    intro m i t ht hm hi
    obtain ⟨m,rfl⟩:=Zw (show 0 < m by omega)
    rw [Zd]
    simp only [Ze0]
    rw [Zb (by omega)]
    refine (Zi (XV k hb hn (by omega) ht (w:=8) (by omega)) _).trans ?_
    have e2:Jx.wrap ((i:Int) + 1) = ((i + 1:Nat):Int):=by rw [Z2 (by omega)]; rfl
    rw [e2]
    have:=ih m (i + 1) (gI 8 t).2 (Qz ht 8) (by omega) (by omega)
    rw [show i + 1 + d = i + (d + 1) by omega] at this
    exact this
  have:=H c.2.1 k 0 (s.1,c.2.2) hs (by omega) (by omega)
  rw [Ub] at this
  exact this
 ·rw [Zb h,if_pos h]
  rfl
def Zgy (of:List Int → Nat) (b:List Int) (w:Nat) (s:IS):IS:=if (gI w s).2.2 ≠ 0 then (gI w s).2 else mI ((gI w s).1 == of (b.take (ZM b s.1 / 8))) (gI w s).2 16
theorem ZH3 {of:List Int → Nat} {b:List Int} {s:IS} (h:Zg b s.1) (w:Nat):Zg b (Zgy of b w s).1:=by
 unfold Zgy
 split
 ·exact Qz h _
 ·exact Qt (Qz h _) _ _
theorem XE (s:IS) (code:Int):mI true s code = s:=by unfold mI; rw [if_neg (by simp)]
theorem Zyt (k:Nat) {b:List Int} (hb:Zu b = true) (hn:b.length < 268435456) (hk:b.length + 1000 < k) {s:IS} (hs:Zg b s.1) {w:Nat} (hw:w ≤ 32) :
  Zmb k (inp b s,(w:Int),(),()) = some ((),inp b (Zgy Zgu b w s),()):=by
 show ZpF k _ = _
 simp only [ZpF]
 have e51:ZaU k ((b,((ZM b s.1:Nat):Int),()),()) = some (((ZM b s.1:Nat):Int),YV b s.1,()):=rfl
 rw [e51]
 simp only [ZX]
 refine (Zi (XV k hb hn (by omega) hs hw) _).trans ?_
 unfold Zgy
 simp only
 rw [ZD]
 by_cases h:(gI w s).2.2 = 0
 ·rw [Zl (by simpa using h),if_neg (by simpa using h)]
  have hp:ZM b s.1 ≤ 8 * b.length:=by unfold ZM; omega
  rw [Ztu,Z2 (n:=((ZM b s.1 / 8:Nat):Int)) (by omega),Zb (by simp only [QY]; omega),Xa,U9]
  have htl:(b.take (ZM b s.1 / 8)).length ≤ b.length:=by rw [Jz]; omega
  refine (Zi (Zyn k (b.take (ZM b s.1 / 8)) (Zl1 hb _) (by omega) (by omega)) _).trans ?_
  simp only
  rw [Ws]
  exact Zi (Wu k (b:=b) (s:=(gI w s).2) _ _) _
 ·rw [Zb h,if_pos h]
  refine (Zi (Wu k (b:=b) (s:=(gI w s).2) _ _) _).trans ?_
  rw [XE]
theorem ZAy (k:Nat) {b:List Int} (hb:Zu b = true) (hn:b.length < 268435456) (hk:b.length + 1000 < k) {s:IS} (hs:Zg b s.1) {w:Nat} (hw:w ≤ 32) :
  Zt1 k (inp b s,(w:Int),(),()) = some ((),inp b (Zgy Zb0 b w s),()):=by
 show Zg4 k _ = _
 simp only [Zg4]
 have e51:ZaU k ((b,((ZM b s.1:Nat):Int),()),()) = some (((ZM b s.1:Nat):Int),YV b s.1,()):=rfl
 rw [e51]
 simp only [ZX]
 refine (Zi (XV k hb hn (by omega) hs hw) _).trans ?_
 unfold Zgy
 simp only
 rw [ZD]
 by_cases h:(gI w s).2.2 = 0
 ·rw [Zl (by simpa using h),if_neg (by simpa using h)]
  have hp:ZM b s.1 ≤ 8 * b.length:=by unfold ZM; omega
  rw [Ztu,Z2 (n:=((ZM b s.1 / 8:Nat):Int)) (by omega),Zb (by simp only [QY]; omega),Xa,U9]
  have htl:(b.take (ZM b s.1 / 8)).length ≤ b.length:=by rw [Jz]; omega
  refine (Zi (Zyp k (b.take (ZM b s.1 / 8)) (Zl1 hb _) (by omega) (by omega)) _).trans ?_
  simp only
  rw [Ws]
  exact Zi (Wu k (b:=b) (s:=(gI w s).2) _ _) _
 ·rw [Zb h,if_pos h]
  refine (Zi (Wu k (b:=b) (s:=(gI w s).2) _ _) _).trans ?_
  rw [XE]
def hd1 (s:IS):IS:=mI ((gI 15 s).1 == 32764) (gI 15 s).2 11
def hd2 (s:IS):IS:=mI ((gI 1 s).1 == 0) (gI 1 s).2 2
def hd3 (s:IS):Nat × IS:=((gI 4 s).1,mI ((gI 4 s).1 == 6 || (gI 4 s).1 == 7) (gI 4 s).2 2)
def hd4 (s:IS):IS:=mI ((gI 4 s).1 == 0) (gI 4 s).2 2
def hd5 (c:Int) (s:IS):Nat × IS:=((gI 4 s).1,mI (ZdY c (gI 4 s).1) (gI 4 s).2 2)
def hd6 (kind:Nat) (s:IS):Nat × IS:=if s.2 = 0 then ((gI (8 * (kind - 5)) s).1 + 1,mI (decide ((gI (8 * (kind - 5)) s).1 + 1 ≤ 512)) (gI (8 * (kind - 5)) s).2 1) else (0,s)
abbrev HdT:=Nat × Nat × Nat × IS
def ZvP (b:List Int) (kind mode num:Nat) (s:IS):HdT:=(mode,num,(hd6 kind s).1,Zgy Zgu b 8 (hd6 kind s).2)
def ZMA (b:List Int) (kind mode:Nat) (s:IS):HdT:=ZvP b kind mode (ZjB b s).1 (ZjB b s).2
def ZMz (c:Int) (b:List Int) (kind:Nat) (s:IS):HdT:=ZMA b kind (hd5 c s).1 (hd4 (hd5 c s).2)
def ZvO (c:Int) (b:List Int) (kind:Nat) (s:IS):HdT:=ZMz c b kind (hd4 s)
def Zbw (c:Int) (b:List Int) (s:IS):HdT:=ZvO c b (hd3 (hd2 (hd1 s))).1 (hd3 (hd2 (hd1 s))).2
abbrev ZTp:=(Int × Int × Int × Unit) × InT × Unit
def Zvb (k:Nat) (kind mode num:Int) (w:InT):Option ZTp :=
 bif w.2.2.1 == (0:Int) then (WO k (w,Jx.wrap ((8:Int) * Jx.wrap (Jx.wrap (kind - (6:Int)) + (1:Int))),())).bind fun y => (Wg k (y.2.1,decide (Jx.wrap (y.1 + (1:Int)) ≤ (512:Int)),1,())).bind fun y_10 => (Zmb k (y_10.2.1,8,(),())).bind fun y_11 => some ((mode,num,Jx.wrap (y.1 + (1:Int)),()),y_11.2.1,())
 else (Wg k (w,decide ((0:Int) ≤ (512:Int)),1,())).bind fun y => (Zmb k (y.2.1,8,(),())).bind fun y => some ((mode,num,0,()),y.2.1,())
def Zva (k:Nat) (sh:Int × Int × Int × Unit) (kind:Int) (w:InT):Option ZTp :=
 (WO k (w,4,())).bind fun y_2 => (Wg k (y_2.2.1,y_2.1 == (0:Int),2,())).bind fun y_3 => (WO k (y_3.2.1,4,())).bind fun y_4 => (ZyH k (sh,y_4.1,())).bind fun y_5 => (Wg k (y_4.2.1,y_5.1,2,())).bind fun y_6 => (WO k (y_6.2.1,4,())).bind fun y_7 => (Wg k (y_7.2.1,y_7.1 == (0:Int),2,())).bind fun y_8 => (ZpS k (y_8.2.1,())).bind fun y_9 => Zvb k kind y_4.1 y_9.1 y_9.2.1
theorem ZHl (k:Nat) (w:InT) (sh:Int × Int × Int × Unit):ZEo k (w,sh,()) =
  (WO k (w,15,())).bind fun y => (Wg k (y.2.1,y.1 == (32764:Int),11,())).bind fun y => (WO k (y.2.1,1,())).bind fun y => (Wg k (y.2.1,y.1 == (0:Int),2,())).bind fun y => (WO k (y.2.1,4,())).bind fun y =>
   bif y.1 == (6:Int) then (Wg k (y.2.1,true,2,())).bind fun y_1 => Zva k sh y.1 y_1.2.1 else (Wg k (y.2.1,y.1 == (7:Int),2,())).bind fun y_1 => Zva k sh y.1 y_1.2.1:=rfl
theorem ZvN {w:Nat} {s:IS} (h:(gI w s).2.2 = 0):s.2 = 0:=by
 unfold gI at h
 grind
theorem Zs9 {b:List Int} {s:IS} (h:(ZjB b s).2.2 = 0):s.2 = 0:=by
 unfold ZjB at h
 grind
theorem Zp9 {s:IS} (h:(hd4 s).2 = 0):s.2 = 0:=ZvN ((ZbB (by decide)).1 h).1
theorem ZyX {c:Int} {s:IS} (h:(hd5 c s).2.2 = 0):s.2 = 0 ∧ ZdY c (hd5 c s).1 = true:=⟨ZvN ((ZbB (by decide)).1 h).1,((ZbB (by decide)).1 h).2⟩
theorem ZMw {s:IS} (h:(hd3 s).2.2 = 0):(hd3 s).1 = 6 ∨ (hd3 s).1 = 7:=by
 have:=((ZbB (by decide)).1 h).2
 show (gI 4 s).1 = 6 ∨ (gI 4 s).1 = 7
 simpa using this
theorem ZMy {b:List Int} {s:IS} (h:Zg b s.1) (kind:Nat):Zg b (hd6 kind s).2.1:=by
 unfold hd6
 split
 ·exact Qt (Qz h _) _ _
 ·exact h
theorem Zys (k:Nat) {b:List Int} (hb:Zu b = true) (hn:b.length < 268435456) (hk:b.length + 1000 < k) {s:IS} (hs:Zg b s.1) {kind:Nat} (hkind:s.2 = 0 → kind = 6 ∨ kind = 7) (mode num:Nat) :
  Zvb k (kind:Int) (mode:Int) (num:Int) (inp b s) = some (((((ZvP b kind mode num s).1:Nat):Int),(((ZvP b kind mode num s).2.1:Nat):Int),(((ZvP b kind mode num s).2.2.1:Nat):Int),()),inp b (ZvP b kind mode num s).2.2.2,()):=by
 unfold Zvb ZvP hd6
 rw [ZP]
 by_cases h:s.2 = 0
 ·rw [Zb h]
  simp only [if_pos h]
  have e1:Jx.wrap ((8:Int) * Jx.wrap (Jx.wrap ((kind:Int) - (6:Int)) + (1:Int))) = ((8 * (kind - 5):Nat):Int):=by
   rcases hkind h with rfl | rfl <;> rfl
  have hw:8 * (kind - 5) ≤ 32:=by rcases hkind h with rfl | rfl <;> omega
  rw [e1]
  refine (Zi (XV k hb hn (by omega) hs hw) _).trans ?_
  have hlt:=ZT7 (8 * (kind - 5)) s
  have r1:=Qz hs (8 * (kind - 5))
  have h32:2 ^ (8 * (kind - 5)) ≤ 2 ^ 32:=Hr (by omega) hw
  generalize gI (8 * (kind - 5)) s = x at hlt r1 ⊢
  have e2:Jx.wrap (((x.1:Nat):Int) + 1) = ((x.1 + 1:Nat):Int):=by rw [Z2 (by omega)]; rfl
  have e3:decide (((x.1 + 1:Nat):Int) ≤ 512) = decide (x.1 + 1 ≤ 512):=by
   grind
  simp only
  rw [e2,e3]
  refine (Zi (Wu k (b:=b) (s:=x.2) _ _) _).trans ?_
  refine (Zi (Zyt k hb hn hk (Qt r1 _ _) (w:=8) (by omega)) _).trans ?_
  rfl
 ·rw [Zl h]
  simp only [if_neg h]
  refine (Zi (Wu k (b:=b) (s:=s) _ _) _).trans ?_
  rw [show decide ((0:Int) ≤ 512) = true from rfl,XE]
  refine (Zi (Zyt k hb hn hk hs (w:=8) (by omega)) _).trans ?_
  rfl
theorem Zyr (k:Nat) {b:List Int} (hb:Zu b = true) (hn:b.length < 268435456) (hk:b.length + 1000 < k) {s:IS} (hs:Zg b s.1) {kind:Nat} (hkind:s.2 = 0 → kind = 6 ∨ kind = 7) (c d r:Int) :
  Zva k (c,d,r,()) (kind:Int) (inp b s) = some (((((ZvO c b kind s).1:Nat):Int),(((ZvO c b kind s).2.1:Nat):Int),(((ZvO c b kind s).2.2.1:Nat):Int),()),inp b (ZvO c b kind s).2.2.2,()):=by
 unfold Zva ZvO
 refine (Zi (XV k hb hn (by omega) hs (w:=4) (by omega)) _).trans ?_
 refine (Zi (Wu k (b:=b) (s:=(gI 4 s).2) _ _) _).trans ?_
 rw [show ((((gI 4 s).1:Nat):Int) == (0:Int)) = ((gI 4 s).1 == 0) from Ws _ 0]
 have r1:Zg b (hd4 s).1:=Qt (Qz hs _) _ _
 have k1:=fun h => hkind (Zp9 (s:=s) h)
 change ((WO k (inp b (hd4 s),4,())).bind _) = _
 generalize hd4 s = s1 at r1 k1 ⊢
 unfold ZMz
 refine (Zi (XV k hb hn (by omega) r1 (w:=4) (by omega)) _).trans ?_
 refine (Zi (ZMa k c d r (gI 4 s1).1) _).trans ?_
 refine (Zi (Wu k (b:=b) (s:=(gI 4 s1).2) _ _) _).trans ?_
 have r2:Zg b (hd5 c s1).2.1:=Qt (Qz r1 _) _ _
 have k2:=fun h => k1 (ZyX (c:=c) (s:=s1) h).1
 change ((WO k (inp b (hd5 c s1).2,4,())).bind fun y_7 => (Wg k (y_7.2.1,y_7.1 == (0:Int),2,())).bind fun y_8 => (ZpS k (y_8.2.1,())).bind fun y_9 => Zvb k (kind:Int) (((hd5 c s1).1:Nat):Int) y_9.1 y_9.2.1) = _
 generalize (hd5 c s1).1 = mode
 generalize (hd5 c s1).2 = s2 at r2 k2 ⊢
 refine (Zi (XV k hb hn (by omega) r2 (w:=4) (by omega)) _).trans ?_
 refine (Zi (Wu k (b:=b) (s:=(gI 4 s2).2) _ _) _).trans ?_
 rw [show ((((gI 4 s2).1:Nat):Int) == (0:Int)) = ((gI 4 s2).1 == 0) from Ws _ 0]
 have r3:Zg b (hd4 s2).1:=Qt (Qz r2 _) _ _
 have k3:=fun h => k2 (Zp9 (s:=s2) h)
 change ((ZpS k (inp b (hd4 s2),())).bind _) = _
 generalize hd4 s2 = s3 at r3 k3 ⊢
 unfold ZMA
 refine (Zi (ZMe k hb hn (by omega) r3) _).trans ?_
 exact Zys k hb hn hk (Zs8 r3) (fun h => k3 (Zs9 h)) mode (ZjB b s3).1
theorem ZLg (k:Nat) {b:List Int} (hb:Zu b = true) (hn:b.length < 268435456) (hk:b.length + 1000 < k) {s:IS} (hs:Zg b s.1) (c d r:Int) :
  ZEo k (inp b s,(c,d,r,()),()) = some (((((Zbw c b s).1:Nat):Int),(((Zbw c b s).2.1:Nat):Int),(((Zbw c b s).2.2.1:Nat):Int),()),inp b (Zbw c b s).2.2.2,()):=by
 rw [ZHl]
 unfold Zbw
 refine (Zi (XV k hb hn (by omega) hs (w:=15) (by omega)) _).trans ?_
 refine (Zi (Wu k (b:=b) (s:=(gI 15 s).2) _ _) _).trans ?_
 rw [show ((((gI 15 s).1:Nat):Int) == (32764:Int)) = ((gI 15 s).1 == 32764) from Ws _ 32764]
 have r1:Zg b (hd1 s).1:=Qt (Qz hs _) _ _
 change ((WO k (inp b (hd1 s),1,())).bind _) = _
 generalize hd1 s = s1 at r1 ⊢
 refine (Zi (XV k hb hn (by omega) r1 (w:=1) (by omega)) _).trans ?_
 refine (Zi (Wu k (b:=b) (s:=(gI 1 s1).2) _ _) _).trans ?_
 rw [show ((((gI 1 s1).1:Nat):Int) == (0:Int)) = ((gI 1 s1).1 == 0) from Ws _ 0]
 have r2:Zg b (hd2 s1).1:=Qt (Qz r1 _) _ _
 change ((WO k (inp b (hd2 s1),4,())).bind _) = _
 generalize hd2 s1 = s2 at r2 ⊢
 refine (Zi (XV k hb hn (by omega) r2 (w:=4) (by omega)) _).trans ?_
 simp only
 rw [show ((((gI 4 s2).1:Nat):Int) == (6:Int)) = ((gI 4 s2).1 == 6) from Ws _ 6,show ((((gI 4 s2).1:Nat):Int) == (7:Int)) = ((gI 4 s2).1 == 7) from Ws _ 7]
 have r3:Zg b (hd3 s2).2.1:=Qt (Qz r2 _) _ _
 have fin:=Zyr k hb hn hk r3 (fun h => ZMw h) c d r
 unfold hd3 at fin ⊢
 cases h6:(gI 4 s2).1 == 6 with
 | true =>
  rw [h6] at fin
  simp only [cond_true]
  refine (Zi (Wu k (b:=b) (s:=(gI 4 s2).2) _ _) _).trans ?_
  exact fin
 | false =>
  rw [h6] at fin
  simp only [cond_false]
  refine (Zi (Wu k (b:=b) (s:=(gI 4 s2).2) _ _) _).trans ?_
  exact fin
end Go.Sh
namespace Go.Sh
open Go Go.Proofs
def ZhT (n:Nat):List Int → List Bool → List (List Int) → List (List Int) × Int × List Bool
 | [],r,acc => (acc,0,r)
 | d :: ds,r,acc => if (QJ n d.toNat r).2.1 ≠ 0 then ([],(QJ n d.toNat r).2.1,(QJ n d.toNat r).2.2) else ZhT n ds (QJ n d.toNat r).2.2 (acc ++ [(QJ n d.toNat r).1])
abbrev RdR:=(Int × List (List Int)) × Int × Int
def ZHO (c d r num:Int) (pos:Nat) (out:List (List Int)):RdR:=if Ye c d r num out ≠ 0 then ((0,[]),0,Ye c d r num out) else ((num,out),((pos / 8:Nat):Int),0)
def Zzg (c d r num:Int) (pos:Nat) (m:Int) (A B:List Int):RdR:=if (QZ m A B).2 ≠ 0 then ((0,[]),0,(QZ m A B).2) else ZHO c d r num pos [Zgz m A B,ZgA m A B]
def ZMm (c d r:Int) (b:List Int) (mode num:Nat) (chs:List (List Int)) (rr:List Bool):RdR :=
 if (Zgy Zb0 b 16 ((alS rr).2,(alS rr).1)).2 ≠ 0 then ((0,[]),0,(Zgy Zb0 b 16 ((alS rr).2,(alS rr).1)).2)
 else if 1 < c then Zzg c d r num (ZM b (Zgy Zb0 b 16 ((alS rr).2,(alS rr).1)).1) (if mode = 1 then 0 else mode) (chs.getD 0 []) (chs.getD 1 [])
 else ZHO c d r num (ZM b (Zgy Zb0 b 16 ((alS rr).2,(alS rr).1)).1) chs
def Zz9 (c d r:Int) (b:List Int) (h:HdT):RdR :=
 if h.2.2.2.2 ≠ 0 then ((0,[]),0,h.2.2.2.2)
 else if (ZhT h.2.2.1 (Z8 c d h.1) h.2.2.2.1 []).2.1 ≠ 0 then ((0,[]),0,(ZhT h.2.2.1 (Z8 c d h.1) h.2.2.2.1 []).2.1)
 else ZMm c d r b h.1 h.2.1 (ZhT h.2.2.1 (Z8 c d h.1) h.2.2.2.1 []).1 (ZhT h.2.2.1 (Z8 c d h.1) h.2.2.2.1 []).2.2
def ZFa (c d r:Int) (b:List Int):RdR:=if ZbX c d r = false then ((0,[]),0,2) else Zz9 c d r b (Zbw c b (ZY b,0))
def Ztc (x:RdR):((Int × List (List Int) × Unit) × Int × Int × Unit) × Unit:=(((x.1.1,x.1.2,()),x.2.1,x.2.2,()),())
theorem ZzD {n d:Nat} {r:List Bool} (h:(QJ n d r).2.1 = 0):(QJ n d r).1.length ≤ 520 ∧ d ≤ 25 ∧ ∀ x ∈ (QJ n d r).1,Xg x d = true:=by
 unfold QJ at h ⊢
 split at h
 ·simp at h
 ·rename_i h1
  rw [if_neg h1]
  have h1:1 ≤ n ∧ n ≤ 512 ∧ 4 ≤ d ∧ d ≤ 25:=by simpa using h1
  have hz:=ZjW (d:=d) (s:=(r,0))
  generalize ZR d (r,0) = hd at h hz ⊢
  obtain ⟨kind,kk,s1⟩:=hd
  simp only at h hz ⊢
  split at h
  ·rename_i h2; exact absurd h h2
  ·rename_i h2
   rw [if_neg h2]
   obtain ⟨hkd,hkind⟩:=hz (by simpa using h2)
   have hl:=ZrG (kind:=kind) (n:=n) (d:=d - kk) (s:=s1) hkind
   generalize WM kind n (d - kk) s1 = y at h hl ⊢
   split at h
   ·rename_i h3; exact absurd h h3
   ·rename_i h3
    rw [if_neg h3]
    split at h
    ·rename_i h4
     rw [if_pos h4]
     refine ⟨by simp; omega,by omega,fun x hx => ?_⟩
     obtain ⟨z,hz,rfl⟩:=VG.1 hx
     exact (ZFi hkd (by omega) (Vf.1 h4 z hz)).1
    ·simp at h
theorem Zme {x:Int} (h:ZaW x = true):Qe x:=by
 unfold ZaW at h
 rw [decide_eq_true_eq] at h
 exact h
abbrev ZTo:=((Int × List (List Int) × Unit) × Int × Int × Unit) × Unit
theorem ZDD (k:Nat) (hk:1000 < k) (c d r num:Int) (out:List (List Int)) {b:List Int} (hn:b.length < 268435456) (rr:List Bool) :
  ((Zma k ((c,d,r,()),(num,out,()),())).bind fun y_3 => bif y_3.1 != (0:Int) then some (((((0:Int),[],()),0,y_3.1,()),()):ZTo) else (ZaU k ((b,((ZM b rr:Nat):Int),()),())).bind fun y => some (((num,out,()),Jx.wrap (Int.tdiv y.1 (8:Int)),0,()),())) = some (Ztc (ZHO c d r num (ZM b rr) out)):=by
 refine (Zi (Zyj k c d r num out (by omega)) _).trans ?_
 unfold ZHO
 simp only
 rw [ZD]
 by_cases h:Ye c d r num out = 0
 ·rw [Zl (by simpa using h),if_neg (by simpa using h)]
  have e51:ZaU k ((b,((ZM b rr:Nat):Int),()),()) = some (((ZM b rr:Nat):Int),YV b rr,()):=rfl
  refine (Zi e51 _).trans ?_
  have hp:ZM b rr ≤ 8 * b.length:=by unfold ZM; omega
  simp only
  rw [Ztu,Z2 (n:=((ZM b rr / 8:Nat):Int)) (by omega)]
  rfl
 ·rw [Zb h,if_pos h]
  rfl
theorem ZxF (k:Nat) (hk:2000 < k) (c d r num:Int) {A B:List Int} {m:Int} (hm:Zju m) (hA:A.length ≤ 520 ∧ ∀ x ∈ A,Qo x) (hB:B.length ≤ 520 ∧ ∀ x ∈ B,Qo x) {b:List Int} (hn:b.length < 268435456) (rr:List Bool) :
  ((Zyu k (A,B,m,())).bind fun y_1 => bif y_1.1.2.1 != (0:Int) then some (((((0:Int),[],()),0,y_1.1.2.1,()),()):ZTo) else (Zyv k (y_1.1.1,())).bind fun y_2 => bif y_2.1.2.2.1 != (0:Int) then some ((((0:Int),[],()),0,y_2.1.2.2.1,()),()) else (Zma k ((c,d,r,()),(num,[y_2.1.1,y_2.1.2.1],()),())).bind fun y_3 => bif y_3.1 != (0:Int) then some ((((0:Int),[],()),0,y_3.1,()),()) else (ZaU k ((b,((ZM b rr:Nat):Int),()),())).bind fun y => some (((num,[y_2.1.1,y_2.1.2.1],()),Jx.wrap (Int.tdiv y.1 (8:Int)),0,()),())) =
   some (Ztc (Zzg c d r num (ZM b rr) m A B)):=by
 refine (Zi (ZLs k hm (by omega) (by omega) hA.2 hB.2) _).trans ?_
 unfold Zzg
 have key:(QZ m A B).2 = 0 → A.length = B.length ∧ (QZ m A B).1 = Zfd (Zgz m A B) (ZgA m A B) ∧ ((Zgz m A B).zip (ZgA m A B)).all (fun x => ZaW x.1 && ZaW x.2) = true:=by
  unfold QZ
  grind
 simp only
 rw [ZD]
 by_cases h:(QZ m A B).2 = 0
 ·rw [Zl (by simpa using h),if_neg (by simpa using h)]
  obtain ⟨hl,e1,e2⟩:=key h
  have hLl:(Zgz m A B).length = A.length:=by unfold Zgz; simp_all
  have hRl:(ZgA m A B).length = A.length:=by unfold ZgA; simp_all
  generalize Zgz m A B = L at e1 e2 hLl ⊢
  generalize ZgA m A B = R at e1 e2 hRl ⊢
  have hsm:(∀ x ∈ L,Qe x) ∧ ∀ x ∈ R,Qe x:=by
   have hall:=Vf.1 e2
   constructor
   ·intro x hx
    obtain ⟨i,hi,rfl⟩:=ED hx
    have:=hall ((L.zip R)[i]'(by rw [Ee]; omega)) (Ha _)
    rw [Ed,Jh] at this
    exact Zme this.1
   ·intro x hx
    obtain ⟨i,hi,rfl⟩:=ED hx
    have:=hall ((L.zip R)[i]'(by rw [Ee]; omega)) (Ha _)
    rw [Ed,Jh] at this
    exact Zme this.2
  have hpp:=Zy5 (show L.length = R.length by omega) hsm.1 hsm.2
  rw [e1]
  have hjl:(Zfd L R).length ≤ 520:=by rw [hpp.hl]; omega
  refine (Zi (ZLt k hpp (by omega) (by omega)) _).trans ?_
  simp only
  rw [show ((0:Int) != 0) = false from rfl]
  simp only [cond_false]
  exact ZDD k (by omega) c d r num [L,R] hn rr
 ·rw [Zb h,if_pos h]
  rfl
theorem ZAu (c d m:Int):(Z8 c d m).length ≤ 2 ∧ (c ≠ 1 → (Z8 c d m).length = 2) ∧ ((1 ≤ d ∧ d ≤ 24) → ∀ x ∈ Z8 c d m,1 ≤ x):=by
 unfold Z8
 grind
theorem ZJ4 (k:Nat) {b:List Int} (hb:Zu b = true) (hn:b.length < 268435456) (hk:8 * b.length + 50000 < k) {c d r:Int} (hc:c = 1 ∨ c = 2) {mode num n:Nat} (hm:ZdY c mode = true) (ds:List Int) (hd:∀ x ∈ ds,1 ≤ x) (hdl:ds.length ≤ 2) (hdl2:c ≠ 1 → ds.length = 2) (zz:Int) :
  ∀ (e j i:Nat) (rr:List Bool) (acc:List (List Int)),e < j → i + e = ds.length → acc.length = i → Zg b rr → (∀ l ∈ acc,l.length ≤ 520 ∧ ∀ x ∈ l,Qo x) →
  Zh (fun L1 => Zev k L1) j (((ds.length:Nat):Int),(i:Int),ds,(n:Int),(mode:Int),b,(0:Int),b,((ZM b rr:Nat):Int),zz,(num:Int),acc,c,d,r) =
   some (Ztc (if (ZhT n (ds.drop i) rr acc).2.1 ≠ 0 then ((0,[]),0,(ZhT n (ds.drop i) rr acc).2.1) else ZMm c d r b mode num (ZhT n (ds.drop i) rr acc).1 (ZhT n (ds.drop i) rr acc).2.2)):=by
 intro e
 induction e with
 | zero =>
  intro j i rr acc hj hi ha hr hacc
  obtain ⟨j,rfl⟩:=Zw hj
  rw [Zd]
  simp only [Zev]
  rw [Zl (by omega),UL (by omega)]
  show _ = some (Ztc (if (0:Int) ≠ 0 then _ else ZMm c d r b mode num acc rr))
  rw [if_neg (by simp)]
  refine (Zi (ZLo k hb (by omega) hr (by omega)) _).trans ?_
  refine (Zi (ZAy k hb hn (by omega) (s:=((alS rr).2,(alS rr).1)) (ZIm hr) (w:=16) (by omega)) _).trans ?_
  unfold ZMm
  generalize Zgy Zb0 b 16 ((alS rr).2,(alS rr).1) = s
  simp only
  rw [ZD]
  by_cases h:s.2 = 0
  ·rw [Zl (by simpa using h),if_neg (by simpa using h)]
   rcases hc with rfl | rfl
   ·rw [Zl (by omega),if_neg (by omega)]
    exact ZDD k (by omega) 1 d r num acc hn s.1
   ·rw [Zb (by omega),if_pos (by omega)]
    have hlen:acc.length = 2:=by have:=hdl2 (by omega); omega
    match acc,hlen,hacc with
    | [A,B],_,hacc =>
     have hA:=hacc A (by simp)
     have hB:=hacc B (by simp)
     have p1:(0:Int) ≤ 0 ∧ (0:Int) < UJ [A,B].length:=by simp
     have p2:0 < [A,B].length:=by simp
     have p3:(0:Int) ≤ 1 ∧ (1:Int) < UJ [A,B].length:=by simp
     have p4:1 < [A,B].length:=by simp
     have hmd:Zju (if mode = 1 then 0 else (mode:Int)):=by
      unfold ZdY at hm
      rw [if_neg (by omega)] at hm
      simp only [Bool.or_eq_true,beq_iff_eq,Jh,decide_eq_true_eq] at hm
      unfold Zju
      split <;> omega
     rw [Zb p1,Zb p2,Zb p3,Zb p4,Zb p1,Zb p2,Zb p3,Zb p4,show ((mode:Int) == (1:Int)) = (mode == 1) from Ws _ 1]
     by_cases h1:mode = 1
     ·rw [show (mode == 1) = true from by simp [h1]]
      rw [if_pos h1] at hmd ⊢
      exact ZxF k (by omega) 2 d r num hmd hA hB hn s.1
     ·rw [show (mode == 1) = false from by simp [h1]]
      rw [if_neg h1] at hmd ⊢
      exact ZxF k (by omega) 2 d r num hmd hA hB hn s.1
  ·rw [Zb h,if_pos h]
   rfl
 | succ e ih =>
  intro j i rr acc hj hi ha hr hacc
  obtain ⟨j,rfl⟩:=Zw (show 0 < j by omega)
  rw [Zd]
  simp only [Zev]
  have hil:i < ds.length:=by omega
  rw [Zb (by omega),Zb (by simp only [QY]; omega),Xa,Wl hil,Ul hil]
  have hdi:=hd ds[i] (Ha hil)
  have hde:ds[i] = ((ds[i].toNat:Nat):Int):=by omega
  have e46:=ZLk k hb hn hk hr n ds[i].toNat
  rw [← hde] at e46
  refine (Zi e46 _).trans ?_
  unfold ZhT
  have hok:=ZzD (n:=n) (d:=ds[i].toNat) (r:=rr)
  have hrr:=ZrD hr n ds[i].toNat
  generalize QJ n ds[i].toNat rr = q at hok hrr ⊢
  simp only
  rw [ZD]
  by_cases h:q.2.1 = 0
  ·rw [Zl (by simpa using h),Zb (by simp only [Us]; omega)]
   have e2:Jx.wrap ((i:Int) + 1) = ((i + 1:Nat):Int):=by rw [Z2 (by omega)]; rfl
   rw [e2]
   obtain ⟨o1,o2,o3⟩:=hok h
   have:=ih j (i + 1) q.2.2 (acc ++ [q.1]) (by omega) (by omega) (by simp; omega) hrr (by
    intro l hl
    rcases Js.1 hl with hl | hl
    ·exact hacc l hl
    ·rw [Vx.1 hl]
     refine ⟨o1,fun x hx => ?_⟩
     have:=o3 x hx
     unfold Xg at this
     unfold Qo
     split at this
     ·omega
     ·rw [decide_eq_true_eq,Xu] at this
      have h24:2 ^ (ds[i].toNat - 1) ≤ 2 ^ 24:=Hr (by omega) (by omega)
      omega)
   refine this.trans ?_
   simp only [if_neg (show ¬ q.2.1 ≠ 0 from fun hh => hh h)]
  ·rw [Zb h]
   simp only [if_pos h]
   rfl
theorem ZB6 {c:Int} {b:List Int} {s:IS} (h:(Zbw c b s).2.2.2.2 = 0):ZdY c (Zbw c b s).1 = true:=by
 unfold Zbw ZvO ZMz ZMA ZvP at h ⊢
 generalize (hd3 (hd2 (hd1 s))).1 = kind at h ⊢
 generalize hd4 (hd3 (hd2 (hd1 s))).2 = s3 at h ⊢
 simp only at h ⊢
 have h0:(hd6 kind (ZjB b (hd4 (hd5 c s3).2)).2).2.2 = 0:=by
  unfold Zgy at h
  split at h
  ·rename_i h1; exact absurd h h1
  ·exact ZvN ((ZbB (by decide)).1 h).1
 have h1:(ZjB b (hd4 (hd5 c s3).2)).2.2 = 0:=by
  unfold hd6 at h0
  grind
 exact (ZyX (Zp9 (Zs9 h1))).2
theorem ZJ7 (k:Nat) (c d r:Int) {b:List Int} (hb:Zu b = true) (hn:b.length < 268435456) (hk:8 * b.length + 50000 < k):ZJ1 k ((c,d,r,()),b,()) = some (Ztc (ZFa c d r b)):=by
 show Zii k (Zuw k) _ = _
 simp only [Zii]
 rw [ZoH k c d r]
 simp only [ZX]
 unfold ZFa
 cases hs:ZbX c d r with
 | false => rfl
 | true =>
  have hsh:=of_decide_eq_true hs
  simp only [if_true,HR,if_false]
  rw [show ((0:Int) != 0) = false from rfl]
  simp only [cond_false]
  have e44:Zyq k (b,()) = some (inp b (ZY b,0) |>.2.1,()):=by
   show ZeM k _ = _
   simp only [ZeM]
   have:Zjh k (b,()) = some (b,()):=by show XL _ = _; unfold XL; rw [Zb (by simp only; omega)]
   rw [this]
   have hp:ZM b (ZY b) = 0:=by unfold ZM; rw [Ql]; omega
   simp_all
  refine (Zi e44 _).trans ?_
  refine (Zi (ZLg k hb hn (by omega) (s:=(ZY b,0)) (Zzm b) c d r) _).trans ?_
  unfold Zz9
  have hmode:=ZB6 (c:=c) (b:=b) (s:=(ZY b,0))
  have hrest:Zg b (Zbw c b (ZY b,0)).2.2.2.1:=by
   unfold Zbw ZvO ZMz ZMA ZvP
   exact ZH3 (ZMy (Zs8 (Qt (Qz (Qt (Qz (Qt (Qz (Qt (Qz (Qt (Qz (Qt (Qz (Zzm b) _) _ _) _) _ _) _) _ _) _) _ _) _) _ _) _) _ _)) _) _
  generalize Zbw c b (ZY b,0) = h at hmode hrest ⊢
  obtain ⟨mode,num,n,s⟩:=h
  simp only at hmode hrest ⊢
  rw [ZD]
  by_cases he:s.2 = 0
  ·rw [Zl (by simpa using he),if_neg (by simpa using he)]
   have hm:=hmode he
   have hc:c = 1 ∨ c = 2:=by omega
   have hcm:c = 1 ∧ (mode:Int) = 0 ∨ c = 2:=by
    rcases hc with rfl | rfl
    ·unfold ZdY at hm
     simp_all
    ·exact .inr rfl
   refine (Zi (Zyo k (c:=c) (d:=d) (r:=r) (m:=(mode:Int)) hcm (by omega)) _).trans ?_
   have hdl:=ZAu c d mode
   have:=ZJ4 k hb hn hk (c:=c) (d:=d) (r:=r) hc (mode:=mode) (num:=num) (n:=n) hm (Z8 c d mode) (hdl.2.2 (by omega)) hdl.1 hdl.2.1 0 (Z8 c d mode).length k 0 s.1 [] (by omega) (by omega) rfl hrest (by simp)
   rw [U9] at this
   simp only
   rw [he]
   exact this
  ·rw [Zb he,if_pos he]
   rfl
end Go.Sh
namespace Go.Sh
open Go Go.Proofs
def Sm (ch:List (List Int)):Prop:=ch.length ≤ 1048576 ∧ ∀ l ∈ ch,l.length ≤ 1048576
theorem ZID:∀ (a b c d e f g h:Bool) (j:Fin 8),(a.toNat * 128 + b.toNat * 64 + c.toNat * 32 + d.toNat * 16 + e.toNat * 8 + f.toNat * 4 + g.toNat * 2 + h.toNat).testBit (7 - j.val) = [a,b,c,d,e,f,g,h].getD j.val false:=by decide +kernel
theorem ZFC (f:Nat → Bool) {j:Nat} (hj:j < 8):(YZ f).testBit (7 - j) = f j:=by
 have:=ZID (f 0) (f 1) (f 2) (f 3) (f 4) (f 5) (f 6) (f 7) ⟨j,hj⟩
 simp only at this
 unfold YZ
 rw [this]
 match j,hj with
 | 0,_ => rfl
 | 1,_ => rfl
 | 2,_ => rfl
 | 3,_ => rfl
 | 4,_ => rfl
 | 5,_ => rfl
 | 6,_ => rfl
 | 7,_ => rfl
theorem Zn6 {B:List Bool} (h:B.length % 8 = 0):ZY (ZF B) = B:=by
 have hl:(ZF B).length = B.length / 8:=by rw [Z9]; omega
 apply HV
 ·rw [Ql,hl]; omega
 ·intro i h1 h2
  rw [Zj8 (by rw [hl]; omega),X2,Uj]
  unfold Wd
  rw [ZFC _ (U1 _ (by omega)),show 8 * (i / 8) + i % 8 = i by omega,Wl h2]
theorem ZIF:∀ x:Fin 256,YZ (fun j => x.val.testBit (7 - j)) = x.val:=by decide +kernel
theorem Zhr {b:List Int} (h:Zu b = true):ZF (ZY b) = b:=by
 apply HV
 ·rw [Z9,Ql]; omega
 ·intro i h1 h2
  obtain ⟨x,hx,hxe⟩:=Zao h h2
  rw [X2,hxe]
  have:Wd (ZY b) i = YZ (fun j => x.testBit (7 - j)):=by
   have key:∀ j,j < 8 → (ZY b).getD (8 * i + j) false = x.testBit (7 - j):=by
    intro j hj
    rw [Wl (by rw [Ql]; omega),Zj8 (by omega)]
    have:(8 * i + j) / 8 = i:=by omega
    simp only [this,hxe,Uj]
    congr 1
    omega
   unfold Wd YZ
   simp only
   rw [key 0 (by omega),key 1 (by omega),key 2 (by omega),key 3 (by omega),key 4 (by omega),key 5 (by omega),key 6 (by omega),key 7 (by omega)]
  rw [this]
  have:=ZIF ⟨x,hx⟩
  simp only at this
  rw [this]
theorem ZCm (B:List Bool):(XM B).length % 8 = 0 ∧ (XM B).length = B.length + Zac B.length:=by
 unfold XM
 rw [JP,Ur]
 unfold Zac
 omega
theorem ZAt (B:List Bool):(Yf B).length % 8 = 0 ∧ (Yf B).length = B.length + Zac B.length + 16:=by
 have:=ZCm B
 unfold Yf
 rw [JP,Ze]
 omega
theorem ZtK (c a w:Nat):Za c (a + w) = Za (c / 2 ^ w) a ++ Za c w:=by
 induction a with
 | zero => simp [Za]
 | succ a ih =>
  rw [show a + 1 + w = (a + w) + 1 by omega]
  simp only [Za,List.cons_append]
  rw [ih,Nat.testBit_div_two_pow]
end Go.Sh
namespace Go.Sh
open Go Go.Proofs
theorem Zmu (c d r n:Int) (ch:List (List Int)):Zu (Yr c d r n ch).1 = true:=by
 unfold Yr
 split
 ·exact Yl _
 ·rfl
theorem ZIa (c d r n:Int) (ch:List (List Int)):(Yr c d r n ch).1.length ≤ 5000:=by
 unfold Yr
 split
 ·rename_i h
  obtain ⟨hs,hn,hc,hlen,hsg⟩:=Zap h
  obtain ⟨hlay,_,_⟩:=ZCa h
  have h2:1 ≤ (ch.headD []).length ∧ (ch.headD []).length ≤ 512:=by
   have:0 < ch.length:=by omega
   match ch,this with
   | l :: _,_ => exact (hlen l (by simp)).2
  have h1:=Zoh hlay h2.1 h2.2 (by omega) (by omega)
  have h3:=ZbH (YO ch).2.toNat n.toNat (ch.headD []).length
  have h4:=ZrM n.toNat
  have h5:=Zfe (ch.headD []).length
  have h6:=ZAt (Qj (YO ch).2.toNat n.toNat (ch.headD []).length ++ Qb (YO ch).1 (Z8 c d (YO ch).2))
  have h7:Zac (Qj (YO ch).2.toNat n.toNat (ch.headD []).length ++ Qb (YO ch).1 (Z8 c d (YO ch).2)).length < 8:=by unfold Zac; omega
  simp only
  rw [Z9]
  rw [JP] at h6 h7
  unfold Qj at h6 h7 ⊢
  rw [JP,Ze] at h6 h7
  omega
 ·simp
end Go.Sh
namespace Go.Sh
open Go Go.Proofs
def Qw (ch:List (List Int)) (size i:Nat):List (List Int):=ch.map fun c => (c.take ((i + 1) * size)).drop (i * size)
def QF (n size:Nat):Nat:=(n + size - 1) / size
def ZvL (c d r:Int) (ch:List (List Int)) (size i:Nat):List Int:=(Yr c d r (i:Int) (Qw ch size i)).1
def XR (c d r:Int) (ch:List (List Int)) (size:Nat):List (List Int):=(List.range (QF (ch.getD 0 []).length size)).map (ZvL c d r ch size)
theorem Ka {n size i:Nat} (hs:1 ≤ size):i < QF n size ↔ i * size < n:=by
 unfold QF
 rw [Nat.lt_div_iff_mul_lt (by omega)]
 omega
theorem Y9 {n size:Nat} (hs:16 ≤ size) (hn:n ≤ 4096):QF n size ≤ 256:=by
 rcases Nat.lt_or_ge 256 (QF n size) with h | h
 ·have:=(Ka (by omega)).1 h
  omega
 ·exact h
theorem ZS8 {d:Int} {x:Int} (hd:4 ≤ d) (h:ZrB d x = true):Xg x d.toNat = true:=by
 unfold ZrB at h
 unfold Xg
 grind
theorem ZlS {c d r:Int} {tags:List ByteArray} {ch:List (List Int)} (h0:chk c d r tags ch = 0) {size i:Nat} (hs:16 ≤ size ∧ size ≤ 512) (hi:i * size < (ch.getD 0 []).length):Ye c d r (i:Int) (Qw ch size i) = 0:=by
 obtain ⟨hg,hshape,hsg,-,-⟩:=WN h0
 have hsh:=of_decide_eq_true hshape
 generalize (ch.getD 0 []).length = n at *
 have hlen:∀ x ∈ ch,((x.take ((i + 1) * size)).drop (i * size)).length = min size (n - i * size):=by
  intro x hx
  rw [Vi,Jz,hg.len x hx,Jg]; omega
 have hn4:=hg.n4
 have hi4:i ≤ 4096:=by
  have:i * 1 ≤ i * size:=EG i (by omega)
  omega
 unfold Ye
 rw [if_neg (by rw [show ZbX c d r = true from hshape]; simp),if_neg (by rw [show (Qw ch size i).length = ch.length by simp [Qw]]; have:=hg.cl; omega)]
 have hc1:=hg.c1.1
 have hhead:((Qw ch size i).headD []).length = min size (n - i * size):=by
  match ch,hc1,hlen with
  | x :: l,_,hlen => exact hlen x (Jm ..)
 rw [hhead]
 have h1:(Qw ch size i).all (Zlq (min size (n - i * size))) = true:=by
  rw [Vf]
  intro y hy
  obtain ⟨x,hx,rfl⟩:=VG.1 hy
  exact dTr ⟨hlen x hx,by omega,by omega⟩
 have h2:(Qw ch size i).all (fun l => l.all fun x => Xg x d.toNat) = true:=by
  rw [Vf]
  intro y hy
  obtain ⟨x,hx,rfl⟩:=VG.1 hy
  rw [Vf]
  intro z hz
  exact ZS8 (by omega) (Vf.1 (hsg x hx) z (JT (JS hz)))
 rw [h1,h2]
 rfl
section prog
variable {k:Nat} {c d r:Int} {tags:List ByteArray} {ch:List (List Int)}
theorem ZBy (hk:100 ≤ k) {n size i:Nat} (hg:Good0 c d ch n) (hs:16 ≤ size ∧ size ≤ 512) (hi:i * size < n) :
  ZuO k (((c,d,r,()),tags,ch,()),(i:Int),(size:Int),()) = some (((i:Int),Qw ch size i,()),()):=by
 have hn4:=hg.n4
 have hc2:=hg.c1.2
 have hi4:i ≤ 4096:=by
  have:i * 1 ≤ i * size:=EG i (by omega)
  omega
 have key:=Qv (A:=Unit) (step:=fun L1 => ZaG k L1) (fun j _ => (UJ ch.length,UJ j,ch,(i:Int),(size:Int),(i:Int),(Qw ch size i).take j,(0:Int))) ch (fun _ _ => some (((i:Int),Qw ch size i,()),()))
  (fun L _ => by
   simp only [ZaG]
   rw [Zl (Zaa _),Ep (by simp [Qw])])
  (fun L j hj _ hL => by
   simp only [ZaG]
   have hl:=hg.len _ (Ha hj)
   have e1:Jx.wrap ((i:Int) * (size:Int)) = ((i * size:Nat):Int):=by rw [← HI,ZyZ (by omega)]
   have hq:(i + 1) * size ≤ 4096 + 512:=by rw [Jg]; omega
   have e2:Jx.wrap (Jx.wrap ((i:Int) + 1) * (size:Int)) = (((i + 1) * size:Nat):Int):=by rw [ZzU (by omega),← HI,ZyZ (by omega)]
   rw [Zb (KX hj),Zb (Ya hj),ZE hj,hl,e1,e2]
   have hqq:(i + 1) * size = i * size + size:=by rw [Jg]; omega
   have e3:(if UJ n < (((i + 1) * size:Nat):Int) then UJ n else (((i + 1) * size:Nat):Int)) = ((min n ((i + 1) * size):Nat):Int):=by
    simp_all <;> omega
   rw [e3,Zb (by simp only [QY]; omega)]
   simp only [Xa]
   have e4:US (i * size) (UR (min n ((i + 1) * size)) ch[j]) = (Qw ch size i)[j]'(by simp [Qw]; exact hj):=by
    grind [Qw]
   simp only [e4]
   rw [Zb (by rw [Jz]; simp; omega),Qc hj (by omega)]
   simp_all) k 0 () (by omega) (by omega)
 exact key
theorem Zo3 (hk:16777216 ≤ k) (hS:Small tags ch) (s:Int):Ziq k (((c,d,r,()),tags,ch,()),s,()) =
  if chk c d r tags ch = 0 then (if 16 ≤ s ∧ s ≤ 512 then some ((XR c d r ch s.toNat,0,()),()) else some (([],1,()),())) else some (([],chk c d r tags ch,()),()):=by
 show Zdl k _ _ = _
 simp only [Zdl]
 rw [Zha hk hS]
 simp only [ZX]
 by_cases h0:chk c d r tags ch = 0
 ·rw [if_pos h0,h0,ZD,Zl (by simp)]
  by_cases h1:s < 16
  ·rw [Zb h1,if_neg (by omega)]
  rw [Zl h1]
  by_cases h2:512 < s
  ·rw [Zb h2,if_neg (by omega)]
  rw [Zl h2,if_pos (by omega)]
  obtain ⟨size,rfl⟩:=Vp (show 0 ≤ s by omega)
  have hs:16 ≤ size ∧ size ≤ 512:=by omega
  obtain ⟨hg,-⟩:=WN h0
  have hn4:=hg.n4
  generalize hn:(ch.getD 0 []).length = n at hg hn4
  have hfr:=Y9 hs.1 hn4
  have key:=Zs (A:=List (List Int)) (step:=fun L1 => Zay k L1) (fun i a => (UJ i,(size:Int),c,d,r,tags,ch,a)) (List.range (QF n size))
   (fun rest a => some ((a ++ rest.map (ZvL c d r ch size),0,()),())) (fun i a => a.length = i)
   (fun L a _ => by
    simp only [Zay,U8]
    rw [Yh,hn]
    simp only [ZX]
    have hge:n ≤ QF n size * size:=by
     have:=(Ka (n:=n) (i:=QF n size) (by omega:1 ≤ size)).2
     omega
    have hle:QF n size * size ≤ 256 * 512:=J4 hfr hs.2
    rw [show UJ (QF n size) * (size:Int) = ((QF n size * size:Nat):Int) by simp,ZyZ (by omega),Zl (by simp only [QY]; omega)]
    simp)
   (fun L i hi a hI hL => by
    rw [U8] at hi
    have hlt:=(Ka (by omega:1 ≤ size)).1 hi
    simp only [Zay]
    rw [Yh,hn]
    simp only [ZX]
    rw [show UJ i * (size:Int) = ((i * size:Nat):Int) by simp,ZyZ (by omega),Zb (by simp only [QY]; omega)]
    rw [show UJ i = (i:Int) from rfl,ZBy (by omega) hg hs hlt]
    simp only [ZX]
    refine (Zi (ZJI k (by omega) c d r (i:Int) (Qw ch size i)) _).trans ?_
    have hck:=ZlS h0 (size:=size) (i:=i) hs (by rw [hn]; exact hlt)
    have he:(Yr c d r (i:Int) (Qw ch size i)).2 = 0:=by unfold Yr; rw [if_pos hck]
    simp only [he]
    rw [ZD,Zl (by simp),Zb (by simp; omega),show Jx.wrap ((i:Int) + 1) = UJ (i + 1) from Qc hi (by omega)]
    refine Hn (hL (a ++ [ZvL c d r ch size i]) (by simp [hI])) ?_
    simp_all)
   k 0 [] rfl (by rw [U8]; omega) (by omega)
  rw [U9,VT] at key
  refine Hn key ?_
  simp only [Xa,XR,hn]
 ·rw [if_neg h0,ZD,Zb h0]
end prog
end Go.Sh
