/-
  What the row needs, part 11.
-/
import Derived.Test.YtmeahimfdhdggaaGreatDoorXFrameApart10
import Derived.Lib.ItoaNum
set_option linter.unusedSimpArgs false
set_option linter.unusedVariables false
set_option linter.unusedSectionVars false
open BitVec renaming ofInt→UJ,ofNat→Hj,toNat_ofInt→HY,allOnes→Eg,toNat_not→Eh,toNat_or→Ei,xor_allOnes→Ej,xor_zero→Ek
open Bool renaming not_true→Hl,false_eq_true→JJ,and_eq_true→Jh,true_and→UC,true_eq_false→HE,not_false→HZ
open Eq renaming trans→U8
open Go.FloatKind renaming f64→Je
open Int renaming ofNat→UI,eq_ofNat_of_zero_le→Vp,fdiv_eq_ediv_of_nonneg→Ho,le_refl→H0,one_mul→Ea,pow_pos→U6
open Go.IntKind renaming i64→Jx,u64→UK,u8→UM
open List renaming drop_zero→U9,replicate→Jd,length_cons→JF,getElem_mem→U5,length_nil→HN,flatMap_cons→HS,length→UL,length_take→Jz,all_cons→UA,all_eq_true→Vf,getElem_zip→HT,length_drop→Vi,append_assoc→Ju,drop→UO,mem_cons_of_mem→Jn,mem_cons_self→Jm,mem_of_mem_take→JT,takeWhile_cons→Hf,drop_eq_getElem_cons→Ul,foldl_cons→HL,length_singleton→Us,length_zip→HU,mem_cons→VM,mem_map→VG,drop_eq_nil_of_le→HV,nil_append→VT,take_length→HW,any_cons→Hw,any_eq_false→Uk,flatMap_append→Eb,getElem?_eq_getElem→VO,length_map→Ec,mem_append→Js,mem_of_mem_drop→JS,take→UN,drop_append→El,ext_getElem?→Jr,getElem_cons_succ→Em,getElem_cons_zero→Eo,getElem_map→Ep,getElem_of_mem→Er,length_replicate→Ur,map_cons→JR,map_nil→VE,mem_singleton→Vx,of_mem_zip→Vy,take_add_one→Es,take_of_length_le→Et
open Nat renaming pow_le_pow_right→Hd,zero_le→UU,min_eq_left→U4,zero_add→Ub,mul_le_mul→J4,pow_pos→U2,mod_lt→U7,one_mul→Jp,shiftLeft_add_eq_or_of_lt→HX,shiftLeft_eq→He,add_mul→Jg,add_zero→JH,div_le_self→Ed,le_refl→Jj,le_trans→VI,mod_le→Ee,or_lt_two_pow→Ef,pow_succ→Hz,and_one_is_mod→HO,and_two_pow_sub_one_eq_mod→Hx,le_mul_of_pos_left→Eu,lt_of_lt_of_le→V0
open Option renaming some→VF
namespace Go.Sh
open Go Go.Proofs
def ZV (n:Int):Nat:=if n < 0 then (-2 * n - 1).toNat else (2 * n).toNat
theorem Zs9 {a:Int} {n:Int} (ha : -1152921504606846976 ≤ a ∧ a ≤ 1152921504606846976) (hn:(a < 0 ↔ n < 0)) (hn' : -1152921504606846976 ≤ n ∧ n ≤ 1152921504606846976) :
  Jx.wrap (UI (UJ 64 a ^^^ UJ 64 (n.fdiv 9223372036854775808)).toNat) = if n < 0 then -a - 1 else a:=by
 by_cases h:n < 0
 ·have e1:n.fdiv 9223372036854775808 = -1:=by grind
  rw [e1,if_pos h,show UJ 64 (-1) = Eg 64 from by decide,Ej,Eh,HY]
  have:((a % ((2 ^ 64:Nat):Int)).toNat) = (a + 18446744073709551616).toNat:=by omega
  rw [this]
  have e2:UI (2 ^ 64 - 1 - (a + 18446744073709551616).toNat) = -a - 1:=by simp only [Xb]; omega
  rw [e2,Qk (by omega)]
 ·have e1:n.fdiv 9223372036854775808 = 0:=by grind
  rw [e1,if_neg h,show UJ 64 0 = 0#64 from rfl,Ek,HY]
  have:UI ((a % ((2 ^ 64:Nat):Int)).toNat) = a:=by simp only [Xb]; omega
  rw [this,Qk (by omega)]
theorem Znb (k:Nat) {n:Int} (h:ZB n):ZgR k (n,()) = some ((((ZV n:Nat):Int),0,()),()):=by
 show ZgT k _ = _
 simp only [ZgT]
 unfold ZB at h
 rw [Zr (by omega),Zr (by omega),Qk (n:=n * 2) (by omega),Zs9 (by omega) (by omega) (by omega)]
 unfold ZV
 congr 3
 split <;> omega
theorem Zln {n:Int} (h:ZB n):ZV n < 4294967296:=by
 unfold ZB at h
 unfold ZV
 split <;> omega
def XU (n:Int):Nat:=Lib.bitLen (if n < 0 then (-n - 1).toNat else n.toNat) + 1
theorem ZjX {n:Int} (h:ZB n):XU n ≤ 32:=by
 unfold ZB at h
 unfold XU
 have:=Lib.bitLen_le (if n < 0 then (-n - 1).toNat else n.toNat) 31 (by omega) (by split <;> omega)
 omega
theorem Zxf {n:Int} (h:ZB n) {w:Nat} (hw:XU n ≤ w):Xk n w = true:=by
 unfold XU at hw
 unfold Xk
 unfold ZB at h
 rw [if_neg (by omega),decide_eq_true_eq]
 generalize hm:(if n < 0 then (-n - 1).toNat else n.toNat) = m at hw
 have hm':m < 2 ^ 64:=by rw [← hm]; split <;> omega
 have hlt:m < 2 ^ (w - 1):=by
  by_cases h0:m = 0
  ·rw [h0]; exact U2 (by omega)
  ·have:=(Lib.bitLenAux_bounds 64 m hm' h0).2.2
   exact V0 this (Hd (by omega) (by unfold Lib.bitLen at hw; omega))
 grind
theorem ZyI (k:Nat) {n:Int} (h:ZB n):Zt5 k (n,()) = some (((XU n:Nat):Int),()):=by
 show Zho k _ = _
 simp only [Zho]
 have hb:=ZjX h
 unfold ZB at h
 rw [Zs9 (by omega) (by omega) (by omega)]
 have e1:UK.wrap (if n < 0 then -n - 1 else n) = (((if n < 0 then (-n - 1).toNat else n.toNat):Nat):Int):=by
  rw [IntKind.wrap_u64]; split <;> omega
 rw [e1]
 have e2:Zo6 k ((((if n < 0 then (-n - 1).toNat else n.toNat):Nat):Int),()) = some (((Lib.bitLen (if n < 0 then (-n - 1).toNat else n.toNat):Nat):Int),()):=by
  show ZDm _ = _
  unfold ZDm
  grind
 rw [e2]
 simp only [Qt]
 unfold XU at hb ⊢
 rw [Qk (by omega)]
 push_cast
 rfl
theorem ZxY (k:Nat) {m:Int} (h:m = 0 ∨ m = 1):ZeD k (m,()) = some (if m = 0 then 15 else 31,()):=by
 rcases h with rfl | rfl <;> rfl
def WX (m:Int):Nat:=if m = 0 then 15 else 31
theorem ZaL (k:Nat) {m:Int} (h:m = 0 ∨ m = 1):ZeD k (m,()) = some (((WX m:Nat):Int),()):=by
 rw [ZxY k h]; unfold WX; split <;> rfl
abbrev Prt:=Int × Int × Int × Unit
def QC (l:List Int):Nat:=l.foldl (fun w n => if n = 0 then w else max w (XU n)) 0
def Ze0:List Nat → Nat
 | [] => 0
 | x :: l => x + Ze0 l
def Zdf (l:List Int) (kk:Nat):Nat:=(kk + 1) * l.length + Ze0 (l.map fun n => ZV n / 2 ^ kk)
def ZiF (l:List Int) (kk:Nat):Bool:=l.any fun n => decide (65536 < ZV n / 2 ^ kk)
def Zei (l:List Int) (B:Prt × Bool) (kk:Nat):Prt × Bool :=
 if ZiF l kk = false ∧ (B.2 = false ∨ ((Zdf l kk:Nat):Int) < B.1.2.2.1) then (((kk:Int),0,((Zdf l kk:Nat):Int),()),true) else B
def kF (l:List Int):Nat → Nat → Prt × Bool → Prt × Bool
 | 0,_,B => B
 | d + 1,kk,B => kF l d (kk + 1) (Zei l B kk)
def QR (l:List Int) (m:Int):Prt × Bool :=
 let B:=kF l (WX m) 0 ((0,0,0,()),false)
 if QC l ≤ 31 ∧ (B.2 = false ∨ ((5 + QC l * l.length:Nat):Int) < B.1.2.2.1) then (((WX m:Nat),((QC l:Nat):Int),((5 + QC l * l.length:Nat):Int),()),true) else B
theorem ZFI {l:List Nat} {b:Nat} (h:∀ x ∈ l,x ≤ b):Ze0 l ≤ l.length * b:=by
 induction l with
 | nil => simp [Ze0]
 | cons x l ih =>
  have h1:=h x (Jm ..)
  have h2:=ih fun y hy => h y (Jn _ hy)
  simp only [Ze0,JF,Jg,Jp]
  omega
theorem Ze3:∀ (l:List Int) (w:Nat),(∀ x ∈ l,ZB x) → w ≤ 32 → w ≤ l.foldl (fun w n => if n = 0 then w else max w (XU n)) w ∧ l.foldl (fun w n => if n = 0 then w else max w (XU n)) w ≤ 32 ∧
   ∀ x ∈ l,x ≠ 0 → XU x ≤ l.foldl (fun w n => if n = 0 then w else max w (XU n)) w
 | [],w,_,hw => ⟨Jj _,hw,by simp⟩
 | x :: l,w,hl,hw => by
  simp only [HL]
  have hx:=ZjX (hl x (Jm ..))
  have h1:(if x = 0 then w else max w (XU x)) ≤ 32:=by split <;> omega
  obtain ⟨a,b,c⟩:=Ze3 l _ (fun y hy => hl y (Jn _ hy)) h1
  grind
theorem Zn3 {l:List Int} (hl:∀ x ∈ l,ZB x):∀ x ∈ l,Xk x (QC l) = true:=by
 intro x hx
 obtain ⟨_,_,h⟩:=Ze3 l 0 hl (by omega)
 by_cases h0:x = 0
 ·subst h0
  unfold Xk
  split
  ·rfl
  ·rw [decide_eq_true_eq]
   have hp:(0:Int) < 2 ^ (QC l - 1):=U6 (by omega)
   omega
 ·exact Zxf (hl x hx) (h x hx h0)
theorem Znv {n:Int} (h:ZB n) (kk:Nat):ZV n / 2 ^ kk ≤ 4294967295:=by
 have:=Zln h
 have:=Ed (ZV n) (2 ^ kk)
 omega
theorem Zw8:Zao = ZeD:=Zm9
theorem ZIN:ZgS = ZgR:=Zna
theorem ZtY (k:Nat) (L2:Int × Int × List Int × Bool × Int × Int × List Int × Int × Int × Int × Int × Int × Int → Option (((Int × Int × Int × Unit) × Bool × Unit) × Unit))
  {l:List Int} (hl:∀ x ∈ l,ZB x) (hn:l.length ≤ 512) (hk:l.length < k) {kk:Nat} (hkk:kk ≤ 31) (ok:Bool) (e w m b0 b1 b2 c0 c1 c2:Int) :
  Zfx k L2 (UI l.length,(0:Int),((kk + 1) * l.length:Nat),(kk:Int),false,ok,(kk:Int),e,l,w,m,l.map fun n => ((ZV n:Nat):Int),b0,b1,b2,c0,c1,c2) =
   L2 (e,((kk + 1:Nat):Int),l,(Zei l ((b0,b1,b2,()),ok) kk).2,w,m,l.map fun n => ((ZV n:Nat):Int),(Zei l ((b0,b1,b2,()),ok) kk).1.1,(Zei l ((b0,b1,b2,()),ok) kk).1.2.1,(Zei l ((b0,b1,b2,()),ok) kk).1.2.2.1,c0,c1,c2):=by
 have hml:(l.map fun n => ((ZV n:Nat):Int)).length = l.length:=by simp
 have:=ZC (A:=Int × Bool) (R:=((Int × Int × Int × Unit) × Bool × Unit) × Unit) (step:=fun L3 => ZaY k L2 L3) (fun i a => (UI l.length,UI i,a.1,(kk:Int),a.2,ok,(kk:Int),e,l,w,m,l.map (fun n => ((ZV n:Nat):Int)),b0,b1,b2,c0,c1,c2)) l
  (fun l' a => bif !(a.2 || ZiF l' kk) then bif !ok then L2 (e,((kk + 1:Nat):Int),l,true,w,m,l.map (fun n => ((ZV n:Nat):Int)),(kk:Int),0,a.1 + (Ze0 (l'.map fun n => ZV n / 2 ^ kk):Nat),c0,c1,c2)
    else bif decide (a.1 + (Ze0 (l'.map fun n => ZV n / 2 ^ kk):Nat) < b2) then L2 (e,((kk + 1:Nat):Int),l,true,w,m,l.map (fun n => ((ZV n:Nat):Int)),(kk:Int),0,a.1 + (Ze0 (l'.map fun n => ZV n / 2 ^ kk):Nat),c0,c1,c2)
    else L2 (e,((kk + 1:Nat):Int),l,ok,w,m,l.map (fun n => ((ZV n:Nat):Int)),b0,b1,b2,c0,c1,c2)
   else L2 (e,((kk + 1:Nat):Int),l,ok,w,m,l.map (fun n => ((ZV n:Nat):Int)),b0,b1,b2,c0,c1,c2))
  (fun i a => 0 ≤ a.1 ∧ a.1 ≤ 16384 + (i:Int) * 4294967296)
  (fun L a _ => by
   simp only [ZaY]
   rw [Zr (ZeL _),Qk (n:=(kk:Int) + 1) (by omega)]
   simp_all [ZiF,List.any_nil,Bool.or_false,VE,Ze0,Int.natCast_zero,Int.add_zero])
  (fun L i hi a ha hL => by
   simp only [ZaY]
   have hx:=hl l[i] (U5 hi)
   have hp:=Znv hx kk
   have hg:(l.map fun n => ((ZV n:Nat):Int)).getD (Int.toNat (UI i)) 0 = ((ZV l[i]:Nat):Int):=by
    simp_all
   rw [Zc (ltR hi),Zc (by rw [hml]; exact inR hi),Zc (by rw [hml]; simpa using hi),Zc (by omega),hg]
   simp only [WV,U4 (show kk ≤ 64 by omega),ZcP]
   have hfar:ZiF (l[i] :: l.drop (i + 1)) kk = (decide (65536 < ZV l[i] / 2 ^ kk) || ZiF (l.drop (i + 1)) kk):=by unfold ZiF; rw [Hw]
   have hsum:a.1 + ((Ze0 ((l[i] :: l.drop (i + 1)).map fun n => ZV n / 2 ^ kk):Nat):Int) = a.1 + ((ZV l[i] / 2 ^ kk:Nat):Int) + ((Ze0 ((l.drop (i + 1)).map fun n => ZV n / 2 ^ kk):Nat):Int):=by
    grind [Ze0]
   generalize ZV l[i] / 2 ^ kk = q at hp hfar hsum ⊢
   have hi5:(i:Int) ≤ 512:=by omega
   rw [Qk (n:=a.1 + ((q:Nat):Int)) (by omega),Q1 hi (by omega)]
   rw [hfar,hsum]
   cases h4:a.2 with
   | true =>
    simp only [cond_true]
    rw [hL (a.1 + ((q:Nat):Int),true) ⟨by omega,by push_cast; omega⟩]
    simp
   | false =>
    simp only [cond_false]
    rw [Zc (by omega)]
    have hd:decide ((65536:Int) < ((q:Nat):Int)) = decide (65536 < q):=by
     grind
    rw [hd,hL (a.1 + ((q:Nat):Int),decide (65536 < q)) ⟨by omega,by push_cast; omega⟩]
    simp) k 0 ((((kk + 1) * l.length:Nat):Int),false) ⟨by omega,by
     have:(kk + 1) * l.length ≤ 32 * 512:=J4 (by omega) hn
     omega⟩ (by omega) (UU _)
 refine U8 this ?_
 rw [U9]
 unfold Zei
 have hsz:(((kk + 1) * l.length:Nat):Int) + ((Ze0 (l.map fun n => ZV n / 2 ^ kk):Nat):Int) = ((Zdf l kk:Nat):Int):=by unfold Zdf; push_cast; rfl
 grind
theorem ZA9 (k:Nat) {l:List Int} (hl:∀ x ∈ l,ZB x) (hn:l.length ≤ 512) (hk:l.length < k) {m:Int} (hm:m = 0 ∨ m = 1) (c0 c1 c2:Int) (hw:QC l ≤ 32) :
  ∀ (d kk j:Nat) (B:Prt × Bool),kk + d = WX m → d < j →
  Zn (fun L2 => ZaX k (Zfx k L2) L2) j (((WX m:Nat):Int),(kk:Int),l,B.2,((QC l:Nat):Int),m,l.map (fun n => ((ZV n:Nat):Int)),B.1.1,B.1.2.1,B.1.2.2.1,c0,c1,c2) =
   some ((let B:=kF l d kk B; if QC l ≤ 31 ∧ (B.2 = false ∨ ((5 + QC l * l.length:Nat):Int) < B.1.2.2.1) then ((((WX m:Nat):Int),((QC l:Nat):Int),((5 + QC l * l.length:Nat):Int),()),true,()) else (B.1,B.2,())),()):=by
 have he:WX m ≤ 31:=by unfold WX; split <;> omega
 intro d
 induction d with
 | zero =>
  intro kk j B hkk hj
  obtain ⟨j,rfl⟩:=Zq hj
  rw [Ze]
  simp only [ZaX]
  rw [Zr (by omega)]
  have hwl:QC l * l.length ≤ 32 * 512:=J4 hw hn
  have e1:Jx.wrap ((5:Int) + Jx.wrap (((QC l:Nat):Int) * UI l.length)) = ((5 + QC l * l.length:Nat):Int):=by
   have:((QC l:Nat):Int) * UI l.length = ((QC l * l.length:Nat):Int):=by rfl
   rw [this,Qk (n:=((QC l * l.length:Nat):Int)) (by omega),Qk (by omega)]
   push_cast; rfl
  rw [e1,Zw8,ZaL k hm]
  simp only [Qt]
  rw [show kF l 0 kk B = B from rfl]
  grind
 | succ d ih =>
  intro kk j B hkk hj
  obtain ⟨j,rfl⟩:=Zq (show 0 < j by omega)
  rw [Ze]
  simp only [ZaX]
  rw [Zc (by omega)]
  have hkl:(kk + 1) * l.length ≤ 32 * 512:=J4 (by omega) hn
  have e1:Jx.wrap (Jx.wrap ((kk:Int) + 1) * UI l.length) = (((kk + 1) * l.length:Nat):Int):=by
   have h1:Jx.wrap ((kk:Int) + 1) = ((kk + 1:Nat):Int):=by rw [Qk (by omega)]; push_cast; rfl
   rw [h1]
   have:((kk + 1:Nat):Int) * UI l.length = (((kk + 1) * l.length:Nat):Int):=by rfl
   rw [this,Qk (by omega)]
  rw [e1]
  have e2:UI (l.map fun n => ((ZV n:Nat):Int)).length = UI l.length:=by simp
  rw [e2,ZtY k _ hl hn hk (by omega)]
  rw [ih (kk + 1) j (Zei l B kk) (by omega) (by omega)]
  rfl
theorem Zyx (k:Nat) {l:List Int} (hl:∀ x ∈ l,ZB x) (hn:l.length ≤ 512) (hk:l.length + 40 < k) {m:Int} (hm:m = 0 ∨ m = 1) :
  ZtX k (l,m,()) = some (((QR l m).1,(QR l m).2,()),()):=by
 show ZdM k (Zjp k) _ = _
 simp only [ZdM]
 rw [Zc (by simp only [Xb]; omega)]
 have hwid:=(Ze3 l 0 hl (by omega)).2.1
 have he:WX m ≤ 31:=by unfold WX; split <;> omega
 have:=ZC (A:=Nat × List Int) (step:=fun L1 => ZaW k (Zfw k) L1) (fun i a => (UI l.length,UI i,l,((a.1:Nat):Int),m,l,false,a.2,0,0,0,0,0,0)) l
  (fun l' a => Zfw k (((WX m:Nat):Int),0,l,false,((l'.foldl (fun w n => if n = 0 then w else max w (XU n)) a.1:Nat):Int),m,a.2.take (l.length - l'.length) ++ l'.map (fun n => ((ZV n:Nat):Int)),0,0,0,0,0,0))
  (fun i a => a.1 ≤ 32 ∧ a.2.length = l.length)
  (fun L a ha => by
   simp only [ZaW]
   rw [Zr (ZeL _),Zw8,ZaL k hm]
   simp only [Qt,List.foldl_nil,VE,List.append_nil,HN,Nat.sub_zero]
   rw [Et (by omega)])
  (fun L i hi a ha hL => by
   simp only [ZaW]
   have hx:=hl l[i] (U5 hi)
   have hb:=ZjX hx
   rw [Zc (ltR hi),Zc (inR hi),ZQ hi,ZIN,Znb k hx]
   simp only [Qt]
   rw [Zc (by rw [ha.2]; exact inR hi),Zc (by rw [ha.2]; simpa using hi),ZR,Q1 hi (by omega)]
   have hdl:(l.drop (i + 1)).length = l.length - (i + 1):=by simp
   have hset:(a.2.set (UI i).toNat ((ZV l[i]:Nat):Int)).take (l.length - (l.drop (i + 1)).length) ++ (l.drop (i + 1)).map (fun n => ((ZV n:Nat):Int)) =
     a.2.take (l.length - (l[i] :: l.drop (i + 1)).length) ++ (l[i] :: l.drop (i + 1)).map (fun n => ((ZV n:Nat):Int)):=by
    rw [hdl,JF,hdl,show l.length - (l.length - (i + 1)) = i + 1 by omega,show l.length - (l.length - (i + 1) + 1) = i by omega]
    rw [JR,Es,List.take_set_of_le (by simp)]
    simp_all
   have hfold:(l[i] :: l.drop (i + 1)).foldl (fun w n => if n = 0 then w else max w (XU n)) a.1 = (l.drop (i + 1)).foldl (fun w n => if n = 0 then w else max w (XU n)) (if l[i] = 0 then a.1 else max a.1 (XU l[i])):=rfl
   by_cases h0:l[i] = 0
   ·simp_all
   ·rw [Zc h0,ZyI k hx]
    simp only [Qt]
    have e1:(if ((a.1:Nat):Int) < ((XU l[i]:Nat):Int) then ((XU l[i]:Nat):Int) else ((a.1:Nat):Int)) = ((max a.1 (XU l[i]):Nat):Int):=by split <;> omega
    rw [e1,hL (max a.1 (XU l[i]),a.2.set (UI i).toNat ((ZV l[i]:Nat):Int)) ⟨by omega,by simpa using ha.2⟩,hset,hfold,if_neg h0])
  k 0 (0,Jd l.length 0) ⟨by omega,by simp⟩ (by omega) (UU _)
 rw [U9] at this
 refine U8 this ?_
 have:=ZA9 k hl hn (by omega) hm 0 0 0 hwid (WX m) 0 k ((0,0,0,()),false) (by omega) (by omega)
 rw [Nat.sub_self,List.take_zero,VT]
 refine U8 this ?_
 unfold QR
 simp only
 split <;> rfl
end Go.Sh
namespace Go.Sh
open Go Go.Proofs
theorem ZGM:ZeC = ZeB:=Zm8
theorem ZJO:ZkK = ZeF:=Znj
theorem ZgQ (k:Nat) {m:Int} (h:m = 0 ∨ m = 1):ZeB k (m,()) = some (4 + m,()):=by
 rcases h with rfl | rfl <;> rfl
theorem Zys (k:Nat) (x:Int):ZtW k (x,()) = some (Qq x,()):=by
 show Zhj k _ = _
 simp only [Zhj]
 unfold Qq
 grind
theorem Zq1 (k:Nat) (c:List Int) (hk:c.length < k) (hn:c.length < 4294967296):Zkr k (c,(),()) = some (c.any Qq,()):=by
 show Zco k _ = _
 simp only [Zco]
 have key:∃ i:Int,ZkE k (c,(),()) = some (i,()) ∧ (0 ≤ i ↔ c.any Qq = true):=by
  have:=Wv (A:=Unit) (R:=Int × Unit) (step:=fun L1 => YL k L1) (fun i _ => (UI c.length,UI i,c)) c
   (fun l _ => some (if l.any Qq then UI (c.length - l.length + (l.takeWhile (fun x => !Qq x)).length) else -1,()))
   (fun L _ => by grind [YL])
   (fun L i hi _ hL => by
    simp only [YL]
    rw [Zc (ltR hi),Zc (inR hi),ZQ hi,Zys]
    simp only [Qt]
    have hlen:(UO (i + 1) c).length = c.length - (i + 1):=by simp
    cases hc:Qq c[i] with
    | false =>
     simp only [cond_false]
     rw [Q1 hi (by omega),hL ()]
     simp only [Hw,hc,Bool.false_or,Hf,HZ,if_true,JF,hlen]
     grind
    | true =>
     simp only [cond_true,Hw,hc,Bool.true_or,if_true,Hf,Hl,JJ,if_false,JF,hlen,HN]
     congr 3; omega) k 0 () (by omega) (UU _)
  rw [U9] at this
  refine ⟨_,this,?_⟩
  cases c.any Qq <;> simp
 grind
def Zam (n o:Int):Bool:=decide (1 ≤ n ∧ n ≤ 512 ∧ 0 ≤ o ∧ o ≤ 8 ∧ o ≤ n)
theorem Zni (k:Nat) (n o:Int):ZoV k (n,o,()) = some (Zam n o,()):=by
 show Zhi k _ = _
 simp only [Zhi]
 unfold Zam
 by_cases h1:1 ≤ n
 ·rw [Zc h1]
  by_cases h2:n ≤ 512
  ·rw [Zc h2]
   by_cases h3:0 ≤ o
   ·rw [Zc h3]
    congr 2
    grind
   grind
  grind
 grind
def XI (l:List Int) (o:Int):Int:=if o < 0 ∨ 8 < o then 1 else if Zam ((l.length:Int) + o) o = false then 1 else if l.any Qq then 12 else 0
theorem Zm5 (k:Nat) (l:List Int) (o:Int) (hk:l.length < k) (hn:l.length < 4294967296):ZoG k (l,o,()) = some (XI l o,()):=by
 show ZgP k _ = _
 simp only [ZgP]
 unfold XI
 by_cases h1:o < 0
 ·rw [Zc h1,if_pos (.inl h1)]
 ·rw [Zr h1]
  by_cases h2:8 < o
  ·rw [Zc h2,if_pos (.inr h2)]
  ·rw [Zr h2,if_neg (by omega),Qk (by simp only [Xb]; omega),Zni]
   simp only [Qt,Xb]
   cases hb:Zam ((l.length:Int) + o) o with
   | false => rfl
   | true =>
    simp only [Hl,cond_false,HE,if_false]
    rw [Zq1 k l hk hn]
    grind
theorem ZIr {p:Nat} (hp:p ≤ 31):Jx.wrap (Jx.wrap ((1:Int) * (2:Int) ^ min ((p:Int)).toNat 64) - 1) = ((2 ^ p - 1:Nat):Int):=by
 have h1:2 ^ p ≤ 2 ^ 31:=Hd (by omega) hp
 have h0:0 < 2 ^ p:=U2 (by omega)
 rw [WV,U4 (by omega),Ea,WP]
 rw [Qk (n:=((2 ^ p:Nat):Int)) (by omega),Qk (by omega)]
 omega
theorem ZjB {p:Nat} (hp:p ≤ 31):Jx.wrap ((1:Int) * (2:Int) ^ min ((p:Int)).toNat 64) = ((2 ^ p:Nat):Int):=by
 have h1:2 ^ p ≤ 2 ^ 31:=Hd (by omega) hp
 rw [WV,U4 (by omega),Ea,WP]
 generalize 2 ^ p = Q at h1 ⊢
 rw [Qk (by omega)]
theorem Zqz {n p:Nat} (hn:n < 4294967296) (hp:p ≤ 31):Jx.wrap (UI (UJ 64 (n:Int) &&& UJ 64 (Jx.wrap (Jx.wrap ((1:Int) * (2:Int) ^ min ((p:Int)).toNat 64) - 1))).toNat) = ((n % 2 ^ p:Nat):Int):=by
 have h1:2 ^ p ≤ 2 ^ 31:=Hd (by omega) hp
 rw [ZIr hp,Zxb (by omega) (by omega),Hx]
 have:n % 2 ^ p ≤ n:=Ee _ _
 rw [Qk (by omega)]
def Zb7 (n o p:Nat):Bool:=decide (n % 2 ^ p = 0) && decide (o ≤ n / 2 ^ p)
theorem Znk (k:Nat) {n o p:Nat} (hn:n < 4294967296) (hp:p ≤ 31):ZeF k ((n:Int),(o:Int),(p:Int),()) = some (Zb7 n o p,()):=by
 show Zhk k _ = _
 simp only [Zhk]
 rw [Zc (by omega),Zqz hn hp,ZP,WV,U4 (by omega),ZcP]
 unfold Zb7
 by_cases h:n % 2 ^ p = 0
 ·rw [Zc (by omega),Zc (by omega),dTr h,UC]
  congr 2
  grind
 grind
def Yn (size:Nat):Nat → List Int → List (List Int)
 | 0,_ => []
 | d + 1,r => r.take size :: Yn size d (r.drop size)
def XM (l:List Int) (o p:Nat):List (List Int):=l.take ((l.length + o) / 2 ^ p - o) :: Yn ((l.length + o) / 2 ^ p) (2 ^ p - 1) (l.drop ((l.length + o) / 2 ^ p - o))
theorem Zj8 (size:Nat):∀ (d:Nat) (r:List Int),(Yn size d r).length = d
 | 0,_ => rfl
 | d + 1,r => by simp [Yn,Zj8 size d]
theorem Zfj (l:List Int) (o p:Nat):(XM l o p).length = 2 ^ p:=by
 grind [XM,JF,Zj8]
theorem Zj9 {size:Nat}:∀ {d:Nat} {r c:List Int},c ∈ Yn size d r → ∀ x ∈ c,x ∈ r
 | d + 1,r,c,h,x,hx => by
  rcases VM.1 h with rfl | h
  ·exact JT hx
  ·exact JS (Zj9 h x hx)
theorem Ku {l:List Int} {o p:Nat} {c:List Int} (h:c ∈ XM l o p):∀ x ∈ c,x ∈ l:=by
 intro x hx
 rcases VM.1 h with rfl | h
 ·exact JT hx
 ·exact JS (Zj9 h x hx)
theorem ZmQ {size:Nat}:∀ {d:Nat} {r c:List Int},c ∈ Yn size d r → c.length ≤ r.length
 | d + 1,r,c,h => by
  rcases VM.1 h with rfl | h
  ·rw [Jz]; omega
  ·have:=ZmQ h
   grind
theorem Zfi {l:List Int} {o p:Nat} {c:List Int} (h:c ∈ XM l o p):c.length ≤ l.length:=by
 rcases VM.1 h with rfl | h
 ·rw [Jz]; omega
 ·have:=ZmQ h
  rw [Vi] at this
  omega
theorem ZxT (k:Nat) {p size:Nat} (hp:p ≤ 15):∀ (d m:Nat) (r:List Int) (out:List (List Int)),d < m → out.length + d = 2 ^ p → r.length = d * size → r.length < 4294967296 →
  Zn (fun L1 => ZaK k L1) m ((p:Int),r,(size:Int),out) = some (out ++ Yn size d r,()):=by
 have h15:2 ^ p ≤ 2 ^ 15:=Hd (by omega) hp
 intro d
 induction d with
 | zero =>
  intro m r out hm ho hr hn
  obtain ⟨m,rfl⟩:=Zq hm
  rw [Ze]
  simp only [ZaK]
  rw [Zc (by omega),ZjB (by omega),Zr (by simp only [Xb]; omega)]
  simp [Yn]
 | succ d ih =>
  intro m r out hm ho hr hn
  obtain ⟨m,rfl⟩:=Zq (show 0 < m by omega)
  rw [Ze]
  simp only [ZaK]
  have hs:(d + 1) * size = d * size + size:=by rw [Jg,Jp]
  have hle:size ≤ r.length:=by omega
  rw [Zc (by omega),ZjB (by omega),Zc (by simp only [Xb]; omega),Zc (by simp only [Xb]; omega),
   Zc (by grind),Zc (by simp only [Xb]; omega)]
  rw [WV,show (UI r.length).toNat = r.length from rfl,HW,U9]
  grind [Yn]
theorem Zm7 (k:Nat) {l:List Int} {o p:Nat} (hp:p ≤ 15) (hn:l.length + o < 4294967296) (hk:32768 < k) (hf:Zb7 (l.length + o) o p = true) :
  ZoK k (l,(o:Int),(p:Int),()) = some (XM l o p,()):=by
 show Zdx k (Zi2 k) _ = _
 have h15:2 ^ p ≤ 2 ^ 15:=Hd (by omega) hp
 have h0:0 < 2 ^ p:=U2 (by omega)
 unfold Zb7 at hf
 simp only [Jh,decide_eq_true_eq] at hf
 obtain ⟨hm,ho⟩:=hf
 simp only [Zdx]
 have e1:Jx.wrap (UI l.length + (o:Int)) = ((l.length + o:Nat):Int):=by rw [Qk (by simp only [Xb]; omega)]; rfl
 have hd:(l.length + o) / 2 ^ p ≤ l.length + o:=Ed _ _
 have hmul:2 ^ p * ((l.length + o) / 2 ^ p) = l.length + o:=by have:=Nat.div_add_mod (l.length + o) (2 ^ p); omega
 unfold XM
 rw [e1]
 simp only [WV,U4 (show p ≤ 64 by omega),ZcP]
 generalize hsz:(l.length + o) / 2 ^ p = size at ho hd hmul
 have e2:Jx.wrap ((size:Int) - (o:Int)) = ((size - o:Nat):Int):=by rw [Qk (by omega)]; omega
 have hle:size ≤ l.length + o:=hd
 have e3:(2 ^ p - 1) * size = 2 ^ p * size - size:=by rw [Nat.sub_mul,Jp]
 rw [e2,Zc (by omega),Zc (by simp only [Xb]; omega),Zc (by simp only [Xb]; omega)]
 rw [WV,show (UI l.length).toNat = l.length from rfl,HW,U9]
 have hps:size ≤ 2 ^ p * size:=Eu _ h0
 refine U8 (ZxT k hp (2 ^ p - 1) k _ _ (by omega) (by rw [Us]; omega) (by rw [Vi,e3]; omega) (by rw [Vi]; omega)) ?_
 rfl
end Go.Sh
namespace Go.Sh
open Go Go.Proofs
def Y1 (c:List Int) (m:Int) (y:Prt):Prop :=
 (∃ kk:Nat,kk < WX m ∧ ZiF c kk = false ∧ y = ((kk:Int),0,((Zdf c kk:Nat):Int),())) ∨
 (QC c ≤ 31 ∧ y = (((WX m:Nat):Int),((QC c:Nat):Int),((5 + QC c * c.length:Nat):Int),()))
theorem ZGF {c:List Int} {m:Int}:∀ (d kk:Nat) (B:Prt × Bool),kk + d = WX m → (B.2 = true → Y1 c m B.1) → ((kF c d kk B).2 = true → Y1 c m (kF c d kk B).1)
 | 0,_,B,_,hB => hB
 | d + 1,kk,B,hk,hB => by
  refine ZGF d (kk + 1) _ (by omega) fun h => ?_
  unfold Zei at h ⊢
  split
  ·rename_i hc
   exact .inl ⟨kk,by omega,hc.1,rfl⟩
  simp_all
theorem Zcg {c:List Int} {m:Int} (h:(QR c m).2 = true):Y1 c m (QR c m).1:=by
 unfold QR at h ⊢
 simp only at h ⊢
 split
 ·rename_i hc
  exact .inr ⟨hc.1,rfl⟩
 ·rename_i hc
  rw [if_neg hc] at h
  exact ZGF _ _ _ (by omega) (fun h => by cases h) h
theorem ZwJ {c:List Int}:∀ (d kk:Nat) (B:Prt × Bool),B.2 = true → (kF c d kk B).2 = true
 | 0,_,B,hB => hB
 | d + 1,kk,B,hB => by
  refine ZwJ d (kk + 1) _ ?_
  unfold Zei
  split
  ·rfl
  ·exact hB
theorem ZwK {c:List Int} {j:Nat} (hj:ZiF c j = false):∀ (d kk:Nat) (B:Prt × Bool),kk ≤ j → j < kk + d → (kF c d kk B).2 = true
 | 0,_,B,h1,h2 => by omega
 | d + 1,kk,B,h1,h2 => by
  by_cases he:kk = j
  ·subst he
   refine ZwJ d _ _ ?_
   unfold Zei
   grind
  ·exact ZwK hj d (kk + 1) _ (by omega) (by omega)
theorem ZJs {c:List Int} (hc:∀ x ∈ c,ZB x):ZiF c 16 = false:=by
 unfold ZiF
 rw [Uk]
 intro x hx
 have h1:=Zln (hc x hx)
 grind
theorem Zto {c:List Int} (hc:∀ x ∈ c,ZB x):(QR c 1).2 = true:=by
 unfold QR
 simp only
 split
 ·rfl
 ·exact ZwK (ZJs hc) _ _ _ (by omega) (by decide)
theorem Y1.size {c:List Int} {m:Int} {y:Prt} (h:Y1 c m y) (hc:∀ x ∈ c,ZB x) (hn:c.length ≤ 512):0 ≤ y.2.2.1 ∧ y.2.2.1 ≤ 4398046511104:=by
 have he:WX m ≤ 31:=by unfold WX; split <;> omega
 rcases h with ⟨kk,hk,_,rfl⟩ | ⟨hw,rfl⟩
 ·simp only
  have h1:(kk + 1) * c.length ≤ 32 * 512:=J4 (by omega) hn
  have h2:Ze0 (c.map fun n => ZV n / 2 ^ kk) ≤ (c.map fun n => ZV n / 2 ^ kk).length * 4294967295:=ZFI fun x hx => by
   obtain ⟨n,hn,rfl⟩:=VG.1 hx
   exact Znv (hc n hn) kk
  rw [Ec] at h2
  unfold Zdf
  omega
 ·simp only
  have h1:QC c * c.length ≤ 31 * 512:=J4 hw hn
  omega
def Qu (m:Int):List (List Int) → List Prt → Int → List Prt × Int × Bool
 | [],ps,sz => (ps,sz,true)
 | c :: cs,ps,sz => if (QR c m).2 = true then Qu m cs (ps ++ [(QR c m).1]) (sz + (4 + m + (QR c m).1.2.2.1)) else (ps,sz,false)
theorem ZeP {m:Int} {c:List Int} (cs:List (List Int)) (ps:List Prt) (sz:Int) (h:(QR c m).2 = true):Qu m (c :: cs) ps sz = Qu m cs (ps ++ [(QR c m).1]) (sz + (4 + m + (QR c m).1.2.2.1)):=by
 show (if (QR c m).2 = true then _ else _) = _
 rw [if_pos h]
theorem ZhT {m:Int} {c:List Int} (cs:List (List Int)) (ps:List Prt) (sz:Int) (h:(QR c m).2 = false):Qu m (c :: cs) ps sz = (ps,sz,false):=by
 show (if (QR c m).2 = true then _ else _) = _
 rw [if_neg (by rw [h]; simp)]
abbrev Xq:=Int × Int × Int × List Prt
def Xm (l:List Int) (o p:Nat) (m:Int) (B:Xq):Xq :=
 if (Qu m (XM l o p) [] 6).2.2 = true ∧ (B.2.2.1 < 0 ∨ (Qu m (XM l o p) [] 6).2.1 < B.2.2.1) then (m,(p:Int),(Qu m (XM l o p) [] 6).2.1,(Qu m (XM l o p) [] 6).1) else B
def Zgl (l:List Int) (o:Nat) (B:Xq) (p:Nat):Xq:=if Zb7 (l.length + o) o p = true then Xm l o p 1 (Xm l o p 0 B) else B
def XG (l:List Int) (o:Nat):Nat → Nat → Xq → Xq
 | 0,_,B => B
 | d + 1,p,B => XG l o d (p + 1) (Zgl l o B p)
def Wq (l:List Int) (o:Nat):Xq:=XG l o 5 0 (0,0,-1,[])
theorem ZtN (k:Nat) (L1:Int × List Int × Int × Int × Int × Int × List (Int × Int × Int × Unit) × Int × Int × Int → Option ((Int × Int × List (Int × Int × Int × Unit) × Int × Unit) × Unit))
  (L2:Int × Int × List Int × Int × Int × Int × Int × List (Int × Int × Int × Unit) × Int × Int × Int → Option ((Int × Int × List (Int × Int × Int × Unit) × Int × Unit) × Unit))
  {cs:List (List Int)} (hcs:∀ c ∈ cs,(∀ x ∈ c,ZB x) ∧ c.length ≤ 512) (hn:cs.length ≤ 16) (hk:600 < k) {m:Int} (hm:m = 0 ∨ m = 1) (p:Int) (l:List Int) (o:Int) (B:Xq) :
  ZbE k L1 L2 (UI cs.length,(0:Int),cs,m,p,l,o,true,B.1,B.2.1,B.2.2.1,B.2.2.2,m,p,(6:Int),[],0,0,0) =
   L2 (m + 1,p,l,o,if (Qu m cs [] 6).2.2 = true ∧ (B.2.2.1 < 0 ∨ (Qu m cs [] 6).2.1 < B.2.2.1) then (m,p,(Qu m cs [] 6).2.1,(Qu m cs [] 6).1,0,0,0) else (B.1,B.2.1,B.2.2.1,B.2.2.2,0,0,0)):=by
 have hm1:Jx.wrap (m + 1) = m + 1:=by rcases hm with rfl | rfl <;> rfl
 have:=ZC (A:=Int × List Prt) (R:=(Int × Int × List (Int × Int × Int × Unit) × Int × Unit) × Unit) (step:=fun L3 => ZaJ k L1 L2 L3)
  (fun i a => (UI cs.length,UI i,cs,m,p,l,o,true,B.1,B.2.1,B.2.2.1,B.2.2.2,m,p,a.1,a.2,0,0,0)) cs
  (fun cs' a => L2 (m + 1,p,l,o,if (Qu m cs' a.2 a.1).2.2 = true ∧ (B.2.2.1 < 0 ∨ (Qu m cs' a.2 a.1).2.1 < B.2.2.1) then (m,p,(Qu m cs' a.2 a.1).2.1,(Qu m cs' a.2 a.1).1,0,0,0) else (B.1,B.2.1,B.2.2.1,B.2.2.2,0,0,0)))
  (fun i a => 0 ≤ a.1 ∧ a.1 ≤ 6 + (i:Int) * 8796093022208 ∧ a.2.length = i)
  (fun L a _ => by
   simp only [ZaJ]
   rw [Zr (ZeL _),hm1]
   simp only [cond_true,Qu,true_and]
   grind)
  (fun L i hi a ha hL => by
   simp only [ZaJ]
   obtain ⟨hc1,hc2⟩:=hcs cs[i] (U5 hi)
   rw [Zc (ltR hi),Zc (inR hi),ZQ hi,Zyx k hc1 hc2 (by omega) hm]
   simp only [Qt]
   cases hb:(QR cs[i] m).2 with
   | false =>
    rw [ZhT _ _ _ hb]
    simp_all
   | true =>
    rw [ZeP _ _ _ hb]
    simp only [Hl,cond_false]
    have hs:=(Zcg hb).size hc1 hc2
    have hi16:(i:Int) < 16:=by omega
    have hm01:0 ≤ m ∧ m ≤ 1:=by rcases hm with rfl | rfl <;> omega
    rw [Zc (by grind),ZGM,ZgQ k hm]
    simp only [Qt]
    rw [Q1 hi (by omega),Qk (n:=4 + m + (QR cs[i] m).1.2.2.1) (by omega),Qk (by omega)]
    exact hL (a.1 + (4 + m + (QR cs[i] m).1.2.2.1),a.2 ++ [(QR cs[i] m).1]) ⟨by omega,by push_cast; omega,by simp; omega⟩)
  k 0 ((6:Int),[]) ⟨by omega,by simp,rfl⟩ (by omega) (UU _)
 rw [U9] at this
 exact this
theorem ZxO (k:Nat) (L1:Int × List Int × Int × Int × Int × Int × List (Int × Int × Int × Unit) × Int × Int × Int → Option ((Int × Int × List (Int × Int × Int × Unit) × Int × Unit) × Unit))
  {l:List Int} (hl:∀ x ∈ l,ZB x) {o p:Nat} (hn:l.length + o ≤ 512) (hp:p ≤ 4) (hk:40000 < k) (hf:Zb7 (l.length + o) o p = true) (B:Xq) :
  Zft k L1 ((0:Int),(p:Int),l,(o:Int),B.1,B.2.1,B.2.2.1,B.2.2.2,0,0,0) =
   L1 (((p + 1:Nat):Int),l,(o:Int),(Xm l o p 1 (Xm l o p 0 B)).1,(Xm l o p 1 (Xm l o p 0 B)).2.1,(Xm l o p 1 (Xm l o p 0 B)).2.2.1,(Xm l o p 1 (Xm l o p 0 B)).2.2.2,0,0,0):=by
 have hcs:∀ c ∈ XM l o p,(∀ x ∈ c,ZB x) ∧ c.length ≤ 512:=fun c hc => ⟨fun x hx => hl x (Ku hc x hx),by have:=Zfi hc; omega⟩
 have hlen:(XM l o p).length ≤ 16:=by
  rw [Zfj]
  have:2 ^ p ≤ 2 ^ 4:=Hd (by omega) hp
  omega
 have hcut:=Zm7 k (l:=l) (o:=o) (p:=p) (by omega) (by omega) (by omega) hf
 have one:∀ (j:Nat) (m:Int) (B:Xq),m = 0 ∨ m = 1 → Zn (fun L2 => Yp k (ZbE k L1 L2) L1 L2) (j + 1) (m,(p:Int),l,(o:Int),B.1,B.2.1,B.2.2.1,B.2.2.2,0,0,0) =
   Zn (fun L2 => Yp k (ZbE k L1 L2) L1 L2) j (m + 1,(p:Int),l,(o:Int),(Xm l o p m B).1,(Xm l o p m B).2.1,(Xm l o p m B).2.2.1,(Xm l o p m B).2.2.2,0,0,0):=by
  intro j m B hm
  rw [Ze]
  simp only [Yp]
  rw [Zc (by rcases hm with rfl | rfl <;> omega),hcut]
  simp only [Qt]
  refine (ZtN k L1 _ hcs hlen (by omega) hm (p:Int) l (o:Int) B).trans ?_
  unfold Xm
  split <;> rfl
 obtain ⟨j,rfl⟩:∃ j,k = j + 3:=⟨k - 3,by omega⟩
 show Zn (fun L2 => Yp (j + 3) (ZbE (j + 3) L1 L2) L1 L2) (j + 3) _ = _
 rw [one (j + 2) 0 B (.inl rfl),show (0:Int) + 1 = 1 from rfl,one (j + 1) 1 _ (.inr rfl),Ze]
 simp only [Yp]
 rw [Zr (by omega),Qk (by omega)]
 rfl
theorem Zm6 (k:Nat) {l:List Int} (hl:∀ x ∈ l,ZB x) {o:Nat} (hn:l.length + o ≤ 512) (hk:40000 < k) :
  ZoI k (l,(o:Int),()) = some (((Wq l o).1,(Wq l o).2.1,(Wq l o).2.2.2,(Wq l o).2.2.1,()),()):=by
 show Zdw k (ZiZ k) _ = _
 simp only [Zdw]
 suffices H:∀ (d p m:Nat) (B:Xq),d < m → p + d = 5 → Zn (fun L1 => ZaI k (Zft k L1) L1) m ((p:Int),l,(o:Int),B.1,B.2.1,B.2.2.1,B.2.2.2,0,0,0) =
   some (((XG l o d p B).1,(XG l o d p B).2.1,(XG l o d p B).2.2.2,(XG l o d p B).2.2.1,()),()) from H 5 0 k (0,0,-1,[]) (by omega) rfl
 intro d
 induction d with
 | zero =>
  intro p m B hm hp
  obtain ⟨m,rfl⟩:=Zq hm
  rw [Ze]
  simp only [ZaI]
  rw [Zr (by omega)]
  rfl
 | succ d ih =>
  intro p m B hm hp
  obtain ⟨m,rfl⟩:=Zq (show 0 < m by omega)
  rw [Ze]
  simp only [ZaI]
  have e1:Jx.wrap (UI l.length + (o:Int)) = ((l.length + o:Nat):Int):=by rw [Qk (by simp only [Xb]; omega)]; rfl
  rw [Zc (by omega),e1,ZJO,Znk k (by omega) (by omega)]
  simp only [Qt]
  have e2:Jx.wrap ((p:Int) + 1) = ((p + 1:Nat):Int):=by rw [Qk (by omega)]; rfl
  cases hf:Zb7 (l.length + o) o p with
  | false =>
   simp only [HZ,cond_true]
   rw [e2,ih (p + 1) m B (by omega) (by omega)]
   simp only [XG,Zgl,hf,JJ,if_false]
  | true =>
   simp only [Hl,cond_false]
   rw [ZxO k _ hl hn (by omega) hk hf,ih (p + 1) m _ (by omega) (by omega)]
   simp only [XG,Zgl,hf,if_true]
structure RGood (l:List Int) (o:Nat) (R:Xq) (p:Nat):Prop where
 hp:R.2.1 = (p:Int)
 p4:p ≤ 4
 fit:Zb7 (l.length + o) o p = true
 hm:R.1 = 0 ∨ R.1 = 1
 parts:Qu R.1 (XM l o p) [] 6 = (R.2.2.2,R.2.2.1,true)
theorem ZhU {m:Int} (hm:0 ≤ m):∀ (cs:List (List Int)) (ps:List Prt) (sz:Int),(∀ c ∈ cs,(∀ x ∈ c,ZB x) ∧ c.length ≤ 512) → sz ≤ (Qu m cs ps sz).2.1
 | [],_,_,_ => H0 _
 | c :: cs,ps,sz,h => by
  unfold Qu
  split
  ·rename_i hb
   have h1:=h c (Jm ..)
   have h2:=(Zcg hb).size h1.1 h1.2
   have:=ZhU hm cs (ps ++ [(QR c m).1]) (sz + (4 + m + (QR c m).1.2.2.1)) fun c hc => h c (Jn _ hc)
   omega
  ·exact H0 _
theorem ZlP {l:List Int} {o p:Nat} {m:Int} {B:Xq} (hm:m = 0 ∨ m = 1) (hp:p ≤ 4) (hf:Zb7 (l.length + o) o p = true) (hB:B.2.2.1 < 0 ∨ ∃ q,RGood l o B q) :
  (Xm l o p m B).2.2.1 < 0 ∨ ∃ q,RGood l o (Xm l o p m B) q:=by
 unfold Xm
 split
 ·rename_i hc
  right
  refine ⟨p,rfl,hp,hf,hm,?_⟩
  simp only
  rw [← hc.1]
 ·exact hB
theorem ZuR {l:List Int} {o p:Nat} {B:Xq} (hp:p ≤ 4) (hB:B.2.2.1 < 0 ∨ ∃ q,RGood l o B q):(Zgl l o B p).2.2.1 < 0 ∨ ∃ q,RGood l o (Zgl l o B p) q:=by
 unfold Zgl
 split
 ·rename_i hf
  exact ZlP (.inr rfl) hp hf (ZlP (.inl rfl) hp hf hB)
 ·exact hB
theorem Zfb {l:List Int} {o:Nat}:∀ (d p:Nat) (B:Xq),p + d ≤ 5 → (B.2.2.1 < 0 ∨ ∃ q,RGood l o B q) → (XG l o d p B).2.2.1 < 0 ∨ ∃ q,RGood l o (XG l o d p B) q
 | 0,_,B,_,hB => hB
 | d + 1,p,B,h,hB => Zfb d (p + 1) _ (by omega) (ZuR (by omega) hB)
theorem ZlQ {l:List Int} {o p:Nat} {m:Int} {B:Xq} (hl:∀ x ∈ l,ZB x) (hn:l.length ≤ 512) (hm:0 ≤ m) (hB:0 ≤ B.2.2.1):0 ≤ (Xm l o p m B).2.2.1:=by
 unfold Xm
 split
 ·have:=ZhU hm (XM l o p) [] 6 fun c hc => ⟨fun x hx => hl x (Ku hc x hx),by have:=Zfi hc; omega⟩
  simp only
  omega
 ·exact hB
theorem Zj7 {l:List Int} {o:Nat} (hl:∀ x ∈ l,ZB x) (hn:l.length ≤ 512):∀ (d p:Nat) (B:Xq),0 ≤ B.2.2.1 → 0 ≤ (XG l o d p B).2.2.1
 | 0,_,B,hB => hB
 | d + 1,p,B,hB => Zj7 hl hn d (p + 1) _ (by
  unfold Zgl
  split
  ·exact ZlQ hl hn (by omega) (ZlQ hl hn (by omega) hB)
  ·exact hB)
theorem ZnK {m:Int}:∀ (cs:List (List Int)) (ps:List Prt) (sz:Int),(∀ c ∈ cs,(QR c m).2 = true) → (Qu m cs ps sz).2.2 = true
 | [],_,_,_ => rfl
 | c :: cs,ps,sz,h => by
  unfold Qu
  rw [if_pos (h c (Jm ..))]
  exact ZnK cs _ _ fun c hc => h c (Jn _ hc)
theorem Kb {l:List Int} {o:Nat} (hl:∀ x ∈ l,ZB x) (hn:l.length + o ≤ 512) (ho:o ≤ l.length + o):0 ≤ (Wq l o).2.2.1 ∧ ∃ q,RGood l o (Wq l o) q:=by
 have hnn:0 ≤ (Wq l o).2.2.1:=by
  show 0 ≤ (XG l o 4 1 (Zgl l o (0,0,-1,[]) 0)).2.2.1
  refine Zj7 hl (by omega) 4 1 _ ?_
  unfold Zgl
  have hf:Zb7 (l.length + o) o 0 = true:=by unfold Zb7; simp [Nat.mod_one]
  rw [if_pos hf]
  generalize Xm l o 0 0 (0,0,-1,[]) = B
  by_cases hB:0 ≤ B.2.2.1
  ·exact ZlQ hl (by omega) (by omega) hB
  ·unfold Xm
   have hok:=ZnK (m:=1) (XM l o 0) [] 6 fun c hc => Zto fun x hx => hl x (Ku hc x hx)
   rw [if_pos ⟨hok,.inl (by omega)⟩]
   have:=ZhU (m:=1) (by omega) (XM l o 0) [] 6 fun c hc => ⟨fun x hx => hl x (Ku hc x hx),by have:=Zfi hc; omega⟩
   simp only
   omega
 refine ⟨hnn,?_⟩
 rcases Zfb (l:=l) (o:=o) 5 0 (0,0,-1,[]) (by omega) (.inl (by show (-1:Int) < 0; omega)) with h | h
 ·exact absurd h (by unfold Wq at hnn; omega)
 ·exact h
end Go.Sh
namespace Go.Sh
open Go Go.Proofs
theorem Zyo (k:Nat) {l:List Int} (hl:l.length ≤ 512) {o:Nat} (hk:40000 < k) :
  ZtT k (l,(o:Int),()) = some ((if XI l o = 0 then ((Wq l o).2.2.1,0,()) else (0,XI l o,())),()):=by
 show Zhd k _ = _
 simp only [Zhd]
 rw [Zm5 k l o (by omega) (by omega)]
 simp only [Qt]
 rw [ZR]
 by_cases h:XI l o = 0
 ·rw [Zr (by simpa using h),if_pos h]
  have hc:Zam ((l.length:Int) + o) o = true ∧ l.any Qq = false:=by
   unfold XI at h
   grind
  have hb:=of_decide_eq_true hc.1
  rw [Zm6 k (Yv hc.2) (by omega) hk]
  rfl
 ·rw [Zc h,if_neg h]
theorem Zdc {l:List Int} {o:Nat}:XI l o = 0 ↔ (1 ≤ l.length + o ∧ l.length + o ≤ 512 ∧ o ≤ 8) ∧ l.any Qq = false:=by
 unfold XI
 constructor
 ·intro h
  split at h
  ·omega
  ·split at h
   ·omega
   ·rename_i h1 h2
    split at h
    ·omega
    ·rename_i hw
     have:=of_decide_eq_true (by simpa using h2:Zam ((l.length:Int) + o) o = true)
     exact ⟨by omega,by simpa using hw⟩
 ·rintro ⟨h1,h2⟩
  rw [if_neg (by omega),if_neg,if_neg (by simp [h2])]
  unfold Zam
  rw [dTr (by omega)]
  simp
def YE (kk:Nat) (n:Int):List Bool:=(Jd (ZV n / 2 ^ kk) false ++ [true]) ++ Za (ZV n % 2 ^ kk) kk
def Yc (m:Int) (y:Prt) (c:List Int):List Bool:=if y.1 = (WX m:Int) then c.flatMap (fun n => Wh n y.2.1.toNat) else c.flatMap (YE y.1.toNat)
def W7 (m:Int) (x:List Int × Prt):List Bool:=Za x.2.1.toNat (4 + m.toNat) ++ ((if x.2.1 = (WX m:Int) then Za x.2.2.1.toNat 5 else []) ++ Yc m x.2 x.1)
def Zc8 (l:List Int) (o:Nat) (R:Xq):List Bool:=(Za R.1.toNat 2 ++ Za R.2.1.toNat 4) ++ ((XM l o R.2.1.toNat).zip R.2.2.2).flatMap (W7 R.1)
def WQ (l:List Int) (o:Nat):List Bool:=Zc8 l o (Wq l o)
theorem Zc5 (kk:Nat) (n:Int):(YE kk n).length = ZV n / 2 ^ kk + 1 + kk:=by
 simp [YE,Zk]
 omega
theorem Zr4 (k:Nat) (L1:Int × Int × List (List Int) × Int × List Int × Int × Int × List (Int × Int × Int × Unit) × Int → Option (Int × (List Int × Int × Unit) × Unit))
  {c:List Int} (hc:∀ x ∈ c,ZB x) (hn:c.length ≤ 512) (hk:70000 < k) {m:Int} (hm:m = 0 ∨ m = 1) {y:Prt} (hy:Y1 c m y) (v3 v4:Int) (v5:List (List Int)) (v12:Int) (v13:List Prt) (v14:Int)
  (hv3:0 ≤ v3 ∧ v3 ≤ 65536) (bs:List Bool) (hb:bs.length ≤ 2147483648) :
  ZhF k L1 (UI c.length,(0:Int),c,v3,v4,v5,(bs.length:Int),ZK bs,y.1,y.2.1,y.2.2.1,m,v12,v13,v14) =
   L1 (v4,v3 + 1,v5,((bs ++ Yc m y c).length:Int),ZK (bs ++ Yc m y c),m,v12,v13,v14):=by
 have he:WX m ≤ 31:=by unfold WX; split <;> omega
 have hfin:∀ (g:Int → List Bool),(∀ x ∈ c,(g x).length ≤ 70000) →
   (∀ (L:Int × Int × List Int × Int × Int × List (List Int) × Int × List Int × Int × Int × Int × Int × Int × List (Int × Int × Int × Unit) × Int → Option (Int × (List Int × Int × Unit) × Unit)) (i:Nat) (hi:i < c.length) (a:List Bool),a.length ≤ 2147483648 + i * 70000 →
    Kx k L1 L (UI c.length,UI i,c,v3,v4,v5,(a.length:Int),ZK a,y.1,y.2.1,y.2.2.1,m,v12,v13,v14) =
    L (UI c.length,UI (i + 1),c,v3,v4,v5,((a ++ g c[i]).length:Int),ZK (a ++ g c[i]),y.1,y.2.1,y.2.2.1,m,v12,v13,v14)) →
   ZhF k L1 (UI c.length,(0:Int),c,v3,v4,v5,(bs.length:Int),ZK bs,y.1,y.2.1,y.2.2.1,m,v12,v13,v14) =
   L1 (v4,v3 + 1,v5,((bs ++ c.flatMap g).length:Int),ZK (bs ++ c.flatMap g),m,v12,v13,v14):=by
  intro g hg hstep
  have:=ZC (A:=List Bool) (R:=Int × (List Int × Int × Unit) × Unit) (step:=fun L2 => Kx k L1 L2)
   (fun i a => (UI c.length,UI i,c,v3,v4,v5,(a.length:Int),ZK a,y.1,y.2.1,y.2.2.1,m,v12,v13,v14)) c
   (fun c' a => L1 (v4,v3 + 1,v5,((a ++ c'.flatMap g).length:Int),ZK (a ++ c'.flatMap g),m,v12,v13,v14))
   (fun i a => a.length ≤ 2147483648 + i * 70000)
   (fun L a _ => by
    simp only [Kx]
    rw [Zr (ZeL _),Qk (by omega)]
    simp)
   (fun L i hi a ha hL => by
    grind)
   k 0 bs (by omega) (by omega) (UU _)
  rw [U9] at this
  exact this
 unfold Yc
 rcases hy with ⟨kk,hkk,hfar,rfl⟩ | ⟨hw,rfl⟩
 ·simp only
  rw [if_neg (by omega)]
  have hq:∀ x ∈ c,ZV x / 2 ^ kk ≤ 65536:=by
   intro x hx
   unfold ZiF at hfar
   simp_all
  rw [WV]
  refine hfin (YE kk) (fun x hx => by have:=hq x hx; rw [Zc5]; omega) ?_
  intro L i hi a ha
  have hx:=hc c[i] (U5 hi)
  have hxq:=hq c[i] (U5 hi)
  simp only [Kx]
  rw [Zc (ltR hi),Zc (inR hi),Zw8,ZaL k hm]
  simp only [Qt]
  rw [ZP,Zr (by omega),ZQ hi,ZIN,Znb k hx]
  simp only [Qt]
  have hf32:=Zln hx
  rw [Zc (by omega),Zqz (by omega) (by omega)]
  simp only [WV,U4 (show kk ≤ 64 by omega),ZcP]
  rw [show ((ZK a,((a.length:Nat):Int),()):List Int × Int × Unit) = wst a from rfl,Zr3 k a _ (by omega) hxq (by omega)]
  simp only [Qt]
  rw [Zc (by omega)]
  have hlen:(a ++ (Jd (ZV c[i] / 2 ^ kk) false ++ [true])).length = a.length + (ZV c[i] / 2 ^ kk + 1):=by simp
  rw [QE k (a ++ (Jd (ZV c[i] / 2 ^ kk) false ++ [true])) _ kk (by omega) (by omega) (U7 _ (U2 (by omega))) (by rw [hlen]; omega)]
  simp only [Qt]
  rw [Q1 hi (by omega)]
  unfold YE
  simp only [Ju]
 ·simp only
  rw [if_pos trivial,WV]
  refine hfin (fun n => Wh n (QC c)) (fun x hx => by simp only [Ko]; omega) ?_
  intro L i hi a ha
  have hx:=Zn3 hc c[i] (U5 hi)
  simp only [Kx]
  rw [Zc (ltR hi),Zc (inR hi),Zw8,ZaL k hm]
  simp only [Qt]
  rw [ZP,Zc rfl,ZQ hi]
  rw [show ((ZK a,((a.length:Nat):Int),()):List Int × Int × Unit) = wst a from rfl,Zm4 k a _ (QC c) (by omega) (by omega) hx (by omega)]
  simp only [Qt]
  rw [Q1 hi (by omega)]
theorem Zsr {c:List Int} (hc:∀ x ∈ c,ZB x) (hn:c.length ≤ 512) {m:Int} {y:Prt} (hy:Y1 c m y):(Yc m y c).length ≤ c.length * 70000:=by
 have he:WX m ≤ 31:=by unfold WX; split <;> omega
 have key:∀ (g:Int → List Bool) (l:List Int),(∀ x ∈ l,(g x).length ≤ 70000) → (l.flatMap g).length ≤ l.length * 70000:=by
  intro g l
  induction l with
  | nil => intro _; simp
  | cons a l ih =>
   grind
 unfold Yc
 rcases hy with ⟨kk,hkk,hfar,rfl⟩ | ⟨hw,rfl⟩
 ·simp only
  rw [if_neg (by omega)]
  refine key _ c fun x hx => ?_
  unfold ZiF at hfar
  rw [Uk] at hfar
  have:=hfar x hx
  simp only [decide_eq_true_eq] at this
  rw [Zc5,WV]
  omega
 ·simp only
  rw [if_pos trivial]
  refine key _ c fun x hx => ?_
  rw [Ko,WV]
  omega
def YB (m:Int):List (List Int) → List Prt → Prop
 | [],[] => True
 | c :: cs,y :: ys => Y1 c m y ∧ YB m cs ys
 | _,_ => False
theorem Zc7 {m:Int}:∀ (cs:List (List Int)) (ps:List Prt) (sz:Int),(Qu m cs ps sz).2.2 = true → ∃ ys,(Qu m cs ps sz).1 = ps ++ ys ∧ YB m cs ys ∧ ys = cs.map fun c => (QR c m).1
 | [],ps,sz,_ => ⟨[],by simp [Qu],trivial,rfl⟩
 | c :: cs,ps,sz,h => by
  unfold Qu at h ⊢
  split at h
  ·rename_i hb
   rw [if_pos hb]
   obtain ⟨ys,h1,h2,h3⟩:=Zc7 cs _ _ h
   refine ⟨(QR c m).1 :: ys,by rw [h1]; simp,⟨Zcg hb,h2⟩,by rw [h3]; rfl⟩
  ·cases h
theorem YB.len {m:Int}:∀ {cs:List (List Int)} {ys:List Prt},YB m cs ys → ys.length = cs.length
 | [],[],_ => rfl
 | c :: cs,y :: ys,h => by simp [YB.len h.2]
theorem YB.get {m:Int}:∀ {cs:List (List Int)} {ys:List Prt},YB m cs ys → ∀ (i:Nat) (h1:i < cs.length) (h2:i < ys.length),Y1 cs[i] m ys[i]
 | c :: cs,y :: ys,h,0,_,_ => h.1
 | c :: cs,y :: ys,h,i + 1,h1,h2 => by
  simp only [Em]
  exact YB.get h.2 i (by simpa using h1) (by simpa using h2)
theorem RGood.ys {l:List Int} {o p:Nat} {R:Xq} (h:RGood l o R p):YB R.1 (XM l o p) R.2.2.2:=by
 obtain ⟨ys,h1,h2,_⟩:=Zc7 (m:=R.1) (XM l o p) [] 6 (by rw [h.parts])
 rw [h.parts] at h1
 simp_all
theorem ZlN {c:List Int} {m:Int} (hm:m = 0 ∨ m = 1) {y:Prt} (hy:Y1 c m y):∃ a w:Nat,y.1 = (a:Int) ∧ a < 2 ^ (4 + m.toNat) ∧ y.2.1 = (w:Int) ∧ w ≤ 31:=by
 rcases hy with ⟨kk,hkk,hfar,rfl⟩ | ⟨hw,rfl⟩
 ·refine ⟨kk,0,rfl,?_,rfl,by omega⟩
  rcases hm with rfl | rfl
  ·have:WX 0 = 15:=rfl
   grind
  ·have:WX 1 = 31:=rfl
   grind
 ·refine ⟨WX m,QC c,rfl,?_,rfl,hw⟩
  rcases hm with rfl | rfl <;> decide
theorem Zr5 (k:Nat) {l:List Int} {o:Nat} (hk:70000 < k) (h:XI l o = 0) (bs:List Bool) (hb:bs.length ≤ 1073741824) :
  Zil k (wst bs,l,(o:Int),()) = some (0,wst (bs ++ WQ l o),()):=by
 show ZfQ k (ZpL k) _ = _
 have ⟨h1,h2⟩:=Zdc.1 h
 have hl:=Yv h2
 obtain ⟨hsz,q,hg⟩:=Kb hl (o:=o) (by omega) (by omega)
 simp only [ZfQ]
 rw [Zm5 k l o (by omega) (by omega),h]
 simp only [Qt]
 rw [show ((0:Int) != 0) = false from rfl]
 simp only [cond_false]
 rw [Zm6 k hl (by omega) (by omega)]
 simp only [Qt]
 unfold WQ Zc8
 generalize Wq l o = R at hg hsz
 have hys:=hg.ys
 obtain ⟨m,p,sz,ys⟩:=R
 obtain ⟨hp,p4,hfit,hm,hparts⟩:=hg
 simp only at hp hm hparts hys
 subst hp
 simp only [WV]
 have hmn:m = ((m.toNat:Nat):Int):=by rcases hm with rfl | rfl <;> rfl
 have hm2:m.toNat < 2 ^ 2:=by rcases hm with rfl | rfl <;> decide
 have e1:=QE k bs m.toNat 2 (by omega) (by omega) hm2 (by omega)
 rw [← hmn] at e1
 rw [show ((ZK bs,((bs.length:Nat):Int),()):List Int × Int × Unit) = wst bs from rfl,show (2:Int) = ((2:Nat):Int) from rfl,e1]
 simp only [Qt]
 have hl1:(bs ++ Za m.toNat 2).length = bs.length + 2:=by rw [XH,Zk]
 have e2:=QE k (bs ++ Za m.toNat 2) q 4 (by omega) (by omega) (by omega) (by rw [hl1]; omega)
 rw [show (4:Int) = ((4:Nat):Int) from rfl,e2]
 simp only [Qt]
 rw [Zm7 k (by omega) (by omega) (by omega) hfit]
 simp only [Qt]
 have hcs:∀ c ∈ XM l o q,(∀ x ∈ c,ZB x) ∧ c.length ≤ 512:=fun c hc => ⟨fun x hx => hl x (Ku hc x hx),by have:=Zfi hc; omega⟩
 have hclen:(XM l o q).length ≤ 16:=by
  rw [Zfj]
  have:2 ^ q ≤ 2 ^ 4:=Hd (by omega) p4
  omega
 have hyl:=hys.len
 generalize XM l o q = cs at hcs hclen hys hyl
 have hzl:(cs.zip ys).length = cs.length:=by rw [HU]; omega
 have hl2:(bs ++ Za m.toNat 2 ++ Za q 4).length = bs.length + 6:=by rw [XH,hl1,Zk]
 have:=ZC (A:=List Bool) (R:=Int × (List Int × Int × Unit) × Unit) (step:=fun L1 => ZcM k (ZhF k L1) L1)
  (fun i a => (UI cs.length,UI i,cs,(a.length:Int),ZK a,m,(q:Int),ys,sz)) (cs.zip ys)
  (fun l' a => some (0,wst (a ++ l'.flatMap (W7 m)),()))
  (fun i a => a.length ≤ 1073741900 + i * 35900000)
  (fun L a _ => by
   grind [ZcM])
  (fun L i hi a ha hL => by
   have hi1:i < cs.length:=by omega
   have hi2:i < ys.length:=by omega
   obtain ⟨hc1,hc2⟩:=hcs cs[i] (U5 hi1)
   have hy:=hys.get i hi1 hi2
   have hzi:(cs.zip ys)[i] = (cs[i],ys[i]):=by rw [HT]
   simp only [ZcM]
   rw [Zc (ltR hi1),Zc (inR hi1),Zc (inR hi2),ZGM,ZgQ k hm]
   simp only [Qt]
   rw [ZQ hi1,ZQ hi2]
   obtain ⟨b,w,hb1,hb2,hw1,hw2⟩:=ZlN hm hy
   have hll:=Zsr hc1 hc2 hy
   have e4:(4:Int) + m = ((4 + m.toNat:Nat):Int):=by rcases hm with rfl | rfl <;> rfl
   have hm1:m.toNat ≤ 1:=by rcases hm with rfl | rfl <;> decide
   rw [hb1,hw1,e4,show ((ZK a,((a.length:Nat):Int),()):List Int × Int × Unit) = wst a from rfl,QE k a b (4 + m.toNat) (by omega) (by omega) hb2 (by omega)]
   simp only [Qt]
   rw [Zw8,ZaL k hm]
   simp only [Qt]
   have hla:(a ++ Za b (4 + m.toNat)).length = a.length + (4 + m.toNat):=by rw [XH,Zk]
   have hI:((i:Nat):Int) ≤ 16:=by omega
   have hout:W7 m (cs[i],ys[i]) = Za b (4 + m.toNat) ++ ((if (b:Int) = (WX m:Int) then Za w 5 else []) ++ Yc m ys[i] cs[i]):=by
    unfold W7
    simp only [hb1,hw1,WV]
   rw [hzi,HS,hout,ZP]
   have hnext:UI i + 1 = UI (i + 1):=rfl
   by_cases hesc:(b:Int) = (WX m:Int)
   ·rw [Zc hesc,if_pos hesc]
    have h5:w < 2 ^ 5:=by omega
    rw [show ((5:Int)) = ((5:Nat):Int) from rfl,QE k (a ++ Za b (4 + m.toNat)) w 5 (by omega) (by omega) h5 (by omega)]
    simp only [Qt]
    have hlb:(a ++ Za b (4 + m.toNat) ++ Za w 5).length = a.length + (4 + m.toNat) + 5:=by rw [XH,hla,Zk]
    have:=Zr4 k L hc1 hc2 (by omega) hm hy (UI i) (UI cs.length) cs (q:Int) ys sz (by simp only [Xb]; omega) (a ++ Za b (4 + m.toNat) ++ Za w 5) (by omega)
    grind
   ·rw [Zr hesc,if_neg hesc]
    have:=Zr4 k L hc1 hc2 (by omega) hm hy (UI i) (UI cs.length) cs (q:Int) ys sz (by simp only [Xb]; omega) (a ++ Za b (4 + m.toNat)) (by omega)
    grind)
  k 0 (bs ++ Za m.toNat 2 ++ Za q 4) (by omega) (by omega) (UU _)
 rw [U9] at this
 refine U8 this ?_
 simp
end Go.Sh
namespace Go.Sh
open Go Go.Proofs
theorem Zr7 (k:Nat) (n d:Int):Zwz k (n,d,()) = some (decide (1 ≤ n ∧ n ≤ 512 ∧ 4 ≤ d ∧ d ≤ 25),()):=by
 show Zld k _ = _
 grind [Zld]
theorem Zr8 (k:Nat) (x:Int) {d:Nat} (h1:1 ≤ d) (h2:d ≤ 64):ZwA k (x,(d:Int),()) = some (Xk x d,()):=by
 show Zlg k _ = _
 simp only [Zlg]
 have e1:Jx.wrap ((d:Int) - 1) = ((d - 1:Nat):Int):=by rw [Qk (by omega)]; omega
 rw [e1,ZsO x (by omega)]
 grind
theorem ZxB (k:Nat) (x:Int) {d:Nat} (h1:1 ≤ d) (h2:d ≤ 64):ZtI k (x,((d:Int),()),()) = some (!Xk x d,((d:Int),()),()):=by
 show ZgJ k _ = _
 simp only [ZgJ]
 rw [Zr8 k x h1 h2]
 rfl
theorem ZqZ (k:Nat) (c:List Int) {d:Nat} (h1:1 ≤ d) (h2:d ≤ 64) (hk:c.length < k) (hn:c.length < 4294967296) :
  Zko k (c,(((d:Int),()),()),()) = some (!c.all (Xk · d),((d:Int),()),()):=by
 show Zcl k _ = _
 simp only [Zcl]
 have key:∃ i:Int,Zky k (c,(((d:Int),()),()),()) = some (i,((d:Int),()),()) ∧ (0 ≤ i ↔ c.all (Xk · d) = false):=by
  have:=Wv (A:=Unit) (R:=Int × (Int × Unit) × Unit) (step:=fun L1 => YI k L1) (fun i _ => (UI c.length,UI i,c,(d:Int))) c
   (fun l _ => some (if l.all (Xk · d) then -1 else UI (c.length - l.length + (l.takeWhile (fun x => Xk x d)).length),((d:Int),()),()))
   (fun L _ => by grind [YI])
   (fun L i hi _ hL => by
    simp only [YI]
    rw [Zc (ltR hi),Zc (inR hi),ZQ hi,ZxB k _ h1 h2]
    simp only [Qt]
    have hlen:(UO (i + 1) c).length = c.length - (i + 1):=by simp
    cases hc:Xk c[i] d with
    | true =>
     simp only [Hl,cond_false]
     rw [Q1 hi (by omega),hL ()]
     simp only [UA,hc,UC,Hf,if_true,JF,hlen]
     grind
    | false =>
     simp only [HZ,cond_true,UA,hc,Bool.false_and,JJ,if_false,Hf,JF,hlen,HN]
     congr 3; omega) k 0 () (by omega) (UU _)
  rw [U9] at this
  refine ⟨_,this,?_⟩
  cases c.all (Xk · d) <;> simp
 grind
def ZdZ (s:List Int) (d:Int):Int:=if 1 ≤ s.length ∧ s.length ≤ 512 ∧ 4 ≤ d ∧ d ≤ 25 then (if s.all (Xk · d.toNat) = true then 0 else 12) else 1
theorem ZCz (k:Nat) (s:List Int) (d:Int) (hk:1000 < k):Zwm k (s,d,()) = some (ZdZ s d,()):=by
 show Zk7 k _ = _
 simp only [Zk7]
 rw [Zr7]
 simp only [Qt]
 unfold ZdZ
 by_cases h:1 ≤ s.length ∧ s.length ≤ 512 ∧ 4 ≤ d ∧ d ≤ 25
 ·rw [if_pos h,dTr (by simp only [Xb]; omega)]
  simp only [Hl,cond_false]
  obtain ⟨e,rfl⟩:=Vp (show 0 ≤ d by omega)
  rw [ZqZ k s (by omega) (by omega) (by omega) (by omega),WV]
  grind
 grind
def Kf (x:Int):Nat:=(x % 18446744073709551616).toNat
def Zoe (s:List Int):Nat:=s.foldl (fun v x => v ||| Kf x) 0
def Zv (s:List Int):Nat:=if Zoe s = 0 then 0 else Lib.ctz 64 (Zoe s)
theorem ZwM (x:Int):Kf x < 2 ^ 64:=by unfold Kf; omega
theorem YU (x:Int):(UJ 64 x).toNat = Kf x:=by rw [HY]; rfl
theorem ZnC {n:Nat} (h:n < 2 ^ 64):Kf (Jx.wrap (n:Int)) = n:=by
 unfold Kf
 rw [IntKind.wrap_i64]
 omega
theorem ZlL:∀ (s:List Int) (v:Nat),v < 2 ^ 64 → s.foldl (fun v x => v ||| Kf x) v < 2 ^ 64
 | [],_,h => h
 | x :: s,v,h => ZlL s _ (Ef h (ZwM x))
theorem ZEa (s:List Int):Zoe s < 2 ^ 64:=ZlL s 0 (by decide)
theorem ZxD (k:Nat) (s:List Int) (hk:s.length < k) (hn:s.length < 4294967296):ZtJ k (s,()) = some (((Zv s:Nat):Int),()):=by
 show Zdr k (ZiS k) _ = _
 simp only [Zdr]
 have:=ZC (A:=Nat) (R:=Int × Unit) (step:=fun L1 => ZaF k L1) (fun i v => (UI s.length,UI i,s,Jx.wrap (v:Int))) s
  (fun s' v => some ((((if s'.foldl (fun v x => v ||| Kf x) v = 0 then 0 else Lib.ctz 64 (s'.foldl (fun v x => v ||| Kf x) v)):Nat):Int),()))
  (fun i v => v < 2 ^ 64)
  (fun L v hv => by
   simp only [ZaF]
   rw [Zr (ZeL _),ZP,List.foldl_nil]
   by_cases h0:v = 0
   ·subst h0; rfl
   ·have hne:¬ Jx.wrap (v:Int) = 0:=by
     intro h
     have:=ZnC hv
     rw [h] at this
     exact h0 this.symm
    rw [Zr hne,if_neg h0]
    have hu:UK.wrap (Jx.wrap (v:Int)) = (v:Int):=by
     rw [IntKind.wrap_u64,IntKind.wrap_i64]; omega
    rw [hu]
    show (tzF _).bind _ = _
    unfold tzF
    grind)
  (fun L i hi v hv hL => by
   simp only [ZaF]
   rw [Zc (ltR hi),Zc (inR hi),ZQ hi,Ei,YU,YU,ZnC hv,Q1 hi (by omega),HL]
   exact hL (v ||| Kf s[i]) (Ef hv (ZwM _)))
  k 0 0 (by decide) (by omega) (UU _)
 rw [U9] at this
 exact this
theorem Zsu {a b k:Nat} (h:(a ||| b) % 2 ^ k = 0):a % 2 ^ k = 0 ∧ b % 2 ^ k = 0:=by
 rw [Nat.or_mod_two_pow] at h
 simp_all
theorem Zf5 {k:Nat}:∀ (s:List Int) (v:Nat),(s.foldl (fun v x => v ||| Kf x) v) % 2 ^ k = 0 → v % 2 ^ k = 0 ∧ ∀ x ∈ s,Kf x % 2 ^ k = 0
 | [],v,h => ⟨h,by simp⟩
 | x :: s,v,h => by
  obtain ⟨h1,h2⟩:=Zf5 s _ h
  obtain ⟨h3,h4⟩:=Zsu h1
  simp_all
theorem ZFk {x:Int} {k:Nat} (hk:k ≤ 64) (h:Kf x % 2 ^ k = 0):((2:Int) ^ k) ∣ x:=by
 have:=Zir x k 64 hk
 unfold Kf at h
 simp_all <;> omega
theorem Zs5 {s:List Int} (h:Zoe s ≠ 0):∃ m,Zoe s = 2 ^ Zv s * (2 * m + 1) ∧ Zv s < 64:=by
 unfold Zv Lib.ctz
 rw [if_neg h,if_neg h]
 exact Lib.ctzFrom_spec 64 (Zoe s) (by omega) (ZEa s)
theorem Ze2 {s:List Int}:∀ x ∈ s,((2:Int) ^ Zv s) ∣ x:=by
 intro x hx
 by_cases h:Zoe s = 0
 ·unfold Zv
  rw [if_pos h]
  exact Int.one_dvd _
 ·obtain ⟨m,hm,hlt⟩:=Zs5 h
  have:Zoe s % 2 ^ Zv s = 0:=by rw [hm]; exact Nat.mul_mod_right _ _
  exact ZFk (by omega) ((Zf5 s 0 this).2 x hx)
theorem ZqA:∀ (s:List Int) (v:Nat),v = 0 → (∀ x ∈ s,x = 0) → s.foldl (fun v x => v ||| Kf x) v = 0
 | [],v,h,_ => h
 | x :: s,v,h,hx => by
  refine ZqA s _ ?_ fun y hy => hx y (Jn _ hy)
  rw [h,hx x (Jm ..)]
  rfl
theorem Zbv {s:List Int} {d:Nat} (hd:1 ≤ d) (hs:∀ x ∈ s,Xk x d = true):Zv s < d:=by
 by_cases h:Zoe s = 0
 ·unfold Zv
  rw [if_pos h]
  omega
 ·have:∃ x ∈ s,x ≠ 0:=by
   apply Classical.byContradiction
   intro hc
   refine h (ZqA s 0 rfl fun x hx => ?_)
   grind
  obtain ⟨x,hx,hne⟩:=this
  have h1:=hs x hx
  unfold Xk at h1
  rw [if_neg (by omega),decide_eq_true_eq] at h1
  have h2:=Int.natAbs_dvd_natAbs.2 (Ze2 x hx)
  rw [Int.natAbs_pow] at h2
  have h3:=Nat.le_of_dvd (by omega) h2
  have h4:x.natAbs ≤ 2 ^ (d - 1):=by
   grind
  have h5:2 ^ Zv s ≤ 2 ^ (d - 1):=VI h3 h4
  have:=(Nat.pow_le_pow_iff_right (by omega:1 < 2)).1 h5
  omega
def QM (s:List Int):List Int:=s.map fun x => x.fdiv (2 ^ Zv s)
theorem Kp (s:List Int):(QM s).length = s.length:=by simp [QM]
theorem Zsc {x:Int} {k:Nat} (h:((2:Int) ^ k) ∣ x):x.fdiv (2 ^ k) * 2 ^ k = x:=by
 rw [Ho _ (Int.pow_nonneg (by omega))]
 exact Int.ediv_mul_cancel h
theorem Zzy {x:Int} {d k:Nat} (hk:k < d) (h:((2:Int) ^ k) ∣ x) (hx:Xk x d = true):Xk (x.fdiv (2 ^ k)) (d - k) = true:=by
 have he:=Zsc h
 generalize x.fdiv (2 ^ k) = y at he
 unfold Xk at hx ⊢
 rw [if_neg (by omega),decide_eq_true_eq] at hx
 rw [if_neg (by omega),decide_eq_true_eq]
 have hp:(0:Int) < 2 ^ k:=U6 (by omega)
 have e:(2:Int) ^ (d - 1) = 2 ^ (d - k - 1) * 2 ^ k:=by rw [← Int.pow_add]; congr 1; omega
 rw [e,← he,← Int.neg_mul] at hx
 exact ⟨Int.le_of_mul_le_mul_right hx.1 hp,Int.lt_of_mul_lt_mul_right hx.2 (by omega)⟩
theorem ZeY {s:List Int} {d:Nat} (hd:1 ≤ d) (hs:∀ x ∈ s,Xk x d = true):∀ x ∈ QM s,Xk x (d - Zv s) = true:=by
 intro y hy
 obtain ⟨x,hx,rfl⟩:=VG.1 hy
 exact Zzy (Zbv hd hs) (Ze2 x hx) (hs x hx)
theorem ZuQ {x:Int} {d:Nat} (hd:d ≤ 31) (h:Xk x d = true):ZB x:=by
 unfold Xk at h
 unfold ZB
 split at h
 ·simp_all
 ·rw [decide_eq_true_eq,WP] at h
  have:2 ^ (d - 1) ≤ 2 ^ 30:=Hd (by omega) (by omega)
  omega
end Go.Sh
namespace Go.Sh
open Go Go.Proofs
abbrev WW:=Int × List Int × Int × List Int × Int
def ZlD (s:List Int) (d:Nat) (kind:Int) (c:List Int) (sh head:Int):Option WW :=
 if (QB c sh s).2 = 0 then some (kind,c,sh,(QB c sh s).1,head + (c.length:Int) * (d:Int) + (Wq (QB c sh s).1 c.length).2.2.1) else none
def QS (b:Option WW) (x:Option WW):Option WW :=
 match x with
 | none => b
 | some x => match b with
  | none => some x
  | some b => if x.2.2.2.2 < b.2.2.2.2 then some x else some b
abbrev FPl:=Int × Int × Int × List Int × List Int × Int × List Int × Int × Unit
abbrev SPl:=Int × Int × Int × List Int × (List Int × Int × Unit) × List Int × Int × Unit
def Qj (kk d:Int) (s:List Int):Option WW → FPl
 | none => (0,0,0,[],[],0,[],-1,())
 | some (kind,c,sh,r,sz) => (kind,kk,d,s,c,sh,r,sz,())
abbrev ZIx (kk d:Int) (s:List Int) (x:WW):SPl:=(x.1,kk,d,s,(x.2.1,x.2.2.1,()),x.2.2.2.1,x.2.2.2.2,())
def nnC (b:Option WW):Prop := ∀ c,b = some c → 0 ≤ c.2.2.2.2
theorem Zbq {b x:Option WW} (hb:nnC b) (hx:nnC x):nnC (QS b x):=by
 intro c hc
 unfold QS at hc
 match x,b,hc with
 | none,b,hc => exact hb c hc
 | some x,none,hc => exact hx c hc
 | some x,some b,hc =>
  simp only at hc
  split at hc
  ·exact hx c hc
  ·exact hb c hc
theorem Zq4 (k:Nat) (kk d:Int) (s:List Int) (x:WW) (b:Option WW) (hb:nnC b) :
  Zcq k (ZIx kk d s x,true,Qj kk d s b,()) = some ((),Qj kk d s (QS b (some x)),()):=by
 match b with
 | none => rfl
 | some b =>
  have h0:=hb b rfl
  show (bif decide (b.2.2.2.2 < 0) then _ else bif decide (x.2.2.2.2 < b.2.2.2.2) then _ else _) = _
  rw [Zr (by omega)]
  unfold QS
  simp only
  by_cases h:x.2.2.2.2 < b.2.2.2.2
  ·rw [Zc h,if_pos h]; rfl
  ·rw [Zr h,if_neg h]; rfl
theorem Zfc {l:List Int} {o:Nat} (hl:∀ x ∈ l,ZB x) (hn:l.length + o ≤ 512):0 ≤ (Wq l o).2.2.1 ∧ (Wq l o).2.2.1 ≤ 281474976710656:=by
 obtain ⟨h1,q,hg⟩:=Kb hl hn (by omega)
 refine ⟨h1,?_⟩
 have key:∀ (cs:List (List Int)) (ps:List Prt) (sz m:Int),(m = 0 ∨ m = 1) → (∀ c ∈ cs,(∀ x ∈ c,ZB x) ∧ c.length ≤ 512) → (Qu m cs ps sz).2.1 ≤ sz + (cs.length:Int) * 8796093022208:=by
  intro cs
  induction cs with
  | nil => intro ps sz m _ _; simp [Qu]
  | cons c cs ih =>
   intro ps sz m hm h
   cases hb:(QR c m).2 with
   | false => rw [ZhT _ _ _ hb]; simp only [JF]; omega
   | true =>
    rw [ZeP _ _ _ hb]
    have h1:=h c (Jm ..)
    have h2:=(Zcg hb).size h1.1 h1.2
    have:=ih (ps ++ [(QR c m).1]) (sz + (4 + m + (QR c m).1.2.2.1)) m hm fun c hc => h c (Jn _ hc)
    grind
 have:=key (XM l o q) [] 6 _ hg.hm fun c hc => ⟨fun x hx => hl x (Ku hc x hx),by have:=Zfi hc; omega⟩
 rw [hg.parts,Zfj] at this
 have h16:2 ^ q ≤ 2 ^ 4:=Hd (by omega) hg.p4
 grind
theorem Zde {c s:List Int} {sh:Int} (h:(QB c sh s).2 = 0):(QB c sh s).1 = Xp c sh s ∧ c.length ≤ s.length ∧ KE c sh = true:=by
 unfold QB at h ⊢
 grind
theorem YF {c s:List Int} {sh:Int} (h:(QB c sh s).2 = 0) (h1:1 ≤ s.length) (h2:s.length ≤ 512):(QB c sh s).1.length + c.length = s.length ∧ c.length ≤ 8 ∧ XI (QB c sh s).1 (c.length:Nat) = 0:=by
 have hz:=Zde h
 have hlen:(QB c sh s).1.length + c.length = s.length:=by rw [hz.1,Xp,ZlZ]; omega
 have h8:=(Zc1 hz.2.2).1
 refine ⟨hlen,h8,Zdc.2 ⟨⟨by omega,by omega,h8⟩,?_⟩⟩
 rw [Uk]
 intro x hx
 have:=XD c sh s x hx
 unfold ZB at this
 unfold Qq
 simp only [decide_eq_true_eq]
 omega
def ZIs (p:SPl) (kk d:Int) (s:List Int):Option WW → SPl × Bool × Unit
 | none => (p,false,())
 | some x => (ZIx kk d s x,true,())
theorem ZxI (k:Nat) (hk:40000 < k) {s:List Int} (h1:1 ≤ s.length) (h2:s.length ≤ 512) {d:Nat} (hd:d ≤ 25) {head:Int} (hh:0 ≤ head ∧ head ≤ 1000) (kind:Int) (c:List Int) (sh a0 a1 a5:Int) (a4 a6:List Int) (a7:Int) :
  Zku k ((a0,a1,(d:Int),s,(a4,a5,()),a6,a7,()),kind,(c,sh,()),head,()) = some (ZIs (a0,a1,(d:Int),s,(a4,a5,()),a6,a7,()) a1 d s (ZlD s d kind c sh head),()):=by
 show ZgN k _ = _
 simp only [ZgN]
 rw [Zne k c sh s (by omega) (by omega)]
 simp only [Qt]
 rw [ZR]
 unfold ZlD
 by_cases h:(QB c sh s).2 = 0
 ·rw [Zr (by simpa using h),if_pos h]
  obtain ⟨hl,h8,hr⟩:=YF h h1 h2
  have hc:=Zyo k (l:=(QB c sh s).1) (o:=c.length) (by omega) hk
  rw [if_pos hr] at hc
  rw [show UI c.length = ((c.length:Nat):Int) from rfl,hc]
  simp only [Qt]
  rw [show ((0:Int) != 0) = false from rfl]
  simp only [cond_false]
  have hsz:=Zfc (XD c sh s) (o:=c.length) (by omega)
  have hcd:c.length * d ≤ 8 * 25:=J4 h8 hd
  have e1:((c.length:Nat):Int) * (d:Int) = ((c.length * d:Nat):Int):=by push_cast; rfl
  rw [e1,Qk (n:=((c.length * d:Nat):Int)) (by omega),Qk (n:=head + ((c.length * d:Nat):Int)) (by omega),Qk (by omega)]
  rfl
 ·rw [Zc h,if_neg h]
  rfl
theorem Zq0 (k:Nat) {s:List Int} (h1:1 ≤ s.length) (h2:s.length ≤ 512) (hk:1000 < k) (a0 a1 a2 a5 a7:Int) (a4 a6:List Int) :
  Zkp k (s,((a0,a1,a2,s,a4,a5,a6,a7,()),()),()) = some (!s.all (fun x => decide (x = s.headD 0)),(a0,a1,a2,s,a4,a5,a6,a7,()),()):=by
 show Zcm k _ = _
 simp only [Zcm]
 have hhd:s.getD 0 0 = s.headD 0:=by cases s <;> rfl
 have key:∃ i:Int,ZkA k (s,((a0,a1,a2,s,a4,a5,a6,a7,()),()),()) = some (i,(a0,a1,a2,s,a4,a5,a6,a7,()),()) ∧ (0 ≤ i ↔ s.all (fun x => decide (x = s.headD 0)) = false):=by
  have:=Wv (A:=Unit) (R:=Int × FPl × Unit) (step:=fun L1 => YJ k L1) (fun i _ => (UI s.length,UI i,s,a0,a1,a2,s,a4,a5,a6,a7)) s
   (fun l _ => some (if l.all (fun x => decide (x = s.headD 0)) then -1 else UI (s.length - l.length + (l.takeWhile (fun x => decide (x = s.headD 0))).length),(a0,a1,a2,s,a4,a5,a6,a7,()),()))
   (fun L _ => by grind [YJ])
   (fun L i hi _ hL => by
    simp only [YJ]
    have e:ZtK k (s[i],(a0,a1,a2,s,a4,a5,a6,a7,()),()) = some (s[i] != s.headD 0,(a0,a1,a2,s,a4,a5,a6,a7,()),()):=by
     show ZgK k _ = _
     grind [ZgK,Xb]
    rw [Zc (ltR hi),Zc (inR hi),ZQ hi,e]
    simp only [Qt]
    have hlen:(UO (i + 1) s).length = s.length - (i + 1):=by simp
    rw [ZR]
    by_cases hc:s[i] = s.headD 0
    ·rw [Zr (by simpa using hc),Q1 hi (by omega),hL ()]
     simp only [UA,hc,decide_true,UC,Hf,if_true,JF,hlen]
     grind
    ·rw [Zc hc]
     simp only [UA,hc,decide_false,Bool.false_and,JJ,if_false,Hf,JF,hlen,HN]
     congr 3; omega) k 0 () (by omega) (UU _)
  rw [U9] at this
  refine ⟨_,this,?_⟩
  grind
 grind
def ZcT (s:List Int) (d:Nat):Option WW:=if s.all (fun x => decide (x = s.headD 0)) = true then some (0,[],0,[],(d:Int)) else none
def ZFc (s:List Int) (d:Nat) (o:Nat):Option WW:=ZlD s d (8 + (o:Int)) (W5 o) 0 0
def Zb9 (s:List Int) (d:Nat) (o:Nat):Option WW:=if o < s.length then ZlD s d (31 + (o:Int)) (Zai s o) 4 (9 + 12 * (o:Int)) else none
def ZD7 (s:List Int) (d:Nat):Option WW:=some (1,[],0,[],(s.length:Int) * (d:Int))
def ZyY (s:List Int) (d:Nat):Nat → Nat → Option WW → Option WW
 | 0,_,b => b
 | e + 1,o,b => ZyY s d e (o + 1) (QS b (ZFc s d o))
def ZiM (s:List Int) (d:Nat):Option WW :=
 QS (QS (QS (QS (ZyY s d (min 4 s.length + 1) 0 (QS none (ZcT s d))) (Zb9 s d 2)) (Zb9 s d 4)) (Zb9 s d 8)) (ZD7 s d)
theorem ZwO {s:List Int} {d:Nat} {kind:Int} {c:List Int} {sh head:Int} (h1:1 ≤ s.length) (h2:s.length ≤ 512) (hh:0 ≤ head):nnC (ZlD s d kind c sh head):=by
 intro x hx
 unfold ZlD at hx
 split at hx
 ·rename_i h
  obtain rfl:=(VF.inj hx).symm
  obtain ⟨hl,h8,_⟩:=YF h h1 h2
  have:=(Zfc (XD c sh s) (o:=c.length) (by omega)).1
  grind
 ·cases hx
theorem ZwQ:nnC none:=fun _ h => by cases h
theorem ZyW (s:List Int) (d:Nat):nnC (ZcT s d):=by
 intro x hx
 unfold ZcT at hx
 grind
theorem ZwE {s:List Int} {d o:Nat} (h1:1 ≤ s.length) (h2:s.length ≤ 512):nnC (ZFc s d o):=ZwO h1 h2 (H0 _)
theorem Zp1 {s:List Int} {d o:Nat} (h1:1 ≤ s.length) (h2:s.length ≤ 512):nnC (Zb9 s d o):=by
 unfold Zb9
 split
 ·exact ZwO h1 h2 (by omega)
 ·exact ZwQ
theorem ZwF {s:List Int} {d:Nat} (h1:1 ≤ s.length) (h2:s.length ≤ 512):∀ (e o:Nat) (b:Option WW),nnC b → nnC (ZyY s d e o b)
 | 0,_,b,h => h
 | e + 1,o,b,h => ZwF h1 h2 e (o + 1) _ (Zbq h (ZwE h1 h2))
theorem Zn2 (k:Nat) (hk:40000 < k) {s:List Int} (h1:1 ≤ s.length) (h2:s.length ≤ 512) {d:Nat} (hd:d ≤ 25) {head:Int} (hh:0 ≤ head ∧ head ≤ 1000) (kind:Int) (c:List Int) (sh a0 a1 a5:Int) (a4 a6:List Int) (a7:Int) {b:Option WW} (hb:nnC b)
  {R:Type} (K:Unit × FPl × Unit → Option R) :
  ((Zku k ((a0,a1,(d:Int),s,(a4,a5,()),a6,a7,()),kind,(c,sh,()),head,())).bind fun y =>
   (Zcq k ((y.1.1.1,y.1.1.2.1,y.1.1.2.2.1,y.1.1.2.2.2.1,(y.1.1.2.2.2.2.1.1,y.1.1.2.2.2.2.1.2.1,()),y.1.1.2.2.2.2.2.1,y.1.1.2.2.2.2.2.2.1,()),y.1.2.1,((Qj a1 d s b).1,(Qj a1 d s b).2.1,(Qj a1 d s b).2.2.1,(Qj a1 d s b).2.2.2.1,(Qj a1 d s b).2.2.2.2.1,(Qj a1 d s b).2.2.2.2.2.1,(Qj a1 d s b).2.2.2.2.2.2.1,(Qj a1 d s b).2.2.2.2.2.2.2.1,()),())).bind K) =
  K ((),Qj a1 d s (QS b (ZlD s d kind c sh head)),()):=by
 rw [ZxI k hk h1 h2 hd hh]
 simp only [Qt]
 cases hm:ZlD s d kind c sh head with
 | none => rfl
 | some x =>
  have:=Zq4 k a1 d s x b hb
  exact (congrArg (fun z => z.bind K) this).trans rfl
end Go.Sh
namespace Go.Sh
open Go Go.Proofs
theorem Zd {α β:Type} {x:Option α} {a:α} (h:x = some a) (K:α → Option β):x.bind K = K a:=by rw [h]; rfl
theorem ZE9 (k:Nat) (hk:40000 < k) {s:List Int} (h1:1 ≤ s.length) (h2:s.length ≤ 512) {d:Nat} (hd:d ≤ 25) (kk:Int) :
  ∀ (e o j:Nat) (b:Option WW),e < j → o + e ≤ 5 → nnC b →
  Zn (fun L2 => ZcI k (ZhC k) L2) j (((o + e:Nat):Int),(o:Int),UI s.length,(Qj kk d s b).1,(Qj kk d s b).2.1,(Qj kk d s b).2.2.1,(Qj kk d s b).2.2.2.1,(Qj kk d s b).2.2.2.2.1,(Qj kk d s b).2.2.2.2.2.1,(Qj kk d s b).2.2.2.2.2.2.1,(Qj kk d s b).2.2.2.2.2.2.2.1,
    0,kk,(d:Int),s,[],0,[],0,0,kk,(d:Int),0,(d:Int),s,0,0,0,0,0) =
   (fun b => ZhC k ((0:Int),(2:Int),(4:Int),(8:Int),UI s.length,0,kk,(d:Int),s,[],0,[],0,(Qj kk d s b).1,(Qj kk d s b).2.1,(Qj kk d s b).2.2.1,(Qj kk d s b).2.2.2.1,(Qj kk d s b).2.2.2.2.1,(Qj kk d s b).2.2.2.2.2.1,(Qj kk d s b).2.2.2.2.2.2.1,(Qj kk d s b).2.2.2.2.2.2.2.1,
    0,kk,(d:Int),0,(d:Int),s,0,0,0,0,0)) (ZyY s d e o b):=by
 intro e
 induction e with
 | zero =>
  intro o j b hj ho hb
  obtain ⟨j,rfl⟩:=Zq hj
  rw [Ze]
  simp only [ZcI]
  rw [Zr (by omega)]
  rfl
 | succ e ih =>
  intro o j b hj ho hb
  obtain ⟨j,rfl⟩:=Zq (show 0 < j by omega)
  rw [Ze]
  simp only [ZcI]
  rw [Zc (by omega),ZgM k o (by omega) (by omega)]
  simp only [Qt]
  have e1:Jx.wrap ((8:Int) + (o:Int)) = 8 + (o:Int):=by rw [Qk (by omega)]
  have e2:Jx.wrap ((o:Int) + 1) = ((o + 1:Nat):Int):=by rw [Qk (by omega)]; rfl
  rw [e1,e2]
  refine (Zn2 k hk h1 h2 hd (show (0:Int) ≤ 0 ∧ (0:Int) ≤ 1000 by omega) (8 + (o:Int)) (W5 o) 0 0 kk 0 [] [] 0 hb _).trans ?_
  have:=ih (o + 1) j (QS b (ZFc s d o)) (by omega) (by omega) (Zbq hb (ZwE h1 h2))
  rw [show o + 1 + e = o + (e + 1) by omega] at this
  exact this
theorem ZFa (k:Nat) (hk:40000 < k) {s:List Int} (h1:1 ≤ s.length) (h2:s.length ≤ 512) (hs:∀ x ∈ s,ZB x) {d:Nat} (hd:d ≤ 25) (kk:Int) (b:Option WW) (hb:nnC b) :
  ZhC k ((0:Int),(2:Int),(4:Int),(8:Int),UI s.length,0,kk,(d:Int),s,[],0,[],0,(Qj kk d s b).1,(Qj kk d s b).2.1,(Qj kk d s b).2.2.1,(Qj kk d s b).2.2.2.1,(Qj kk d s b).2.2.2.2.1,(Qj kk d s b).2.2.2.2.2.1,(Qj kk d s b).2.2.2.2.2.2.1,(Qj kk d s b).2.2.2.2.2.2.2.1,
    0,kk,(d:Int),0,(d:Int),s,0,0,0,0,0) =
   (fun b => some (((Qj kk d s b).1,(Qj kk d s b).2.1,(Qj kk d s b).2.2.1,(Qj kk d s b).2.2.2.1,((Qj kk d s b).2.2.2.2.1,(Qj kk d s b).2.2.2.2.2.1,()),(Qj kk d s b).2.2.2.2.2.2.1,(Qj kk d s b).2.2.2.2.2.2.2.1,()),()))
    (QS (QS (QS (QS b (Zb9 s d 2)) (Zb9 s d 4)) (Zb9 s d 8)) (ZD7 s d)):=by
 have one:∀ (j i o:Nat) (b:Option WW),(i = 0 ∧ o = 2 ∨ i = 1 ∧ o = 4 ∨ i = 2 ∧ o = 8) → nnC b →
   Zn (fun L3 => Za7 k L3) (j + 1) ((i:Int),(2:Int),(4:Int),(8:Int),UI s.length,0,kk,(d:Int),s,[],0,[],0,(Qj kk d s b).1,(Qj kk d s b).2.1,(Qj kk d s b).2.2.1,(Qj kk d s b).2.2.2.1,(Qj kk d s b).2.2.2.2.1,(Qj kk d s b).2.2.2.2.2.1,(Qj kk d s b).2.2.2.2.2.2.1,(Qj kk d s b).2.2.2.2.2.2.2.1,
    0,kk,(d:Int),0,(d:Int),s,0,0,0,0,0) =
   (fun b => Zn (fun L3 => Za7 k L3) j (((i + 1:Nat):Int),(2:Int),(4:Int),(8:Int),UI s.length,0,kk,(d:Int),s,[],0,[],0,(Qj kk d s b).1,(Qj kk d s b).2.1,(Qj kk d s b).2.2.1,(Qj kk d s b).2.2.2.1,(Qj kk d s b).2.2.2.2.1,(Qj kk d s b).2.2.2.2.2.1,(Qj kk d s b).2.2.2.2.2.2.1,(Qj kk d s b).2.2.2.2.2.2.2.1,
    0,kk,(d:Int),0,(d:Int),s,0,0,0,0,0)) (QS b (Zb9 s d o)):=by
  intro j i o b hio hb
  rw [Ze]
  simp only [Za7]
  have ho:o = 2 ∨ o = 4 ∨ o = 8:=by omega
  have hg:[(2:Int),4,8].getD ((i:Int)).toNat 0 = (o:Int):=by
   grind
  have e2:Jx.wrap ((i:Int) + 1) = ((i + 1:Nat):Int):=by rw [Qk (by omega)]; rfl
  rw [Zc (by omega),Zc (by omega),hg,e2]
  unfold Zb9
  by_cases hlt:o < s.length
  ·rw [Zc (by simp only [Xb]; omega),if_pos hlt,ZxN k s o ho (by omega) hs (by omega) (by omega)]
   simp only [Qt]
   have e1:Jx.wrap ((31:Int) + (o:Int)) = 31 + (o:Int):=by rw [Qk (by omega)]
   have e3:Jx.wrap ((9:Int) + Jx.wrap ((12:Int) * (o:Int))) = 9 + 12 * (o:Int):=by rw [Qk (n:=12 * (o:Int)) (by omega),Qk (by omega)]
   rw [e1,e3]
   exact Zn2 k hk h1 h2 hd (show (0:Int) ≤ 9 + 12 * (o:Int) ∧ 9 + 12 * (o:Int) ≤ 1000 by omega) (31 + (o:Int)) (Zai s o) 4 0 kk 0 [] [] 0 hb _
  ·rw [Zr (by simp only [Xb]; omega),if_neg hlt]
   rfl
 obtain ⟨j,rfl⟩:∃ j,k = j + 4:=⟨k - 4,by omega⟩
 have nn1:=Zbq hb (Zp1 (o:=2) (d:=d) h1 h2)
 have nn2:=Zbq nn1 (Zp1 (o:=4) (d:=d) h1 h2)
 have nn3:=Zbq nn2 (Zp1 (o:=8) (d:=d) h1 h2)
 refine (one (j + 3) 0 2 b (by omega) hb).trans ((one (j + 2) 1 4 _ (by omega) nn1).trans ((one (j + 1) 2 8 _ (by omega) nn2).trans ?_))
 generalize QS (QS (QS b (Zb9 s d 2)) (Zb9 s d 4)) (Zb9 s d 8) = b3 at nn3
 simp only
 rw [Ze]
 simp only [Za7]
 rw [Zr (by omega)]
 have hmul:s.length * d ≤ 512 * 25:=J4 h2 hd
 have e1:Jx.wrap (UI s.length * (d:Int)) = (s.length:Int) * (d:Int):=by
  have:UI s.length * (d:Int) = ((s.length * d:Nat):Int):=by rfl
  rw [this,Qk (by omega)]; push_cast; rfl
 rw [e1]
 have:=Zq4 (j + 4) kk d s (1,[],0,[],(s.length:Int) * (d:Int)) b3 nn3
 exact Zd this _
theorem ZCG (k:Nat) (hk:40000 < k) {s:List Int} (h1:1 ≤ s.length) (h2:s.length ≤ 512) {d:Nat} (hd1:1 ≤ d) (hd:d ≤ 25) (hs:∀ x ∈ s,Xk x d = true) :
  Zwo k (s,(d:Int),()) = (fun b => some (((Qj (Zv s:Nat) ((d - Zv s:Nat):Int) (QM s) b).1,(Qj (Zv s:Nat) ((d - Zv s:Nat):Int) (QM s) b).2.1,(Qj (Zv s:Nat) ((d - Zv s:Nat):Int) (QM s) b).2.2.1,(Qj (Zv s:Nat) ((d - Zv s:Nat):Int) (QM s) b).2.2.2.1,((Qj (Zv s:Nat) ((d - Zv s:Nat):Int) (QM s) b).2.2.2.2.1,(Qj (Zv s:Nat) ((d - Zv s:Nat):Int) (QM s) b).2.2.2.2.2.1,()),(Qj (Zv s:Nat) ((d - Zv s:Nat):Int) (QM s) b).2.2.2.2.2.2.1,(Qj (Zv s:Nat) ((d - Zv s:Nat):Int) (QM s) b).2.2.2.2.2.2.2.1,()),()))
   (ZiM (QM s) (d - Zv s)):=by
 show ZfN k (ZpE k) _ = _
 simp only [ZfN]
 rw [ZxD k s (by omega) (by omega)]
 simp only [Qt]
 have hw:=Zbv hd1 hs
 have hsg:=ZeY hd1 hs
 have hsl:=Kp s
 have e1:Jx.wrap ((d:Int) - ((Zv s:Nat):Int)) = ((d - Zv s:Nat):Int):=by rw [Qk (by omega)]; omega
 rw [e1]
 generalize hkk:Zv s = kk at hw hsg
 generalize hdd:d - kk = dd at hsg
 have:=ZC (A:=List Int) (R:=SPl × Unit) (step:=fun L1 => YP k (ZhB k) L1)
  (fun i a => (UI s.length,UI i,s,(kk:Int),(0:Int),(kk:Int),(dd:Int),(0:Int),(0:Int),a,(0:Int),(0:Int),(0:Int),(0:Int),(0:Int))) s
  (fun s' a => YP k (ZhB k) (fun _ => none) (UI s.length,UI s.length,s,(kk:Int),(0:Int),(kk:Int),(dd:Int),(0:Int),(0:Int),a ++ s'.map (fun x => x.fdiv (2 ^ kk)),(0:Int),(0:Int),(0:Int),(0:Int),(0:Int)))
  (fun i a => a.length = i)
  (fun L a _ => by
   grind [YP])
  (fun L i hi a ha hL => by
   have key:YP k (ZhB k) L (UI s.length,UI i,s,(kk:Int),(0:Int),(kk:Int),(dd:Int),(0:Int),(0:Int),a,(0:Int),(0:Int),(0:Int),(0:Int),(0:Int)) =
     L (UI s.length,UI (i + 1),s,(kk:Int),(0:Int),(kk:Int),(dd:Int),(0:Int),(0:Int),a ++ [s[i].fdiv (2 ^ kk)],(0:Int),(0:Int),(0:Int),(0:Int),(0:Int)):=by
    simp only [YP]
    rw [Zc (ltR hi),Zc (inR hi),Zc (by omega),Zc (by grind),ZQ hi,WV,U4 (by omega),Q1 hi (by omega)]
   grind)
  k 0 [] rfl (by omega) (UU _)
 rw [U9,VT] at this
 refine U8 this ?_
 have hsh:s.map (fun x => x.fdiv (2 ^ kk)) = QM s:=by unfold QM; rw [hkk]
 rw [hsh]
 generalize QM s = t at hsg hsl
 simp only [YP]
 rw [Zr (ZeL _),Zq0 k (by omega) (by omega) (by omega)]
 simp only [Qt,Bool.not_not]
 have nar:∀ x ∈ t,ZB x:=fun x hx => ZuQ (by omega) (hsg x hx)
 have hfirst:Zcq k (((0:Int),(kk:Int),(dd:Int),t,([],0,()),[],(dd:Int),()),t.all (fun x => decide (x = t.headD 0)),(0,0,0,[],[],0,[],(-1:Int),()),()) = some ((),Qj kk dd t (QS none (ZcT t dd)),()):=by
  unfold ZcT
  cases t.all (fun x => decide (x = t.headD 0)) with
  | false => rfl
  | true => rfl
 rw [hfirst]
 simp only [Qt]
 have e4:Jx.wrap ((if UI t.length < (4:Int) then UI t.length else (4:Int)) + (1:Int)) = ((0 + (min 4 t.length + 1):Nat):Int):=by
  have:(if UI t.length < (4:Int) then UI t.length else (4:Int)) = ((min 4 t.length:Nat):Int):=by
   grind
  rw [this,Qk (by omega)]
  omega
 rw [e4]
 have nn0:nnC (QS none (ZcT t dd)):=Zbq ZwQ (ZyW t dd)
 refine (ZE9 k hk (by omega) (by omega) (show dd ≤ 25 by omega) kk (min 4 t.length + 1) 0 k _ (by omega) (by omega) nn0).trans ?_
 exact ZFa k hk (by omega) (by omega) nar (by omega) kk _ (ZwF (by omega) (by omega) _ _ _ nn0)
end Go.Sh
namespace Go.Sh
open Go Go.Proofs
theorem Wu (w:Nat):∀ c:List Int,(c.flatMap fun n => Wh n w).length = w * c.length
 | [] => rfl
 | a :: c => by rw [HS,XH,Ko,Wu w c,JF,Nat.mul_add,Nat.mul_one]; omega
theorem ZfT (kk:Nat):∀ c:List Int,(c.flatMap (YE kk)).length = Zdf c kk
 | [] => rfl
 | a :: c => by
  rw [HS,XH,Zc5,ZfT kk c]
  unfold Zdf
  simp only [JF,JR,Ze0,Nat.mul_add,Nat.mul_one]
  omega
theorem Zp8 {c:List Int} {m:Int} (hm:m = 0 ∨ m = 1) {y:Prt} (hy:Y1 c m y):((W7 m (c,y)).length:Int) = 4 + m + y.2.2.1:=by
 have hmn:((m.toNat:Nat):Int) = m:=by rcases hm with rfl | rfl <;> rfl
 unfold W7 Yc
 rcases hy with ⟨kk,hkk,hfar,rfl⟩ | ⟨hw,rfl⟩
 ·grind [XH,Zk,HN,WV,ZfT]
 ·simp only
  rw [if_pos trivial,if_pos trivial]
  simp only [XH,Zk,WV,Wu]
  omega
theorem ZnL {m:Int} (hm:m = 0 ∨ m = 1):∀ (cs:List (List Int)) (ps:List Prt) (sz:Int),(Qu m cs ps sz).2.2 = true →
  ((((cs.zip (cs.map fun c => (QR c m).1)).flatMap (W7 m)).length:Nat):Int) = (Qu m cs ps sz).2.1 - sz
 | [],ps,sz,_ => by simp [Qu]
 | c :: cs,ps,sz,h => by
  cases hb:(QR c m).2 with
  | false => rw [ZhT _ _ _ hb] at h; cases h
  | true =>
   rw [ZeP _ _ _ hb] at h ⊢
   have h1:=Zp8 hm (Zcg hb)
   have h2:=ZnL hm cs _ _ h
   simp_all <;> omega
theorem RGood.map {l:List Int} {o p:Nat} {R:Xq} (h:RGood l o R p):R.2.2.2 = (XM l o p).map fun c => (QR c R.1).1:=by
 obtain ⟨ys,h1,h2,h3⟩:=Zc7 (m:=R.1) (XM l o p) [] 6 (by rw [h.parts])
 rw [h.parts] at h1
 simp_all
theorem RGood.len {l:List Int} {o p:Nat} {R:Xq} (h:RGood l o R p):((Zc8 l o R).length:Int) = R.2.2.1:=by
 have h1:=ZnL h.hm (XM l o p) [] 6 (by rw [h.parts])
 rw [h.parts,← h.map] at h1
 unfold Zc8
 rw [h.hp,WV]
 grind [XH,Zk]
theorem Zqh {l:List Int} {o:Nat} (hl:∀ x ∈ l,ZB x) (hn:l.length + o ≤ 512):((WQ l o).length:Int) = (Wq l o).2.2.1:=by
 obtain ⟨_,q,hg⟩:=Kb hl hn (by omega)
 exact hg.len
def Zcc (s:List Int) (d:Nat) (x:WW):Prop :=
 (x = (0,[],0,[],(d:Int)) ∧ s.all (fun x => decide (x = s.headD 0)) = true) ∨ x = (1,[],0,[],(s.length:Int) * (d:Int)) ∨
 (∃ o,o ≤ 4 ∧ o ≤ s.length ∧ ZFc s d o = some x) ∨ (∃ o,(o = 2 ∨ o = 4 ∨ o = 8) ∧ o < s.length ∧ ZlD s d (31 + (o:Int)) (Zai s o) 4 (9 + 12 * (o:Int)) = some x)
def ZmK (s:List Int) (d:Nat) (b:Option WW):Prop := ∀ x,b = some x → Zcc s d x
theorem ZsW {b x:Option WW} {y:WW} (h:QS b x = some y):b = some y ∨ x = some y:=by
 unfold QS at h
 grind
theorem Zbr {s:List Int} {d:Nat} {b x:Option WW} (hb:ZmK s d b) (hx:ZmK s d x):ZmK s d (QS b x):=fun y hy => by
 rcases ZsW hy with h | h
 ·exact hb y h
 ·exact hx y h
theorem ZDX {b x:Option WW}:(∀ y,b = some y → ∃ z,QS b x = some z ∧ z.2.2.2.2 ≤ y.2.2.2.2) ∧ (∀ y,x = some y → ∃ z,QS b x = some z ∧ z.2.2.2.2 ≤ y.2.2.2.2):=by
 unfold QS
 grind
theorem ZwG {s:List Int} {d:Nat}:∀ (e o:Nat) (b:Option WW),o + e ≤ min 4 s.length + 1 → ZmK s d b → ZmK s d (ZyY s d e o b)
 | 0,_,b,_,h => h
 | e + 1,o,b,he,h => ZwG e (o + 1) _ (by omega) (Zbr h fun x hx => .inr (.inr (.inl ⟨o,by omega,by omega,hx⟩)))
theorem Zp2 {s:List Int} {d o:Nat} (ho:o = 2 ∨ o = 4 ∨ o = 8):ZmK s d (Zb9 s d o):=by
 intro x hx
 unfold Zb9 at hx
 split at hx
 ·exact .inr (.inr (.inr ⟨o,ho,by omega,hx⟩))
 ·cases hx
theorem ZtA (s:List Int) (d:Nat):∃ x,ZiM s d = some x ∧ Zcc s d x ∧ x.2.2.2.2 ≤ (s.length:Int) * (d:Int):=by
 obtain ⟨z,h1,h2⟩:=(ZDX (b:=QS (QS (QS (ZyY s d (min 4 s.length + 1) 0 (QS none (ZcT s d))) (Zb9 s d 2)) (Zb9 s d 4)) (Zb9 s d 8)) (x:=ZD7 s d)).2 _ rfl
 refine ⟨z,h1,?_,h2⟩
 refine Zbr (Zbr (Zbr (Zbr (ZwG _ _ _ (by omega) (Zbr (fun x hx => by cases hx) ?_)) (Zp2 (.inl rfl))) (Zp2 (.inr (.inl rfl)))) (Zp2 (.inr (.inr rfl)))) ?_ z h1
 ·intro x hx
  unfold ZcT at hx
  split at hx
  ·rename_i h
   exact .inl ⟨(VF.inj hx).symm,h⟩
  ·cases hx
 ·intro x hx
  exact .inr (.inl (VF.inj hx).symm)
def Xr (s:List Int) (d:Nat) (x:WW):List Bool :=
 if x.1 = 0 then (s.take 1).flatMap (fun n => Wh n d) else if x.1 = 1 then s.flatMap (fun n => Wh n d)
 else (s.take x.2.1.length).flatMap (fun n => Wh n d) ++ ((if 31 < x.1 then Za 11 4 ++ (Za x.2.2.1.toNat 5 ++ x.2.1.flatMap (fun n => Wh n 12)) else []) ++ WQ x.2.2.2.1 x.2.1.length)
def Xw (kind:Int) (kk:Nat):List Bool:=Za kind.toNat 7 ++ (if 0 < kk then [true] ++ (Jd (kk - 1) false ++ [true]) else [false])
def Q5 (s:List Int) (d:Nat):List Bool:=match ZiM (QM s) (d - Zv s) with
 | none => []
 | some x => Xw x.1 (Zv s) ++ Xr (QM s) (d - Zv s) x
theorem ZpT (kind:Int) (kk:Nat):(Xw kind kk).length = 8 + kk:=by
 unfold Xw
 rw [XH,Zk]
 split
 ·simp; omega
 ·simp; omega
theorem X0 {s:List Int} {d:Nat} {kind:Int} {c:List Int} {sh head:Int} {x:WW} (h1:1 ≤ s.length) (h2:s.length ≤ 512) (h:ZlD s d kind c sh head = some x) :
  x.1 = kind ∧ x.2.1 = c ∧ x.2.2.1 = sh ∧ x.2.2.2.1 = Xp c sh s ∧ x.2.2.2.2 = head + (c.length:Int) * (d:Int) + ((WQ (Xp c sh s) c.length).length:Int) ∧ XI (Xp c sh s) (c.length:Nat) = 0 ∧ c.length ≤ s.length ∧ c.length ≤ 8 ∧ KE c sh = true ∧
   (QB c sh s).2 = 0:=by
 unfold ZlD at h
 split at h
 ·rename_i hz
  obtain rfl:=(VF.inj h).symm
  obtain ⟨hl,h8,hr⟩:=YF hz h1 h2
  obtain ⟨e1,e2,e3⟩:=Zde hz
  have:=Zqh (XD c sh s) (o:=c.length) (by omega)
  simp_all
 ·cases h
theorem XE (s:List Int) (d j:Nat) (h:j ≤ s.length):((s.take j).flatMap (fun n => Wh n d)).length = d * j:=by
 rw [Wu,Jz,U4 h]
theorem Zll (o:Nat) (h:o ≤ 4):(W5 o).length = o:=by
 obtain rfl | rfl | rfl | rfl | rfl:o = 0 ∨ o = 1 ∨ o = 2 ∨ o = 3 ∨ o = 4:=by omega
 all_goals rfl
theorem Zok {s:List Int} {d:Nat} {x:WW} (h1:1 ≤ s.length) (h2:s.length ≤ 512) (h:Zcc s d x):((Xr s d x).length:Int) = x.2.2.2.2:=by
 unfold Xr
 rcases h with ⟨rfl,_⟩ | rfl | ⟨o,ho,hos,hx⟩ | ⟨o,ho,hos,hx⟩
 ·simp only
  rw [if_pos trivial,XE _ _ _ h1]
  omega
 ·simp only
  rw [if_neg (by omega),if_pos trivial,Wu]
  push_cast
  rw [Int.mul_comm]
 ·obtain ⟨e1,e2,e3,e4,e5,e6,e7,e8,e9,_⟩:=X0 h1 h2 hx
  rw [e1,e2,e3,e4,e5,if_neg (by omega),if_neg (by omega),if_neg (by omega)]
  simp only [XH,HN,XE _ _ _ e7]
  grind
 ·obtain ⟨e1,e2,e3,e4,e5,e6,e7,e8,e9,_⟩:=X0 h1 h2 hx
  have hsl:=(ZeX s o ho).1
  rw [e1,e2,e3,e4,e5,if_neg (by omega),if_neg (by omega),if_pos (by omega)]
  simp only [XH,XE _ _ _ e7,Zk,Wu]
  grind
theorem ZbU (s:List Int) (d:Nat) (h1:1 ≤ s.length) (h2:s.length ≤ 512):∃ x,ZiM (QM s) (d - Zv s) = some x ∧ Zcc (QM s) (d - Zv s) x ∧ Q5 s d = Xw x.1 (Zv s) ++ Xr (QM s) (d - Zv s) x ∧
  ((Q5 s d).length:Int) = 8 + (Zv s:Int) + x.2.2.2.2 ∧ x.2.2.2.2 ≤ (s.length:Int) * ((d - Zv s:Nat):Int):=by
 obtain ⟨x,h3,h4,h5⟩:=ZtA (QM s) (d - Zv s)
 have hb:=Zok (by rw [Kp]; exact h1) (by rw [Kp]; exact h2) h4
 rw [Kp] at h5
 have e:Q5 s d = Xw x.1 (Zv s) ++ Xr (QM s) (d - Zv s) x:=by unfold Q5; rw [h3]
 refine ⟨x,h3,h4,e,?_,h5⟩
 rw [e,XH,ZpT]
 omega
theorem ZsR {s:List Int} {d:Nat} (h1:1 ≤ s.length) (h2:s.length ≤ 512) (hw:Zv s < d):(Q5 s d).length ≤ 8 + s.length * d:=by
 obtain ⟨x,_,_,_,h4,h5⟩:=ZbU s d h1 h2
 have e:(s.length:Int) * ((d - Zv s:Nat):Int) = ((s.length * d - s.length * Zv s:Nat):Int):=by
  rw [← Nat.mul_sub]; push_cast; rfl
 have h6:Zv s ≤ s.length * Zv s:=Eu _ h1
 grind
end Go.Sh
namespace Go.Sh
open Go Go.Proofs
theorem ZcL (k:Nat) {l:List Int} {w:Nat} (hk:10000 < k) (hl:l.length ≤ 8192) (hw:w ≤ 32) (hs:∀ x ∈ l,Xk x w = true) (bs:List Bool) (hb:bs.length ≤ 2147483648) :
  K1 k (wst bs,l,(w:Int),()) = some ((),wst (bs ++ l.flatMap (fun n => Wh n w)),()):=by
 show ZfP k (ZpJ k) _ = _
 simp only [ZfP]
 have:=ZC (A:=List Bool) (R:=Unit × (List Int × Int × Unit) × Unit) (step:=fun L1 => ZcK k L1)
  (fun i a => (UI l.length,UI i,l,(w:Int),(a.length:Int),ZK a)) l
  (fun l' a => some ((),wst (a ++ l'.flatMap (fun n => Wh n w)),()))
  (fun i a => a.length ≤ 2147483648 + i * 32)
  (fun L a _ => by
   grind [ZcK])
  (fun L i hi a ha hL => by
   simp only [ZcK]
   rw [Zc (ltR hi),Zc (inR hi),ZQ hi]
   rw [show ((ZK a,((a.length:Nat):Int),()):List Int × Int × Unit) = wst a from rfl,Zm4 k a _ w (by omega) hw (hs _ (U5 hi)) (by omega)]
   simp only [Qt]
   rw [Q1 hi (by omega),hL (a ++ Wh l[i] w) (by rw [XH,Ko]; omega),HS,Ju])
  k 0 bs (by omega) (by omega) (UU _)
 rw [U9] at this
 exact this
noncomputable def ZfE (k:Nat) (p:SPl) (w:List Int × Int × Unit):Option (Int × (List Int × Int × Unit) × Unit) :=
 bif p.1 == (0:Int) then bif decide ((0:Int) ≤ (0:Int) ∧ (0:Int) ≤ (1:Int) ∧ (1:Int) ≤ UI (UL p.2.2.2.1)) then (K1 k (w,UO (0:Nat) (UN (1:Nat) p.2.2.2.1),p.2.2.1,())).bind fun y => some (0,(y.2.1.1,y.2.1.2.1,()),()) else none
 else bif p.1 == (1:Int) then (K1 k (w,p.2.2.2.1,p.2.2.1,())).bind fun y => some (0,(y.2.1.1,y.2.1.2.1,()),())
 else bif decide ((0:Int) ≤ (0:Int) ∧ (0:Int) ≤ UI (UL p.2.2.2.2.1.1) ∧ UI (UL p.2.2.2.2.1.1) ≤ UI (UL p.2.2.2.1)) then
  (K1 k (w,UO (0:Nat) (UN (UI (UL p.2.2.2.2.1.1)).toNat p.2.2.2.1),p.2.2.1,())).bind fun y_4 =>
   bif decide ((31:Int) < p.1) then (QH k ((y_4.2.1.1,y_4.2.1.2.1,()),11,4,())).bind fun y_5 => (QH k ((y_5.2.1.1,y_5.2.1.2.1,()),p.2.2.2.2.1.2.1,5,())).bind fun y_6 => (K1 k ((y_6.2.1.1,y_6.2.1.2.1,()),p.2.2.2.2.1.1,12,())).bind fun y_7 => (Zil k ((y_7.2.1.1,y_7.2.1.2.1,()),p.2.2.2.2.2.1,UI (UL p.2.2.2.2.1.1),())).bind fun y => some (y.1,(y.2.1.1,y.2.1.2.1,()),())
   else (Zil k ((y_4.2.1.1,y_4.2.1.2.1,()),p.2.2.2.2.2.1,UI (UL p.2.2.2.2.1.1),())).bind fun y => some (y.1,(y.2.1.1,y.2.1.2.1,()),())
 else none
theorem ZyR (k:Nat) (w:List Int × Int × Unit) (s:List Int) (d:Int):Zv8 k (w,s,d,()) =
  (Zwm k (s,d,())).bind fun y => bif y.1 != (0:Int) then some (y.1,w,()) else (Zwo k (s,d,())).bind fun y => (QH k (w,y.1.1,7,())).bind fun y_1 =>
   bif decide ((0:Int) < y.1.2.1) then (QH k ((y_1.2.1.1,y_1.2.1.2.1,()),1,1,())).bind fun y_2 => (Znq k ((y_2.2.1.1,y_2.2.1.2.1,()),Jx.wrap (y.1.2.1 - (1:Int)),())).bind fun y_3 => ZfE k y.1 (y_3.2.1.1,y_3.2.1.2.1,())
   else (QH k ((y_1.2.1.1,y_1.2.1.2.1,()),0,1,())).bind fun y_2 => ZfE k y.1 (y_2.2.1.1,y_2.2.1.2.1,()):=rfl
theorem Zed (k:Nat) (hk:70000 < k) {s:List Int} (h1:1 ≤ s.length) (h2:s.length ≤ 512) {d:Nat} (hd1:1 ≤ d) (hd:d ≤ 25) (hs:∀ x ∈ s,Xk x d = true) {x:WW} (hx:Zcc s d x) (kk:Int) (bs:List Bool) (hb:bs.length ≤ 1000000000) :
  ZfE k (ZIx kk d s x) (wst bs) = some (0,wst (bs ++ Xr s d x),()):=by
 unfold ZfE Xr
 rcases hx with ⟨rfl,_⟩ | rfl | ⟨o,ho,hos,hx⟩ | ⟨o,ho,hos,hx⟩
 ·simp only
  rw [ZP,Zc rfl,Zc (by simp only [Xb]; omega),if_pos trivial,U9]
  rw [ZcL k (by omega) (by rw [Jz]; omega) (by omega) (fun y hy => hs y (JT hy)) bs (by omega)]
  rfl
 ·simp only
  rw [ZP,Zr (by omega),ZP,Zc rfl,if_neg (by omega),if_pos trivial]
  rw [ZcL k (by omega) (by omega) (by omega) hs bs (by omega)]
  rfl
 ·obtain ⟨e1,e2,e3,e4,e5,e6,e7,e8,e9,_⟩:=X0 h1 h2 hx
  obtain ⟨kind,c,sh,r,sz⟩:=x
  simp only at e1 e2 e3 e4 e5
  subst e1; subst e2; subst e3; subst e4
  simp only
  rw [ZP,Zr (by omega),ZP,Zr (by omega),Zc (by simp only [Xb]; omega),if_neg (by omega),if_neg (by omega),if_neg (by omega),U9]
  rw [show (UI (W5 o).length).toNat = (W5 o).length from rfl]
  rw [ZcL k (by omega) (by rw [Jz]; omega) (by omega) (fun y hy => hs y (JT hy)) bs (by omega)]
  simp only [Qt]
  rw [Zr (by omega),show UI (W5 o).length = ((W5 o).length:Nat) from rfl]
  have hlen:=XE s d (W5 o).length e7
  have hmul:d * (W5 o).length ≤ 25 * 8:=J4 hd e8
  refine (Zd (Zr5 k (by omega) e6 (bs ++ (s.take (W5 o).length).flatMap (fun n => Wh n d)) (by rw [XH]; omega)) _).trans ?_
  simp_all
 ·obtain ⟨e1,e2,e3,e4,e5,e6,e7,e8,e9,_⟩:=X0 h1 h2 hx
  obtain ⟨hsl,hsr⟩:=ZeX s o ho
  obtain ⟨kind,c,sh,r,sz⟩:=x
  simp only at e1 e2 e3 e4 e5
  subst e1; subst e2; subst e3; subst e4
  simp only
  rw [ZP,Zr (by omega),ZP,Zr (by omega),Zc (by simp only [Xb]; omega),if_neg (by omega),if_neg (by omega),if_pos (by omega),U9]
  generalize Zai s o = c at hsl hsr e6 e7 e8 e9
  rw [show (UI c.length).toNat = c.length from rfl]
  rw [ZcL k (by omega) (by rw [Jz]; omega) (by omega) (fun y hy => hs y (JT hy)) bs (by omega)]
  simp only [Qt]
  rw [Zc (by omega),show UI c.length = (c.length:Nat) from rfl]
  have hlen:=XE s d c.length e7
  have hmul:d * c.length ≤ 25 * 8:=J4 hd e8
  generalize hW:(s.take c.length).flatMap (fun n => Wh n d) = W at hlen
  have l1:(bs ++ W).length = bs.length + d * c.length:=by rw [XH,hlen]
  refine (Zd (QE k (bs ++ W) 11 4 (by omega) (by omega) (by omega) (by omega)) _).trans ?_
  have l2:(bs ++ W ++ Za 11 4).length = bs.length + d * c.length + 4:=by rw [XH,l1,Zk]
  refine (Zd (QE k (bs ++ W ++ Za 11 4) 4 5 (by omega) (by omega) (by omega) (by omega)) _).trans ?_
  have l3:(bs ++ W ++ Za 11 4 ++ Za 4 5).length = bs.length + d * c.length + 9:=by rw [XH,l2,Zk]
  refine (Zd (ZcL k (l:=c) (w:=12) (by omega) (by omega) (by omega) (fun y hy => by
   have:=hsr y hy
   unfold Xk
   grind) (bs ++ W ++ Za 11 4 ++ Za 4 5) (by omega)) _).trans ?_
  have l4:(bs ++ W ++ Za 11 4 ++ Za 4 5 ++ c.flatMap (fun n => Wh n 12)).length = bs.length + d * c.length + 9 + 12 * c.length:=by rw [XH,l3,Wu]
  refine (Zd (Zr5 k (by omega) e6 (bs ++ W ++ Za 11 4 ++ Za 4 5 ++ c.flatMap (fun n => Wh n 12)) (by omega)) _).trans ?_
  simp_all
theorem Zcc.kind {s:List Int} {d:Nat} {x:WW} (h1:1 ≤ s.length) (h2:s.length ≤ 512) (h:Zcc s d x):∃ n:Nat,x.1 = (n:Int) ∧ n < 2 ^ 7:=by
 rcases h with ⟨rfl,_⟩ | rfl | ⟨o,ho,hos,hx⟩ | ⟨o,ho,hos,hx⟩
 ·exact ⟨0,rfl,by omega⟩
 ·exact ⟨1,rfl,by omega⟩
 ·exact ⟨8 + o,by rw [(X0 h1 h2 hx).1]; omega,by omega⟩
 ·exact ⟨31 + o,by rw [(X0 h1 h2 hx).1]; omega,by omega⟩
theorem Ziz {s:List Int} {d:Nat}:ZdZ s (d:Int) = 0 ↔ (1 ≤ s.length ∧ s.length ≤ 512 ∧ 4 ≤ d ∧ d ≤ 25) ∧ ∀ x ∈ s,Xk x d = true:=by
 unfold ZdZ
 grind
theorem ZBR (k:Nat) (hk:70000 < k) {s:List Int} {d:Nat} (h:ZdZ s (d:Int) = 0) (bs:List Bool) (hb:bs.length ≤ 900000000) :
  Zv8 k (wst bs,s,(d:Int),()) = some (0,wst (bs ++ Q5 s d),()):=by
 obtain ⟨⟨h1,h2,h3,h4⟩,hs⟩:=Ziz.1 h
 rw [ZyR,ZCz k s d (by omega),h]
 simp only [Qt]
 rw [show ((0:Int) != 0) = false from rfl]
 simp only [cond_false]
 rw [ZCG k (by omega) h1 h2 (by omega) h4 hs]
 obtain ⟨x,hx,hok,hsub,hlen,_⟩:=ZbU s d h1 h2
 rw [hx,hsub]
 have hw:=Zbv (by omega) hs
 have hsg:=ZeY (by omega) hs
 have hsl:=Kp s
 generalize Zv s = kk at hw hsg hok ⊢
 generalize QM s = t at hsg hsl hok ⊢
 generalize hdd:d - kk = dd at hsg hok ⊢
 obtain ⟨kn,hk1,hk2⟩:=hok.kind (by omega) (by omega)
 show (QH k (wst bs,x.1,7,())).bind _ = _
 unfold Xw
 rw [hk1,WV]
 refine (Zd (QE k bs kn 7 (by omega) (by omega) hk2 (by omega)) _).trans ?_
 have l1:(bs ++ Za kn 7).length = bs.length + 7:=by rw [XH,Zk]
 show (bif decide ((0:Int) < (kk:Int)) then _ else _) = _
 by_cases h0:0 < kk
 ·rw [Zc (by omega),if_pos h0]
  refine (Zd (QE k (bs ++ Za kn 7) 1 1 (by omega) (by omega) (by omega) (by omega)) _).trans ?_
  have l2:(bs ++ Za kn 7 ++ Za 1 1).length = bs.length + 8:=by rw [XH,l1,Zk]
  show (Znq k (wst (bs ++ Za kn 7 ++ Za 1 1),Jx.wrap ((kk:Int) - 1),())).bind _ = _
  have e1:Jx.wrap ((kk:Int) - 1) = ((kk - 1:Nat):Int):=by rw [Qk (by omega)]; omega
  rw [e1]
  refine (Zd (Zr3 k (bs ++ Za kn 7 ++ Za 1 1) (kk - 1) (by omega) (by omega) (by omega)) _).trans ?_
  have l3:(bs ++ Za kn 7 ++ Za 1 1 ++ (Jd (kk - 1) false ++ [true])).length = bs.length + 8 + kk:=by
   grind
  have:=Zed k hk (by omega) (by omega) (d:=dd) (by omega) (by omega) hsg hok (kk:Int) (bs ++ Za kn 7 ++ Za 1 1 ++ (Jd (kk - 1) false ++ [true])) (by omega)
  refine U8 this ?_
  rw [show Za 1 1 = [true] from rfl]
  simp only [Ju]
 ·rw [Zr (by omega),if_neg h0]
  refine (Zd (QE k (bs ++ Za kn 7) 0 1 (by omega) (by omega) (by omega) (by omega)) _).trans ?_
  have l2:(bs ++ Za kn 7 ++ Za 0 1).length = bs.length + 8:=by rw [XH,l1,Zk]
  have:=Zed k hk (by omega) (by omega) (d:=dd) (by omega) (by omega) hsg hok (kk:Int) (bs ++ Za kn 7 ++ Za 0 1) (by omega)
  refine U8 this ?_
  rw [show Za 0 1 = [false] from rfl]
  simp only [Ju]
end Go.Sh
namespace Go.Sh
open Go Go.Proofs
def Qp (n:Nat):Nat:=if 256 < n then 7 else 6
def Qc (mode num n:Nat):List Bool :=
 Za 16382 14 ++ (Za (Qp n) 6 ++ (Za mode 8 ++ (Za 0 4 ++ ((Qi num).flatMap (fun x => Za x 8) ++ Za (n - 1) (8 * (Qp n - 5))))))
def Qa (mode num n:Nat):List Bool:=Qc mode num n ++ Za (Zd1 (ZK (Qc mode num n))) 8
def Z2 (ls:List (List Int)) (ds:List Int):List Bool:=(ls.zip ds).flatMap fun x => Q5 x.1 x.2.toNat
def Xo (bs:List Bool):List Bool:=bs ++ Jd (Kh bs.length) false
def XL (bs:List Bool):List Bool:=Xo bs ++ Za (Zay (ZK (Xo bs))) 16
def WA (c d r n:Int) (ch:List (List Int)):List Int × Int :=
 if Xn c d r n ch = 0 then (ZK (XL (Qa (Yb ch).2.toNat n.toNat (ch.headD []).length ++ Z2 (Yb ch).1 (Z0 c d (Yb ch).2))),0) else ([],Xn c d r n ch)
theorem Kt {c d r n:Int} {ch:List (List Int)} (h:Xn c d r n ch = 0):(1 ≤ c ∧ c ≤ 2 ∧ 4 ≤ d ∧ d ≤ 24 ∧ 1 ≤ r ∧ r ≤ 655350) ∧ (0 ≤ n ∧ n ≤ 2147483647) ∧ (ch.length:Int) = c ∧
  (∀ l ∈ ch,l.length = (ch.headD []).length ∧ 1 ≤ l.length ∧ l.length ≤ 512) ∧ (∀ l ∈ ch,∀ x ∈ l,Xk x d.toNat = true):=by
 unfold Xn at h
 split at h
 ·omega
 ·rename_i h1
  split at h
  ·omega
  ·rename_i h2
   split at h
   ·omega
   ·rename_i h3
    split at h
    ·omega
    ·rename_i h4
     refine ⟨of_decide_eq_true (by simpa [Zdh] using h1),by omega,by omega,?_,?_⟩
     ·intro l hl
      have h3:ch.all (Zly (ch.headD []).length) = true:=by simpa using h3
      have:=of_decide_eq_true (Vf.1 h3 l hl)
      exact ⟨this.1,by omega,by omega⟩
     grind
theorem Zaj {x:Int} {d:Nat} (hd:d ≤ 24) (h:Xk x d = true):Z5 x:=by
 unfold Xk at h
 unfold Z5
 split at h
 ·simp_all
 ·rw [decide_eq_true_eq,WP] at h
  have:2 ^ (d - 1) ≤ 2 ^ 23:=Hd (by omega) (by omega)
  omega
theorem Zgi {l r:Int} {d:Nat} (h1:1 ≤ d) (hl:Xk l d = true) (hr:Xk r d = true):Xk (l - r) (d + 1) = true ∧ Xk ((l + r) / 2) d = true:=by
 unfold Xk at hl hr ⊢
 rw [if_neg (by omega),decide_eq_true_eq] at hl hr
 rw [if_neg (by omega),decide_eq_true_eq,if_neg (by omega),decide_eq_true_eq]
 have e:(2:Int) ^ (d + 1 - 1) = 2 * 2 ^ (d - 1):=by
  rw [show d + 1 - 1 = (d - 1) + 1 by omega,Int.pow_succ,Int.mul_comm]
 omega
structure LayOk (n d:Nat) (ls:List (List Int)) (ds:List Int):Prop where
 len:ls.length = ds.length
 two:ls.length = 1 ∨ ls.length = 2
 all:∀ (i:Nat) (h1:i < ls.length) (h2:i < ds.length),ls[i].length = n ∧ (ds[i] = (d:Int) ∨ ds[i] = (d:Int) + 1) ∧ ∀ x ∈ ls[i],Xk x ds[i].toNat = true
theorem Zuu {c d r n:Int} {ch:List (List Int)} (h:Xn c d r n ch = 0):LayOk (ch.headD []).length d.toNat (Yb ch).1 (Z0 c d (Yb ch).2) ∧ (∃ m:Nat,(Yb ch).2 = (m:Int) ∧ (m = 0 ∧ c = 1 ∨ c = 2 ∧ (m = 1 ∨ m = 8 ∨ m = 9 ∨ m = 10))) ∧ ((Yb ch).1.headD []).length = (ch.headD []).length:=by
 obtain ⟨hs,hn,hc,hlen,hsg⟩:=Kt h
 obtain ⟨dn,rfl⟩:=Vp (show 0 ≤ d by omega)
 simp only [WV] at hsg ⊢
 match ch,hc,hlen,hsg with
 | [],hc,_,_ => simp at hc; omega
 | [l],hc,hlen,hsg =>
  have hc:c = 1:=by simp at hc; omega
  subst hc
  refine ⟨⟨rfl,.inl rfl,?_⟩,⟨0,rfl,.inl ⟨rfl,rfl⟩⟩,rfl⟩
  intro i h1 h2
  obtain rfl:i = 0:=by simp [Yb] at h1; omega
  exact ⟨rfl,.inl rfl,hsg l (by simp)⟩
 | [l,r'],hc,hlen,hsg =>
  have hc:c = 2:=by simp at hc; omega
  subst hc
  have hr:=(hlen r' (by simp)).1
  simp only [List.headD_cons] at hr
  have hsl:=hsg l (by simp)
  have hsr:=hsg r' (by simp)
  have hmd:=Zex l r'
  show LayOk _ _ [WF (ZW l r') l r',WG (ZW l r') l r'] (Z0 2 dn (if ZW l r' = 0 then 1 else ZW l r')) ∧ _ ∧ _
  refine ⟨?_,?_,(Zdm hr.symm).1⟩
  ·have e:Z0 2 (dn:Int) (if ZW l r' = 0 then 1 else ZW l r') = Z0 2 dn (ZW l r'):=by
    rcases hmd with h | h | h | h <;> rw [h] <;> rfl
   rw [e]
   obtain ⟨la,lb⟩:=Zdm (m:=ZW l r') hr.symm
   have hz:∀ x ∈ l.zip r',Xk x.1 dn = true ∧ Xk x.2 dn = true:=fun x hx => ⟨hsl _ (Vy hx).1,hsr _ (Vy hx).2⟩
   generalize ZW l r' = m at hmd la lb ⊢
   have hA:∀ y ∈ WF m l r',∃ a b,y = apA m a b ∧ Xk a dn = true ∧ Xk b dn = true:=by
    intro y hy
    obtain ⟨x,hx,rfl⟩:=VG.1 hy
    grind
   have hB:∀ y ∈ WG m l r',∃ a b,y = apB m a b ∧ Xk a dn = true ∧ Xk b dn = true:=by
    intro y hy
    obtain ⟨x,hx,rfl⟩:=VG.1 hy
    grind
   have hdn:1 ≤ dn:=by omega
   have eN:((dn:Int) + 1).toNat = dn + 1:=by omega
   rcases hmd with rfl | rfl | rfl | rfl
   ·refine ⟨rfl,.inr rfl,fun i h1 h2 => ?_⟩
    obtain rfl | rfl:i = 0 ∨ i = 1:=by simp at h1; omega
    ·simp_all [apA,Z0]
    simp_all [hr,apB,Z0]
   ·refine ⟨rfl,.inr rfl,fun i h1 h2 => ?_⟩
    obtain rfl | rfl:i = 0 ∨ i = 1:=by simp at h1; omega
    ·simp_all [apA,Z0]
    ·exact ⟨by simpa [hr] using lb,.inr rfl,fun y hy => by obtain ⟨a,b,rfl,ha,hb⟩:=hB y hy; simpa [apB,Z0,eN] using (Zgi hdn ha hb).1⟩
   ·refine ⟨rfl,.inr rfl,fun i h1 h2 => ?_⟩
    obtain rfl | rfl:i = 0 ∨ i = 1:=by simp at h1; omega
    ·exact ⟨la,.inr rfl,fun y hy => by obtain ⟨a,b,rfl,ha,hb⟩:=hA y hy; simpa [apA,Z0,eN] using (Zgi hdn ha hb).1⟩
    simp_all [hr,apB,Z0]
   ·refine ⟨rfl,.inr rfl,fun i h1 h2 => ?_⟩
    obtain rfl | rfl:i = 0 ∨ i = 1:=by simp at h1; omega
    ·exact ⟨la,.inl rfl,fun y hy => by obtain ⟨a,b,rfl,ha,hb⟩:=hA y hy; simpa [apA,Z0] using (Zgi hdn ha hb).2⟩
    ·exact ⟨by simpa [hr] using lb,.inr rfl,fun y hy => by obtain ⟨a,b,rfl,ha,hb⟩:=hB y hy; simpa [apB,Z0,eN] using (Zgi hdn ha hb).1⟩
  ·rcases hmd with h | h | h | h
   ·exact ⟨1,by simp [Yb,h],.inr ⟨rfl,by omega⟩⟩
   ·exact ⟨8,by simp [Yb,h],.inr ⟨rfl,by omega⟩⟩
   ·exact ⟨9,by simp [Yb,h],.inr ⟨rfl,by omega⟩⟩
   ·exact ⟨10,by simp [Yb,h],.inr ⟨rfl,by omega⟩⟩
 | _ :: _ :: _ :: _,hc,_,_ => simp at hc; omega
theorem Zdo:∀ (i n:Nat),(Xs n i).length = i
 | 0,_ => rfl
 | i + 1,n => by simp [Xs,Zdo i]
theorem ZqQ:∀ (i n:Nat),∀ x ∈ Xs n i,x < 256
 | 0,_,x,h => by simp [Xs] at h
 | i + 1,n,x,h => by
  rcases Js.1 h with h | h
  ·exact ZqQ i _ x h
  ·simp at h; omega
theorem ZpZ (n:Nat):1 ≤ KO n ∧ KO n ≤ 7:=by
 unfold KO
 repeat' split
 all_goals omega
theorem ZyV {k m:Nat} (hm:m < 64):ZbJ k m < 256:=by
 unfold ZbJ
 exact Ef (n:=8) (U7 _ (by omega)) (by omega)
theorem ZmS (n:Nat):1 ≤ (Qi n).length ∧ (Qi n).length ≤ 7:=by
 unfold Qi
 have:=ZpZ n
 grind [JF,Zdo]
theorem ZnB {n:Nat} (h:n < 2 ^ 36) (h2:128 ≤ n):2 ≤ KO n ∧ n < 2 ^ XQ (KO n):=by
 obtain ⟨r2,r3,r4,r5,r6,r7⟩:=Zl3
 unfold KO
 grind
theorem ZqN {n:Nat} (h:n < 2 ^ 36):∀ x ∈ Qi n,x < 256:=by
 intro x hx
 unfold Qi at hx
 split at hx
 ·simp at hx; omega
 ·rcases VM.1 hx with rfl | hx
  ·obtain ⟨h1,h2⟩:=ZnB h (by omega)
   exact ZyV (ZeH h1 (ZpZ n).2 h2)
  ·exact ZqQ _ _ x hx
theorem ZdR:∀ l:List Nat,(l.flatMap fun x => Za x 8).length = 8 * l.length
 | [] => rfl
 | a :: l => by rw [HS,XH,Zk,ZdR l,JF]; omega
theorem Zaf (mode num n:Nat):(Qc mode num n).length = 32 + 8 * (Qi num).length + 8 * (Qp n - 5):=by
 unfold Qc
 simp only [XH,Zk,ZdR]
 omega
theorem ZcZ (n:Nat):Qp n = 6 ∨ Qp n = 7:=by unfold Qp; split <;> omega
theorem Zy8 {l:List Nat} {i:Nat} (h:i < (QP l).length):(QP l)[i] = ((l[i]'(by simpa [QP] using h):Nat):Int):=by simp [QP]
theorem ZdV (l:List Nat):(QP l).length = l.length:=by simp [QP]
end Go.Sh
namespace Go.Sh
open Go Go.Proofs
theorem Zj6 {n d:Nat} {ls:List (List Int)} {ds:List Int} (h:LayOk n d ls ds) (hn:1 ≤ n) (hn2:n ≤ 512) (hd1:4 ≤ d) (hd2:d ≤ 24):(Z2 ls ds).length ≤ 30000:=by
 have one:∀ (i:Nat) (h1:i < ls.length) (h2:i < ds.length),(Q5 ls[i] ds[i].toNat).length ≤ 13000:=by
  intro i h1 h2
  obtain ⟨a,b,c⟩:=h.all i h1 h2
  have hw:=Zbv (d:=ds[i].toNat) (by omega) c
  have:=ZsR (s:=ls[i]) (by omega) (by omega) hw
  have hm:ls[i].length * ds[i].toNat ≤ 512 * 25:=J4 (by omega) (by omega)
  omega
 unfold Z2
 have hl:=h.len
 rcases h.two with h2 | h2
 ·match ls,ds,h2,hl,one with
  | [a],[x],_,_,one =>
   have:=one 0 (by simp) (by simp)
   simp at this ⊢
   omega
 ·match ls,ds,h2,hl,one with
  | [a,b],[x,y],_,_,one =>
   have h1:=one 0 (by simp) (by simp)
   have h2:=one 1 (by simp) (by simp)
   simp at h1 h2 ⊢
   omega
theorem Zrw (k:Nat) (hk:100000 < k) {n d:Nat} {ls:List (List Int)} {ds:List Int} (h:LayOk n d ls ds) (hn:1 ≤ n) (hn2:n ≤ 512) (hd1:4 ≤ d) (hd2:d ≤ 24) (bs:List Bool) (hb:bs.length ≤ 200) :
  ZeE k (UI ds.length,(0:Int),ds,ls,(bs.length:Int),ZK bs) = some ((ZK (XL (bs ++ Z2 ls ds)),0,()),()):=by
 have hdl:ds.length ≤ 2:=by have:=h.len; have:=h.two; omega
 have hall:(bs ++ Z2 ls ds).length ≤ 30200:=by have:=Zj6 h hn hn2 hd1 hd2; rw [XH]; omega
 have hpart:∀ i,(bs ++ ((ls.zip ds).take i).flatMap (fun x => Q5 x.1 x.2.toNat)).length ≤ 30200:=by
  intro i
  refine VI ?_ hall
  unfold Z2
  conv => rhs; rw [← List.take_append_drop i (ls.zip ds),Eb]
  simp_all
 have hzl:(ls.zip ds).length = ds.length:=by rw [HU]; have:=h.len; omega
 have hend:∀ L,ZaU k L (UI ds.length,UI ds.length,ds,ls,(((bs ++ Z2 ls ds).length:Nat):Int),ZK (bs ++ Z2 ls ds)) = some ((ZK (XL (bs ++ Z2 ls ds)),0,()),()):=by
  intro L
  generalize bs ++ Z2 ls ds = B at hall
  simp only [ZaU]
  rw [Zr (ZeL _)]
  have hp:Kh B.length < 8:=by unfold Kh; omega
  have hpl:(Xo B).length ≤ 30210:=by unfold Xo; grind
  refine (Zd (ZBT k B (by omega)) _).trans ?_
  refine (Zd (ZkU k (Xo B) (by omega)) _).trans ?_
  have hb16:=Yw (Xo B)
  have hpk:(ZK (Xo B)).length ≤ 4000:=by rw [Z9]; omega
  refine (Zd (ZrQ k (ZK (Xo B)) hb16 (by omega) (by omega)) _).trans ?_
  refine (Zd (QE k (Xo B) (Zay (ZK (Xo B))) 16 (by omega) (by omega) (ZqS hb16) (by omega)) _).trans ?_
  have hcl:(XL B).length ≤ 30300:=by unfold XL; rw [XH,Zk]; omega
  refine (Zd (ZkU k (XL B) (by omega)) _).trans ?_
  rfl
 have:=ZC (A:=List Bool) (R:=(List Int × Int × Unit) × Unit) (step:=fun L2 => ZaU k L2)
  (fun i a => (UI ds.length,UI i,ds,ls,(a.length:Int),ZK a)) (ls.zip ds)
  (fun l' a => some ((ZK (XL (a ++ l'.flatMap fun x => Q5 x.1 x.2.toNat)),0,()),()))
  (fun i a => a = bs ++ ((ls.zip ds).take i).flatMap (fun x => Q5 x.1 x.2.toNat))
  (fun L a ha => by
   rw [HW] at ha
   have:=hend L
   unfold Z2 at this
   simp_all)
  (fun L i hi a ha hL => by
   have h1:i < ls.length:=by have:=h.len; omega
   have h2:i < ds.length:=by omega
   obtain ⟨o1,o2,o3⟩:=h.all i h1 h2
   have hal:a.length ≤ 30200:=by rw [ha]; exact hpart i
   simp only [ZaU]
   rw [Zc (ltR h2),Zc (inR h2),Zc (inR h1),ZQ h1,ZQ h2]
   have hds:ds[i] = ((ds[i].toNat:Nat):Int):=by omega
   have hsc:ZdZ ls[i] ((ds[i].toNat:Nat):Int) = 0:=Ziz.2 ⟨by omega,o3⟩
   have e:=ZBR k (by omega) hsc a (by omega)
   rw [← hds] at e
   refine (Zd e _).trans ?_
   have hzi:(ls.zip ds)[i] = (ls[i],ds[i]):=by rw [HT]
   have hnext:a ++ Q5 ls[i] ds[i].toNat = bs ++ ((ls.zip ds).take (i + 1)).flatMap (fun x => Q5 x.1 x.2.toNat):=by
    rw [ha,Es,VO hi,hzi,Eb]
    simp
   have:=hL (a ++ Q5 ls[i] ds[i].toNat) hnext
   show L (UI ds.length,Jx.wrap (UI i + 1),ds,ls,(((a ++ Q5 ls[i] ds[i].toNat).length:Nat):Int),ZK (a ++ Q5 ls[i] ds[i].toNat)) = _
   rw [Q1 h2 (by omega),this,hzi,HS,Ju])
  k 0 bs (by simp) (by omega) (UU _)
 rw [U9] at this
 exact this
theorem Zrv (k:Nat) (hk:100000 < k) {c d r:Int} {mode num n dn:Nat} (hnum:num < 2 ^ 31) (hd:d = (dn:Int)) {ls:List (List Int)} (hc:c = 1 ∧ mode = 0 ∨ c = 2) (hn:1 ≤ n) (hn2:n ≤ 512) (hd1:4 ≤ dn) (hd2:dn ≤ 24)
  (h:LayOk n dn ls (Z0 c d (mode:Int))) (bs:List Bool) (hb:bs = Za 16382 14 ++ (Za (Qp n) 6 ++ (Za mode 8 ++ Za 0 4))) :
  Zhe k (UI (QP (Qi num)).length,(0:Int),QP (Qi num),(n:Int),((Qp n:Nat):Int),(mode:Int),ls,(bs.length:Int),ZK bs,c,d,r) =
   some ((ZK (XL (Qa mode num n ++ Z2 ls (Z0 c d (mode:Int)))),0,()),()):=by
 have hbl:bs.length = 32:=by grind [XH,Zk]
 have hcl:=ZmS num
 have hlt:=ZqN (n:=num) (by omega)
 have hkn:=ZcZ n
 have:=ZC (A:=List Bool) (R:=(List Int × Int × Unit) × Unit) (step:=fun L1 => YN k (ZeE k) L1)
  (fun i a => (UI (QP (Qi num)).length,UI i,QP (Qi num),(n:Int),((Qp n:Nat):Int),(mode:Int),ls,(a.length:Int),ZK a,c,d,r)) (Qi num)
  (fun l' a => YN k (ZeE k) (fun _ => none) (UI (Qi num).length,UI (Qi num).length,QP (Qi num),(n:Int),((Qp n:Nat):Int),(mode:Int),ls,(((a ++ l'.flatMap fun x => Za x 8).length:Nat):Int),ZK (a ++ l'.flatMap fun x => Za x 8),c,d,r))
  (fun i a => a.length ≤ 32 + 8 * i)
  (fun L a ha => by
   rw [ZdV]
   grind [YN])
  (fun L i hi a ha hL => by
   have hi2:i < (QP (Qi num)).length:=by rw [ZdV]; exact hi
   have key:YN k (ZeE k) L (UI (QP (Qi num)).length,UI i,QP (Qi num),(n:Int),((Qp n:Nat):Int),(mode:Int),ls,(a.length:Int),ZK a,c,d,r) =
     L (UI (QP (Qi num)).length,UI (i + 1),QP (Qi num),(n:Int),((Qp n:Nat):Int),(mode:Int),ls,(((a ++ Za (Qi num)[i] 8).length:Nat):Int),ZK (a ++ Za (Qi num)[i] 8),c,d,r):=by
    simp only [YN]
    rw [Zc (ltR hi2),Zc (inR hi2),ZQ hi2,Zy8 hi2]
    have hx:=hlt _ (U5 hi)
    have hil:=ZdV (Qi num)
    rw [Qk (by omega)]
    refine (Zd (QE k a (Qi num)[i] 8 (by omega) (by omega) (by omega) (by omega)) _).trans ?_
    rw [Q1 hi2 (by omega)]
   rw [key,hL _ (by rw [XH,Zk]; omega),HS,Ju])
  k 0 bs (by omega) (by omega) (UU _)
 rw [U9] at this
 refine U8 this ?_
 have hpre:bs ++ (Qi num).flatMap (fun x => Za x 8) ++ Za (n - 1) (8 * (Qp n - 5)) = Qc mode num n:=by
  rw [hb]
  rfl
 have hprel:=Zaf mode num n
 have hB:(bs ++ (Qi num).flatMap (fun x => Za x 8)).length ≤ 100:=by rw [XH,ZdR]; omega
 generalize bs ++ (Qi num).flatMap (fun x => Za x 8) = B at hpre hB
 simp only [YN]
 rw [Zr (ZeL _)]
 have e1:Jx.wrap ((n:Int) - 1) = ((n - 1:Nat):Int):=by rw [Qk (by omega)]; omega
 have e2:Jx.wrap ((8:Int) * Jx.wrap (Jx.wrap (((Qp n:Nat):Int) - (6:Int)) + (1:Int))) = ((8 * (Qp n - 5):Nat):Int):=by
  rcases hkn with h | h <;> rw [h] <;> rfl
 have hw:n - 1 < 2 ^ (8 * (Qp n - 5)):=by
  unfold Qp
  grind
 rw [e1,e2]
 refine (Zd (QE k B (n - 1) (8 * (Qp n - 5)) (by omega) (by omega) hw (by omega)) _).trans ?_
 rw [hpre]
 refine (Zd (ZkU k (Qc mode num n) (by omega)) _).trans ?_
 have hb8:=Yw (Qc mode num n)
 refine (Zd (ZrN k (ZK (Qc mode num n)) hb8 (by rw [Z9]; omega) (by rw [Z9]; omega)) _).trans ?_
 refine (Zd (QE k (Qc mode num n) (Zd1 (ZK (Qc mode num n))) 8 (by omega) (by omega) (Zve hb8) (by omega)) _).trans ?_
 refine (Zd (ZrP k (c:=c) (d:=d) (r:=r) (m:=(mode:Int)) (by omega) (by omega)) _).trans ?_
 exact Zrw k hk h hn hn2 hd1 hd2 (Qa mode num n) (by unfold Qa; rw [XH,Zk]; omega)
theorem Zrx (k:Nat) (hk:100000 < k) (c d r n:Int) (ch:List (List Int)):ZvH k ((c,d,r,()),(n,ch,()),()) = some (((WA c d r n ch).1,(WA c d r n ch).2,()),()):=by
 show Zfv k (Zhe k) _ = _
 simp only [Zfv]
 rw [ZrJ k c d r n ch (by omega)]
 simp only [Qt]
 unfold WA
 rw [ZR]
 by_cases h:Xn c d r n ch = 0
 ·rw [Zr (by simpa using h),if_pos h]
  obtain ⟨hs,hn,hc,hlen,hsg⟩:=Kt h
  obtain ⟨hlay,⟨mode,hm,hmc⟩,hn0⟩:=Zuu h
  have hch:ch.length = 1 ∨ (∃ L R,ch = [L,R] ∧ L.length = R.length ∧ L.length ≤ 8192 ∧ (∀ x ∈ L,Z5 x) ∧ ∀ x ∈ R,Z5 x):=by
   match ch,hc,hlen,hsg with
   | [],hc,_,_ => simp at hc; omega
   | [_],_,_,_ => exact .inl rfl
   | [l,r'],_,hlen,hsg =>
    refine .inr ⟨l,r',rfl,?_,?_,?_,?_⟩
    ·simp_all
    ·have:=(hlen l (by simp)).2.2; omega
    ·exact fun x hx => Zaj (by omega) (hsg l (by simp) x hx)
    ·exact fun x hx => Zaj (by omega) (hsg r' (by simp) x hx)
   | _ :: _ :: _ :: _,hc,_,_ => simp at hc; omega
  refine (Zd (ZBD k n ch (by omega) hch) _).trans ?_
  rw [show ((0:Int) != 0) = false from rfl]
  simp only [cond_false]
  have hbig:∃ l0,(Yb ch).1.getD 0 [] = l0 ∧ l0.length = (ch.headD []).length ∧ 0 < (Yb ch).1.length:=by
   have:=hlay.two
   match hh:(Yb ch).1,this with
   | [],h => simp at h
   | l :: ls,_ => simp_all
  obtain ⟨l0,hl0,hl0n,hpos⟩:=hbig
  rw [Zc (by simp only [Xb]; omega),hl0,hl0n]
  have hn1:1 ≤ (ch.headD []).length ∧ (ch.headD []).length ≤ 512:=by
   obtain ⟨a,b,c⟩:=hlay.all 0 hpos (by rw [← hlay.len]; exact hpos)
   have:0 < ch.length:=by omega
   match ch,this with
   | l :: _,_ => exact (hlen l (by simp)).2
  rw [hm] at hlay ⊢
  obtain ⟨num,hnum⟩:=Vp hn.1
  obtain ⟨dn,hdn⟩:=Vp (show 0 ≤ d by omega)
  subst hnum
  rw [WV,WV]
  have hdt:d.toNat = dn:=by omega
  rw [hdt] at hlay
  have hmode:mode < 2 ^ 8:=by omega
  have e14:(16382:Int) = ((16382:Nat):Int):=rfl
  generalize hN:(ch.headD []).length = N at hn1 hlay
  have l1:(([]:List Bool) ++ Za 16382 14).length = 14:=by rfl
  have fin:∀ kd:Nat,kd = Qp N → ((ZrK k ()).bind fun y_1 => (QH k ((y_1.1.1,y_1.1.2.1,()),16382,14,())).bind fun y_2 => (QH k ((y_2.2.1.1,y_2.2.1.2.1,()),(kd:Int),6,())).bind fun y_3 => (QH k ((y_3.2.1.1,y_3.2.1.2.1,()),(mode:Int),8,())).bind fun y_4 => (QH k ((y_4.2.1.1,y_4.2.1.2.1,()),0,4,())).bind fun y_5 => (ZrL k ((num:Int),())).bind fun y_6 => bif y_6.1.2.1 != (0:Int) then some (([],y_6.1.2.1,()),()) else Zhe k (UI (UL y_6.1.1),(0:Int),y_6.1.1,(N:Int),(kd:Int),(mode:Int),(Yb ch).1,y_5.2.1.2.1,y_5.2.1.1,c,d,r)) =
    some ((ZK (XL (Qa mode num N ++ Z2 (Yb ch).1 (Z0 c d (mode:Int)))),0,()),()):=by
   rintro kd rfl
   have hkn:=ZcZ N
   refine (Zd (ZBF k) _).trans ?_
   refine (Zd (QE k [] 16382 14 (by omega) (by omega) (by omega) (by simp)) _).trans ?_
   refine (Zd (QE k ([] ++ Za 16382 14) (Qp N) 6 (by omega) (by omega) (by omega) (by omega)) _).trans ?_
   have l2:([] ++ Za 16382 14 ++ Za (Qp N) 6).length = 20:=by rw [XH,l1,Zk]
   refine (Zd (QE k ([] ++ Za 16382 14 ++ Za (Qp N) 6) mode 8 (by omega) (by omega) hmode (by omega)) _).trans ?_
   have l3:([] ++ Za 16382 14 ++ Za (Qp N) 6 ++ Za mode 8).length = 28:=by rw [XH,l2,Zk]
   refine (Zd (QE k ([] ++ Za 16382 14 ++ Za (Qp N) 6 ++ Za mode 8) 0 4 (by omega) (by omega) (by omega) (by omega)) _).trans ?_
   refine (Zd (ZBN k (by omega) (n:=num) (by omega)) _).trans ?_
   exact Zrv k hk (by omega) hdn (hmc.elim (fun h => .inl ⟨h.2,h.1⟩) (fun h => .inr h.1)) hn1.1 hn1.2 (by omega) (by omega) hlay _ (by rfl)
  by_cases h256:256 < N
  ·rw [Zc (by simp only [Xb]; omega)]
   exact fin 7 (by unfold Qp; rw [if_pos h256])
  ·rw [Zr (by simp only [Xb]; omega)]
   exact fin 6 (by unfold Qp; rw [if_neg h256])
 ·rw [Zc h,if_neg h]
end Go.Sh
namespace Go.Sh
open Go Go.Proofs
def Qd (b:List Int):List Bool:=b.flatMap fun x => Za x.toNat 8
theorem Qf:∀ b:List Int,(Qd b).length = 8 * b.length
 | [] => rfl
 | a :: b => by
  have:=Qf b
  unfold Qd at this ⊢
  rw [HS,XH,Zk,this,JF]; omega
theorem ZjV (a:Int) (b:List Int):Qd (a :: b) = Za a.toNat 8 ++ Qd b:=by unfold Qd; rw [HS]
theorem Zog (a b:List Int):Qd (a ++ b) = Qd a ++ Qd b:=by unfold Qd; rw [Eb]
theorem ZjW:∀ (b:List Int) (i:Nat),(Qd b).drop (8 * i) = Qd (b.drop i)
 | b,0 => rfl
 | [],i + 1 => by simp [Qd]
 | a :: b,i + 1 => by
  rw [List.drop_succ_cons,ZjV,El,Zk,HV (by rw [Zk]; omega),VT,show 8 * (i + 1) - 8 = 8 * i by omega]
  exact ZjW b i
theorem ZjY (n:Nat):∀ (w i:Nat) (h:i < (Za n w).length),(Za n w)[i] = n.testBit (w - 1 - i)
 | w + 1,0,_ => by simp [Za]
 | w + 1,i + 1,h => by
  simp only [Za,Em]
  rw [ZjY n w i (by simpa [Za] using h)]
  congr 1
  omega
theorem Zgx {b:List Int} {i:Nat} (h:i < 8 * b.length):(Qd b)[i]'(by rw [Qf]; exact h) = (b[i / 8]'(by omega)).toNat.testBit (7 - i % 8):=by
 have h1:i / 8 < b.length:=by omega
 have h2:(Qd b)[i]'(by rw [Qf]; exact h) = (Qd (b.drop (i / 8)))[i % 8]'(by rw [Qf,Vi]; omega):=by
  simp only [← ZjW,List.getElem_drop]
  congr 1
  omega
 rw [h2]
 have h3:b.drop (i / 8) = b[i / 8] :: b.drop (i / 8 + 1):=Ul h1
 simp only [h3,ZjV]
 rw [List.getElem_append_left (by rw [Zk]; omega),ZjY]
def ZL (b:List Int) (r:List Bool):Nat:=8 * b.length - r.length
abbrev YG (b:List Int) (r:List Bool):List Int × Int × Unit:=(b,((ZL b r:Nat):Int),())
def Zf (b:List Int) (r:List Bool):Prop:=r <:+ Qd b
theorem Zf.len {b:List Int} {r:List Bool} (h:Zf b r):r.length ≤ 8 * b.length:=by
 have:=h.length_le
 rwa [Qf] at this
theorem Zf.eq {b:List Int} {r:List Bool} (h:Zf b r):r = (Qd b).drop (ZL b r):=by
 have:=List.suffix_iff_eq_drop.1 h
 unfold ZL
 rwa [Qf] at this
theorem Zf.drop {b:List Int} {r:List Bool} (h:Zf b r) (i:Nat):Zf b (r.drop i):=(List.drop_suffix i r).trans h
theorem Zf.get {b:List Int} {r:List Bool} (h:Zf b r) {i:Nat} (hi:i < r.length):(Qd b)[ZL b r + i]'(by have:=h.len; rw [Qf]; unfold ZL; omega) = r[i]:=by
 have:=h.eq
 grind
theorem ZdX {b:List Int} {r:List Bool} (h:Zf b r) {i:Nat} (hi:i ≤ r.length):ZL b (r.drop i) = ZL b r + i:=by
 have:=h.len
 unfold ZL
 rw [Vi]
 omega
theorem ZsF (b:List Int):Zf b (Qd b):=List.suffix_refl _
theorem ZIV (v:Fin 256) (r:Fin 8):Jx.wrap (UI (UJ 64 (Jx.wrap (Int.fdiv (v.val:Int) ((2:Int) ^ min (7 - r.val) 8))) &&& UJ 64 1).toNat) = if v.val.testBit (7 - r.val) then 1 else 0:=by
 revert v r
 decide +kernel
theorem Zlj (k:Nat) {b:List Int} (hb:ZM b = true) (hn:b.length < 536870912) (at_:Int) {i:Nat} (hi:i < 8 * b.length) :
  Zr9 k ((b,at_,()),(i:Int),()) = some (if (Qd b)[i]'(by rw [Qf]; exact hi) then 1 else 0,(b,at_,()),()):=by
 show Zli k _ = _
 simp only [Zli]
 rw [Zn0,ZGJ,Qk (n:=((i / 8:Nat):Int)) (by omega)]
 have h1:i / 8 < b.length:=by omega
 rw [Zc (by simp only [Xb]; omega)]
 have e1:Jx.wrap ((7:Int) - ((i % 8:Nat):Int)) = ((7 - i % 8:Nat):Int):=by rw [Qk (by omega)]; omega
 rw [e1,Zc (by omega),Zgx hi]
 obtain ⟨x,hx,hxe⟩:=Ks hb h1
 have hg:b.getD (((i / 8:Nat):Int)).toNat 0 = (x:Int):=by rw [WV,K2 h1,hxe]
 rw [hg,hxe,WV,WV]
 have:=ZIV ⟨x,hx⟩ ⟨i % 8,U7 _ (by omega)⟩
 simp only at this
 rw [this]
def W0 (l:List Bool):Nat:=l.foldl (fun a b => 2 * a + b.toNat) 0
theorem KR:∀ (l:List Bool) (a:Nat),l.foldl (fun a b => 2 * a + b.toNat) a = a * 2 ^ l.length + W0 l
 | [],a => by simp [W0]
 | x :: l,a => by
  unfold W0
  rw [HL,HL,KR l (2 * a + x.toNat),KR l (2 * 0 + x.toNat),JF,Hz]
  grind
theorem Zgw:∀ (l:List Bool),W0 l < 2 ^ l.length
 | [] => by simp [W0]
 | x :: l => by
  have:=Zgw l
  unfold W0
  rw [HL,KR,JF,Hz]
  cases x <;> simp <;> omega
theorem Zmr (l m:List Bool):W0 (l ++ m) = W0 l * 2 ^ m.length + W0 m:=by
 unfold W0
 rw [List.foldl_append,KR]
 rfl
theorem Zal (n:Nat):∀ w,W0 (Za n w) = n % 2 ^ w
 | 0 => by simp [Za,W0,Nat.mod_one]
 | w + 1 => by
  have:=Zal n w
  rw [show Za n (w + 1) = [n.testBit w] ++ Za n w from rfl,Zmr,Zk,this,Nat.mod_pow_succ,Nat.testBit_eq_decide_div_mod_eq]
  have h2:n / 2 ^ w % 2 < 2:=U7 _ (by omega)
  generalize n / 2 ^ w % 2 = m at h2
  match m,h2 with
  | 0,_ => simp [W0]
  | 1,_ => simp [W0]; omega
def ZH (w:Nat) (r:List Bool):Nat × Int × List Bool:=if w ≤ r.length then (W0 (r.take w),0,r.drop w) else (0,10,r)
theorem Z1 {b:List Int} {r:List Bool} (h:Zf b r) (w:Nat):Zf b (ZH w r).2.2:=by
 unfold ZH
 split
 ·exact h.drop w
 ·exact h
theorem ZdU (w:Nat) (r:List Bool):(ZH w r).1 < 2 ^ w:=by
 unfold ZH
 split
 ·rename_i h
  have:=Zgw (r.take w)
  simp_all
 ·exact U2 (by omega)
theorem Zx1 (k:Nat) {b:List Int} (hb:ZM b = true) (hn:b.length < 536870912):∀ (w m i v:Nat) (r:List Bool),Zf b r → w ≤ r.length → w < m → i + w ≤ 32 → v < 2 ^ i →
  Zn (fun L1 => ZaM k L1) m (((i + w:Nat):Int),(i:Int),(v:Int),b,((ZL b r:Nat):Int)) = some (((((r.take w).foldl (fun a b => 2 * a + b.toNat) v:Nat):Int),0,()),YG b (r.drop w),()):=by
 intro w
 induction w with
 | zero =>
  intro m i v r hr hw hm hi hv
  obtain ⟨m,rfl⟩:=Zq hm
  rw [Ze]
  grind [ZaM]
 | succ w ih =>
  intro m i v r hr hw hm hi hv
  obtain ⟨m,rfl⟩:=Zq (show 0 < m by omega)
  rw [Ze]
  simp only [ZaM]
  have hl:=hr.len
  have hp:ZL b r < 8 * b.length:=by unfold ZL; omega
  rw [Zc (by omega),Zlj k hb hn _ hp]
  simp only [Qt]
  have hg:=hr.get (i:=0) (by omega)
  simp only [JH] at hg
  rw [hg]
  have hv2:v < 2 ^ 32:=V0 hv (Hd (by omega) (by omega))
  have hcons:r = r[0] :: r.drop 1:=by
   have:=Ul (l:=r) (i:=0) (by omega)
   rwa [U9] at this
  have e1:Jx.wrap (UI (UJ 64 (Jx.wrap ((v:Int) * 2)) ||| UJ 64 (if r[0] = true then 1 else 0)).toNat) = ((2 * v + r[0].toNat:Nat):Int):=by
   have h1:Jx.wrap ((v:Int) * 2) = ((v * 2:Nat):Int):=by rw [Qk (by omega)]; omega
   have h2:(if r[0] = true then (1:Int) else 0) = ((r[0].toNat:Nat):Int):=by cases r[0] <;> rfl
   have hb1:r[0].toNat < 2 ^ 1:=by cases r[0] <;> decide
   rw [h1,h2,orN (by omega) (by omega)]
   have:=HX hb1 v
   rw [He] at this
   rw [show v * 2 = v * 2 ^ 1 from rfl,← this,Qk (by omega)]
   omega
  rw [e1]
  have e2:Jx.wrap ((i:Int) + 1) = ((i + 1:Nat):Int):=by rw [Qk (by omega)]; rfl
  have e3:Jx.wrap (((ZL b r:Nat):Int) + 1) = ((ZL b (r.drop 1):Nat):Int):=by
   rw [ZdX hr (by omega),Qk (by omega)]; rfl
  rw [e2,e3]
  have hp2:2 * v + r[0].toNat < 2 ^ (i + 1):=by
   grind
  have:=ih m (i + 1) (2 * v + r[0].toNat) (r.drop 1) (hr.drop 1) (by rw [Vi]; omega) (by omega) (by omega) hp2
  grind
theorem XX (k:Nat) {b:List Int} (hb:ZM b = true) (hn:b.length < 536870912) {r:List Bool} (hr:Zf b r) {w:Nat} (hw:w ≤ 32) (hk:100 < k) :
  Y3 k (YG b r,(w:Int),()) = some (((((ZH w r).1:Nat):Int),(ZH w r).2.1,()),YG b (ZH w r).2.2,()):=by
 show Zdy k (Zi4 k) _ = _
 simp only [Zdy]
 rw [Zk4 k w hw]
 simp only [Qt,cond_false]
 have hl:=hr.len
 have e1:Zt0 k ((b,((ZL b r:Nat):Int),()),()) = some ((r.length:Int),(b,((ZL b r:Nat):Int),()),()):=by
  show Zhl k _ = _
  simp only [Zhl]
  have:Jx.wrap (Jx.wrap ((8:Int) * UI b.length) - ((ZL b r:Nat):Int)) = (r.length:Int):=by
   unfold ZL
   simp only [Xb]
   rw [Qk (n:=(8:Int) * (b.length:Int)) (by omega),Qk (by omega)]
   omega
  rw [this]
 rw [e1]
 simp only [Qt]
 unfold ZH
 by_cases h:w ≤ r.length
 ·rw [Zr (by omega),if_pos h]
  have:=Zx1 k hb hn w k 0 0 r hr h (by omega) (by omega) (by simp)
  rw [Ub] at this
  exact this
 grind
def ZFG (w v:Nat):Int:=if 0 < w ∧ 2 ^ (w - 1) ≤ v then (v:Int) - 2 ^ w else v
def Wo (w:Nat) (r:List Bool):Int × Int × List Bool:=if w ≤ r.length then (ZFG w (W0 (r.take w)),0,r.drop w) else (0,10,r)
theorem ZbK {b:List Int} {r:List Bool} (h:Zf b r) (w:Nat):Zf b (Wo w r).2.2:=by
 unfold Wo
 split
 ·exact h.drop w
 ·exact h
theorem Znl (k:Nat) {b:List Int} (hb:ZM b = true) (hn:b.length < 536870912) {r:List Bool} (hr:Zf b r) {w:Nat} (hw:w ≤ 32) (hk:100 < k) :
  Zo1 k (YG b r,(w:Int),()) = some (((Wo w r).1,(Wo w r).2.1,()),YG b (Wo w r).2.2,()):=by
 show Zhm k _ = _
 simp only [Zhm]
 rw [XX k hb hn hr hw hk]
 simp only [Qt]
 unfold ZH Wo
 by_cases h:w ≤ r.length
 ·rw [if_pos h,if_pos h]
  simp only
  rw [show ((0:Int) == 0) = true from rfl]
  simp only [cond_true]
  have hlt:=Zgw (r.take w)
  rw [Jz,U4 h] at hlt
  generalize W0 (r.take w) = v at hlt
  unfold ZFG
  by_cases h0:0 < w
  ·have e1:Jx.wrap ((w:Int) - 1) = ((w - 1:Nat):Int):=by rw [Qk (by omega)]; omega
   rw [Zc (by omega),e1,Zc (by omega),WV,U4 (by omega),ZcP,ZP]
   have hpw:2 ^ w = 2 * 2 ^ (w - 1):=by rw [show w = (w - 1) + 1 by omega,Hz,Nat.add_sub_cancel]; omega
   have hq:v / 2 ^ (w - 1) = if 2 ^ (w - 1) ≤ v then 1 else 0:=by
    split
    ·rename_i hle
     rw [Nat.div_eq_iff (U2 (by omega))]
     omega
    simp_all
   rw [hq]
   have h32:2 ^ w ≤ 2 ^ 32:=Hd (by omega) hw
   by_cases hle:2 ^ (w - 1) ≤ v
   ·rw [if_pos hle,Zc (show ((1:Nat):Int) = 1 from rfl),if_pos ⟨h0,hle⟩,Zc (by omega),U4 (by omega:((w:Int)).toNat ≤ 64),WV,Ea,WP]
    generalize 2 ^ w = Q at h32 hlt ⊢
    rw [Qk (n:=(Q:Int)) (by omega),Qk (by omega)]
   grind
  simp_all
 ·rw [if_neg h,if_neg h]
  rfl
end Go.Sh
namespace Go.Sh
open Go Go.Proofs
def Zep:Nat → List Bool → Option (Nat × List Bool)
 | _,[] => none
 | n,true :: r => some (n,r)
 | n,false :: r => Zep (n + 1) r
def unS (r:List Bool):Nat × Int × List Bool:=match Zep 0 r with
 | some (n,r') => (n,0,r')
 | none => (0,10,r)
theorem ZbX:∀ (r:List Bool) (n m:Nat) (r':List Bool),Zep n r = some (m,r') → r' <:+ r ∧ m + 1 + r'.length = n + r.length
 | true :: r,n,m,r',h => by
  grind [Zep,VF.injEq,Prod.mk.injEq]
 | false :: r,n,m,r',h => by
  obtain ⟨h1,h2⟩:=ZbX r (n + 1) m r' h
  grind
theorem Zbt {b:List Int} {r:List Bool} (h:Zf b r):Zf b (unS r).2.2:=by
 unfold unS
 split
 ·rename_i n r' hu
  exact (ZbX r 0 n r' hu).1.trans h
 ·exact h
theorem ZD4 {r:List Bool}:(unS r).1 ≤ r.length:=by
 unfold unS
 split
 ·rename_i n r' hu
  have:=(ZbX r 0 n r' hu).2
  simp only
  omega
 ·exact UU _
theorem Zx7 (k:Nat) {b:List Int} (hb:ZM b = true) (hn:b.length < 536870912) {r0:List Bool} (hr0:Zf b r0):∀ (r:List Bool) (m n:Nat),Zf b r → r.length < m → n + r.length = r0.length →
  Zn (fun L1 => ZaP k L1) m (((ZL b r:Nat):Int),b,((ZL b r0:Nat):Int)) = some (((match Zep n r with | some (n,r') => (n:Int) | none => 0),(match Zep n r with | some (n,r') => 0 | none => 10),()),YG b (match Zep n r with | some (n,r') => r' | none => r0),()):=by
 intro r
 induction r with
 | nil =>
  intro m n hr hm hl
  obtain ⟨m,rfl⟩:=Zq hm
  rw [Ze]
  simp only [ZaP]
  have e1:Jx.wrap ((8:Int) * UI b.length) = ((8 * b.length:Nat):Int):=by simp only [Xb]; rw [Qk (by omega)]; omega
  rw [e1,Zr (by unfold ZL; simp)]
  rfl
 | cons x r ih =>
  intro m n hr hm hl
  obtain ⟨m,rfl⟩:=Zq (show 0 < m by omega)
  rw [Ze]
  simp only [ZaP]
  have e1:Jx.wrap ((8:Int) * UI b.length) = ((8 * b.length:Nat):Int):=by simp only [Xb]; rw [Qk (by omega)]; omega
  have hlen:=hr.len
  have hlen0:=hr0.len
  simp only [JF] at hlen hl hm
  have hp:ZL b (x :: r) < 8 * b.length:=by unfold ZL; simp only [JF]; omega
  rw [e1,Zc (by omega),Zlj k hb hn _ hp]
  simp only [Qt]
  have hg:=hr.get (i:=0) (by simp)
  simp only [JH,Eo] at hg
  rw [hg]
  have e2:Jx.wrap (((ZL b (x :: r):Nat):Int) + 1) = ((ZL b r:Nat):Int):=by
   have:=ZdX hr (i:=1) (by simp)
   rw [List.drop_one,List.tail_cons] at this
   rw [this,Qk (by omega)]; rfl
  have hr':Zf b r:=by have:=hr.drop 1; simp_all
  rw [e2,ZP]
  cases x with
  | true =>
   rw [if_pos rfl,Zc rfl]
   have e3:Jx.wrap (((ZL b (true :: r):Nat):Int) - ((ZL b r0:Nat):Int)) = (n:Int):=by
    unfold ZL at hp ⊢
    simp only [JF] at hp ⊢
    rw [Qk (by omega)]
    omega
   rw [e3]
   rfl
  | false =>
   rw [if_neg (by simp),Zr (by omega)]
   exact ih m (n + 1) hr' (by omega) (by omega)
theorem Znc (k:Nat) {b:List Int} (hb:ZM b = true) (hn:b.length < 536870912) {r:List Bool} (hr:Zf b r) (hk:8 * b.length < k) :
  Zkw k (YG b r,()) = some (((((unS r).1:Nat):Int),(unS r).2.1,()),YG b (unS r).2.2,()):=by
 show ZdA k (Zi8 k) _ = _
 simp only [ZdA]
 have hl:=hr.len
 refine (Zx7 k hb hn hr r k 0 hr (by omega) (by omega)).trans ?_
 unfold unS
 grind
def alS (r:List Bool):Int × List Bool:=if (r.take (r.length % 8)).all (fun x => !x) then (0,r.drop (r.length % 8)) else (2,r)
theorem ZzM {b:List Int} {r:List Bool} (h:Zf b r):Zf b (alS r).2:=by
 unfold alS
 split
 ·exact h.drop _
 ·exact h
theorem up8 {n:Nat} (h:n < 4294967296):Jx.wrap (UI (UJ 64 (Jx.wrap ((n:Int) + 7)) &&& ~~~UJ 64 7).toNat) = (((n + 7) / 8 * 8:Nat):Int):=by
 rw [Qk (n:=(n:Int) + 7) (by omega),show (n:Int) + 7 = ((n + 7:Nat):Int) from rfl]
 have e:(UJ 64 ((n + 7:Nat):Int) &&& ~~~UJ 64 7).toNat = (n + 7) / 8 * 8:=by
  have h1:UJ 64 ((n + 7:Nat):Int) &&& ~~~UJ 64 7 = ((Hj 64 (n + 7)) >>> 3) <<< 3:=by
   rw [BitVec.ofInt_natCast,show ~~~UJ 64 7 = Hj 64 18446744073709551608 from by decide]
   apply BitVec.eq_of_getLsbD_eq
   intro i hi
   simp only [BitVec.getLsbD_and,BitVec.getLsbD_shiftLeft,BitVec.getLsbD_ushiftRight]
   have hm:=(by decide +kernel:∀ j:Fin 64,(Hj 64 18446744073709551608).getLsbD j.val = decide (3 ≤ j.val)) ⟨i,hi⟩
   grind
  simp_all <;> omega
 rw [e,Qk (by simp only [Xb]; omega)]
 rfl
theorem ZB3 (k:Nat) {b:List Int} (hb:ZM b = true) (hn:b.length < 536870912) {r0:List Bool}:∀ (p m:Nat) (r:List Bool),Zf b r → p ≤ r.length → p < m →
  Zn (fun L1 => ZcB k L1) m (((ZL b r:Nat):Int),((ZL b r + p:Nat):Int),b,((ZL b r0:Nat):Int)) = some (if (r.take p).all (fun x => !x) then (0,YG b (r.drop p),()) else (2,YG b r0,())):=by
 intro p
 induction p with
 | zero =>
  intro m r hr hp hm
  obtain ⟨m,rfl⟩:=Zq hm
  rw [Ze]
  grind [ZcB]
 | succ p ih =>
  intro m r hr hp hm
  obtain ⟨m,rfl⟩:=Zq (show 0 < m by omega)
  rw [Ze]
  simp only [ZcB]
  have hlen:=hr.len
  have hpos:ZL b r < 8 * b.length:=by unfold ZL; omega
  rw [Zc (by omega),Zlj k hb hn _ hpos]
  simp only [Qt]
  have hg:=hr.get (i:=0) (by omega)
  simp only [JH] at hg
  rw [hg,ZP]
  have hcons:r = r[0] :: r.drop 1:=by
   have:=Ul (l:=r) (i:=0) (by omega)
   rwa [U9] at this
  have e5:r.take (p + 1) = r[0] :: (r.drop 1).take p:=by
   conv => lhs; rw [hcons]
   rfl
  rw [e5,UA]
  cases hx:r[0] with
  | true =>
   rw [if_pos rfl,Zc rfl]
   simp
  | false =>
   rw [if_neg (by simp),Zr (by omega)]
   have e3:Jx.wrap (((ZL b r:Nat):Int) + 1) = ((ZL b (r.drop 1):Nat):Int):=by
    rw [ZdX hr (by omega),Qk (by omega)]; rfl
   have e4:ZL b r + (p + 1) = ZL b (r.drop 1) + p:=by rw [ZdX hr (by omega)]; omega
   rw [e3,e4,ih m (r.drop 1) (hr.drop 1) (by rw [Vi]; omega) (by omega)]
   grind
theorem ZB4 (k:Nat) {b:List Int} (hb:ZM b = true) (hn:b.length < 536870912) {r:List Bool} (hr:Zf b r) (hk:10 < k) :
  ZB1 k (YG b r,()) = some ((alS r).1,YG b (alS r).2,()):=by
 show ZfG k (Zpl k) _ = _
 simp only [ZfG]
 have hlen:=hr.len
 have hp:ZL b r ≤ 8 * b.length:=by unfold ZL; omega
 rw [up8 (by omega)]
 have e:(ZL b r + 7) / 8 * 8 = ZL b r + r.length % 8:=by unfold ZL; omega
 rw [e]
 refine (ZB3 k hb hn (r.length % 8) k r hr (Ee _ _) (by omega)).trans ?_
 unfold alS
 split <;> rfl
def Zgr (f:Nat):Int:=if f % 2 = 1 then -((f:Int) + 1) / 2 else (f:Int) / 2
theorem ZyO (k:Nat) {f:Nat} (h:f < 4294967296):Zud k ((f:Int),()) = some ((Zgr f,0,()),()):=by
 show Zhu k _ = _
 simp only [Zhu]
 rw [Zr (by omega),Zr (by omega),show (1:Int) = ((1:Nat):Int) from rfl,Zxb (by omega) (by omega),HO,Qk (n:=((f % 2:Nat):Int)) (by omega)]
 have hd:((f:Nat):Int).fdiv 2 = ((f / 2:Nat):Int):=by grind
 rw [hd]
 unfold Zgr
 by_cases h1:f % 2 = 1
 ·rw [if_pos h1,h1,show Jx.wrap ((0:Int) - ((1:Nat):Int)) = -1 from rfl,show UJ 64 (-1) = Eg 64 from by decide,Ej,Eh,ZIW (by omega)]
  have e2:Jx.wrap (UI (2 ^ 64 - 1 - f / 2)) = -((f:Int) + 1) / 2:=by
   simp only [Xb]
   rw [IntKind.wrap_i64]
   omega
  rw [e2]
 ·rw [if_neg h1,show f % 2 = 0 by omega,show Jx.wrap ((0:Int) - ((0:Nat):Int)) = 0 from rfl,show UJ 64 0 = 0#64 from rfl,Ek,ZIW (by omega)]
  rw [Qk (by simp only [Xb]; omega)]
  rfl
theorem Zs3 {n:Int} (h:ZB n):Zgr (ZV n) = n:=by
 unfold ZB at h
 unfold Zgr ZV
 grind
def KP (kk:Nat) (r:List Bool):Int × Int × List Bool :=
 if (unS r).2.1 ≠ 0 then (0,(unS r).2.1,(unS r).2.2)
 else if (ZH kk (unS r).2.2).2.1 ≠ 0 then (0,(ZH kk (unS r).2.2).2.1,(ZH kk (unS r).2.2).2.2)
 else if 4294967295 ≤ (unS r).1 * 2 ^ kk + (ZH kk (unS r).2.2).1 then (0,12,(ZH kk (unS r).2.2).2.2)
 else (Zgr ((unS r).1 * 2 ^ kk + (ZH kk (unS r).2.2).1),0,(ZH kk (unS r).2.2).2.2)
theorem ZnH {b:List Int} {r:List Bool} (h:Zf b r) (kk:Nat):Zf b (KP kk r).2.2:=by
 unfold KP
 split
 ·exact Zbt h
 ·split
  ·exact Z1 (Zbt h) kk
  ·split
   ·exact Z1 (Zbt h) kk
   ·exact Z1 (Zbt h) kk
theorem ZIC {q d kk:Nat} (hq:q < 4294967296) (hk:kk ≤ 30) (hd:d < 2 ^ kk):Jx.wrap (UI (UJ 64 (Jx.wrap ((q:Int) * (2:Int) ^ min ((kk:Int)).toNat 64)) ||| UJ 64 (d:Int)).toNat) = ((q * 2 ^ kk + d:Nat):Int):=by
 have h1:2 ^ kk ≤ 2 ^ 30:=Hd (by omega) hk
 have h2:q * 2 ^ kk ≤ 4294967295 * 1073741824:=J4 (by omega) (by omega)
 rw [WV,U4 (by omega),WP,← Int.natCast_mul]
 have h3:=HX hd q
 rw [He] at h3
 rw [Qk (n:=((q * 2 ^ kk:Nat):Int)) (by generalize q * 2 ^ kk = X at h2; omega),orN (by generalize q * 2 ^ kk = X at h2; omega) (by omega),← h3]
 generalize q * 2 ^ kk = X at h2 ⊢
 rw [Qk (by omega)]
theorem ZyL (k:Nat) {b:List Int} (hb:ZM b = true) (hn:b.length < 268435456) {r:List Bool} (hr:Zf b r) {kk:Nat} (hkk:kk ≤ 30) (hk:8 * b.length + 100 < k) :
  Zt9 k (YG b r,(kk:Int),()) = some (((KP kk r).1,(KP kk r).2.1,()),YG b (KP kk r).2.2,()):=by
 show Zhr k _ = _
 simp only [Zhr]
 rw [Znc k hb (by omega) hr (by omega)]
 simp only [Qt]
 unfold KP
 have hu:=ZD4 (r:=r)
 have hl:=hr.len
 rw [ZR]
 by_cases h1:(unS r).2.1 = 0
 ·rw [Zr (by simpa using h1),if_neg (by simpa using h1),XX k hb (by omega) (Zbt hr) (by omega) (by omega)]
  simp only [Qt]
  rw [ZR]
  by_cases h2:(ZH kk (unS r).2.2).2.1 = 0
  ·rw [Zr (by simpa using h2),if_neg (by simpa using h2),Zc (by omega),ZIC (by omega) hkk (ZdU kk _)]
   by_cases h3:4294967295 ≤ (unS r).1 * 2 ^ kk + (ZH kk (unS r).2.2).1
   ·rw [Zc (by omega),if_pos h3]
   ·rw [Zr (by omega),if_neg h3,ZyO k (by omega)]
    rfl
  ·rw [Zc h2,if_pos h2]
 ·rw [Zc h1,if_pos h1]
end Go.Sh
namespace Go.Sh
open Go Go.Proofs
abbrev Zu4:=List Bool → Int × Int × List Bool
def Xz (one:Zu4):Nat → List Bool → List Int → List Int × Int × List Bool
 | 0,r,acc => (acc,0,r)
 | n + 1,r,acc => if (one r).2.1 ≠ 0 then ([],(one r).2.1,(one r).2.2) else Xz one n (one r).2.2 (acc ++ [(one r).1])
theorem ZeI {b:List Int} {one:Zu4} (h1:∀ r,Zf b r → Zf b (one r).2.2):∀ (n:Nat) (r:List Bool) (acc:List Int),Zf b r → Zf b (Xz one n r acc).2.2
 | 0,r,acc,h => h
 | n + 1,r,acc,h => by
  unfold Xz
  split
  ·exact h1 r h
  ·exact ZeI h1 n _ _ (h1 r h)
theorem ZhM {one:Zu4}:∀ (n:Nat) (r:List Bool) (acc:List Int),(Xz one n r acc).1.length ≤ acc.length + n
 | 0,r,acc => Jj _
 | n + 1,r,acc => by
  unfold Xz
  split
  ·simp
  ·have:=ZhM (one:=one) n (one r).2.2 (acc ++ [(one r).1])
   grind
theorem ZE0 (k:Nat) (L2:Int × Int × List Int × Int × Int × List Int → Option ((List Int × Int × Unit) × (List Int × Int × Unit) × Unit)) {b:List Int} (hb:ZM b = true) (hn:b.length < 268435456) (hk:8 * b.length + 100 < k) {w:Nat} (hw:w ≤ 32) :
  ∀ (d m i:Nat) (r:List Bool) (acc:List Int),Zf b r → d < m → i + d ≤ 4096 → acc.length ≤ i →
  Zn (fun L1 => ZaZ k L1) m (((i + d:Nat):Int),(i:Int),b,((ZL b r:Nat):Int),(w:Int),acc) = some (((Xz (Wo w) d r acc).1,(Xz (Wo w) d r acc).2.1,()),YG b (Xz (Wo w) d r acc).2.2,()):=by
 intro d
 induction d with
 | zero =>
  intro m i r acc hr hm hi ha
  obtain ⟨m,rfl⟩:=Zq hm
  rw [Ze]
  simp only [ZaZ]
  rw [Zr (by omega)]
  rfl
 | succ d ih =>
  intro m i r acc hr hm hi ha
  obtain ⟨m,rfl⟩:=Zq (show 0 < m by omega)
  rw [Ze]
  simp only [ZaZ]
  have e:Zua k (((b,((ZL b r:Nat):Int),()),()),((w:Int),()),()) = some (((Wo w r).1,(Wo w r).2.1,()),((YG b (Wo w r).2.2),()),((w:Int),()),()):=by
   show Zhs k _ = _
   simp only [Zhs]
   rw [Znl k hb (by omega) hr hw (by omega)]
   rfl
  rw [Zc (by omega),e]
  simp only [Qt]
  unfold Xz
  rw [ZR]
  by_cases h:(Wo w r).2.1 = 0
  ·rw [Zr (by simpa using h),Zc (by grind),if_neg (by simpa using h)]
   have e2:Jx.wrap ((i:Int) + 1) = ((i + 1:Nat):Int):=by rw [Qk (by omega)]; rfl
   rw [e2]
   have:=ih m (i + 1) (Wo w r).2.2 (acc ++ [(Wo w r).1]) (ZbK hr w) (by omega) (by omega) (by simp; omega)
   grind
  ·rw [Zc h,if_pos h]
theorem ZBe (k:Nat) {b:List Int} (hb:ZM b = true) (hn:b.length < 268435456) (hk:8 * b.length + 100 < k) {w:Nat} (hw:w ≤ 30) :
  ∀ (d m i:Nat) (r:List Bool) (acc:List Int),Zf b r → d < m → i + d ≤ 4096 → acc.length ≤ i →
  Zn (fun L2 => Za0 k L2) m (((i + d:Nat):Int),(i:Int),b,((ZL b r:Nat):Int),(w:Int),acc) = some (((Xz (KP w) d r acc).1,(Xz (KP w) d r acc).2.1,()),YG b (Xz (KP w) d r acc).2.2,()):=by
 intro d
 induction d with
 | zero =>
  intro m i r acc hr hm hi ha
  obtain ⟨m,rfl⟩:=Zq hm
  rw [Ze]
  simp only [Za0]
  rw [Zr (by omega)]
  rfl
 | succ d ih =>
  intro m i r acc hr hm hi ha
  obtain ⟨m,rfl⟩:=Zq (show 0 < m by omega)
  rw [Ze]
  simp only [Za0]
  have e:Zt6 k (((b,((ZL b r:Nat):Int),()),()),((w:Int),()),()) = some (((KP w r).1,(KP w r).2.1,()),((YG b (KP w r).2.2),()),((w:Int),()),()):=by
   show Zhq k _ = _
   simp only [Zhq]
   rw [ZyL k hb (by omega) hr hw (by omega)]
   rfl
  rw [Zc (by omega),e]
  simp only [Qt]
  unfold Xz
  rw [ZR]
  by_cases h:(KP w r).2.1 = 0
  ·rw [Zr (by simpa using h),Zc (by grind),if_neg (by simpa using h)]
   have e2:Jx.wrap ((i:Int) + 1) = ((i + 1:Nat):Int):=by rw [Qk (by omega)]; rfl
   rw [e2]
   have:=ih m (i + 1) (KP w r).2.2 (acc ++ [(KP w r).1]) (ZnH hr w) (by omega) (by omega) (by simp; omega)
   grind
  ·rw [Zc h,if_pos h]
def XC (m count : Nat) (r : List Bool) : List Int × Int × List Bool :=
  if (ZH (4 + m) r).2.1 ≠ 0 then ([], (ZH (4 + m) r).2.1, (ZH (4 + m) r).2.2)
  else if (ZH (4 + m) r).1 = WX m then
    (if (ZH 5 (ZH (4 + m) r).2.2).2.1 ≠ 0 then ([], (ZH 5 (ZH (4 + m) r).2.2).2.1, (ZH 5 (ZH (4 + m) r).2.2).2.2)
     else Xz (Wo (ZH 5 (ZH (4 + m) r).2.2).1) count (ZH 5 (ZH (4 + m) r).2.2).2.2 [])
  else Xz (KP (ZH (4 + m) r).1) count (ZH (4 + m) r).2.2 []
theorem ZeO {b:List Int} {r:List Bool} (h:Zf b r) (m count:Nat):Zf b (XC m count r).2.2:=by
 unfold XC
 split
 ·exact Z1 h _
 ·split
  ·split
   ·exact Z1 (Z1 h _) _
   ·exact ZeI (fun r h => ZbK h _) _ _ _ (Z1 (Z1 h _) _)
  ·exact ZeI (fun r h => ZnH h _) _ _ _ (Z1 h _)
theorem ZnJ (m count:Nat) (r:List Bool):(XC m count r).1.length ≤ count:=by
 unfold XC
 split
 ·simp
 ·split
  ·split
   ·simp
   ·have:=ZhM (one:=Wo (ZH 5 (ZH (4 + m) r).2.2).1) count (ZH 5 (ZH (4 + m) r).2.2).2.2 []
    simpa using this
  ·have:=ZhM (one:=KP (ZH (4 + m) r).1) count (ZH (4 + m) r).2.2 []
   simpa using this
theorem ZyD (k:Nat) {b:List Int} (hb:ZM b = true) (hn:b.length < 268435456) {r:List Bool} (hr:Zf b r) (hk:8 * b.length + 5000 < k) {m count:Nat} (hm:m = 0 ∨ m = 1) (hc:count ≤ 4096) :
  ZkM k (YG b r,(m:Int),(count:Int),()) = some (((XC m count r).1,(XC m count r).2.1,()),YG b (XC m count r).2.2,()):=by
 show ZdN k (Zjr k) (Zfz k) _ = _
 simp only [ZdN]
 have hmi:(m:Int) = 0 ∨ (m:Int) = 1:=by omega
 rw [ZGM,ZgQ k hmi]
 simp only [Qt]
 have e4:(4:Int) + (m:Int) = ((4 + m:Nat):Int):=rfl
 rw [e4,XX k hb (by omega) hr (by omega) (by omega)]
 simp only [Qt]
 unfold XC
 have hlt:=ZdU (4 + m) r
 rw [ZR]
 by_cases h1:(ZH (4 + m) r).2.1 = 0
 ·rw [Zr (by simpa using h1),if_neg (by simpa using h1),Zw8,ZaL k hmi]
  simp only [Qt]
  rw [ZP]
  by_cases h2:(ZH (4 + m) r).1 = WX m
  ·rw [Zc (by omega),if_pos h2,show (5:Int) = ((5:Nat):Int) from rfl,XX k hb (by omega) (Z1 hr _) (by omega) (by omega)]
   simp only [Qt]
   rw [ZR]
   by_cases h3:(ZH 5 (ZH (4 + m) r).2.2).2.1 = 0
   ·rw [Zr (by simpa using h3),if_neg (by simpa using h3)]
    have hlt5:=ZdU 5 (ZH (4 + m) r).2.2
    have:=ZE0 k (Zfz k) hb hn (by omega) (w:=(ZH 5 (ZH (4 + m) r).2.2).1) (by omega) count k 0 (ZH 5 (ZH (4 + m) r).2.2).2.2 [] (Z1 (Z1 hr _) _) (by omega) (by omega) (by simp)
    rw [Ub] at this
    exact this
   ·rw [Zc h3,if_pos h3]
  ·rw [Zr (by omega),if_neg h2]
   have h30:(ZH (4 + m) r).1 ≤ 30:=by
    rcases hm with rfl | rfl
    ·omega
    ·have h32:(ZH (4 + 1) r).1 < 32:=hlt
     have:WX (1:Nat) = 31:=rfl
     omega
   have:=ZBe k hb hn (by omega) h30 count k 0 (ZH (4 + m) r).2.2 [] (Z1 hr _) (by omega) (by omega) (by simp)
   rw [Ub] at this
   exact this
 ·rw [Zc h1,if_pos h1]
def Q4 (m n o p:Nat):Nat → Nat → List Bool → List Int → List Int × Int × List Bool
 | 0,_,r,acc => (acc,0,r)
 | d + 1,i,r,acc => if (XC m (n / 2 ^ p - if i = 0 then o else 0) r).2.1 ≠ 0 then ([],(XC m (n / 2 ^ p - if i = 0 then o else 0) r).2.1,(XC m (n / 2 ^ p - if i = 0 then o else 0) r).2.2)
  else Q4 m n o p d (i + 1) (XC m (n / 2 ^ p - if i = 0 then o else 0) r).2.2 (acc ++ (XC m (n / 2 ^ p - if i = 0 then o else 0) r).1)
theorem Ze8 {b:List Int} {m n o p:Nat}:∀ (d i:Nat) (r:List Bool) (acc:List Int),Zf b r → Zf b (Q4 m n o p d i r acc).2.2
 | 0,_,r,acc,h => h
 | d + 1,i,r,acc,h => by
  unfold Q4
  generalize (n / 2 ^ p - if i = 0 then o else 0) = cnt
  split
  ·exact ZeO h _ _
  ·exact Ze8 d (i + 1) _ _ (ZeO h _ _)
theorem Zyd (k:Nat) {b:List Int} (hb:ZM b = true) (hn:b.length < 268435456) (hk:8 * b.length + 5000 < k) {m n o p:Nat} (hm:m = 0 ∨ m = 1) (hnn:n ≤ 512) (hp:p ≤ 15) (ho:o ≤ n / 2 ^ p) :
  ∀ (d j i:Nat) (r:List Bool) (acc:List Int),Zf b r → d < j → i + d ≤ 32768 → acc.length ≤ i * 512 →
  Zn (fun L1 => Km k L1) j (((i + d:Nat):Int),(i:Int),(n:Int),(p:Int),(o:Int),(m:Int),b,((ZL b r:Nat):Int),acc) = some (((Q4 m n o p d i r acc).1,(Q4 m n o p d i r acc).2.1,()),YG b (Q4 m n o p d i r acc).2.2,()):=by
 intro d
 have hdiv:n / 2 ^ p ≤ n:=Ed _ _
 induction d with
 | zero =>
  intro j i r acc hr hj hi ha
  obtain ⟨j,rfl⟩:=Zq hj
  rw [Ze]
  simp only [Km]
  rw [Zr (by omega)]
  rfl
 | succ d ih =>
  intro j i r acc hr hj hi ha
  obtain ⟨j,rfl⟩:=Zq (show 0 < j by omega)
  rw [Ze]
  simp only [Km,WV,U4 (show p ≤ 64 by omega),ZcP]
  have e2:Jx.wrap ((i:Int) + 1) = ((i + 1:Nat):Int):=by rw [Qk (by omega)]; rfl
  have e3:Jx.wrap (((n / 2 ^ p:Nat):Int) - (o:Int)) = ((n / 2 ^ p - o:Nat):Int):=by generalize n / 2 ^ p = q at hdiv ho ⊢; rw [Qk (by omega)]; omega
  have fin:∀ cnt:Nat,cnt = (n / 2 ^ p - if i = 0 then o else 0) → ((ZkM k ((b,((ZL b r:Nat):Int),()),(m:Int),(cnt:Int),())).bind fun y => bif y.1.2.1 != (0:Int) then some (([],y.1.2.1,()),(y.2.1.1,y.2.1.2.1,()),()) else bif decide (acc.length + UL y.1.1 < (2147483648:Nat)) then Zn (fun L1 => Km k L1) j (((i + (d + 1):Nat):Int),Jx.wrap ((i:Int) + 1),(n:Int),(p:Int),(o:Int),(m:Int),y.2.1.1,y.2.1.2.1,acc ++ y.1.1) else none) =
    some (((Q4 m n o p (d + 1) i r acc).1,(Q4 m n o p (d + 1) i r acc).2.1,()),YG b (Q4 m n o p (d + 1) i r acc).2.2,()):=by
   intro cnt hcnt
   have hcl:cnt ≤ 512:=by omega
   refine (Zd (ZyD k hb hn hr hk hm (by omega)) _).trans ?_
   simp only
   unfold Q4
   rw [← hcnt,ZR]
   have hlen:=ZnJ m cnt r
   by_cases h:(XC m cnt r).2.1 = 0
   ·rw [Zr (by simpa using h),Zc (by omega),if_neg (by simpa using h),e2]
    have:=ih j (i + 1) (XC m cnt r).2.2 (acc ++ (XC m cnt r).1) (ZeO hr _ _) (by omega) (by omega) (by rw [XH]; omega)
    grind
   ·rw [Zc h,if_pos h]
  grind
def Yh (n o:Nat) (r:List Bool):List Int × Int × List Bool :=
 if Zam n o = false then ([],1,r)
 else if (ZH 2 r).2.1 ≠ 0 then ([],(ZH 2 r).2.1,(ZH 2 r).2.2)
 else if 1 < (ZH 2 r).1 then ([],2,(ZH 2 r).2.2)
 else if (ZH 4 (ZH 2 r).2.2).2.1 ≠ 0 then ([],(ZH 4 (ZH 2 r).2.2).2.1,(ZH 4 (ZH 2 r).2.2).2.2)
 else if Zb7 n o (ZH 4 (ZH 2 r).2.2).1 = false then ([],2,(ZH 4 (ZH 2 r).2.2).2.2)
 else Q4 (ZH 2 r).1 n o (ZH 4 (ZH 2 r).2.2).1 (2 ^ (ZH 4 (ZH 2 r).2.2).1) 0 (ZH 4 (ZH 2 r).2.2).2.2 []
theorem Zl2 {b:List Int} {r:List Bool} (h:Zf b r) (n o:Nat):Zf b (Yh n o r).2.2:=by
 unfold Yh
 repeat' split
 all_goals first | exact h | exact Z1 h _ | exact Z1 (Z1 h _) _ | exact Ze8 _ _ _ _ (Z1 (Z1 h _) _)
theorem Zye (k:Nat) {b:List Int} (hb:ZM b = true) (hn:b.length < 268435456) {r:List Bool} (hr:Zf b r) (hk:8 * b.length + 50000 < k) (n o:Nat) :
  Zcr k (YG b r,(n:Int),(o:Int),()) = some (((Yh n o r).1,(Yh n o r).2.1,()),YG b (Yh n o r).2.2,()):=by
 show ZdE k (Zje k) _ = _
 simp only [ZdE]
 rw [Zni]
 simp only [Qt]
 unfold Yh
 cases hbl:Zam n o with
 | false => rfl
 | true =>
  have hbb:=of_decide_eq_true hbl
  simp only [Hl,cond_false,HE,if_false]
  have g2:Y3 k (YG b r,2,()) = _:=XX k hb (by omega) hr (w:=2) (by omega) (by omega)
  rw [g2]
  simp only [Qt]
  rw [ZR]
  have hlt2:=ZdU 2 r
  by_cases h1:(ZH 2 r).2.1 = 0
  ·rw [Zr (by simpa using h1),if_neg (by simpa using h1)]
   by_cases h2:1 < (ZH 2 r).1
   ·rw [Zc (by omega),if_pos h2]
   ·have g4:Y3 k (YG b (ZH 2 r).2.2,4,()) = _:=XX k hb (by omega) (Z1 hr _) (w:=4) (by omega) (by omega)
    rw [Zr (by omega),if_neg h2,g4]
    simp only [Qt]
    rw [ZR]
    have hlt4:=ZdU 4 (ZH 2 r).2.2
    by_cases h3:(ZH 4 (ZH 2 r).2.2).2.1 = 0
    ·rw [Zr (by simpa using h3),if_neg (by simpa using h3),Znk k (by omega) (by omega)]
     simp only [Qt]
     cases hf:Zb7 n o (ZH 4 (ZH 2 r).2.2).1 with
     | false => rfl
     | true =>
      simp only [Hl,cond_false,HE,if_false]
      have hfit:=hf
      unfold Zb7 at hfit
      simp only [Jh,decide_eq_true_eq] at hfit
      rw [Zc (by omega),ZjB (by omega)]
      have h15:2 ^ (ZH 4 (ZH 2 r).2.2).1 ≤ 2 ^ 15:=Hd (by omega) (by omega)
      have:=Zyd k hb hn (by omega) (m:=(ZH 2 r).1) (n:=n) (o:=o) (p:=(ZH 4 (ZH 2 r).2.2).1) (by omega) (by omega) (by omega) hfit.2 (2 ^ (ZH 4 (ZH 2 r).2.2).1) k 0 (ZH 4 (ZH 2 r).2.2).2.2 [] (Z1 (Z1 hr _) _) (by omega) (by omega) (by simp)
      rw [Ub] at this
      exact this
    ·rw [Zc h3,if_pos h3]
  ·rw [Zc h1,if_pos h1]
theorem ZJZ:∀ n:Fin 513,Zhp 0 (1,(n.val:Int),()) = some ((0,(n.val:Int),()),()):=by decide +kernel
theorem ZBc (k:Nat) {n:Nat} (hn:n ≤ 512):Zt1 k (1,(n:Int),()) = some ((0,(n:Int),()),()):=by
 have:=ZJZ ⟨n,by omega⟩
 simp only at this
 show (Zhp 0 (1,(n:Int),())).bind _ = _
 rw [this]
 rfl
theorem Zx9 (k:Nat) (x:Int) {n:Nat} (hn:n ≤ 512):∀ (d m i:Nat),i + d = n → d < m → 1 ≤ i →
  Zn (fun L1 => ZdC k L1) m ((i:Int),Jd i x ++ Jd d 0) = some (Jd n x,()):=by
 intro d
 induction d using Nat.strongRecOn with
 | ind d ih =>
  intro m i hi hm h1
  obtain ⟨m,rfl⟩:=Zq (show 0 < m by omega)
  rw [Ze]
  simp only [ZdC]
  have hlen:(Jd i x ++ Jd d (0:Int)).length = n:=by simp; omega
  rw [hlen]
  by_cases h0:d = 0
  ·simp_all
  ·rw [Zc (by simp only [Xb]; omega),Zc (by simp only [Xb]; omega),Zc (by simp only [Xb]; omega)]
   simp only [WV,show (UI n).toNat = n from rfl]
   rw [Zc (by omega),Zc (by omega),U9]
   have ht:(Jd i x ++ Jd d (0:Int)).take i = Jd i x:=by
    simp_all
   rw [ht,Ur]
   have e1:Jx.wrap ((i:Int) + UI (min i (n - i))) = ((i + min i (n - i):Nat):Int):=by simp only [Xb]; rw [Qk (by omega)]; omega
   have e2:Jd i x ++ UN (n - i) (Jd i x) ++ UO (i + min i (n - i)) (Jd i x ++ Jd d (0:Int)) = Jd (i + min i (n - i)) x ++ Jd (d - min i (n - i)) 0:=by
    rw [List.take_replicate,List.replicate_append_replicate,El]
    simp
    omega
   rw [e1,e2]
   exact ih (d - min i (n - i)) (by omega) m _ (by omega) (by omega) (by omega)
theorem Zya (k:Nat) (x:Int) {n:Nat} (h1:1 ≤ n) (hn:n ≤ 512) (hk:1000 < k):ZtQ k ([x],(n:Int),()) = some (Jd n x,()):=by
 show ZdB k (Zja k) _ = _
 simp only [ZdB]
 have e1:UK.wrap (UI [x].length) = 1:=rfl
 have e2:UK.wrap (n:Int) = (n:Int):=by rw [IntKind.wrap_u64]; omega
 rw [Zr (by omega),e1,e2,ZBc k hn]
 simp only [Qt]
 have e3:Jx.wrap (n:Int) = (n:Int):=by rw [Qk (by omega)]
 rw [Zr (by omega),Zr (by omega),e3,Zc (by omega)]
 simp only [WV,Ur,Us,Nat.sub_zero,List.take_zero,VT,Ub]
 rw [U4 h1,Et (by simp; omega),List.drop_replicate]
 exact Zx9 k x hn (n - 1) k 1 (by omega) (by omega) (by omega)
end Go.Sh
namespace Go.Sh
open Go Go.Proofs
def Zge (c:List Int) (sh:Int):List Int → List Int → List Int × Int
 | [],out => (out,0)
 | x :: xs,out => if Qq (x + Zb4 c sh out) = true then ([],12) else Zge c sh xs (out ++ [x + Zb4 c sh out])
def YX (c:List Int) (sh:Int) (warm res:List Int):List Int × Int :=
 if KE c sh = false then ([],2) else if warm.length ≠ c.length then ([],1) else if warm.any Qq = true then ([],12) else if res.any Qq = true then ([],12) else Zge c sh res warm
theorem ZnQ {c:List Int} {sh:Int}:∀ (xs out:List Int),(Zge c sh xs out).1.length ≤ out.length + xs.length
 | [],out => Jj _
 | x :: xs,out => by
  unfold Zge
  split
  ·simp
  ·have:=ZnQ (c:=c) (sh:=sh) xs (out ++ [x + Zb4 c sh out])
   grind
theorem Zs7 {x:Int} (h:Qq x = false):ZB x:=by
 unfold Qq at h
 rw [decide_eq_false_iff_not] at h
 unfold ZB
 omega
theorem Zyg (k:Nat) {c warm res:List Int} {sh:Int} (hk:1000 < k) (hc:c.length ≤ 8192) (hw:warm.length ≤ 900) (hr:res.length ≤ 900) :
  Zcs k ((c,sh,()),warm,res,()) = some (((YX c sh warm res).1,(YX c sh warm res).2,()),()):=by
 show ZdF k (Zjg k) _ = _
 simp only [ZdF]
 rw [Znm k c sh (by omega)]
 simp only [Qt]
 unfold YX
 cases hm:KE c sh with
 | false => rfl
 | true =>
  simp only [if_true,HE,if_false]
  rw [show ((0:Int) != 0) = false from rfl]
  simp only [cond_false]
  rw [ZR]
  by_cases hl:warm.length = c.length
  ·rw [Zr (by simp [hl]),if_neg (by simpa using hl),KW k warm (by omega) (by omega)]
   simp only [Qt]
   cases hw1:warm.any Qq with
   | true => rfl
   | false =>
    simp only [cond_false,JJ,if_false]
    rw [KW k res (by omega) (by omega)]
    simp only [Qt]
    cases hr1:res.any Qq with
    | true => rfl
    | false =>
     simp only [cond_false,JJ,if_false]
     have ecl:Zhh k (warm,()) = some (warm,()):=by show Y2 _ = _; unfold Y2; rw [Zc (by simp only; omega)]
     rw [ecl]
     simp only [Qt]
     obtain ⟨h8,hsh,hco⟩:=Zc1 hm
     have:=ZC (A:=List Int) (R:=(List Int × Int × Unit) × Unit) (step:=fun L1 => ZaS k L1)
      (fun i out => (UI res.length,UI i,res,c,sh,out)) res
      (fun l' out => some (((Zge c sh l' out).1,(Zge c sh l' out).2,()),()))
      (fun i out => c.length ≤ out.length ∧ out.length = warm.length + i ∧ ∀ x ∈ out,ZB x)
      (fun L out _ => by simp only [ZaS]; rw [Zr (ZeL _)]; rfl)
      (fun L i hi out ho hL => by
       simp only [ZaS]
       rw [Zc (ltR hi),Zc (inR hi),Znn k (by omega) h8 ho.1 (by omega) hsh hco ho.2.2,ZQ hi]
       simp only [Qt]
       have hx:=Yv hr1 res[i] (U5 hi)
       have hp:=Ziw (sh:=sh) hco ho.2.2 h8
       unfold ZB at hx
       rw [Qk (n:=res[i] + Zb4 c sh out) (by omega),Zhg]
       simp only [Qt]
       unfold Zge
       cases hwi:Qq (res[i] + Zb4 c sh out) with
       | true => rfl
       | false =>
        simp only [cond_false,JJ,if_false]
        rw [Zc (by grind),Q1 hi (by omega)]
        exact hL _ ⟨by simp; omega,by simp; omega,fun x hx => by
         rcases Js.1 hx with h | h
         ·exact ho.2.2 x h
         ·rw [Vx.1 h]; exact Zs7 hwi⟩)
      k 0 warm ⟨by omega,by omega,Yv hw1⟩ (by omega) (UU _)
     rw [U9] at this
     exact this
  grind
abbrev IS:=List Bool × Int
def gI (w:Nat) (s:IS):Nat × IS:=if s.2 = 0 then ((ZH w s.1).1,(ZH w s.1).2.2,(ZH w s.1).2.1) else (0,s)
def mI (ok:Bool) (s:IS) (code:Int):IS:=if s.2 = 0 ∧ ok = false then (s.1,code) else s
theorem Qr {b:List Int} {s:IS} (h:Zf b s.1) (w:Nat):Zf b (gI w s).2.1:=by
 unfold gI
 split
 ·exact Z1 h w
 ·exact h
theorem Qn {b:List Int} {s:IS} (h:Zf b s.1) (ok:Bool) (code:Int):Zf b (mI ok s code).1:=by
 unfold mI
 split
 ·exact h
 ·exact h
theorem ZJt (w:Nat) (s:IS):(gI w s).1 < 2 ^ w:=by
 unfold gI
 split
 ·exact ZdU w _
 ·exact U2 (by omega)
theorem ZaO (k:Nat) {b:List Int} (hb:ZM b = true) (hn:b.length < 268435456) (hk:100 < k) {s:IS} (hs:Zf b s.1) {w:Nat} (hw:w ≤ 32) :
  Y4 k ((YG b s.1,s.2,()),(w:Int),()) = some ((((gI w s).1:Nat):Int),(YG b (gI w s).2.1,(gI w s).2.2,()),()):=by
 show ZgW k _ = _
 simp only [ZgW]
 unfold gI
 rw [ZP]
 by_cases h:s.2 = 0
 ·rw [Zc h,if_pos h,XX k hb (by omega) hs hw hk]
  rfl
 ·rw [Zr h,if_neg h]
  rfl
theorem XY (k:Nat) {b:List Int} {s:IS} (ok:Bool):W4 k ((YG b s.1,s.2,()),ok,()) = some ((),(YG b (mI ok s 2).1,(mI ok s 2).2,()),()):=by
 show ZgV k _ = _
 simp only [ZgV]
 unfold mI
 grind
def Zbb (n:Nat):Bool:=n = 0 ∨ n = 1 ∨ 8 ≤ n ∧ n ≤ 12 ∨ 32 ≤ n ∧ n ≤ 39
theorem Zx5 (k n:Nat):ZtP k ((n:Int),()) = some (Zbb n,()):=by
 show ZgX k _ = _
 simp only [ZgX]
 unfold Zbb
 rw [ZP,ZP]
 by_cases h0:n = 0
 ·simp_all
 ·rw [Zr (by omega)]
  by_cases h1:n = 1
  ·simp_all
  ·rw [Zr (by omega)]
   by_cases h8:8 ≤ n
   ·rw [Zc (by omega)]
    by_cases h12:n ≤ 12
    ·grind
    ·rw [Zr (by omega)]
     by_cases h31:31 < n
     ·rw [Zc (by omega)]
      by_cases h39:n ≤ 39
      ·grind
      grind
     grind
   grind
def Xd (w:Nat):Nat → IS → List Int → List Int × IS
 | 0,s,acc => (acc,s)
 | n + 1,s,acc => if s.2 = 0 then Xd w n ((Wo w s.1).2.2,(Wo w s.1).2.1) (acc ++ [(Wo w s.1).1]) else Xd w n s (acc ++ [0])
theorem Xe {b:List Int} {w:Nat}:∀ (n:Nat) (s:IS) (acc:List Int),Zf b s.1 → Zf b (Xd w n s acc).2.1
 | 0,s,acc,h => h
 | n + 1,s,acc,h => by
  unfold Xd
  split
  ·exact Xe n _ _ (ZbK h w)
  ·exact Xe n _ _ h
theorem YS {w:Nat}:∀ (n:Nat) (s:IS) (acc:List Int),(Xd w n s acc).1.length = acc.length + n
 | 0,s,acc => rfl
 | n + 1,s,acc => by
  unfold Xd
  split
  ·rw [YS n,XH,Us]; omega
  ·rw [YS n,XH,Us]; omega
theorem ZaR (k:Nat) {b:List Int} (hb:ZM b = true) (hn:b.length < 268435456) (hk:1000 < k) {s:IS} (hs:Zf b s.1) {w n:Nat} (hw:w ≤ 32) (hnn:n ≤ 512) :
  ZbF k ((YG b s.1,s.2,()),(n:Int),(w:Int),()) = some ((Xd w n s []).1,(YG b (Xd w n s []).2.1,(Xd w n s []).2.2,()),()):=by
 show ZdD k (Zjc k) _ = _
 simp only [ZdD]
 suffices H:∀ (d m i:Nat) (s:IS) (acc:List Int),Zf b s.1 → d < m → i + d ≤ 512 → acc.length = i →
   Zn (fun L1 => ZaQ k L1) m (((i + d:Nat):Int),(i:Int),(w:Int),s.2,b,((ZL b s.1:Nat):Int),acc) = some ((Xd w d s acc).1,(YG b (Xd w d s acc).2.1,(Xd w d s acc).2.2,()),()) by
  have:=H n k 0 s [] hs (by omega) (by omega) rfl
  rw [Ub] at this
  exact this
 intro d
 induction d with
 | zero =>
  intro m i s acc hs hm hi ha
  obtain ⟨m,rfl⟩:=Zq hm
  rw [Ze]
  simp only [ZaQ]
  rw [Zr (by omega)]
  rfl
 | succ d ih =>
  intro m i s acc hs hm hi ha
  obtain ⟨m,rfl⟩:=Zq (show 0 < m by omega)
  rw [Ze]
  simp only [ZaQ]
  have e2:Jx.wrap ((i:Int) + 1) = ((i + 1:Nat):Int):=by rw [Qk (by omega)]; rfl
  rw [Zc (by omega),ZP]
  unfold Xd
  by_cases h:s.2 = 0
  ·rw [Zc h,if_pos h,Znl k hb (by omega) hs hw (by omega)]
   simp only [Qt]
   rw [Zc (by grind),e2]
   have:=ih m (i + 1) ((Wo w s.1).2.2,(Wo w s.1).2.1) (acc ++ [(Wo w s.1).1]) (ZbK hs w) (by omega) (by omega) (by simp; omega)
   grind
  ·rw [Zr h,if_neg h,Zc (by omega),e2]
   have:=ih m (i + 1) s (acc ++ [0]) hs (by omega) (by omega) (by simp; omega)
   grind
def KM (s:IS):IS:=mI ((gI 1 s).1 == 0) (gI 1 s).2 2
def X3 (s:IS):Nat × IS:=((gI 6 s).1,mI (Zbb (gI 6 s).1) (gI 6 s).2 2)
def Zbp (kind depth:Nat) (s:IS):Nat × Nat × IS :=
 if (gI 1 s).1 = 1 ∧ (gI 1 s).2.2 = 0 then (kind,(unS (gI 1 s).2.1).1 + 1,mI (decide ((unS (gI 1 s).2.1).1 + 1 < depth)) ((unS (gI 1 s).2.1).2.2,(unS (gI 1 s).2.1).2.1) 2)
 else (kind,0,mI (decide (0 < depth)) (gI 1 s).2 2)
def ZJ (depth:Nat) (s:IS):Nat × Nat × IS:=Zbp (X3 (KM s)).1 depth (X3 (KM s)).2
theorem Wa (a b:Nat):((a:Int) == (b:Int)) = (a == b):=by
 grind
theorem ZuV {b:List Int} {s:IS} (h:Zf b s.1) (kind d:Nat):Zf b (Zbp kind d s).2.2.1:=by
 unfold Zbp
 split
 ·exact Qn (s:=(_,_)) (Zbt (Qr h _)) _ _
 ·exact Qn (Qr h _) _ _
theorem Zma {b:List Int} {s:IS} (h:Zf b s.1):Zf b (KM s).1:=Qn (Qr h _) _ _
theorem Zmb {b:List Int} {s:IS} (h:Zf b s.1):Zf b (X3 s).2.1:=Qn (Qr h _) _ _
theorem Zgm {b:List Int} {s:IS} (h:Zf b s.1) (d:Nat):Zf b (ZJ d s).2.2.1:=ZuV (Zmb (Zma h)) _ _
theorem ZCV (k:Nat) {b:List Int} (hb:ZM b = true) (hn:b.length < 268435456) (hk:8 * b.length + 1000 < k) {s:IS} (hs:Zf b s.1) (d:Nat) :
  ZCU k ((YG b s.1,s.2,()),(d:Int),()) = some (((((ZJ d s).1:Nat):Int),(((ZJ d s).2.1:Nat):Int),()),(YG b (ZJ d s).2.2.1,(ZJ d s).2.2.2,()),()):=by
 show Zle k _ = _
 simp only [Zle]
 refine (Zd (ZaO k hb hn (by omega) hs (w:=1) (by omega)) _).trans ?_
 refine (Zd (XY k (s:=(gI 1 s).2) _) _).trans ?_
 rw [show ((((gI 1 s).1:Nat):Int) == (0:Int)) = ((gI 1 s).1 == 0) from Wa _ 0]
 have r2:=Zma hs
 unfold ZJ
 change ((Y4 k ((YG b (KM s).1,(KM s).2,()),6,())).bind _) = _
 generalize KM s = s1 at r2 ⊢
 refine (Zd (ZaO k hb hn (by omega) r2 (w:=6) (by omega)) _).trans ?_
 refine (Zd (Zx5 k (gI 6 s1).1) _).trans ?_
 refine (Zd (XY k (s:=(gI 6 s1).2) _) _).trans ?_
 have r4:=Zmb r2
 change ((Y4 k ((YG b (X3 s1).2.1,(X3 s1).2.2,()),1,())).bind fun y_3 => bif y_3.1 == (1:Int) then bif y_3.2.1.2.1 == (0:Int) then (Zkw k ((y_3.2.1.1.1,y_3.2.1.1.2.1,()),())).bind fun y_4 => (W4 k (((y_4.2.1.1,y_4.2.1.2.1,()),y_4.1.2.1,()),decide (Jx.wrap (y_4.1.1 + (1:Int)) < d),())).bind fun y_5 => some (((((X3 s1).1:Nat):Int),Jx.wrap (y_4.1.1 + (1:Int)),()),((y_5.2.1.1.1,y_5.2.1.1.2.1,()),y_5.2.1.2.1,()),())
  else (W4 k (((y_3.2.1.1.1,y_3.2.1.1.2.1,()),y_3.2.1.2.1,()),decide ((0:Int) < d),())).bind fun y_4 => some (((((X3 s1).1:Nat):Int),0,()),((y_4.2.1.1.1,y_4.2.1.1.2.1,()),y_4.2.1.2.1,()),())
  else (W4 k (((y_3.2.1.1.1,y_3.2.1.1.2.1,()),y_3.2.1.2.1,()),decide ((0:Int) < d),())).bind fun y_4 => some (((((X3 s1).1:Nat):Int),0,()),((y_4.2.1.1.1,y_4.2.1.1.2.1,()),y_4.2.1.2.1,()),())) = _
 generalize (X3 s1).1 = kind
 generalize (X3 s1).2 = s2 at r4 ⊢
 unfold Zbp
 have r5:=Qr r4 1
 refine (Zd (ZaO k hb hn (by omega) r4 (w:=1) (by omega)) _).trans ?_
 simp only
 rw [show ((((gI 1 s2).1:Nat):Int) == (1:Int)) = ((gI 1 s2).1 == 1) from Wa _ 1]
 have fin0:((W4 k ((YG b (gI 1 s2).2.1,(gI 1 s2).2.2,()),decide ((0:Int) < (d:Int)),())).bind fun y_4 => some ((((kind:Nat):Int),0,()),((y_4.2.1.1.1,y_4.2.1.1.2.1,()),y_4.2.1.2.1,()),())) =
   some ((((kind:Nat):Int),(((0:Nat):Int)),()),(YG b (mI (decide (0 < d)) (gI 1 s2).2 2).1,(mI (decide (0 < d)) (gI 1 s2).2 2).2,()),()):=by
  refine (Zd (XY k (s:=(gI 1 s2).2) _) _).trans ?_
  simp_all
 by_cases h1:(gI 1 s2).1 = 1
 ·rw [show ((gI 1 s2).1 == 1) = true from by simp [h1]]
  simp only [cond_true]
  rw [ZP]
  by_cases h2:(gI 1 s2).2.2 = 0
  ·rw [Zc h2,if_pos ⟨h1,h2⟩]
   refine (Zd (Znc k hb (by omega) r5 (by omega)) _).trans ?_
   have hu:=ZD4 (r:=(gI 1 s2).2.1)
   have hl:=r5.len
   have e1:Jx.wrap ((((unS (gI 1 s2).2.1).1:Nat):Int) + 1) = (((unS (gI 1 s2).2.1).1 + 1:Nat):Int):=by rw [Qk (by omega)]; rfl
   simp only
   rw [e1]
   refine (Zd (XY k (b:=b) (s:=((unS (gI 1 s2).2.1).2.2,(unS (gI 1 s2).2.1).2.1)) _) _).trans ?_
   have:decide ((((unS (gI 1 s2).2.1).1 + 1:Nat):Int) < (d:Int)) = decide ((unS (gI 1 s2).2.1).1 + 1 < d):=by
    grind
   rw [this]
  simp_all
 grind
end Go.Sh
namespace Go.Sh
open Go Go.Proofs
def Zax (coefs:List Int) (sh:Int) (c n:Nat) (warm:List Int) (s:IS):List Int × IS :=
 if (Yh n c s.1).2.1 ≠ 0 then ([],((Yh n c s.1).2.2,(Yh n c s.1).2.1))
 else ((YX coefs sh warm (Yh n c s.1).1).1,((Yh n c s.1).2.2,(YX coefs sh warm (Yh n c s.1).1).2))
def Y7 (s:IS):IS:=mI ((gI 4 s).1 == 11) (gI 4 s).2 2
def Q6 (s:IS):Nat × IS:=((gI 5 s).1,mI (decide ((gI 5 s).1 ≤ 15)) (gI 5 s).2 2)
def Zb0 (c n:Nat) (warm:List Int) (sh:Nat) (x:List Int × IS):List Int × IS :=
 if x.2.2 ≠ 0 then ([],x.2) else Zax x.1 sh c n warm x.2
def KS (num:Bool) (c n:Nat) (w:List Int × IS):List Int × IS :=
 if num = true then Zb0 c n w.1 (Q6 (Y7 w.2)).1 (Xd 12 c (Q6 (Y7 w.2)).2 [])
 else if w.2.2 ≠ 0 then ([],w.2) else Zax (W5 (min 4 c)) 0 c n w.1 w.2
def Zea (num:Bool) (c n depth:Nat) (s:IS):List Int × IS :=
 if (mI (decide (c ≤ n)) s 2).2 ≠ 0 then ([],mI (decide (c ≤ n)) s 2) else KS num c n (Xd depth c (mI (decide (c ≤ n)) s 2) [])
def Ws (kind n depth:Nat) (s:IS):List Int × IS :=
 if kind = 0 then (Jd n ((Xd depth 1 s []).1.headD 0),(Xd depth 1 s []).2)
 else if kind = 1 then Xd depth n s []
 else if 31 < kind then Zea true (kind - 31) n depth s else Zea false (kind - 8) n depth s
theorem Zh7 {m n o p:Nat}:∀ (d i:Nat) (r:List Bool) (acc:List Int),(Q4 m n o p d i r acc).1.length ≤ acc.length + d * (n / 2 ^ p)
 | 0,_,r,acc => by simp [Q4]
 | d + 1,i,r,acc => by
  unfold Q4
  have hle:(n / 2 ^ p - if i = 0 then o else 0) ≤ n / 2 ^ p:=Nat.sub_le _ _
  generalize (n / 2 ^ p - if i = 0 then o else 0) = cnt at hle ⊢
  have h1:=ZnJ m cnt r
  rw [Jg,Jp]
  split
  ·simp
  ·have:=Zh7 (m:=m) (n:=n) (o:=o) (p:=p) d (i + 1) (XC m cnt r).2.2 (acc ++ (XC m cnt r).1)
   grind
theorem ZnR {n o:Nat} (r:List Bool):(Yh n o r).1.length ≤ n:=by
 unfold Yh
 repeat' split
 all_goals try simp
 rename_i hf
 have hf:Zb7 n o (ZH 4 (ZH 2 r).2.2).1 = true:=by simpa using hf
 unfold Zb7 at hf
 simp only [Jh,decide_eq_true_eq] at hf
 have:=Zh7 (m:=(ZH 2 r).1) (n:=n) (o:=o) (p:=(ZH 4 (ZH 2 r).2.2).1) (2 ^ (ZH 4 (ZH 2 r).2.2).1) 0 (ZH 4 (ZH 2 r).2.2).2.2 []
 rw [HN,Ub] at this
 refine VI this ?_
 rw [Nat.mul_comm]
 exact Nat.div_mul_le_self _ _
theorem K8 {ok:Bool} {s:IS} {code:Int} (hc:code ≠ 0):(mI ok s code).2 = 0 ↔ s.2 = 0 ∧ ok = true:=by
 unfold mI
 grind
theorem Zgn {d:Nat} {s:IS} (h:(ZJ d s).2.2.2 = 0):(ZJ d s).2.1 < d ∧ Zbb (ZJ d s).1 = true:=by
 unfold ZJ at h ⊢
 have hk:(X3 (KM s)).2.2 = 0 → Zbb (X3 (KM s)).1 = true:=fun h => ((K8 (by decide)).1 h).2
 generalize (X3 (KM s)).1 = kind at h hk ⊢
 generalize (X3 (KM s)).2 = s2 at h hk ⊢
 have g0:(gI 1 s2).2.2 = 0 → s2.2 = 0:=by
  unfold gI
  grind
 unfold Zbp at h ⊢
 split
 ·rename_i hc
  rw [if_pos hc] at h
  have:=(K8 (by decide)).1 h
  simp_all
 ·rename_i hc
  rw [if_neg hc] at h
  have:=(K8 (by decide)).1 h
  simp_all
theorem Zj1 {b:List Int} {coefs warm:List Int} {sh:Int} {c n:Nat} {s:IS} (h:Zf b s.1):Zf b (Zax coefs sh c n warm s).2.1:=by
 unfold Zax
 split
 ·exact Zl2 h _ _
 ·exact Zl2 h _ _
theorem ZmP {coefs warm:List Int} {sh:Int} {c n:Nat} {s:IS}:(Zax coefs sh c n warm s).1.length ≤ warm.length + n:=by
 unfold Zax
 split
 ·simp
 ·have h1:=ZnR (n:=n) (o:=c) s.1
  simp only
  unfold YX
  repeat' split
  all_goals try simp
  have:=ZnQ (c:=coefs) (sh:=sh) (Yh n c s.1).1 warm
  omega
theorem Zka {b:List Int} {s:IS} (h:Zf b s.1):Zf b (Y7 s).1:=Qn (Qr h _) _ _
theorem Zkb {b:List Int} {s:IS} (h:Zf b s.1):Zf b (Q6 s).2.1:=Qn (Qr h _) _ _
theorem Zts {b:List Int} {c n:Nat} {warm:List Int} {sh:Nat} {x:List Int × IS} (h:Zf b x.2.1):Zf b (Zb0 c n warm sh x).2.1:=by
 unfold Zb0
 split
 ·exact h
 ·exact Zj1 h
theorem Ztt {b:List Int} {num:Bool} {c n:Nat} {w:List Int × IS} (h:Zf b w.2.1):Zf b (KS num c n w).2.1:=by
 unfold KS
 split
 ·exact Zts (Xe _ _ _ (Zkb (Zka h)))
 ·split
  ·exact h
  ·exact Zj1 h
theorem Zj0 {b:List Int} {num:Bool} {c n d:Nat} {s:IS} (h:Zf b s.1):Zf b (Zea num c n d s).2.1:=by
 unfold Zea
 split
 ·exact Qn h _ _
 ·exact Ztt (Xe _ _ _ (Qn h _ _))
theorem Ztr {b:List Int} {kind n d:Nat} {s:IS} (h:Zf b s.1):Zf b (Ws kind n d s).2.1:=by
 unfold Ws
 split
 ·exact Xe _ _ _ h
 ·split
  ·exact Xe _ _ _ h
  ·split
   ·exact Zj0 h
   ·exact Zj0 h
theorem ZmN {num:Bool} {c n d:Nat} {s:IS} (hc:c ≤ 8):(Zea num c n d s).1.length ≤ 8 + n:=by
 unfold Zea
 split
 ·simp
 ·have hl:=YS (w:=d) c (mI (decide (c ≤ n)) s 2) []
  generalize Xd d c (mI (decide (c ≤ n)) s 2) [] = w at hl
  simp only [HN,Ub] at hl
  unfold KS Zb0
  repeat' split
  all_goals try simp
  ·have:=ZmP (coefs:=(Xd 12 c (Q6 (Y7 w.2)).2 []).1) (warm:=w.1) (sh:=((Q6 (Y7 w.2)).1:Nat)) (c:=c) (n:=n) (s:=(Xd 12 c (Q6 (Y7 w.2)).2 []).2)
   omega
  ·have:=ZmP (coefs:=W5 (min 4 c)) (warm:=w.1) (sh:=0) (c:=c) (n:=n) (s:=w.2)
   omega
theorem ZmM {kind n d:Nat} {s:IS} (hk:Zbb kind = true):(Ws kind n d s).1.length ≤ 8 + n:=by
 have hk:=of_decide_eq_true hk
 unfold Ws
 split
 ·simp
 ·split
  ·rw [YS]; simp
  ·split
   ·exact ZmN (by omega)
   ·exact ZmN (by omega)
abbrev BT:=List Int × ((List Int × Int × Unit) × Int × Unit) × Unit
theorem ZGy (k:Nat) {b:List Int} (hb:ZM b = true) (hn:b.length < 268435456) (hk:8 * b.length + 50000 < k) {s:IS} (hs:Zf b s.1) {coefs warm:List Int} (hco:coefs.length ≤ 8192) (hw:warm.length ≤ 8) {sh:Int} {n c:Nat} (hnn:n ≤ 512) :
  ((Zcr k (YG b s.1,(n:Int),(c:Int),())).bind fun y_2 => bif y_2.1.2.1 != (0:Int) then some (([],((y_2.2.1.1,y_2.2.1.2.1,()),y_2.1.2.1,()),()):BT) else (Zcs k ((coefs,sh,()),warm,y_2.1.1,())).bind fun y => some (y.1.1,((y_2.2.1.1,y_2.2.1.2.1,()),y.1.2.1,()),())) =
   some ((Zax coefs sh c n warm s).1,(YG b (Zax coefs sh c n warm s).2.1,(Zax coefs sh c n warm s).2.2,()),()):=by
 refine (Zd (Zye k hb hn hs hk n c) _).trans ?_
 unfold Zax
 simp only
 rw [ZR]
 by_cases h:(Yh n c s.1).2.1 = 0
 ·rw [Zr (by simpa using h),if_neg (by simpa using h)]
  have hl:=ZnR (n:=n) (o:=c) s.1
  exact Zd (Zyg k (by omega) hco (by omega) (by omega)) _
 ·rw [Zc h,if_pos h]
theorem ZCX (k:Nat) {b:List Int} (hb:ZM b = true) (hn:b.length < 268435456) (hk:8 * b.length + 50000 < k) {s:IS} (hs:Zf b s.1) {kind n d:Nat} (hkd:Zbb kind = true) (h1:1 ≤ n) (hnn:n ≤ 512) (hd:d ≤ 32) :
  ZCW k ((YG b s.1,s.2,()),(kind:Int),(n:Int),(d:Int),()) = some ((Ws kind n d s).1,(YG b (Ws kind n d s).2.1,(Ws kind n d s).2.2,()),()):=by
 show Zlf k _ = _
 simp only [Zlf]
 have hkd:=of_decide_eq_true hkd
 unfold Ws
 rw [ZP,ZP]
 by_cases h0:kind = 0
 ·rw [Zc (by omega),if_pos h0]
  refine (Zd (ZaR k hb hn (by omega) hs (w:=d) (n:=1) hd (by omega)) _).trans ?_
  have hl:=YS (w:=d) 1 s []
  generalize Xd d 1 s [] = w at hl
  obtain ⟨w1,w2⟩:=w
  match w1,hl with
  | [x],_ =>
   refine (Zd (Zya k x h1 hnn (by omega)) _).trans ?_
   rfl
 ·rw [Zr (by omega),if_neg h0]
  by_cases hk1:kind = 1
  ·rw [Zc (by omega),if_pos hk1]
   exact Zd (ZaR k hb hn (by omega) hs (w:=d) (n:=n) hd hnn) _
  ·rw [Zr (by omega),if_neg hk1]
   by_cases h31:31 < kind
   ·simp only [Zc (show (31:Int) < (kind:Int) by omega)]
    rw [if_pos h31]
    have ec:Jx.wrap ((kind:Int) - 31) = ((kind - 31:Nat):Int):=by rw [Qk (by omega)]; omega
    simp only [ec]
    have hc8:kind - 31 ≤ 8:=by omega
    generalize kind - 31 = c at hc8
    have edn:decide ((c:Int) ≤ (n:Int)) = decide (c ≤ n):=by
     simp_all
    rw [edn]
    refine (Zd (XY k (s:=s) _) _).trans ?_
    unfold Zea
    have r1:=Qn hs (decide (c ≤ n)) 2
    generalize mI (decide (c ≤ n)) s 2 = s1 at r1 ⊢
    simp only
    rw [ZR]
    by_cases he:s1.2 = 0
    ·rw [Zr (by simpa using he),if_neg (show ¬ s1.2 ≠ 0 by simpa using he)]
     refine (Zd (ZaR k hb hn (by omega) r1 (w:=d) (n:=c) hd (by omega)) _).trans ?_
     have r2:=Xe (w:=d) c s1 [] r1
     have hl:=YS (w:=d) c s1 []
     generalize Xd d c s1 [] = w at r2 hl ⊢
     simp only [HN,Ub] at hl
     have e4:(if (4:Int) < (c:Int) then (4:Int) else (c:Int)) = ((min 4 c:Nat):Int):=by split <;> omega
     simp only
     rw [e4]
     refine (Zd (ZgM k (min 4 c) (by omega) (by omega)) _).trans ?_
     unfold KS
     rw [if_pos rfl]
     refine (Zd (ZaO k hb hn (by omega) r2 (w:=4) (by omega)) _).trans ?_
     refine (Zd (XY k (s:=(gI 4 w.2).2) _) _).trans ?_
     rw [show ((((gI 4 w.2).1:Nat):Int) == (11:Int)) = ((gI 4 w.2).1 == 11) from Wa _ 11]
     have r3:=Zka r2
     change ((Y4 k ((YG b (Y7 w.2).1,(Y7 w.2).2,()),5,())).bind _) = _
     generalize Y7 w.2 = s3 at r3 ⊢
     refine (Zd (ZaO k hb hn (by omega) r3 (w:=5) (by omega)) _).trans ?_
     refine (Zd (XY k (s:=(gI 5 s3).2) _) _).trans ?_
     have e15:decide ((((gI 5 s3).1:Nat):Int) ≤ 15) = decide ((gI 5 s3).1 ≤ 15):=by
      grind
     rw [e15]
     have r4:=Zkb r3
     change ((ZbF k ((YG b (Q6 s3).2.1,(Q6 s3).2.2,()),(c:Int),12,())).bind fun y_6 => bif y_6.2.1.2.1 != (0:Int) then some (([],((y_6.2.1.1.1,y_6.2.1.1.2.1,()),y_6.2.1.2.1,()),()):BT) else (Zcr k ((y_6.2.1.1.1,y_6.2.1.1.2.1,()),(n:Int),(c:Int),())).bind fun y_7 => bif y_7.1.2.1 != (0:Int) then some ([],((y_7.2.1.1,y_7.2.1.2.1,()),y_7.1.2.1,()),()) else (Zcs k ((y_6.1,(((Q6 s3).1:Nat):Int),()),w.1,y_7.1.1,())).bind fun y => some (y.1.1,((y_7.2.1.1,y_7.2.1.2.1,()),y.1.2.1,()),())) = _
     generalize (Q6 s3).1 = sh
     generalize (Q6 s3).2 = s4 at r4 ⊢
     refine (Zd (ZaR k hb hn (by omega) r4 (w:=12) (n:=c) (by omega) (by omega)) _).trans ?_
     have r5:=Xe (w:=12) c s4 [] r4
     have hl5:=YS (w:=12) c s4 []
     generalize Xd 12 c s4 [] = x at r5 hl5 ⊢
     simp only [HN,Ub] at hl5
     unfold Zb0
     simp only
     rw [ZR]
     by_cases hx:x.2.2 = 0
     ·rw [Zr (by simpa using hx),if_neg (by simpa using hx)]
      exact ZGy k hb hn hk r5 (by omega) (by omega) hnn
     ·rw [Zc hx,if_pos hx]
    ·rw [Zc he,if_pos he]
   ·simp only [Zr (show ¬ (31:Int) < (kind:Int) by omega)]
    rw [if_neg h31]
    have ec:Jx.wrap ((kind:Int) - 8) = ((kind - 8:Nat):Int):=by rw [Qk (by omega)]; omega
    simp only [ec]
    have hc8:kind - 8 ≤ 4:=by omega
    generalize kind - 8 = c at hc8
    have edn:decide ((c:Int) ≤ (n:Int)) = decide (c ≤ n):=by
     simp_all
    rw [edn]
    refine (Zd (XY k (s:=s) _) _).trans ?_
    unfold Zea
    have r1:=Qn hs (decide (c ≤ n)) 2
    generalize mI (decide (c ≤ n)) s 2 = s1 at r1 ⊢
    simp only
    rw [ZR]
    by_cases he:s1.2 = 0
    ·rw [Zr (by simpa using he),if_neg (show ¬ s1.2 ≠ 0 by simpa using he)]
     refine (Zd (ZaR k hb hn (by omega) r1 (w:=d) (n:=c) hd (by omega)) _).trans ?_
     have r2:=Xe (w:=d) c s1 [] r1
     have hl:=YS (w:=d) c s1 []
     generalize Xd d c s1 [] = w at r2 hl ⊢
     simp only [HN,Ub] at hl
     have e4:(if (4:Int) < (c:Int) then (4:Int) else (c:Int)) = ((min 4 c:Nat):Int):=by split <;> omega
     simp only
     rw [e4]
     refine (Zd (ZgM k (min 4 c) (by omega) (by omega)) _).trans ?_
     unfold KS
     rw [if_neg (by simp)]
     simp only
     rw [ZR]
     by_cases hx:w.2.2 = 0
     ·rw [Zr (by simpa using hx),if_neg (by simpa using hx)]
      exact ZGy k hb hn hk r2 (by rw [Zll _ (by omega)]; omega) (by omega) hnn
     ·rw [Zc hx,if_pos hx]
    ·rw [Zc he,if_pos he]
def QA (n d:Nat) (r:List Bool):List Int × Int × List Bool :=
 if ¬ (1 ≤ n ∧ n ≤ 512 ∧ 4 ≤ d ∧ d ≤ 25) then ([],1,r)
 else if (ZJ d (r,0)).2.2.2 ≠ 0 then ([],(ZJ d (r,0)).2.2.2,(ZJ d (r,0)).2.2.1)
 else if (Ws (ZJ d (r,0)).1 n (d - (ZJ d (r,0)).2.1) (ZJ d (r,0)).2.2).2.2 ≠ 0 then ([],(Ws (ZJ d (r,0)).1 n (d - (ZJ d (r,0)).2.1) (ZJ d (r,0)).2.2).2.2,(Ws (ZJ d (r,0)).1 n (d - (ZJ d (r,0)).2.1) (ZJ d (r,0)).2.2).2.1)
 else if (Ws (ZJ d (r,0)).1 n (d - (ZJ d (r,0)).2.1) (ZJ d (r,0)).2.2).1.all (Xk · (d - (ZJ d (r,0)).2.1)) = true then
  ((Ws (ZJ d (r,0)).1 n (d - (ZJ d (r,0)).2.1) (ZJ d (r,0)).2.2).1.map (fun x => x * 2 ^ (ZJ d (r,0)).2.1),0,(Ws (ZJ d (r,0)).1 n (d - (ZJ d (r,0)).2.1) (ZJ d (r,0)).2.2).2.1)
 else ([],12,(Ws (ZJ d (r,0)).1 n (d - (ZJ d (r,0)).2.1) (ZJ d (r,0)).2.2).2.1)
theorem ZmH {b:List Int} {r:List Bool} (h:Zf b r) (n d:Nat):Zf b (QA n d r).2.2:=by
 unfold QA
 have h1:=Zgm (s:=(r,0)) h d
 repeat' split
 all_goals first | exact h | exact h1 | exact Ztr h1
theorem Zw3 {x:Int} {d k:Nat} (hk:k < d) (hd:d ≤ 32) (h:Xk x (d - k) = true):Xk (x * 2 ^ k) d = true ∧ -9223372036854775808 ≤ x * 2 ^ k ∧ x * 2 ^ k ≤ 9223372036854775807:=by
 unfold Xk at h ⊢
 rw [if_neg (by omega),decide_eq_true_eq] at h
 rw [if_neg (by omega),decide_eq_true_eq]
 have hp:(0:Int) < 2 ^ k:=U6 (by omega)
 have e:(2:Int) ^ (d - 1) = 2 ^ (d - k - 1) * 2 ^ k:=by rw [← Int.pow_add]; congr 1; omega
 have h1 : -(2 ^ (d - 1):Int) ≤ x * 2 ^ k:=by rw [e,← Int.neg_mul]; simp_all
 have h2:x * 2 ^ k < 2 ^ (d - 1):=by simp_all
 refine ⟨⟨h1,h2⟩,?_⟩
 rw [WP (d - 1)] at h1 h2
 have:2 ^ (d - 1) ≤ 2 ^ 31:=Hd (by omega) (by omega)
 omega
theorem ZB0 (k:Nat) {b:List Int} (hb:ZM b = true) (hn:b.length < 268435456) (hk:8 * b.length + 50000 < k) {r:List Bool} (hr:Zf b r) (n d:Nat) :
  ZBX k (YG b r,(n:Int),(d:Int),()) = some (((QA n d r).1,(QA n d r).2.1,()),YG b (QA n d r).2.2,()):=by
 show ZfF k (Zpj k) _ = _
 simp only [ZfF]
 rw [Zr7]
 simp only [Qt]
 unfold QA
 by_cases h:1 ≤ n ∧ n ≤ 512 ∧ 4 ≤ d ∧ d ≤ 25
 ·rw [if_neg (by simpa using h),dTr (by omega)]
  simp only [Hl,cond_false]
  refine (Zd (ZCV k hb hn (by omega) (s:=(r,0)) hr d) _).trans ?_
  have hz:=Zgn (d:=d) (s:=(r,0))
  have r1:=Zgm (s:=(r,0)) hr d
  generalize ZJ d (r,0) = hd at hz r1 ⊢
  obtain ⟨kind,kk,s1⟩:=hd
  simp only at hz r1 ⊢
  rw [ZR]
  by_cases he:s1.2 = 0
  ·rw [Zr (by simpa using he),if_neg (by simpa using he)]
   obtain ⟨hkd,hkind⟩:=hz he
   have e1:Jx.wrap ((d:Int) - (kk:Int)) = ((d - kk:Nat):Int):=by rw [Qk (by omega)]; omega
   rw [e1]
   refine (Zd (ZCX k hb hn hk r1 hkind h.1 h.2.1 (d:=d - kk) (by omega)) _).trans ?_
   have hl:=ZmM (kind:=kind) (n:=n) (d:=d - kk) (s:=s1) hkind
   generalize Ws kind n (d - kk) s1 = y at hl ⊢
   simp only
   rw [ZR]
   by_cases hy:y.2.2 = 0
   ·rw [Zr (by simpa using hy),if_neg (by simpa using hy)]
    have:=ZC (A:=List Int) (R:=(List Int × Int × Unit) × (List Int × Int × Unit) × Unit) (step:=fun L1 => ZcA k L1)
     (fun i out => (UI y.1.length,UI i,y.1,(d:Int),(kk:Int),b,((ZL b y.2.1:Nat):Int),out)) y.1
     (fun l' out => some (if l'.all (Xk · (d - kk)) = true then ((out ++ l'.map (fun x => x * 2 ^ kk),0,()),YG b y.2.1,()) else (([],12,()),YG b y.2.1,())))
     (fun i out => out.length = i)
     (fun L out _ => by grind [ZcA])
     (fun L i hi out ho hL => by
      simp only [ZcA]
      rw [Zc (ltR hi),Zc (inR hi),ZQ hi,e1,Zr8 k _ (by omega) (by omega)]
      simp only [Qt]
      rw [UA]
      cases hs:Xk y.1[i] (d - kk) with
      | false => simp
      | true =>
       simp only [Hl,cond_false,UC]
       have hsh:=(Zw3 hkd (by omega) hs).2
       rw [Zc (by omega),WV,U4 (by omega),Qk hsh,Zc (by grind),Q1 hi (by omega),hL _ (by simp; omega)]
       grind)
     k 0 [] rfl (by omega) (UU _)
    rw [U9] at this
    refine U8 this ?_
    split <;> simp
   ·rw [Zc hy,if_pos hy]
  ·rw [Zc he,if_pos he]
 grind
end Go.Sh
namespace Go.Sh
open Go Go.Proofs
def KQ (x:Nat):Nat:=if x < 128 then 0 else if x < 192 then 1 else if x < 224 then 2 else if x < 240 then 3 else if x < 248 then 4 else if x < 252 then 5 else if x < 254 then 6 else if x < 255 then 7 else 8
theorem ZDy:∀ x:Fin 256,Zo0 0 (UM.wrap (UI (UJ 8 255 ^^^ UJ 8 (x.val:Int)).toNat),()) = some (((KQ x.val:Nat):Int),()):=by decide +kernel
theorem Zyz (k:Nat) {x:Nat} (h:x < 256):Zo0 k (UM.wrap (UI (UJ 8 255 ^^^ UJ 8 (x:Int)).toNat),()) = some (((KQ x:Nat):Int),()):=ZDy ⟨x,h⟩
theorem ZFs (x:Nat):KQ x ≤ 8:=by
 unfold KQ
 repeat' split
 all_goals omega
theorem ZDo:∀ (x:Fin 256) (k:Fin 8),Jx.wrap (UI (UJ 64 (Jx.wrap (x.val:Int)) &&& UJ 64 (Int.fdiv (127:Int) ((2:Int) ^ min k.val 64))).toNat) = ((x.val % 2 ^ (7 - k.val):Nat):Int):=by decide +kernel
def cgL:Nat → List Int → Nat → Nat → Option (Nat × Nat)
 | 0,_,a,g => some (a,g)
 | n + 1,[],a,g => cgL n [] (a * 64) (g * 64 + 63)
 | n + 1,x :: xs,a,g => if x.toNat / 64 = 2 then cgL n xs (a * 64 + x.toNat % 64) (g * 64 + x.toNat % 64) else none
def Zb8 (b:List Int):Nat × Nat × Int:=match b with
 | [] => (0,0,10)
 | x :: xs => if KQ x.toNat = 0 then (x.toNat,1,0) else if KQ x.toNat = 1 then (0,0,2) else if 7 < KQ x.toNat then (0,0,2)
  else match cgL (KQ x.toNat - 1) xs (x.toNat % 2 ^ (7 - KQ x.toNat)) (x.toNat % 2 ^ (7 - KQ x.toNat)) with
   | none => (0,0,2)
   | some (a,g) => if g < 2 ^ XQ (KQ x.toNat - 1) then (0,0,2) else if xs.length + 1 < KQ x.toNat then (0,0,10) else (a,KQ x.toNat,0)
theorem ZFw {a m:Nat} (ha:a < 1125899906842624) (hm:m < 64):Jx.wrap (UI (UJ 64 (Jx.wrap ((a:Int) * 64)) ||| UJ 64 (m:Int)).toNat) = ((a * 64 + m:Nat):Int):=by
 have h1:Jx.wrap ((a:Int) * 64) = ((a * 64:Nat):Int):=by rw [Qk (by omega)]; omega
 rw [h1,orN (by omega) (by omega)]
 have:=HX (i:=6) (show m < 2 ^ 6 from hm) a
 rw [He] at this
 rw [show a * 64 = a * 2 ^ 6 from rfl,← this,Qk (by omega)]
theorem ZIQ {x:Nat} (hx:x < 256):Jx.wrap (UI (UJ 64 (Jx.wrap (x:Int)) &&& UJ 64 63).toNat) = ((x % 64:Nat):Int):=by
 rw [Qk (n:=(x:Int)) (by omega),show (63:Int) = ((63:Nat):Int) from rfl,Zxb (by omega) (by omega),show (63:Nat) = 2 ^ 6 - 1 from rfl,Hx,Qk (by omega)]
theorem Zx3 (k:Nat) {b:List Int} (hb:ZM b = true) {kk:Nat} (h2:2 ≤ kk) (h7:kk ≤ 7):∀ (d m i a g:Nat),i + d = kk → 1 ≤ i → d < m → a < 2 ^ (6 * i + 6) → g < 2 ^ (6 * i + 6) →
  Zn (fun L1 => ZaN k L1) m ((i:Int),(kk:Int),b,(a:Int),(g:Int)) = some (match cgL d (b.drop i) a g with
   | none => (0,0,2,())
   | some (a,g) => if g < 2 ^ XQ (kk - 1) then (0,0,2,()) else if b.length < kk then (0,0,10,()) else ((a:Int),(kk:Int),0,()),()):=by
 intro d
 induction d with
 | zero =>
  intro m i a g hi h1 hm ha hg
  obtain ⟨m,rfl⟩:=Zq hm
  rw [Ze]
  simp only [ZaN]
  have e1:Jx.wrap ((kk:Int) - 1) = ((kk - 1:Nat):Int):=by rw [Qk (by omega)]; omega
  rw [Zr (by omega),e1,Zk6 k (kk - 1) (by omega)]
  simp only [Qt,cgL]
  have hr:XQ (kk - 1) ≤ 31:=by unfold XQ; split <;> omega
  rw [Zc (by omega),ZjB hr]
  grind
 | succ d ih =>
  intro m i a g hi h1 hm ha hg
  obtain ⟨m,rfl⟩:=Zq (show 0 < m by omega)
  rw [Ze]
  simp only [ZaN]
  have hpow:2 ^ (6 * i + 6) ≤ 2 ^ 42:=Hd (by omega) (by omega)
  have hnext:2 ^ (6 * (i + 1) + 6) = 64 * 2 ^ (6 * i + 6):=by grind
  have e2:Jx.wrap ((i:Int) + 1) = ((i + 1:Nat):Int):=by rw [Qk (by omega)]; rfl
  rw [Zc (by omega)]
  by_cases hlt:i < b.length
  ·obtain ⟨x,hx,hxe⟩:=Ks hb hlt
   rw [Zc (by simp only [Xb]; omega),Zc (by simp only [Xb]; omega),WV,K2 hlt,hxe,Ul hlt,hxe]
   have hd:((x:Nat):Int).fdiv 64 = ((x / 64:Nat):Int):=by grind
   rw [hd,ZR]
   simp only [cgL,WV]
   by_cases h64:x / 64 = 2
   ·rw [Zr (by omega),if_pos h64,Zc (by simp only [Xb]; omega),ZIQ hx,ZFw (by omega) (by omega),ZFw (by omega) (by omega),e2]
    exact ih m (i + 1) _ _ (by omega) (by omega) (by omega) (by omega) (by omega)
   ·rw [Zc (by omega),if_neg h64]
  ·rw [Zr (by simp only [Xb]; omega),show (0:Int) = ((0:Nat):Int) from rfl,show (63:Int) = ((63:Nat):Int) from rfl,ZFw (by omega) (by omega),ZFw (by omega) (by omega),e2]
   have hd0:b.drop i = []:=HV (by omega)
   have hd1:b.drop (i + 1) = []:=HV (by omega)
   have:=ih m (i + 1) (a * 64 + 0) (g * 64 + 63) (by omega) (by omega) (by omega) (by omega) (by omega)
   rw [hd1] at this
   rw [hd0]
   exact this
theorem Zx4 (k:Nat) {b:List Int} (hb:ZM b = true) (hk:20 < k):ZtO k (b,()) = some (((((Zb8 b).1:Nat):Int),(((Zb8 b).2.1:Nat):Int),(Zb8 b).2.2,()),()):=by
 show Zdz k (Zi6 k) _ = _
 simp only [Zdz]
 match b,hb with
 | [],_ => rfl
 | x :: xs,hb =>
  obtain ⟨y,hy,hye⟩:=Ks hb (i:=0) (by simp)
  simp only [Eo] at hye
  subst hye
  rw [show (UI ((y:Int) :: xs).length == (0:Int)) = false from by rfl]
  simp only [cond_false]
  have hpos:(0:Int) ≤ 0 ∧ (0:Int) < UI ((y:Int) :: xs).length:=by simp_all
  rw [Zc hpos,show ((y:Int) :: xs).getD 0 0 = (y:Int) from rfl,Zyz k hy]
  simp only [Qt]
  unfold Zb8
  simp only [WV]
  have h8:=ZFs y
  rw [ZP]
  by_cases h0:KQ y = 0
  ·rw [Zc (by omega),Zc hpos,if_pos h0,Qk (by omega)]
   rfl
  ·rw [Zr (by omega),if_neg h0,ZP]
   by_cases h1:KQ y = 1
   ·simp_all
   ·rw [Zr (by omega),if_neg h1]
    by_cases h7:7 < KQ y
    ·grind
    ·rw [Zr (by omega),if_neg h7,Zc hpos,Zc (by omega),Zc hpos,Zc (by omega)]
     have hm:=ZDo ⟨y,hy⟩ ⟨KQ y,by omega⟩
     simp only at hm
     rw [hm]
     have hlt:y % 2 ^ (7 - KQ y) < 2 ^ (6 * 1 + 6):=Nat.lt_of_le_of_lt (Ee _ _) (by omega)
     refine (Zx3 k hb (kk:=KQ y) (by omega) (by omega) (KQ y - 1) k 1 _ _ (by omega) (by omega) (by omega) hlt hlt).trans ?_
     grind
def tgL (m x y:Int):Int:=if m = 9 then x + y else if m = 10 then (2 * x + y % 2 + y) / 2 else x
def tgR (m x y:Int):Int:=if m = 8 then x - y else if m = 10 then (2 * x + y % 2 - y) / 2 else y
theorem ZIt {x y:Int} (hx:Qg x) (hy:Qg y):Jx.wrap (UI (UJ 64 (Jx.wrap (x * 2)) ||| UJ 64 (Jx.wrap (UI (UJ 64 y &&& UJ 64 1).toNat))).toNat) = 2 * x + y % 2:=by
 unfold Qg at hx hy
 have e1:Jx.wrap (UI (UJ 64 y &&& UJ 64 1).toNat) = (((y % 2).toNat:Nat):Int):=by
  rw [BitVec.toNat_and,YU,show (UJ 64 1).toNat = 1 from rfl,HO]
  have:Kf y % 2 = (y % 2).toNat:=by unfold Kf; omega
  rw [this,Qk (by simp only [Xb]; omega)]
  rfl
 rw [e1,Qk (n:=x * 2) (by omega),Ei,YU,YU]
 have e2:Kf (((y % 2).toNat:Nat):Int) = (y % 2).toNat:=by unfold Kf; omega
 obtain ⟨q,hq⟩:∃ q,Kf (x * 2) = q * 2:=⟨Kf (x * 2) / 2,by unfold Kf; omega⟩
 have hb:(y % 2).toNat < 2 ^ 1:=by omega
 have:=HX hb q
 rw [He] at this
 rw [e2,hq,show q * 2 = q * 2 ^ 1 from rfl,← this]
 have h3:q * 2 = Kf (x * 2):=hq.symm
 unfold Kf at h3
 rw [IntKind.wrap_i64]
 grind
def Zd8 (m:Int) (A B:List Int):List Int:=(A.zip B).map fun x => tgL m x.1 x.2
def Zd9 (m:Int) (A B:List Int):List Int:=(A.zip B).map fun x => tgR m x.1 x.2
def Ky (x:Int):Bool:=decide (-16777216 ≤ x ∧ x ≤ 16777216)
theorem ZE7 (k:Nat) {L R:List Int} (hk:L.length < k) (h:L.length = R.length) (hn:L.length ≤ 8192) :
  ZrW k (L,R,()) = some (if (L.zip R).all (fun x => Ky x.1 && Ky x.2) = true then (ZcY L R,0,()) else ([],12,()),()):=by
 show Za6 k (Zk1 k) _ = _
 simp only [Za6]
 rw [show (UI L.length != UI R.length) = false from by rw [h]; simp]
 simp only [cond_false]
 rw [Zr (by simp only [Xb]; omega)]
 have:=ZC (A:=List (Nat × Nat)) (step:=fun L1 => YO k L1) (fun i acc => (UI L.length,UI i,L,R,acc)) (L.zip R)
  (fun l acc => some (if l.all (fun x => Ky x.1 && Ky x.2) = true then (acc ++ l.map (fun x => (Je.nearest x.1,Je.nearest x.2)),0,()) else ([],12,()),())) (fun i acc => acc.length = i)
  (fun L1 acc ha => by
   grind [YO])
  (fun L1 i hi acc ha hL1 => by
   have hi2:i < L.length:=by simp at hi; omega
   have hi3:i < R.length:=by omega
   simp only [YO]
   rw [Zc (ltR hi2),Zc (inR hi2),Zc (inR hi3),ZQ hi2,ZQ hi3,UA,HT]
   have hok:∀ x:Int,Ky x = true ↔ (¬ x < -16777216 ∧ ¬ 16777216 < x):=by intro x; unfold Ky; rw [decide_eq_true_eq]; omega
   by_cases h1:L[i] < -16777216
   ·grind
   ·rw [Zr h1]
    by_cases h2:16777216 < L[i]
    ·grind
    ·have hl:Ky L[i] = true:=(hok _).2 ⟨h1,h2⟩
     rw [Zr h2]
     by_cases h3:R[i] < -16777216
     ·grind
     ·rw [Zr h3]
      by_cases h4:16777216 < R[i]
      ·grind
      ·have hr:Ky R[i] = true:=(hok _).2 ⟨h3,h4⟩
       rw [Zr h4,Zc (by simp; omega),Q1 hi2 (by omega),hL1 _ (by simp [ha]),hl,hr]
       grind) k 0 [] rfl (by simp; omega) (UU _)
 exact U8 this (by rw [U9]; rfl)
theorem ZD1 {m x y:Int} (hm:ZfZ m) (hx:Qg x) (hy:Qg y) : -300000000 ≤ tgL m x y ∧ tgL m x y ≤ 300000000 ∧ -300000000 ≤ tgR m x y ∧ tgR m x y ≤ 300000000:=by
 unfold Qg at hx hy
 unfold tgL tgR
 omega
def QN (m:Int) (A B:List Int):List (Nat × Nat) × Int :=
 if A.length ≠ B.length then ([],1) else if ((Zd8 m A B).zip (Zd9 m A B)).all (fun x => Ky x.1 && Ky x.2) = true then (ZcY (Zd8 m A B) (Zd9 m A B),0) else ([],12)
theorem ZsN {xs:List Int} {g:List Int} {i:Nat} {v:Int} (h:i < xs.length) (hx:∀ j (h:j < i),xs[j]? = g[j]?) (hv:g[i]? = some v):∀ j,j < i + 1 → (xs.set i v)[j]? = g[j]? := by
 grind
theorem ZB8 (k:Nat) {A B:List Int} {m:Int} (hm:ZfZ m) (hn:A.length ≤ 600) (hk:1000 < k) (hA:∀ x ∈ A,Qg x) (hB:∀ x ∈ B,Qg x) :
  ZrU k (A,B,m,()) = some (((QN m A B).1,(QN m A B).2,()),()):=by
 show ZfH k (Zpn k) _ = _
 simp only [ZfH]
 rw [Zsa k hm]
 simp only [Qt,Hl,cond_false]
 by_cases hl:A.length = B.length
 case neg =>
  rw [ZR,Zc (by simp only [Xb]; omega)]
  unfold QN
  rw [if_pos hl]
 rw [show (UI A.length != UI B.length) = false from by rw [hl]; simp]
 simp only [cond_false]
 rw [Zr (by simp only [Xb]; omega),Zc (by simp only [Xb]; omega),Zc (by simp only [Xb]; omega)]
 have hzl:(A.zip B).length = A.length:=by rw [HU]; omega
 have hLl:(Zd8 m A B).length = A.length:=by unfold Zd8; rw [Ec,hzl]
 have hRl:(Zd9 m A B).length = A.length:=by unfold Zd9; rw [Ec,hzl]
 have hgL:∀ (i:Nat) (h:i < A.length),(Zd8 m A B)[i]? = some (tgL m A[i] (B[i]'(by omega))):=by
  intro i h
  rw [VO (by omega)]
  unfold Zd8
  rw [Ep,HT]
 have hgR:∀ (i:Nat) (h:i < A.length),(Zd9 m A B)[i]? = some (tgR m A[i] (B[i]'(by omega))):=by
  intro i h
  rw [VO (by omega)]
  unfold Zd9
  rw [Ep,HT]
 have:=ZC (A:=List Int × List Int) (R:=(List (Nat × Nat) × Int × Unit) × Unit) (step:=fun L1 => Za4 k L1)
  (fun i a => (UI A.length,UI i,A,B,m,a.1,a.2)) A
  (fun l' a => some (((QN m A B).1,(QN m A B).2,()),()))
  (fun i a => a.1.length = A.length ∧ a.2.length = A.length ∧ (∀ j,j < i → a.1[j]? = (Zd8 m A B)[j]?) ∧ (∀ j,j < i → a.2[j]? = (Zd9 m A B)[j]?))
  (fun L a ha => by
   simp only [Za4]
   rw [Zr (ZeL _)]
   have e1:a.1 = Zd8 m A B:=by
    apply Jr
    grind
   have e2:a.2 = Zd9 m A B:=by
    apply Jr
    grind
   rw [e1,e2,ZE7 k (by omega) (by omega) (by omega)]
   simp only [Qt]
   unfold QN
   grind)
  (fun L i hi a ha hL => by
   have hi2:i < B.length:=by omega
   have hx:=hA A[i] (U5 hi)
   have hy:=hB B[i] (U5 hi2)
   have hbd:=ZD1 hm hx hy
   have key:Za4 k L (UI A.length,UI i,A,B,m,a.1,a.2) = L (UI A.length,UI (i + 1),A,B,m,a.1.set i (tgL m A[i] B[i]),a.2.set i (tgR m A[i] B[i])):=by
    have hor:=ZIt hx hy
    unfold Qg at hx hy
    simp only [Za4]
    rw [Zc (ltR hi),Zc (inR hi),Zc (inR hi2),ZQ hi,ZQ hi2,Zr (by split <;> omega),Zr (by split <;> omega)]
    have c1:(0:Int) ≤ UI i ∧ UI i < UI a.1.length:=by rw [ha.1]; exact inR hi
    have c2:(0:Int) ≤ UI i ∧ UI i < UI a.2.length:=by rw [ha.2.1]; exact inR hi
    have c3:(UI i).toNat < a.1.length:=by rw [ha.1]; simpa using hi
    have c4:(UI i).toNat < a.2.length:=by rw [ha.2.1]; simpa using hi
    rw [ZP,ZP,ZP,ZP]
    simp only [dTr c1,dTr c2,dTr c3,dTr c4,cond_true]
    rw [hor,Q1 hi (by omega)]
    unfold tgL tgR
    rcases hm with rfl | rfl | rfl | rfl
    ·rfl
    ·rw [Qk (n:=A[i] - B[i]) (by omega)]; rfl
    ·rw [Qk (n:=A[i] + B[i]) (by omega)]; rfl
    ·rw [Qk (n:=2 * A[i] + B[i] % 2 + B[i]) (by omega),Qk (n:=2 * A[i] + B[i] % 2 - B[i]) (by omega),Ho _ (by omega),Ho _ (by omega)]
     rfl
   rw [key]
   exact hL (a.1.set i (tgL m A[i] B[i]),a.2.set i (tgR m A[i] B[i])) ⟨by simp [ha.1],by simp [ha.2.1],ZsN (by omega) ha.2.2.1 (hgL i hi),ZsN (by omega) ha.2.2.2 (hgR i hi)⟩)
  k 0 (Jd A.length 0,Jd A.length 0) ⟨by simp,by simp,fun j hj => by omega,fun j hj => by omega⟩ (by omega) (UU _)
 exact this
theorem ZB9 (k:Nat) {p:List (Nat × Nat)} {L R:List Int} (hp:PP p L R) (hk:p.length + 4 < k) (hn:p.length ≤ 8192):ZrV k (p,()) = some ((L,R,0,()),()):=by
 show Zk0 k _ = _
 simp only [Zk0]
 rw [Zk2 k hp hk hn (.inl rfl)]
 have hlr:L.length = R.length:=by rw [← hp.hl,hp.hr]
 have e1:WF 0 L R = L:=by
  unfold WF
  show (L.zip R).map (fun x => x.1) = L
  exact List.map_fst_zip (by omega)
 have e2:WG 0 L R = R:=by
  unfold WG
  show (L.zip R).map (fun x => x.2) = R
  exact List.map_snd_zip (by omega)
 rw [e1,e2]
 rfl
end Go.Sh
namespace Go.Sh
open Go Go.Proofs
abbrev InT:=List Int × (List Int × Int × Unit) × Int × Unit
abbrev inp (b:List Int) (s:IS):InT:=(b,YG b s.1,s.2,())
theorem Xu (k:Nat) {b:List Int} (hb:ZM b = true) (hn:b.length < 268435456) (hk:100 < k) {s:IS} (hs:Zf b s.1) {w:Nat} (hw:w ≤ 32) :
  Wt k (inp b s,(w:Int),()) = some ((((gI w s).1:Nat):Int),inp b (gI w s).2,()):=by
 show Zla k _ = _
 simp only [Zla]
 unfold gI
 rw [ZP]
 by_cases h:s.2 = 0
 ·rw [Zc h,if_pos h,XX k hb (by omega) hs hw hk]
  rfl
 ·rw [Zr h,if_neg h]
  rfl
theorem Wb (k:Nat) {b:List Int} {s:IS} (ok:Bool) (code:Int):QY k (inp b s,ok,code,()) = some ((),inp b (mI ok s code),()):=by
 show Zk9 k _ = _
 simp only [Zk9]
 unfold mI
 grind
def Zb3 (c:Int) (m:Nat):Bool:=if c = 1 then m == 0 else m == 1 || (decide (8 ≤ m) && decide (m ≤ 10))
theorem ZCP (k:Nat) (c d r:Int) (m:Nat):Zr6 k ((c,d,r,()),(m:Int),()) = some (Zb3 c m,()):=by
 show Zlb k _ = _
 simp only [Zlb]
 unfold Zb3
 rw [ZP,show ((m:Int) == (0:Int)) = (m == 0) from Wa m 0,show ((m:Int) == (1:Int)) = (m == 1) from Wa m 1]
 by_cases h:c = 1
 ·rw [Zc h,if_pos h]
 ·rw [Zr h,if_neg h]
  cases m == 1 with
  | true => rfl
  | false =>
   simp only [cond_false,Bool.false_or]
   by_cases h8:8 ≤ m
   ·rw [Zc (by omega),dTr h8,UC]
    simp_all <;> omega
   grind
def ZnW:Nat → IS → IS
 | 0,s => s
 | n + 1,s => ZnW n (gI 8 s).2
theorem Zl6 {b:List Int}:∀ (n:Nat) (s:IS),Zf b s.1 → Zf b (ZnW n s).1
 | 0,s,h => h
 | n + 1,s,h => Zl6 n _ (Qr h 8)
def Zf4 (b:List Int) (s:IS):Nat × IS :=
 if s.2 ≠ 0 then (0,s) else ((Zb8 (b.drop (ZL b s.1 / 8))).1,mI (decide ((Zb8 (b.drop (ZL b s.1 / 8))).1 ≤ 2147483647)) (ZnW (Zb8 (b.drop (ZL b s.1 / 8))).2.1 (s.1,(Zb8 (b.drop (ZL b s.1 / 8))).2.2)) 2)
theorem ZnF {b:List Int} {s:IS} (h:Zf b s.1):Zf b (Zf4 b s).2.1:=by
 unfold Zf4
 split
 ·exact h
 ·exact Qn (Zl6 (Zb8 (b.drop (ZL b s.1 / 8))).2.1 (s.1,(Zb8 (b.drop (ZL b s.1 / 8))).2.2) h) _ _
theorem ZqL {b:List Int} (h:ZM b = true) (i:Nat):ZM (b.drop i) = true :=
 Vf.2 fun x hx => Vf.1 h x (JS hx)
theorem Zh9 {b:List Int} (h:ZM b = true) (i:Nat):ZM (b.take i) = true :=
 Vf.2 fun x hx => Vf.1 h x (JT hx)
theorem Zy3 (b:List Int):(Zb8 b).2.1 ≤ 8:=by
 unfold Zb8
 grind
theorem ZCT (k:Nat) {b:List Int} (hb:ZM b = true) (hn:b.length < 268435456) (hk:1000 < k) {s:IS} (hs:Zf b s.1) :
  Zlc k (inp b s,()) = some ((((Zf4 b s).1:Nat):Int),inp b (Zf4 b s).2,()):=by
 show ZfR k (ZpN k) _ = _
 simp only [ZfR]
 unfold Zf4
 rw [ZR]
 by_cases h:s.2 = 0
 ·rw [Zr (by simpa using h),if_neg (by simpa using h)]
  have e51:Za5 k ((b,((ZL b s.1:Nat):Int),()),()) = some (((ZL b s.1:Nat):Int),YG b s.1,()):=rfl
  rw [e51]
  simp only [Qt]
  have hp:ZL b s.1 ≤ 8 * b.length:=by unfold ZL; omega
  rw [Zn0,Qk (n:=((ZL b s.1 / 8:Nat):Int)) (by omega),Zc (by simp only [Xb]; omega),WV,show (UI b.length).toNat = b.length from rfl,HW]
  rw [Zx4 k (ZqL hb _) (by omega)]
  simp only [Qt]
  have hu:=Zy3 (b.drop (ZL b s.1 / 8))
  generalize Zb8 (b.drop (ZL b s.1 / 8)) = c at hu
  have H:∀ (d m i:Nat) (t:IS),Zf b t.1 → d < m → i + d ≤ 8 →
    Zn (fun L1 => ZcN k L1) m (((i + d:Nat):Int),(i:Int),((c.1:Nat):Int),b,t.2,b,((ZL b t.1:Nat):Int)) = some (((c.1:Nat):Int),inp b (mI (decide (c.1 ≤ 2147483647)) (ZnW d t) 2),()):=by
   intro d
   induction d with
   | zero =>
    intro m i t ht hm hi
    obtain ⟨m,rfl⟩:=Zq hm
    rw [Ze]
    simp only [ZcN]
    rw [Zr (by omega)]
    refine (Zd (Wb k (b:=b) (s:=t) _ _) _).trans ?_
    have:decide (((c.1:Nat):Int) ≤ 2147483647) = decide (c.1 ≤ 2147483647):=by
     grind
    rw [this]
    rfl
   | succ d ih =>
    intro m i t ht hm hi
    obtain ⟨m,rfl⟩:=Zq (show 0 < m by omega)
    rw [Ze]
    simp only [ZcN]
    rw [Zc (by omega)]
    refine (Zd (Xu k hb hn (by omega) ht (w:=8) (by omega)) _).trans ?_
    have e2:Jx.wrap ((i:Int) + 1) = ((i + 1:Nat):Int):=by rw [Qk (by omega)]; rfl
    rw [e2]
    have:=ih m (i + 1) (gI 8 t).2 (Qr ht 8) (by omega) (by omega)
    rw [show i + 1 + d = i + (d + 1) by omega] at this
    exact this
  have:=H c.2.1 k 0 (s.1,c.2.2) hs (by omega) (by omega)
  rw [Ub] at this
  exact this
 ·rw [Zc h,if_pos h]
  rfl
def Zd7 (of:List Int → Nat) (b:List Int) (w:Nat) (s:IS):IS:=if (gI w s).2.2 ≠ 0 then (gI w s).2 else mI ((gI w s).1 == of (b.take (ZL b s.1 / 8))) (gI w s).2 16
theorem ZzA {of:List Int → Nat} {b:List Int} {s:IS} (h:Zf b s.1) (w:Nat):Zf b (Zd7 of b w s).1:=by
 unfold Zd7
 split
 ·exact Qr h _
 ·exact Qn (Qr h _) _ _
theorem Xf (s:IS) (code:Int):mI true s code = s:=by unfold mI; rw [if_neg (by simp)]
theorem ZrT (k:Nat) {b:List Int} (hb:ZM b = true) (hn:b.length < 268435456) (hk:b.length + 1000 < k) {s:IS} (hs:Zf b s.1) {w:Nat} (hw:w ≤ 32) :
  Zij k (inp b s,(w:Int),(),()) = some ((),inp b (Zd7 Zd1 b w s),()):=by
 show ZkZ k _ = _
 simp only [ZkZ]
 have e51:Za5 k ((b,((ZL b s.1:Nat):Int),()),()) = some (((ZL b s.1:Nat):Int),YG b s.1,()):=rfl
 rw [e51]
 simp only [Qt]
 refine (Zd (Xu k hb hn (by omega) hs hw) _).trans ?_
 unfold Zd7
 simp only
 rw [ZR]
 by_cases h:(gI w s).2.2 = 0
 ·rw [Zr (by simpa using h),if_neg (by simpa using h)]
  have hp:ZL b s.1 ≤ 8 * b.length:=by unfold ZL; omega
  rw [Zn0,Qk (n:=((ZL b s.1 / 8:Nat):Int)) (by omega),Zc (by simp only [Xb]; omega),WV,U9]
  have htl:(b.take (ZL b s.1 / 8)).length ≤ b.length:=by rw [Jz]; omega
  refine (Zd (ZrN k (b.take (ZL b s.1 / 8)) (Zh9 hb _) (by omega) (by omega)) _).trans ?_
  simp only
  rw [Wa]
  exact Zd (Wb k (b:=b) (s:=(gI w s).2) _ _) _
 ·rw [Zc h,if_pos h]
  refine (Zd (Wb k (b:=b) (s:=(gI w s).2) _ _) _).trans ?_
  rw [Xf]
theorem ZtH (k:Nat) {b:List Int} (hb:ZM b = true) (hn:b.length < 268435456) (hk:b.length + 1000 < k) {s:IS} (hs:Zf b s.1) {w:Nat} (hw:w ≤ 32) :
  Zox k (inp b s,(w:Int),(),()) = some ((),inp b (Zd7 Zay b w s),()):=by
 show ZeA k _ = _
 simp only [ZeA]
 have e51:Za5 k ((b,((ZL b s.1:Nat):Int),()),()) = some (((ZL b s.1:Nat):Int),YG b s.1,()):=rfl
 rw [e51]
 simp only [Qt]
 refine (Zd (Xu k hb hn (by omega) hs hw) _).trans ?_
 unfold Zd7
 simp only
 rw [ZR]
 by_cases h:(gI w s).2.2 = 0
 ·rw [Zr (by simpa using h),if_neg (by simpa using h)]
  have hp:ZL b s.1 ≤ 8 * b.length:=by unfold ZL; omega
  rw [Zn0,Qk (n:=((ZL b s.1 / 8:Nat):Int)) (by omega),Zc (by simp only [Xb]; omega),WV,U9]
  have htl:(b.take (ZL b s.1 / 8)).length ≤ b.length:=by rw [Jz]; omega
  refine (Zd (ZrQ k (b.take (ZL b s.1 / 8)) (Zh9 hb _) (by omega) (by omega)) _).trans ?_
  simp only
  rw [Wa]
  exact Zd (Wb k (b:=b) (s:=(gI w s).2) _ _) _
 ·rw [Zc h,if_pos h]
  refine (Zd (Wb k (b:=b) (s:=(gI w s).2) _ _) _).trans ?_
  rw [Xf]
def hd1 (s:IS):IS:=mI ((gI 15 s).1 == 32764) (gI 15 s).2 11
def hd2 (s:IS):IS:=mI ((gI 1 s).1 == 0) (gI 1 s).2 2
def hd3 (s:IS):Nat × IS:=((gI 4 s).1,mI ((gI 4 s).1 == 6 || (gI 4 s).1 == 7) (gI 4 s).2 2)
def hd4 (s:IS):IS:=mI ((gI 4 s).1 == 0) (gI 4 s).2 2
def hd5 (c:Int) (s:IS):Nat × IS:=((gI 4 s).1,mI (Zb3 c (gI 4 s).1) (gI 4 s).2 2)
def hd6 (kind:Nat) (s:IS):Nat × IS:=if s.2 = 0 then ((gI (8 * (kind - 5)) s).1 + 1,mI (decide ((gI (8 * (kind - 5)) s).1 + 1 ≤ 512)) (gI (8 * (kind - 5)) s).2 1) else (0,s)
abbrev HdT:=Nat × Nat × Nat × IS
def ZpS (b:List Int) (kind mode num:Nat) (s:IS):HdT:=(mode,num,(hd6 kind s).1,Zd7 Zd1 b 8 (hd6 kind s).2)
def ZDf (b:List Int) (kind mode:Nat) (s:IS):HdT:=ZpS b kind mode (Zf4 b s).1 (Zf4 b s).2
def ZDe (c:Int) (b:List Int) (kind:Nat) (s:IS):HdT:=ZDf b kind (hd5 c s).1 (hd4 (hd5 c s).2)
def ZpR (c:Int) (b:List Int) (kind:Nat) (s:IS):HdT:=ZDe c b kind (hd4 s)
def K3 (c:Int) (b:List Int) (s:IS):HdT:=ZpR c b (hd3 (hd2 (hd1 s))).1 (hd3 (hd2 (hd1 s))).2
abbrev ZIL:=(Int × Int × Int × Unit) × InT × Unit
def Zph (k:Nat) (kind mode num:Int) (w:InT):Option ZIL :=
 bif w.2.2.1 == (0:Int) then (Wt k (w,Jx.wrap ((8:Int) * Jx.wrap (Jx.wrap (kind - (6:Int)) + (1:Int))),())).bind fun y => (QY k (y.2.1,decide (Jx.wrap (y.1 + (1:Int)) ≤ (512:Int)),1,())).bind fun y_10 => (Zij k (y_10.2.1,8,(),())).bind fun y_11 => some ((mode,num,Jx.wrap (y.1 + (1:Int)),()),y_11.2.1,())
 else (QY k (w,decide ((0:Int) ≤ (512:Int)),1,())).bind fun y => (Zij k (y.2.1,8,(),())).bind fun y => some ((mode,num,0,()),y.2.1,())
def Zpg (k:Nat) (sh:Int × Int × Int × Unit) (kind:Int) (w:InT):Option ZIL :=
 (Wt k (w,4,())).bind fun y_2 => (QY k (y_2.2.1,y_2.1 == (0:Int),2,())).bind fun y_3 => (Wt k (y_3.2.1,4,())).bind fun y_4 => (Zr6 k (sh,y_4.1,())).bind fun y_5 => (QY k (y_4.2.1,y_5.1,2,())).bind fun y_6 => (Wt k (y_6.2.1,4,())).bind fun y_7 => (QY k (y_7.2.1,y_7.1 == (0:Int),2,())).bind fun y_8 => (Zlc k (y_8.2.1,())).bind fun y_9 => Zph k kind y_4.1 y_9.1 y_9.2.1
theorem ZyS (k:Nat) (w:InT) (sh:Int × Int × Int × Unit):Zwa k (w,sh,()) =
  (Wt k (w,15,())).bind fun y => (QY k (y.2.1,y.1 == (32764:Int),11,())).bind fun y => (Wt k (y.2.1,1,())).bind fun y => (QY k (y.2.1,y.1 == (0:Int),2,())).bind fun y => (Wt k (y.2.1,4,())).bind fun y =>
   bif y.1 == (6:Int) then (QY k (y.2.1,true,2,())).bind fun y_1 => Zpg k sh y.1 y_1.2.1 else (QY k (y.2.1,y.1 == (7:Int),2,())).bind fun y_1 => Zpg k sh y.1 y_1.2.1:=rfl
theorem ZpQ {w:Nat} {s:IS} (h:(gI w s).2.2 = 0):s.2 = 0:=by
 unfold gI at h
 grind
theorem ZnG {b:List Int} {s:IS} (h:(Zf4 b s).2.2 = 0):s.2 = 0:=by
 unfold Zf4 at h
 grind
theorem Zlr {s:IS} (h:(hd4 s).2 = 0):s.2 = 0:=ZpQ ((K8 (by decide)).1 h).1
theorem Zsj {c:Int} {s:IS} (h:(hd5 c s).2.2 = 0):s.2 = 0 ∧ Zb3 c (hd5 c s).1 = true:=⟨ZpQ ((K8 (by decide)).1 h).1,((K8 (by decide)).1 h).2⟩
theorem ZDb {s:IS} (h:(hd3 s).2.2 = 0):(hd3 s).1 = 6 ∨ (hd3 s).1 = 7:=by
 have:=((K8 (by decide)).1 h).2
 show (gI 4 s).1 = 6 ∨ (gI 4 s).1 = 7
 simpa using this
theorem ZDd {b:List Int} {s:IS} (h:Zf b s.1) (kind:Nat):Zf b (hd6 kind s).2.1:=by
 unfold hd6
 split
 ·exact Qn (Qr h _) _ _
 ·exact h
theorem ZrS (k:Nat) {b:List Int} (hb:ZM b = true) (hn:b.length < 268435456) (hk:b.length + 1000 < k) {s:IS} (hs:Zf b s.1) {kind:Nat} (hkind:s.2 = 0 → kind = 6 ∨ kind = 7) (mode num:Nat) :
  Zph k (kind:Int) (mode:Int) (num:Int) (inp b s) = some (((((ZpS b kind mode num s).1:Nat):Int),(((ZpS b kind mode num s).2.1:Nat):Int),(((ZpS b kind mode num s).2.2.1:Nat):Int),()),inp b (ZpS b kind mode num s).2.2.2,()):=by
 unfold Zph ZpS hd6
 rw [ZP]
 by_cases h:s.2 = 0
 ·rw [Zc h]
  simp only [if_pos h]
  have e1:Jx.wrap ((8:Int) * Jx.wrap (Jx.wrap ((kind:Int) - (6:Int)) + (1:Int))) = ((8 * (kind - 5):Nat):Int):=by
   rcases hkind h with rfl | rfl <;> rfl
  have hw:8 * (kind - 5) ≤ 32:=by rcases hkind h with rfl | rfl <;> omega
  rw [e1]
  refine (Zd (Xu k hb hn (by omega) hs hw) _).trans ?_
  have hlt:=ZJt (8 * (kind - 5)) s
  have r1:=Qr hs (8 * (kind - 5))
  have h32:2 ^ (8 * (kind - 5)) ≤ 2 ^ 32:=Hd (by omega) hw
  generalize gI (8 * (kind - 5)) s = x at hlt r1 ⊢
  have e2:Jx.wrap (((x.1:Nat):Int) + 1) = ((x.1 + 1:Nat):Int):=by rw [Qk (by omega)]; rfl
  have e3:decide (((x.1 + 1:Nat):Int) ≤ 512) = decide (x.1 + 1 ≤ 512):=by
   grind
  simp only
  rw [e2,e3]
  refine (Zd (Wb k (b:=b) (s:=x.2) _ _) _).trans ?_
  refine (Zd (ZrT k hb hn hk (Qn r1 _ _) (w:=8) (by omega)) _).trans ?_
  rfl
 ·rw [Zr h]
  simp only [if_neg h]
  refine (Zd (Wb k (b:=b) (s:=s) _ _) _).trans ?_
  rw [show decide ((0:Int) ≤ 512) = true from rfl,Xf]
  refine (Zd (ZrT k hb hn hk hs (w:=8) (by omega)) _).trans ?_
  rfl
theorem ZrR (k:Nat) {b:List Int} (hb:ZM b = true) (hn:b.length < 268435456) (hk:b.length + 1000 < k) {s:IS} (hs:Zf b s.1) {kind:Nat} (hkind:s.2 = 0 → kind = 6 ∨ kind = 7) (c d r:Int) :
  Zpg k (c,d,r,()) (kind:Int) (inp b s) = some (((((ZpR c b kind s).1:Nat):Int),(((ZpR c b kind s).2.1:Nat):Int),(((ZpR c b kind s).2.2.1:Nat):Int),()),inp b (ZpR c b kind s).2.2.2,()):=by
 unfold Zpg ZpR
 refine (Zd (Xu k hb hn (by omega) hs (w:=4) (by omega)) _).trans ?_
 refine (Zd (Wb k (b:=b) (s:=(gI 4 s).2) _ _) _).trans ?_
 rw [show ((((gI 4 s).1:Nat):Int) == (0:Int)) = ((gI 4 s).1 == 0) from Wa _ 0]
 have r1:Zf b (hd4 s).1:=Qn (Qr hs _) _ _
 have k1:=fun h => hkind (Zlr (s:=s) h)
 change ((Wt k (inp b (hd4 s),4,())).bind _) = _
 generalize hd4 s = s1 at r1 k1 ⊢
 unfold ZDe
 refine (Zd (Xu k hb hn (by omega) r1 (w:=4) (by omega)) _).trans ?_
 refine (Zd (ZCP k c d r (gI 4 s1).1) _).trans ?_
 refine (Zd (Wb k (b:=b) (s:=(gI 4 s1).2) _ _) _).trans ?_
 have r2:Zf b (hd5 c s1).2.1:=Qn (Qr r1 _) _ _
 have k2:=fun h => k1 (Zsj (c:=c) (s:=s1) h).1
 change ((Wt k (inp b (hd5 c s1).2,4,())).bind fun y_7 => (QY k (y_7.2.1,y_7.1 == (0:Int),2,())).bind fun y_8 => (Zlc k (y_8.2.1,())).bind fun y_9 => Zph k (kind:Int) (((hd5 c s1).1:Nat):Int) y_9.1 y_9.2.1) = _
 generalize (hd5 c s1).1 = mode
 generalize (hd5 c s1).2 = s2 at r2 k2 ⊢
 refine (Zd (Xu k hb hn (by omega) r2 (w:=4) (by omega)) _).trans ?_
 refine (Zd (Wb k (b:=b) (s:=(gI 4 s2).2) _ _) _).trans ?_
 rw [show ((((gI 4 s2).1:Nat):Int) == (0:Int)) = ((gI 4 s2).1 == 0) from Wa _ 0]
 have r3:Zf b (hd4 s2).1:=Qn (Qr r2 _) _ _
 have k3:=fun h => k2 (Zlr (s:=s2) h)
 change ((Zlc k (inp b (hd4 s2),())).bind _) = _
 generalize hd4 s2 = s3 at r3 k3 ⊢
 unfold ZDf
 refine (Zd (ZCT k hb hn (by omega) r3) _).trans ?_
 exact ZrS k hb hn hk (ZnF r3) (fun h => k3 (ZnG h)) mode (Zf4 b s3).1
theorem ZBW (k:Nat) {b:List Int} (hb:ZM b = true) (hn:b.length < 268435456) (hk:b.length + 1000 < k) {s:IS} (hs:Zf b s.1) (c d r:Int) :
  Zwa k (inp b s,(c,d,r,()),()) = some (((((K3 c b s).1:Nat):Int),(((K3 c b s).2.1:Nat):Int),(((K3 c b s).2.2.1:Nat):Int),()),inp b (K3 c b s).2.2.2,()):=by
 rw [ZyS]
 unfold K3
 refine (Zd (Xu k hb hn (by omega) hs (w:=15) (by omega)) _).trans ?_
 refine (Zd (Wb k (b:=b) (s:=(gI 15 s).2) _ _) _).trans ?_
 rw [show ((((gI 15 s).1:Nat):Int) == (32764:Int)) = ((gI 15 s).1 == 32764) from Wa _ 32764]
 have r1:Zf b (hd1 s).1:=Qn (Qr hs _) _ _
 change ((Wt k (inp b (hd1 s),1,())).bind _) = _
 generalize hd1 s = s1 at r1 ⊢
 refine (Zd (Xu k hb hn (by omega) r1 (w:=1) (by omega)) _).trans ?_
 refine (Zd (Wb k (b:=b) (s:=(gI 1 s1).2) _ _) _).trans ?_
 rw [show ((((gI 1 s1).1:Nat):Int) == (0:Int)) = ((gI 1 s1).1 == 0) from Wa _ 0]
 have r2:Zf b (hd2 s1).1:=Qn (Qr r1 _) _ _
 change ((Wt k (inp b (hd2 s1),4,())).bind _) = _
 generalize hd2 s1 = s2 at r2 ⊢
 refine (Zd (Xu k hb hn (by omega) r2 (w:=4) (by omega)) _).trans ?_
 simp only
 rw [show ((((gI 4 s2).1:Nat):Int) == (6:Int)) = ((gI 4 s2).1 == 6) from Wa _ 6,show ((((gI 4 s2).1:Nat):Int) == (7:Int)) = ((gI 4 s2).1 == 7) from Wa _ 7]
 have r3:Zf b (hd3 s2).2.1:=Qn (Qr r2 _) _ _
 have fin:=ZrR k hb hn hk r3 (fun h => ZDb h) c d r
 unfold hd3 at fin ⊢
 cases h6:(gI 4 s2).1 == 6 with
 | true =>
  rw [h6] at fin
  simp only [cond_true]
  refine (Zd (Wb k (b:=b) (s:=(gI 4 s2).2) _ _) _).trans ?_
  exact fin
 | false =>
  rw [h6] at fin
  simp only [cond_false]
  refine (Zd (Wb k (b:=b) (s:=(gI 4 s2).2) _ _) _).trans ?_
  exact fin
end Go.Sh
namespace Go.Sh
open Go Go.Proofs
def Zfd (n:Nat):List Int → List Bool → List (List Int) → List (List Int) × Int × List Bool
 | [],r,acc => (acc,0,r)
 | d :: ds,r,acc => if (QA n d.toNat r).2.1 ≠ 0 then ([],(QA n d.toNat r).2.1,(QA n d.toNat r).2.2) else Zfd n ds (QA n d.toNat r).2.2 (acc ++ [(QA n d.toNat r).1])
abbrev RdR:=(Int × List (List Int)) × Int × Int
def Zzj (c d r num:Int) (pos:Nat) (out:List (List Int)):RdR:=if Xn c d r num out ≠ 0 then ((0,[]),0,Xn c d r num out) else ((num,out),((pos / 8:Nat):Int),0)
def Zsx (c d r num:Int) (pos:Nat) (m:Int) (A B:List Int):RdR:=if (QN m A B).2 ≠ 0 then ((0,[]),0,(QN m A B).2) else Zzj c d r num pos [Zd8 m A B,Zd9 m A B]
def ZC1 (c d r:Int) (b:List Int) (mode num:Nat) (chs:List (List Int)) (rr:List Bool):RdR :=
 if (Zd7 Zay b 16 ((alS rr).2,(alS rr).1)).2 ≠ 0 then ((0,[]),0,(Zd7 Zay b 16 ((alS rr).2,(alS rr).1)).2)
 else if 1 < c then Zsx c d r num (ZL b (Zd7 Zay b 16 ((alS rr).2,(alS rr).1)).1) (if mode = 1 then 0 else mode) (chs.getD 0 []) (chs.getD 1 [])
 else Zzj c d r num (ZL b (Zd7 Zay b 16 ((alS rr).2,(alS rr).1)).1) chs
def Ztk (c d r:Int) (b:List Int) (h:HdT):RdR :=
 if h.2.2.2.2 ≠ 0 then ((0,[]),0,h.2.2.2.2)
 else if (Zfd h.2.2.1 (Z0 c d h.1) h.2.2.2.1 []).2.1 ≠ 0 then ((0,[]),0,(Zfd h.2.2.1 (Z0 c d h.1) h.2.2.2.1 []).2.1)
 else ZC1 c d r b h.1 h.2.1 (Zfd h.2.2.1 (Z0 c d h.1) h.2.2.2.1 []).1 (Zfd h.2.2.1 (Z0 c d h.1) h.2.2.2.1 []).2.2
def ZsC (c d r:Int) (b:List Int):RdR:=if Zdh c d r = false then ((0,[]),0,2) else Ztk c d r b (K3 c b (Qd b,0))
def Zsw (x:RdR):((Int × List (List Int) × Unit) × Int × Int × Unit) × Unit:=(((x.1.1,x.1.2,()),x.2.1,x.2.2,()),())
theorem ZsV {n d:Nat} {r:List Bool} (h:(QA n d r).2.1 = 0):(QA n d r).1.length ≤ 520 ∧ d ≤ 25 ∧ ∀ x ∈ (QA n d r).1,Xk x d = true:=by
 unfold QA at h ⊢
 split at h
 ·simp at h
 ·rename_i h1
  rw [if_neg h1]
  have h1:1 ≤ n ∧ n ≤ 512 ∧ 4 ≤ d ∧ d ≤ 25:=by simpa using h1
  have hz:=Zgn (d:=d) (s:=(r,0))
  generalize ZJ d (r,0) = hd at h hz ⊢
  obtain ⟨kind,kk,s1⟩:=hd
  simp only at h hz ⊢
  split at h
  ·rename_i h2; exact absurd h h2
  ·rename_i h2
   rw [if_neg h2]
   obtain ⟨hkd,hkind⟩:=hz (by simpa using h2)
   have hl:=ZmM (kind:=kind) (n:=n) (d:=d - kk) (s:=s1) hkind
   generalize Ws kind n (d - kk) s1 = y at h hl ⊢
   split at h
   ·rename_i h3; exact absurd h h3
   ·rename_i h3
    rw [if_neg h3]
    split at h
    ·rename_i h4
     rw [if_pos h4]
     refine ⟨by simp; omega,by omega,fun x hx => ?_⟩
     obtain ⟨z,hz,rfl⟩:=VG.1 hx
     exact (Zw3 hkd (by omega) (Vf.1 h4 z hz)).1
    ·simp at h
theorem Zim {x:Int} (h:Ky x = true):Z5 x:=by
 unfold Ky at h
 rw [decide_eq_true_eq] at h
 exact h
abbrev ZIK:=((Int × List (List Int) × Unit) × Int × Int × Unit) × Unit
theorem ZvX (k:Nat) (hk:1000 < k) (c d r num:Int) (out:List (List Int)) {b:List Int} (hn:b.length < 268435456) (rr:List Bool) :
  ((Zii k ((c,d,r,()),(num,out,()),())).bind fun y_3 => bif y_3.1 != (0:Int) then some (((((0:Int),[],()),0,y_3.1,()),()):ZIK) else (Za5 k ((b,((ZL b rr:Nat):Int),()),())).bind fun y => some (((num,out,()),Jx.wrap (Int.tdiv y.1 (8:Int)),0,()),())) = some (Zsw (Zzj c d r num (ZL b rr) out)):=by
 refine (Zd (ZrJ k c d r num out (by omega)) _).trans ?_
 unfold Zzj
 simp only
 rw [ZR]
 by_cases h:Xn c d r num out = 0
 ·rw [Zr (by simpa using h),if_neg (by simpa using h)]
  have e51:Za5 k ((b,((ZL b rr:Nat):Int),()),()) = some (((ZL b rr:Nat):Int),YG b rr,()):=rfl
  refine (Zd e51 _).trans ?_
  have hp:ZL b rr ≤ 8 * b.length:=by unfold ZL; omega
  simp only
  rw [Zn0,Qk (n:=((ZL b rr / 8:Nat):Int)) (by omega)]
  rfl
 ·rw [Zc h,if_pos h]
  rfl
theorem ZrH (k:Nat) (hk:2000 < k) (c d r num:Int) {A B:List Int} {m:Int} (hm:ZfZ m) (hA:A.length ≤ 520 ∧ ∀ x ∈ A,Qg x) (hB:B.length ≤ 520 ∧ ∀ x ∈ B,Qg x) {b:List Int} (hn:b.length < 268435456) (rr:List Bool) :
  ((ZrU k (A,B,m,())).bind fun y_1 => bif y_1.1.2.1 != (0:Int) then some (((((0:Int),[],()),0,y_1.1.2.1,()),()):ZIK) else (ZrV k (y_1.1.1,())).bind fun y_2 => bif y_2.1.2.2.1 != (0:Int) then some ((((0:Int),[],()),0,y_2.1.2.2.1,()),()) else (Zii k ((c,d,r,()),(num,[y_2.1.1,y_2.1.2.1],()),())).bind fun y_3 => bif y_3.1 != (0:Int) then some ((((0:Int),[],()),0,y_3.1,()),()) else (Za5 k ((b,((ZL b rr:Nat):Int),()),())).bind fun y => some (((num,[y_2.1.1,y_2.1.2.1],()),Jx.wrap (Int.tdiv y.1 (8:Int)),0,()),())) =
   some (Zsw (Zsx c d r num (ZL b rr) m A B)):=by
 refine (Zd (ZB8 k hm (by omega) (by omega) hA.2 hB.2) _).trans ?_
 unfold Zsx
 have key:(QN m A B).2 = 0 → A.length = B.length ∧ (QN m A B).1 = ZcY (Zd8 m A B) (Zd9 m A B) ∧ ((Zd8 m A B).zip (Zd9 m A B)).all (fun x => Ky x.1 && Ky x.2) = true:=by
  unfold QN
  grind
 simp only
 rw [ZR]
 by_cases h:(QN m A B).2 = 0
 ·rw [Zr (by simpa using h),if_neg (by simpa using h)]
  obtain ⟨hl,e1,e2⟩:=key h
  have hLl:(Zd8 m A B).length = A.length:=by unfold Zd8; simp_all
  have hRl:(Zd9 m A B).length = A.length:=by unfold Zd9; simp_all
  generalize Zd8 m A B = L at e1 e2 hLl ⊢
  generalize Zd9 m A B = R at e1 e2 hRl ⊢
  have hsm:(∀ x ∈ L,Z5 x) ∧ ∀ x ∈ R,Z5 x:=by
   have hall:=Vf.1 e2
   constructor
   ·intro x hx
    obtain ⟨i,hi,rfl⟩:=Er hx
    have:=hall ((L.zip R)[i]'(by rw [HU]; omega)) (U5 _)
    rw [HT,Jh] at this
    exact Zim this.1
   ·intro x hx
    obtain ⟨i,hi,rfl⟩:=Er hx
    have:=hall ((L.zip R)[i]'(by rw [HU]; omega)) (U5 _)
    rw [HT,Jh] at this
    exact Zim this.2
  have hpp:=Zsp (show L.length = R.length by omega) hsm.1 hsm.2
  rw [e1]
  have hjl:(ZcY L R).length ≤ 520:=by rw [hpp.hl]; omega
  refine (Zd (ZB9 k hpp (by omega) (by omega)) _).trans ?_
  simp only
  rw [show ((0:Int) != 0) = false from rfl]
  simp only [cond_false]
  exact ZvX k (by omega) c d r num [L,R] hn rr
 ·rw [Zc h,if_pos h]
  rfl
theorem ZtD (c d m:Int):(Z0 c d m).length ≤ 2 ∧ (c ≠ 1 → (Z0 c d m).length = 2) ∧ ((1 ≤ d ∧ d ≤ 24) → ∀ x ∈ Z0 c d m,1 ≤ x):=by
 unfold Z0
 grind
theorem ZBo (k:Nat) {b:List Int} (hb:ZM b = true) (hn:b.length < 268435456) (hk:8 * b.length + 50000 < k) {c d r:Int} (hc:c = 1 ∨ c = 2) {mode num n:Nat} (hm:Zb3 c mode = true) (ds:List Int) (hd:∀ x ∈ ds,1 ≤ x) (hdl:ds.length ≤ 2) (hdl2:c ≠ 1 → ds.length = 2) (zz:Int) :
  ∀ (e j i:Nat) (rr:List Bool) (acc:List (List Int)),e < j → i + e = ds.length → acc.length = i → Zf b rr → (∀ l ∈ acc,l.length ≤ 520 ∧ ∀ x ∈ l,Qg x) →
  Zn (fun L1 => Zct k L1) j (((ds.length:Nat):Int),(i:Int),ds,(n:Int),(mode:Int),b,(0:Int),b,((ZL b rr:Nat):Int),zz,(num:Int),acc,c,d,r) =
   some (Zsw (if (Zfd n (ds.drop i) rr acc).2.1 ≠ 0 then ((0,[]),0,(Zfd n (ds.drop i) rr acc).2.1) else ZC1 c d r b mode num (Zfd n (ds.drop i) rr acc).1 (Zfd n (ds.drop i) rr acc).2.2)):=by
 intro e
 induction e with
 | zero =>
  intro j i rr acc hj hi ha hr hacc
  obtain ⟨j,rfl⟩:=Zq hj
  rw [Ze]
  simp only [Zct]
  rw [Zr (by omega),HV (by omega)]
  show _ = some (Zsw (if (0:Int) ≠ 0 then _ else ZC1 c d r b mode num acc rr))
  rw [if_neg (by simp)]
  refine (Zd (ZB4 k hb (by omega) hr (by omega)) _).trans ?_
  refine (Zd (ZtH k hb hn (by omega) (s:=((alS rr).2,(alS rr).1)) (ZzM hr) (w:=16) (by omega)) _).trans ?_
  unfold ZC1
  generalize Zd7 Zay b 16 ((alS rr).2,(alS rr).1) = s
  simp only
  rw [ZR]
  by_cases h:s.2 = 0
  ·rw [Zr (by simpa using h),if_neg (by simpa using h)]
   rcases hc with rfl | rfl
   ·rw [Zr (by omega),if_neg (by omega)]
    exact ZvX k (by omega) 1 d r num acc hn s.1
   ·rw [Zc (by omega),if_pos (by omega)]
    have hlen:acc.length = 2:=by have:=hdl2 (by omega); omega
    match acc,hlen,hacc with
    | [A,B],_,hacc =>
     have hA:=hacc A (by simp)
     have hB:=hacc B (by simp)
     have p1:(0:Int) ≤ 0 ∧ (0:Int) < UI [A,B].length:=by simp
     have p2:0 < [A,B].length:=by simp
     have p3:(0:Int) ≤ 1 ∧ (1:Int) < UI [A,B].length:=by simp
     have p4:1 < [A,B].length:=by simp
     have hmd:ZfZ (if mode = 1 then 0 else (mode:Int)):=by
      unfold Zb3 at hm
      rw [if_neg (by omega)] at hm
      simp only [Bool.or_eq_true,beq_iff_eq,Jh,decide_eq_true_eq] at hm
      unfold ZfZ
      split <;> omega
     rw [Zc p1,Zc p2,Zc p3,Zc p4,Zc p1,Zc p2,Zc p3,Zc p4,show ((mode:Int) == (1:Int)) = (mode == 1) from Wa _ 1]
     by_cases h1:mode = 1
     ·rw [show (mode == 1) = true from by simp [h1]]
      rw [if_pos h1] at hmd ⊢
      exact ZrH k (by omega) 2 d r num hmd hA hB hn s.1
     ·rw [show (mode == 1) = false from by simp [h1]]
      rw [if_neg h1] at hmd ⊢
      exact ZrH k (by omega) 2 d r num hmd hA hB hn s.1
  ·rw [Zc h,if_pos h]
   rfl
 | succ e ih =>
  intro j i rr acc hj hi ha hr hacc
  obtain ⟨j,rfl⟩:=Zq (show 0 < j by omega)
  rw [Ze]
  simp only [Zct]
  have hil:i < ds.length:=by omega
  rw [Zc (by omega),Zc (by simp only [Xb]; omega),WV,K2 hil,Ul hil]
  have hdi:=hd ds[i] (U5 hil)
  have hde:ds[i] = ((ds[i].toNat:Nat):Int):=by omega
  have e46:=ZB0 k hb hn hk hr n ds[i].toNat
  rw [← hde] at e46
  refine (Zd e46 _).trans ?_
  unfold Zfd
  have hok:=ZsV (n:=n) (d:=ds[i].toNat) (r:=rr)
  have hrr:=ZmH hr n ds[i].toNat
  generalize QA n ds[i].toNat rr = q at hok hrr ⊢
  simp only
  rw [ZR]
  by_cases h:q.2.1 = 0
  ·rw [Zr (by simpa using h),Zc (by simp only [Us]; omega)]
   have e2:Jx.wrap ((i:Int) + 1) = ((i + 1:Nat):Int):=by rw [Qk (by omega)]; rfl
   rw [e2]
   obtain ⟨o1,o2,o3⟩:=hok h
   have:=ih j (i + 1) q.2.2 (acc ++ [q.1]) (by omega) (by omega) (by simp; omega) hrr (by
    intro l hl
    rcases Js.1 hl with hl | hl
    ·exact hacc l hl
    ·rw [Vx.1 hl]
     refine ⟨o1,fun x hx => ?_⟩
     have:=o3 x hx
     unfold Xk at this
     unfold Qg
     split at this
     ·omega
     ·rw [decide_eq_true_eq,WP] at this
      have h24:2 ^ (ds[i].toNat - 1) ≤ 2 ^ 24:=Hd (by omega) (by omega)
      omega)
   refine this.trans ?_
   simp only [if_neg (show ¬ q.2.1 ≠ 0 from fun hh => hh h)]
  ·rw [Zc h]
   simp only [if_pos h]
   rfl
theorem Zuq {c:Int} {b:List Int} {s:IS} (h:(K3 c b s).2.2.2.2 = 0):Zb3 c (K3 c b s).1 = true:=by
 unfold K3 ZpR ZDe ZDf ZpS at h ⊢
 generalize (hd3 (hd2 (hd1 s))).1 = kind at h ⊢
 generalize hd4 (hd3 (hd2 (hd1 s))).2 = s3 at h ⊢
 simp only at h ⊢
 have h0:(hd6 kind (Zf4 b (hd4 (hd5 c s3).2)).2).2.2 = 0:=by
  unfold Zd7 at h
  split at h
  ·rename_i h1; exact absurd h h1
  ·exact ZpQ ((K8 (by decide)).1 h).1
 have h1:(Zf4 b (hd4 (hd5 c s3).2)).2.2 = 0:=by
  unfold hd6 at h0
  grind
 exact (Zsj (Zlr (ZnG h1))).2
theorem ZrI (k:Nat) (c d r:Int) {b:List Int} (hb:ZM b = true) (hn:b.length < 268435456) (hk:8 * b.length + 50000 < k):Zno k ((c,d,r,()),b,()) = some (Zsw (ZsC c d r b)):=by
 show ZfA k (Zo5 k) _ = _
 simp only [ZfA]
 rw [Zra k c d r]
 simp only [Qt]
 unfold ZsC
 cases hs:Zdh c d r with
 | false => rfl
 | true =>
  have hsh:=of_decide_eq_true hs
  simp only [if_true,HE,if_false]
  rw [show ((0:Int) != 0) = false from rfl]
  simp only [cond_false]
  have e44:ZBU k (b,()) = some (inp b (Qd b,0) |>.2.1,()):=by
   show ZkY k _ = _
   simp only [ZkY]
   have:Znp k (b,()) = some (b,()):=by show Y2 _ = _; unfold Y2; rw [Zc (by simp only; omega)]
   rw [this]
   have hp:ZL b (Qd b) = 0:=by unfold ZL; rw [Qf]; omega
   simp_all
  refine (Zd e44 _).trans ?_
  refine (Zd (ZBW k hb hn (by omega) (s:=(Qd b,0)) (ZsF b) c d r) _).trans ?_
  unfold Ztk
  have hmode:=Zuq (c:=c) (b:=b) (s:=(Qd b,0))
  have hrest:Zf b (K3 c b (Qd b,0)).2.2.2.1:=by
   unfold K3 ZpR ZDe ZDf ZpS
   exact ZzA (ZDd (ZnF (Qn (Qr (Qn (Qr (Qn (Qr (Qn (Qr (Qn (Qr (Qn (Qr (ZsF b) _) _ _) _) _ _) _) _ _) _) _ _) _) _ _) _) _ _)) _) _
  generalize K3 c b (Qd b,0) = h at hmode hrest ⊢
  obtain ⟨mode,num,n,s⟩:=h
  simp only at hmode hrest ⊢
  rw [ZR]
  by_cases he:s.2 = 0
  ·rw [Zr (by simpa using he),if_neg (by simpa using he)]
   have hm:=hmode he
   have hc:c = 1 ∨ c = 2:=by omega
   have hcm:c = 1 ∧ (mode:Int) = 0 ∨ c = 2:=by
    rcases hc with rfl | rfl
    ·unfold Zb3 at hm
     simp_all
    ·exact .inr rfl
   refine (Zd (ZrP k (c:=c) (d:=d) (r:=r) (m:=(mode:Int)) hcm (by omega)) _).trans ?_
   have hdl:=ZtD c d mode
   have:=ZBo k hb hn hk (c:=c) (d:=d) (r:=r) hc (mode:=mode) (num:=num) (n:=n) hm (Z0 c d mode) (hdl.2.2 (by omega)) hdl.1 hdl.2.1 0 (Z0 c d mode).length k 0 s.1 [] (by omega) (by omega) rfl hrest (by simp)
   rw [U9] at this
   simp only
   rw [he]
   exact this
  ·rw [Zc he,if_pos he]
   rfl
end Go.Sh
