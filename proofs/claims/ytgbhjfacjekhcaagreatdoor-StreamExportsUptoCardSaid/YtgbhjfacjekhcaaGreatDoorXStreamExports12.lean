/-
  What the row needs, part 12.
-/
import Derived.Test.YtgbhjfacjekhcaaGreatDoorXStreamExports11
import Derived.Lib.ItoaNum
set_option linter.unusedSimpArgs false
set_option linter.unusedVariables false
set_option linter.unusedSectionVars false
open BitVec renaming ofInt→UH,toNat_ofInt→Eh
open Bool renaming not_true→HF,false_eq_true→JJ,not_false→Ec,true_and→UC,true_eq_false→HV,and_eq_true→Jh
open ByteArray renaming mk→UJ
open Eq renaming trans→U4
open Int renaming ofNat→UD,toNat_natCast→Ui,ofNat_eq_natCast→H7,eq_ofNat_of_zero_le→Vp,one_mul→H9,le_refl→Ei,tmod_eq_emod_of_nonneg→Ej,zero_add→Ek,add_mul_ediv_left→Et,ediv_eq_zero_of_lt→Eu,emod_eq_of_lt→Ev,emod_lt_of_pos→Ew,emod_nonneg→HH,fdiv_eq_ediv_of_nonneg→HI,natCast_mul→HO
open Go.IntKind renaming i64→Jx,u64→UI
open List renaming drop_zero→U5,replicate→Jd,getElem_mem→Ha,length_cons→JF,append_assoc→Ju,flatMap_cons→Hn,mem_cons_self→Jl,length→UK,mem_cons_of_mem→Jn,nil_append→VS,all_eq_true→Ve,length_append→JP,length_drop→Vh,length_nil→H2,mem_map→VF,length_take→Jz,mem_cons→VL,mem_of_mem_take→JT,append_nil→Vf,take_length→Ea,drop→UN,length_map→Ed,takeWhile_cons→Hz,all_cons→UA,any_cons→HQ,any_eq_false→Uj,flatten_cons→J1,map_cons→JR,take_of_length_le→Eg,drop_append→El,drop_eq_nil_of_le→UF,ext_getElem→HZ,flatMap_append→Em,length_range→U7,length_zip→En,map→UT,map_nil→VD,mem_append→Js,mem_of_mem_drop→JS,take→UO,take_add_one→Eo,flatten_append→Vq,foldl_cons→H0,getD_eq_getElem?_getD→VR,getElem?_eq_getElem→VN,getElem_append_left→Ey,getElem_cons_succ→Ez,getElem_zip→EA,headD_cons→EB,length_replicate→Uq,length_singleton→Ur,map_append→EC,map_congr_left→ED,map_map→VY,of_mem_zip→Vy,replicate_succ'→EE,set_append_right→EF,take_append_drop→EG,take_succ_eq_append_getElem→EH
open Nat renaming pow_le_pow_right→He,zero_le→Ht,min_eq_left→Hs,pow_pos→Hq,mod_lt→UY,mul_le_mul→J3,add_mul→Jg,div_le_self→Eb,one_mul→Jp,reduceSub→Ee,sub_self→Ef,pow_succ→HS,add_zero→JH,le_mul_of_pos_left→Ep,le_trans→VH,or_lt_two_pow→Er,testBit_eq_decide_div_mod_eq→Es,and_two_pow_sub_one_eq_mod→Hp,div_div_eq_div_mul→H4,lt_of_lt_of_le→VZ,mod_eq_of_lt→EI,mul_le_mul_left→EJ
open Option renaming bind_some→VJ,bind→H8,some→VE
open UInt8 renaming ofNat→UU
namespace Go.Sh
open Go Go.Proofs
def Z3 (n:Int):Nat:=if n < 0 then (-2 * n - 1).toNat else (2 * n).toNat
theorem ZA1 {a:Int} {n:Int} (ha : -1152921504606846976 ≤ a ∧ a ≤ 1152921504606846976) (hn:(a < 0 ↔ n < 0)) (hn' : -1152921504606846976 ≤ n ∧ n ≤ 1152921504606846976) :
  Jx.wrap (UD (UH 64 a ^^^ UH 64 (n.fdiv 9223372036854775808)).toNat) = if n < 0 then -a - 1 else a:=by
 by_cases h:n < 0
 ·have e1:n.fdiv 9223372036854775808 = -1:=by grind
  rw [e1,if_pos h,show UH 64 (-1) = BitVec.allOnes 64 from by decide,BitVec.xor_allOnes,BitVec.toNat_not,Eh]
  have:((a % ((2 ^ 64:Nat):Int)).toNat) = (a + 18446744073709551616).toNat:=by omega
  rw [this]
  have e2:UD (2 ^ 64 - 1 - (a + 18446744073709551616).toNat) = -a - 1:=by simp only [QT]; omega
  rw [e2,ZK (by omega)]
 ·have e1:n.fdiv 9223372036854775808 = 0:=by grind
  rw [e1,if_neg h,show UH 64 0 = 0#64 from rfl,BitVec.xor_zero,Eh]
  have:UD ((a % ((2 ^ 64:Nat):Int)).toNat) = a:=by simp only [QT]; omega
  rw [this,ZK (by omega)]
theorem Zs0 (k:Nat) {n:Int} (h:ZD n):ZhF k (n,()) = some ((((Z3 n:Nat):Int),0,()),()):=by
 show Zlm k _ = _
 simp only [Zlm]
 unfold ZD at h
 rw [Zn (by omega),Zn (by omega),ZK (n:=n * 2) (by omega),ZA1 (by omega) (by omega) (by omega)]
 unfold Z3
 congr 3
 split <;> omega
theorem Zkq {n:Int} (h:ZD n):Z3 n < 4294967296:=by
 unfold ZD at h
 unfold Z3
 split <;> omega
def Q0 (n:Int):Nat:=Lib.bitLen (if n < 0 then (-n - 1).toNat else n.toNat) + 1
theorem ZeD {n:Int} (h:ZD n):Q0 n ≤ 32:=by
 unfold ZD at h
 unfold Q0
 have:=Lib.bitLen_le (if n < 0 then (-n - 1).toNat else n.toNat) 31 (by omega) (by split <;> omega)
 omega
theorem ZsD {n:Int} (h:ZD n) {w:Nat} (hw:Q0 n ≤ w):Xe n w = true:=by
 unfold Q0 at hw
 unfold Xe
 unfold ZD at h
 rw [if_neg (by omega),decide_eq_true_eq]
 generalize hm:(if n < 0 then (-n - 1).toNat else n.toNat) = m at hw
 have hm':m < 2 ^ 64:=by rw [← hm]; split <;> omega
 have hlt:m < 2 ^ (w - 1):=by
  by_cases h0:m = 0
  ·rw [h0]; exact Hq (by omega)
  ·have:=(Lib.bitLenAux_bounds 64 m hm' h0).2.2
   exact VZ this (He (by omega) (by unfold Lib.bitLen at hw; omega))
 grind
theorem ZI6 (k:Nat) {n:Int} (h:ZD n):ZB1 k (n,()) = some (((Q0 n:Nat):Int),()):=by
 show ZlQ k _ = _
 simp only [ZlQ]
 have hb:=ZeD h
 unfold ZD at h
 rw [ZA1 (by omega) (by omega) (by omega)]
 have e1:UI.wrap (if n < 0 then -n - 1 else n) = (((if n < 0 then (-n - 1).toNat else n.toNat):Nat):Int):=by
  rw [IntKind.wrap_u64]; split <;> omega
 rw [e1]
 have e2:ZvP k ((((if n < 0 then (-n - 1).toNat else n.toNat):Nat):Int),()) = some (((Lib.bitLen (if n < 0 then (-n - 1).toNat else n.toNat):Nat):Int),()):=by
  show ZQk _ = _
  unfold ZQk
  grind
 rw [e2]
 simp only [Z9]
 unfold Q0 at hb ⊢
 rw [ZK (by omega)]
 push_cast
 rfl
theorem ZH5 (k:Nat) {m:Int} (h:m = 0 ∨ m = 1):ZeQ k (m,()) = some (if m = 0 then 15 else 31,()):=by
 rcases h with rfl | rfl <;> rfl
def QM (m:Int):Nat:=if m = 0 then 15 else 31
theorem ZeR (k:Nat) {m:Int} (h:m = 0 ∨ m = 1):ZeQ k (m,()) = some (((QM m:Nat):Int),()):=by
 rw [ZH5 k h]; unfold QM; split <;> rfl
abbrev Prt:=Int × Int × Int × Unit
def Z6 (l:List Int):Nat:=l.foldl (fun w n => if n = 0 then w else max w (Q0 n)) 0
def Zf8:List Nat → Nat
 | [] => 0
 | x :: l => x + Zf8 l
def XK (l:List Int) (kk:Nat):Nat:=(kk + 1) * l.length + Zf8 (l.map fun n => Z3 n / 2 ^ kk)
def ZcS (l:List Int) (kk:Nat):Bool:=l.any fun n => decide (65536 < Z3 n / 2 ^ kk)
def ZaU (l:List Int) (B:Prt × Bool) (kk:Nat):Prt × Bool :=
 if ZcS l kk = false ∧ (B.2 = false ∨ ((XK l kk:Nat):Int) < B.1.2.2.1) then (((kk:Int),0,((XK l kk:Nat):Int),()),true) else B
def kF (l:List Int):Nat → Nat → Prt × Bool → Prt × Bool
 | 0,_,B => B
 | d + 1,kk,B => kF l d (kk + 1) (ZaU l B kk)
def Qk (l:List Int) (m:Int):Prt × Bool :=
 let B:=kF l (QM m) 0 ((0,0,0,()),false)
 if Z6 l ≤ 31 ∧ (B.2 = false ∨ ((5 + Z6 l * l.length:Nat):Int) < B.1.2.2.1) then (((QM m:Nat),((Z6 l:Nat):Int),((5 + Z6 l * l.length:Nat):Int),()),true) else B
theorem ZT0 {l:List Nat} {b:Nat} (h:∀ x ∈ l,x ≤ b):Zf8 l ≤ l.length * b:=by
 induction l with
 | nil => simp [Zf8]
 | cons x l ih =>
  have h1:=h x (Jl ..)
  have h2:=ih fun y hy => h y (Jn _ hy)
  simp only [Zf8,JF,Jg,Jp]
  omega
theorem Zem:∀ (l:List Int) (w:Nat),(∀ x ∈ l,ZD x) → w ≤ 32 → w ≤ l.foldl (fun w n => if n = 0 then w else max w (Q0 n)) w ∧ l.foldl (fun w n => if n = 0 then w else max w (Q0 n)) w ≤ 32 ∧
   ∀ x ∈ l,x ≠ 0 → Q0 x ≤ l.foldl (fun w n => if n = 0 then w else max w (Q0 n)) w
 | [],w,_,hw => ⟨Nat.le_refl _,hw,by simp⟩
 | x :: l,w,hl,hw => by
  simp only [H0]
  have hx:=ZeD (hl x (Jl ..))
  have h1:(if x = 0 then w else max w (Q0 x)) ≤ 32:=by split <;> omega
  obtain ⟨a,b,c⟩:=Zem l _ (fun y hy => hl y (Jn _ hy)) h1
  grind
theorem ZuE {l:List Int} (hl:∀ x ∈ l,ZD x):∀ x ∈ l,Xe x (Z6 l) = true:=by
 intro x hx
 obtain ⟨_,_,h⟩:=Zem l 0 hl (by omega)
 by_cases h0:x = 0
 ·subst h0
  unfold Xe
  split
  ·rfl
  ·rw [decide_eq_true_eq]
   have hp:(0:Int) < 2 ^ (Z6 l - 1):=Int.pow_pos (by omega)
   omega
 ·exact ZsD (hl x hx) (h x hx h0)
theorem Zub {n:Int} (h:ZD n) (kk:Nat):Z3 n / 2 ^ kk ≤ 4294967295:=by
 have:=Zkq h
 have:=Eb (Z3 n) (2 ^ kk)
 omega
theorem ZKo:Zdr = ZeQ:=ZsY
theorem ZXI:Zll = ZhF:=ZsZ
theorem ZBQ (k:Nat) (L2:Int × Int × List Int × Bool × Int × Int × List Int × Int × Int × Int × Int × Int × Int → Option (((Int × Int × Int × Unit) × Bool × Unit) × Unit))
  {l:List Int} (hl:∀ x ∈ l,ZD x) (hn:l.length ≤ 512) (hk:l.length < k) {kk:Nat} (hkk:kk ≤ 31) (ok:Bool) (e w m b0 b1 b2 c0 c1 c2:Int) :
  ZiR k L2 (UD l.length,(0:Int),((kk + 1) * l.length:Nat),(kk:Int),false,ok,(kk:Int),e,l,w,m,l.map fun n => ((Z3 n:Nat):Int),b0,b1,b2,c0,c1,c2) =
   L2 (e,((kk + 1:Nat):Int),l,(ZaU l ((b0,b1,b2,()),ok) kk).2,w,m,l.map fun n => ((Z3 n:Nat):Int),(ZaU l ((b0,b1,b2,()),ok) kk).1.1,(ZaU l ((b0,b1,b2,()),ok) kk).1.2.1,(ZaU l ((b0,b1,b2,()),ok) kk).1.2.2.1,c0,c1,c2):=by
 have hml:(l.map fun n => ((Z3 n:Nat):Int)).length = l.length:=by simp
 have:=Zi (A:=Int × Bool) (R:=((Int × Int × Int × Unit) × Bool × Unit) × Unit) (step:=fun L3 => Zcn k L2 L3) (fun i a => (UD l.length,UD i,a.1,(kk:Int),a.2,ok,(kk:Int),e,l,w,m,l.map (fun n => ((Z3 n:Nat):Int)),b0,b1,b2,c0,c1,c2)) l
  (fun l' a => bif !(a.2 || ZcS l' kk) then bif !ok then L2 (e,((kk + 1:Nat):Int),l,true,w,m,l.map (fun n => ((Z3 n:Nat):Int)),(kk:Int),0,a.1 + (Zf8 (l'.map fun n => Z3 n / 2 ^ kk):Nat),c0,c1,c2)
    else bif decide (a.1 + (Zf8 (l'.map fun n => Z3 n / 2 ^ kk):Nat) < b2) then L2 (e,((kk + 1:Nat):Int),l,true,w,m,l.map (fun n => ((Z3 n:Nat):Int)),(kk:Int),0,a.1 + (Zf8 (l'.map fun n => Z3 n / 2 ^ kk):Nat),c0,c1,c2)
    else L2 (e,((kk + 1:Nat):Int),l,ok,w,m,l.map (fun n => ((Z3 n:Nat):Int)),b0,b1,b2,c0,c1,c2)
   else L2 (e,((kk + 1:Nat):Int),l,ok,w,m,l.map (fun n => ((Z3 n:Nat):Int)),b0,b1,b2,c0,c1,c2))
  (fun i a => 0 ≤ a.1 ∧ a.1 ≤ 16384 + (i:Int) * 4294967296)
  (fun L a _ => by
   simp only [Zcn]
   rw [Zn (XJ _),ZK (n:=(kk:Int) + 1) (by omega)]
   simp_all [ZcS,List.any_nil,Bool.or_false,VD,Zf8,Int.natCast_zero,Int.add_zero])
  (fun L i hi a ha hL => by
   simp only [Zcn]
   have hx:=hl l[i] (Ha hi)
   have hp:=Zub hx kk
   have hg:(l.map fun n => ((Z3 n:Nat):Int)).getD (Int.toNat (UD i)) 0 = ((Z3 l[i]:Nat):Int):=by
    simp_all
   rw [Zb (W9 hi),Zb (by rw [hml]; exact QV hi),Zb (by rw [hml]; simpa using hi),Zb (by omega),hg]
   simp only [Yi,Hs (show kk ≤ 64 by omega),ZcT]
   have hfar:ZcS (l[i] :: l.drop (i + 1)) kk = (decide (65536 < Z3 l[i] / 2 ^ kk) || ZcS (l.drop (i + 1)) kk):=by unfold ZcS; rw [HQ]
   have hsum:a.1 + ((Zf8 ((l[i] :: l.drop (i + 1)).map fun n => Z3 n / 2 ^ kk):Nat):Int) = a.1 + ((Z3 l[i] / 2 ^ kk:Nat):Int) + ((Zf8 ((l.drop (i + 1)).map fun n => Z3 n / 2 ^ kk):Nat):Int):=by
    grind [Zf8]
   generalize Z3 l[i] / 2 ^ kk = q at hp hfar hsum ⊢
   have hi5:(i:Int) ≤ 512:=by omega
   rw [ZK (n:=a.1 + ((q:Nat):Int)) (by omega),ZL hi (by omega)]
   rw [hfar,hsum]
   cases h4:a.2 with
   | true =>
    simp only [cond_true]
    rw [hL (a.1 + ((q:Nat):Int),true) ⟨by omega,by push_cast; omega⟩]
    simp
   | false =>
    simp only [cond_false]
    rw [Zb (by omega)]
    have hd:decide ((65536:Int) < ((q:Nat):Int)) = decide (65536 < q):=by
     grind
    rw [hd,hL (a.1 + ((q:Nat):Int),decide (65536 < q)) ⟨by omega,by push_cast; omega⟩]
    simp) k 0 ((((kk + 1) * l.length:Nat):Int),false) ⟨by omega,by
     have:(kk + 1) * l.length ≤ 32 * 512:=J3 (by omega) hn
     omega⟩ (by omega) (Ht _)
 refine U4 this ?_
 rw [U5]
 unfold ZaU
 have hsz:(((kk + 1) * l.length:Nat):Int) + ((Zf8 (l.map fun n => Z3 n / 2 ^ kk):Nat):Int) = ((XK l kk:Nat):Int):=by unfold XK; push_cast; rfl
 grind
theorem ZL3 (k:Nat) {l:List Int} (hl:∀ x ∈ l,ZD x) (hn:l.length ≤ 512) (hk:l.length < k) {m:Int} (hm:m = 0 ∨ m = 1) (c0 c1 c2:Int) (hw:Z6 l ≤ 32) :
  ∀ (d kk j:Nat) (B:Prt × Bool),kk + d = QM m → d < j →
  Ze (fun L2 => Zcm k (ZiR k L2) L2) j (((QM m:Nat):Int),(kk:Int),l,B.2,((Z6 l:Nat):Int),m,l.map (fun n => ((Z3 n:Nat):Int)),B.1.1,B.1.2.1,B.1.2.2.1,c0,c1,c2) =
   some ((let B:=kF l d kk B; if Z6 l ≤ 31 ∧ (B.2 = false ∨ ((5 + Z6 l * l.length:Nat):Int) < B.1.2.2.1) then ((((QM m:Nat):Int),((Z6 l:Nat):Int),((5 + Z6 l * l.length:Nat):Int),()),true,()) else (B.1,B.2,())),()):=by
 have he:QM m ≤ 31:=by unfold QM; split <;> omega
 intro d
 induction d with
 | zero =>
  intro kk j B hkk hj
  obtain ⟨j,rfl⟩:=Zt hj
  rw [Zd]
  simp only [Zcm]
  rw [Zn (by omega)]
  have hwl:Z6 l * l.length ≤ 32 * 512:=J3 hw hn
  have e1:Jx.wrap ((5:Int) + Jx.wrap (((Z6 l:Nat):Int) * UD l.length)) = ((5 + Z6 l * l.length:Nat):Int):=by
   have:((Z6 l:Nat):Int) * UD l.length = ((Z6 l * l.length:Nat):Int):=by rfl
   rw [this,ZK (n:=((Z6 l * l.length:Nat):Int)) (by omega),ZK (by omega)]
   push_cast; rfl
  rw [e1,ZKo,ZeR k hm]
  simp only [Z9]
  rw [show kF l 0 kk B = B from rfl]
  grind
 | succ d ih =>
  intro kk j B hkk hj
  obtain ⟨j,rfl⟩:=Zt (show 0 < j by omega)
  rw [Zd]
  simp only [Zcm]
  rw [Zb (by omega)]
  have hkl:(kk + 1) * l.length ≤ 32 * 512:=J3 (by omega) hn
  have e1:Jx.wrap (Jx.wrap ((kk:Int) + 1) * UD l.length) = (((kk + 1) * l.length:Nat):Int):=by
   have h1:Jx.wrap ((kk:Int) + 1) = ((kk + 1:Nat):Int):=by rw [ZK (by omega)]; push_cast; rfl
   rw [h1]
   have:((kk + 1:Nat):Int) * UD l.length = (((kk + 1) * l.length:Nat):Int):=by rfl
   rw [this,ZK (by omega)]
  rw [e1]
  have e2:UD (l.map fun n => ((Z3 n:Nat):Int)).length = UD l.length:=by simp
  rw [e2,ZBQ k _ hl hn hk (by omega)]
  rw [ih (kk + 1) j (ZaU l B kk) (by omega) (by omega)]
  rfl
theorem ZID (k:Nat) {l:List Int} (hl:∀ x ∈ l,ZD x) (hn:l.length ≤ 512) (hk:l.length + 40 < k) {m:Int} (hm:m = 0 ∨ m = 1) :
  ZBP k (l,m,()) = some (((Qk l m).1,(Qk l m).2,()),()):=by
 show ZgG k (Zn2 k) _ = _
 simp only [ZgG]
 rw [Zb (by simp only [QT]; omega)]
 have hwid:=(Zem l 0 hl (by omega)).2.1
 have he:QM m ≤ 31:=by unfold QM; split <;> omega
 have:=Zi (A:=Nat × List Int) (step:=fun L1 => Zcl k (ZiQ k) L1) (fun i a => (UD l.length,UD i,l,((a.1:Nat):Int),m,l,false,a.2,0,0,0,0,0,0)) l
  (fun l' a => ZiQ k (((QM m:Nat):Int),0,l,false,((l'.foldl (fun w n => if n = 0 then w else max w (Q0 n)) a.1:Nat):Int),m,a.2.take (l.length - l'.length) ++ l'.map (fun n => ((Z3 n:Nat):Int)),0,0,0,0,0,0))
  (fun i a => a.1 ≤ 32 ∧ a.2.length = l.length)
  (fun L a ha => by
   simp only [Zcl]
   rw [Zn (XJ _),ZKo,ZeR k hm]
   simp only [Z9,List.foldl_nil,VD,Vf,H2,Nat.sub_zero]
   rw [Eg (by omega)])
  (fun L i hi a ha hL => by
   simp only [Zcl]
   have hx:=hl l[i] (Ha hi)
   have hb:=ZeD hx
   rw [Zb (W9 hi),Zb (QV hi),Zs hi,ZXI,Zs0 k hx]
   simp only [Z9]
   rw [Zb (by rw [ha.2]; exact QV hi),Zb (by rw [ha.2]; simpa using hi),ZU,ZL hi (by omega)]
   have hdl:(l.drop (i + 1)).length = l.length - (i + 1):=by simp
   have hset:(a.2.set (UD i).toNat ((Z3 l[i]:Nat):Int)).take (l.length - (l.drop (i + 1)).length) ++ (l.drop (i + 1)).map (fun n => ((Z3 n:Nat):Int)) =
     a.2.take (l.length - (l[i] :: l.drop (i + 1)).length) ++ (l[i] :: l.drop (i + 1)).map (fun n => ((Z3 n:Nat):Int)):=by
    rw [hdl,JF,hdl,show l.length - (l.length - (i + 1)) = i + 1 by omega,show l.length - (l.length - (i + 1) + 1) = i by omega]
    rw [JR,Eo,List.take_set_of_le (by simp)]
    simp_all
   have hfold:(l[i] :: l.drop (i + 1)).foldl (fun w n => if n = 0 then w else max w (Q0 n)) a.1 = (l.drop (i + 1)).foldl (fun w n => if n = 0 then w else max w (Q0 n)) (if l[i] = 0 then a.1 else max a.1 (Q0 l[i])):=rfl
   by_cases h0:l[i] = 0
   ·simp_all
   ·rw [Zb h0,ZI6 k hx]
    simp only [Z9]
    have e1:(if ((a.1:Nat):Int) < ((Q0 l[i]:Nat):Int) then ((Q0 l[i]:Nat):Int) else ((a.1:Nat):Int)) = ((max a.1 (Q0 l[i]):Nat):Int):=by split <;> omega
    rw [e1,hL (max a.1 (Q0 l[i]),a.2.set (UD i).toNat ((Z3 l[i]:Nat):Int)) ⟨by omega,by simpa using ha.2⟩,hset,hfold,if_neg h0])
  k 0 (0,Jd l.length 0) ⟨by omega,by simp⟩ (by omega) (Ht _)
 rw [U5] at this
 refine U4 this ?_
 have:=ZL3 k hl hn (by omega) hm 0 0 0 hwid (QM m) 0 k ((0,0,0,()),false) (by omega) (by omega)
 rw [Ef,List.take_zero,VS]
 refine U4 this ?_
 unfold Qk
 simp only
 split <;> rfl
end Go.Sh
namespace Go.Sh
open Go Go.Proofs
theorem ZXH:Zlk = ZeP:=ZsW
theorem ZY5:ZpX = ZhI:=Zth
theorem ZsX (k:Nat) {m:Int} (h:m = 0 ∨ m = 1):ZeP k (m,()) = some (4 + m,()):=by
 rcases h with rfl | rfl <;> rfl
theorem ZIx (k:Nat) (x:Int):ZBN k (x,()) = some (QA x,()):=by
 show ZlK k _ = _
 simp only [ZlK]
 unfold QA
 grind
theorem Zyu (k:Nat) (c:List Int) (hk:c.length < k) (hn:c.length < 4294967296):ZpF k (c,(),()) = some (c.any QA,()):=by
 show ZeM k _ = _
 simp only [ZeM]
 have key:∃ i:Int,ZpS k (c,(),()) = some (i,()) ∧ (0 ≤ i ↔ c.any QA = true):=by
  have:=Qm (A:=Unit) (R:=Int × Unit) (step:=fun L1 => Ks k L1) (fun i _ => (UD c.length,UD i,c)) c
   (fun l _ => some (if l.any QA then UD (c.length - l.length + (l.takeWhile (fun x => !QA x)).length) else -1,()))
   (fun L _ => by grind [Ks])
   (fun L i hi _ hL => by
    simp only [Ks]
    rw [Zb (W9 hi),Zb (QV hi),Zs hi,ZIx]
    simp only [Z9]
    have hlen:(UN (i + 1) c).length = c.length - (i + 1):=by simp
    cases hc:QA c[i] with
    | false =>
     simp only [cond_false]
     rw [ZL hi (by omega),hL ()]
     simp only [HQ,hc,Bool.false_or,Hz,Ec,if_true,JF,hlen]
     grind
    | true =>
     simp only [cond_true,HQ,hc,Bool.true_or,if_true,Hz,HF,JJ,if_false,JF,hlen,H2]
     congr 3; omega) k 0 () (by omega) (Ht _)
  rw [U5] at this
  refine ⟨_,this,?_⟩
  cases c.any QA <;> simp
 grind
def ZbP (n o:Int):Bool:=decide (1 ≤ n ∧ n ≤ 512 ∧ 0 ≤ o ∧ o ≤ 8 ∧ o ≤ n)
theorem ZIw (k:Nat) (n o:Int):ZBM k (n,o,()) = some (ZbP n o,()):=by
 show ZlJ k _ = _
 simp only [ZlJ]
 unfold ZbP
 by_cases h1:1 ≤ n
 ·rw [Zb h1]
  by_cases h2:n ≤ 512
  ·rw [Zb h2]
   by_cases h3:0 ≤ o
   ·rw [Zb h3]
    congr 2
    grind
   grind
  grind
 grind
def W1 (l:List Int) (o:Int):Int:=if o < 0 ∨ 8 < o then 1 else if ZbP ((l.length:Int) + o) o = false then 1 else if l.any QA then 12 else 0
theorem ZsT (k:Nat) (l:List Int) (o:Int) (hk:l.length < k) (hn:l.length < 4294967296):Zvg k (l,o,()) = some (W1 l o,()):=by
 show Zlj k _ = _
 simp only [Zlj]
 unfold W1
 by_cases h1:o < 0
 ·rw [Zb h1,if_pos (.inl h1)]
 ·rw [Zn h1]
  by_cases h2:8 < o
  ·rw [Zb h2,if_pos (.inr h2)]
  ·rw [Zn h2,if_neg (by omega),ZK (by simp only [QT]; omega),ZIw]
   simp only [Z9,QT]
   cases hb:ZbP ((l.length:Int) + o) o with
   | false => rfl
   | true =>
    simp only [HF,cond_false,HV,if_false]
    rw [Zyu k l hk hn]
    grind
theorem ZXi {p:Nat} (hp:p ≤ 31):Jx.wrap (Jx.wrap ((1:Int) * (2:Int) ^ min ((p:Int)).toNat 64) - 1) = ((2 ^ p - 1:Nat):Int):=by
 have h1:2 ^ p ≤ 2 ^ 31:=He (by omega) hp
 have h0:0 < 2 ^ p:=Hq (by omega)
 rw [Yi,Hs (by omega),H9,QS]
 rw [ZK (n:=((2 ^ p:Nat):Int)) (by omega),ZK (by omega)]
 omega
theorem Zby {p:Nat} (hp:p ≤ 31):Jx.wrap ((1:Int) * (2:Int) ^ min ((p:Int)).toNat 64) = ((2 ^ p:Nat):Int):=by
 have h1:2 ^ p ≤ 2 ^ 31:=He (by omega) hp
 rw [Yi,Hs (by omega),H9,QS]
 generalize 2 ^ p = Q at h1 ⊢
 rw [ZK (by omega)]
theorem Zx2 {n p:Nat} (hn:n < 4294967296) (hp:p ≤ 31):Jx.wrap (UD (UH 64 (n:Int) &&& UH 64 (Jx.wrap (Jx.wrap ((1:Int) * (2:Int) ^ min ((p:Int)).toNat 64) - 1))).toNat) = ((n % 2 ^ p:Nat):Int):=by
 have h1:2 ^ p ≤ 2 ^ 31:=He (by omega) hp
 rw [ZXi hp,ZKs (by omega) (by omega),Hp]
 have:n % 2 ^ p ≤ n:=Nat.mod_le _ _
 rw [ZK (by omega)]
def Zh1 (n o p:Nat):Bool:=decide (n % 2 ^ p = 0) && decide (o ≤ n / 2 ^ p)
theorem ZIz (k:Nat) {n o p:Nat} (hn:n < 4294967296) (hp:p ≤ 31):ZhI k ((n:Int),(o:Int),(p:Int),()) = some (Zh1 n o p,()):=by
 show ZlL k _ = _
 simp only [ZlL]
 rw [Zb (by omega),Zx2 hn hp,ZC,Yi,Hs (by omega),ZcT]
 unfold Zh1
 by_cases h:n % 2 ^ p = 0
 ·rw [Zb (by omega),Zb (by omega),dTr h,UC]
  congr 2
  grind
 grind
def KL (size:Nat):Nat → List Int → List (List Int)
 | 0,_ => []
 | d + 1,r => r.take size :: KL size d (r.drop size)
def WF (l:List Int) (o p:Nat):List (List Int):=l.take ((l.length + o) / 2 ^ p - o) :: KL ((l.length + o) / 2 ^ p) (2 ^ p - 1) (l.drop ((l.length + o) / 2 ^ p - o))
theorem Zpn (size:Nat):∀ (d:Nat) (r:List Int),(KL size d r).length = d
 | 0,_ => rfl
 | d + 1,r => by simp [KL,Zpn size d]
theorem Zb3 (l:List Int) (o p:Nat):(WF l o p).length = 2 ^ p:=by
 grind [WF,JF,Zpn]
theorem Zpo {size:Nat}:∀ {d:Nat} {r c:List Int},c ∈ KL size d r → ∀ x ∈ c,x ∈ r
 | d + 1,r,c,h,x,hx => by
  rcases VL.1 h with rfl | h
  ·exact JT hx
  ·exact JS (Zpo h x hx)
theorem Yp {l:List Int} {o p:Nat} {c:List Int} (h:c ∈ WF l o p):∀ x ∈ c,x ∈ l:=by
 intro x hx
 rcases VL.1 h with rfl | h
 ·exact JT hx
 ·exact JS (Zpo h x hx)
theorem ZsE {size:Nat}:∀ {d:Nat} {r c:List Int},c ∈ KL size d r → c.length ≤ r.length
 | d + 1,r,c,h => by
  rcases VL.1 h with rfl | h
  ·rw [Jz]; omega
  ·have:=ZsE h
   grind
theorem Zbd {l:List Int} {o p:Nat} {c:List Int} (h:c ∈ WF l o p):c.length ≤ l.length:=by
 rcases VL.1 h with rfl | h
 ·rw [Jz]; omega
 ·have:=ZsE h
  rw [Vh] at this
  omega
theorem ZH0 (k:Nat) {p size:Nat} (hp:p ≤ 15):∀ (d m:Nat) (r:List Int) (out:List (List Int)),d < m → out.length + d = 2 ^ p → r.length = d * size → r.length < 4294967296 →
  Ze (fun L1 => Zcd k L1) m ((p:Int),r,(size:Int),out) = some (out ++ KL size d r,()):=by
 have h15:2 ^ p ≤ 2 ^ 15:=He (by omega) hp
 intro d
 induction d with
 | zero =>
  intro m r out hm ho hr hn
  obtain ⟨m,rfl⟩:=Zt hm
  rw [Zd]
  simp only [Zcd]
  rw [Zb (by omega),Zby (by omega),Zn (by simp only [QT]; omega)]
  simp [KL]
 | succ d ih =>
  intro m r out hm ho hr hn
  obtain ⟨m,rfl⟩:=Zt (show 0 < m by omega)
  rw [Zd]
  simp only [Zcd]
  have hs:(d + 1) * size = d * size + size:=by rw [Jg,Jp]
  have hle:size ≤ r.length:=by omega
  rw [Zb (by omega),Zby (by omega),Zb (by simp only [QT]; omega),Zb (by simp only [QT]; omega),
   Zb (by grind),Zb (by simp only [QT]; omega)]
  rw [Yi,show (UD r.length).toNat = r.length from rfl,Ea,U5]
  grind [KL]
theorem ZsV (k:Nat) {l:List Int} {o p:Nat} (hp:p ≤ 15) (hn:l.length + o < 4294967296) (hk:32768 < k) (hf:Zh1 (l.length + o) o p = true) :
  Zvk k (l,(o:Int),(p:Int),()) = some (WF l o p,()):=by
 show Zgu k (ZnD k) _ = _
 have h15:2 ^ p ≤ 2 ^ 15:=He (by omega) hp
 have h0:0 < 2 ^ p:=Hq (by omega)
 unfold Zh1 at hf
 simp only [Jh,decide_eq_true_eq] at hf
 obtain ⟨hm,ho⟩:=hf
 simp only [Zgu]
 have e1:Jx.wrap (UD l.length + (o:Int)) = ((l.length + o:Nat):Int):=by rw [ZK (by simp only [QT]; omega)]; rfl
 have hd:(l.length + o) / 2 ^ p ≤ l.length + o:=Eb _ _
 have hmul:2 ^ p * ((l.length + o) / 2 ^ p) = l.length + o:=by have:=Nat.div_add_mod (l.length + o) (2 ^ p); omega
 unfold WF
 rw [e1]
 simp only [Yi,Hs (show p ≤ 64 by omega),ZcT]
 generalize hsz:(l.length + o) / 2 ^ p = size at ho hd hmul
 have e2:Jx.wrap ((size:Int) - (o:Int)) = ((size - o:Nat):Int):=by rw [ZK (by omega)]; omega
 have hle:size ≤ l.length + o:=hd
 have e3:(2 ^ p - 1) * size = 2 ^ p * size - size:=by rw [Nat.sub_mul,Jp]
 rw [e2,Zb (by omega),Zb (by simp only [QT]; omega),Zb (by simp only [QT]; omega)]
 rw [Yi,show (UD l.length).toNat = l.length from rfl,Ea,U5]
 have hps:size ≤ 2 ^ p * size:=Ep _ h0
 refine U4 (ZH0 k hp (2 ^ p - 1) k _ _ (by omega) (by rw [Ur]; omega) (by rw [Vh,e3]; omega) (by rw [Vh]; omega)) ?_
 rfl
end Go.Sh
namespace Go.Sh
open Go Go.Proofs
def KK (c:List Int) (m:Int) (y:Prt):Prop :=
 (∃ kk:Nat,kk < QM m ∧ ZcS c kk = false ∧ y = ((kk:Int),0,((XK c kk:Nat):Int),())) ∨
 (Z6 c ≤ 31 ∧ y = (((QM m:Nat):Int),((Z6 c:Nat):Int),((5 + Z6 c * c.length:Nat):Int),()))
theorem ZUR {c:List Int} {m:Int}:∀ (d kk:Nat) (B:Prt × Bool),kk + d = QM m → (B.2 = true → KK c m B.1) → ((kF c d kk B).2 = true → KK c m (kF c d kk B).1)
 | 0,_,B,_,hB => hB
 | d + 1,kk,B,hk,hB => by
  refine ZUR d (kk + 1) _ (by omega) fun h => ?_
  unfold ZaU at h ⊢
  split
  ·rename_i hc
   exact .inl ⟨kk,by omega,hc.1,rfl⟩
  simp_all
theorem Zab {c:List Int} {m:Int} (h:(Qk c m).2 = true):KK c m (Qk c m).1:=by
 unfold Qk at h ⊢
 simp only at h ⊢
 split
 ·rename_i hc
  exact .inr ⟨hc.1,rfl⟩
 ·rename_i hc
  rw [if_neg hc] at h
  exact ZUR _ _ _ (by omega) (fun h => by cases h) h
theorem ZGN {c:List Int}:∀ (d kk:Nat) (B:Prt × Bool),B.2 = true → (kF c d kk B).2 = true
 | 0,_,B,hB => hB
 | d + 1,kk,B,hB => by
  refine ZGN d (kk + 1) _ ?_
  unfold ZaU
  split
  ·rfl
  ·exact hB
theorem ZGO {c:List Int} {j:Nat} (hj:ZcS c j = false):∀ (d kk:Nat) (B:Prt × Bool),kk ≤ j → j < kk + d → (kF c d kk B).2 = true
 | 0,_,B,h1,h2 => by omega
 | d + 1,kk,B,h1,h2 => by
  by_cases he:kk = j
  ·subst he
   refine ZGN d _ _ ?_
   unfold ZaU
   grind
  ·exact ZGO hj d (kk + 1) _ (by omega) (by omega)
theorem ZYJ {c:List Int} (hc:∀ x ∈ c,ZD x):ZcS c 16 = false:=by
 unfold ZcS
 rw [Uj]
 intro x hx
 have h1:=Zkq (hc x hx)
 grind
theorem ZBe {c:List Int} (hc:∀ x ∈ c,ZD x):(Qk c 1).2 = true:=by
 unfold Qk
 simp only
 split
 ·rfl
 ·exact ZGO (ZYJ hc) _ _ _ (by omega) (by decide)
theorem KK.size {c:List Int} {m:Int} {y:Prt} (h:KK c m y) (hc:∀ x ∈ c,ZD x) (hn:c.length ≤ 512):0 ≤ y.2.2.1 ∧ y.2.2.1 ≤ 4398046511104:=by
 have he:QM m ≤ 31:=by unfold QM; split <;> omega
 rcases h with ⟨kk,hk,_,rfl⟩ | ⟨hw,rfl⟩
 ·simp only
  have h1:(kk + 1) * c.length ≤ 32 * 512:=J3 (by omega) hn
  have h2:Zf8 (c.map fun n => Z3 n / 2 ^ kk) ≤ (c.map fun n => Z3 n / 2 ^ kk).length * 4294967295:=ZT0 fun x hx => by
   obtain ⟨n,hn,rfl⟩:=VF.1 hx
   exact Zub (hc n hn) kk
  rw [Ed] at h2
  unfold XK
  omega
 ·simp only
  have h1:Z6 c * c.length ≤ 31 * 512:=J3 hw hn
  omega
def ZZ (m:Int):List (List Int) → List Prt → Int → List Prt × Int × Bool
 | [],ps,sz => (ps,sz,true)
 | c :: cs,ps,sz => if (Qk c m).2 = true then ZZ m cs (ps ++ [(Qk c m).1]) (sz + (4 + m + (Qk c m).1.2.2.1)) else (ps,sz,false)
theorem Zea {m:Int} {c:List Int} (cs:List (List Int)) (ps:List Prt) (sz:Int) (h:(Qk c m).2 = true):ZZ m (c :: cs) ps sz = ZZ m cs (ps ++ [(Qk c m).1]) (sz + (4 + m + (Qk c m).1.2.2.1)):=by
 show (if (Qk c m).2 = true then _ else _) = _
 rw [if_pos h]
theorem Zg2 {m:Int} {c:List Int} (cs:List (List Int)) (ps:List Prt) (sz:Int) (h:(Qk c m).2 = false):ZZ m (c :: cs) ps sz = (ps,sz,false):=by
 show (if (Qk c m).2 = true then _ else _) = _
 rw [if_neg (by rw [h]; simp)]
abbrev WE:=Int × Int × Int × List Prt
def WP (l:List Int) (o p:Nat) (m:Int) (B:WE):WE :=
 if (ZZ m (WF l o p) [] 6).2.2 = true ∧ (B.2.2.1 < 0 ∨ (ZZ m (WF l o p) [] 6).2.1 < B.2.2.1) then (m,(p:Int),(ZZ m (WF l o p) [] 6).2.1,(ZZ m (WF l o p) [] 6).1) else B
def ZbJ (l:List Int) (o:Nat) (B:WE) (p:Nat):WE:=if Zh1 (l.length + o) o p = true then WP l o p 1 (WP l o p 0 B) else B
def WW (l:List Int) (o:Nat):Nat → Nat → WE → WE
 | 0,_,B => B
 | d + 1,p,B => WW l o d (p + 1) (ZbJ l o B p)
def Ql (l:List Int) (o:Nat):WE:=WW l o 5 0 (0,0,-1,[])
theorem ZBB (k:Nat) (L1:Int × List Int × Int × Int × Int × Int × List (Int × Int × Int × Unit) × Int × Int × Int → Option ((Int × Int × List (Int × Int × Int × Unit) × Int × Unit) × Unit))
  (L2:Int × Int × List Int × Int × Int × Int × Int × List (Int × Int × Int × Unit) × Int × Int × Int → Option ((Int × Int × List (Int × Int × Int × Unit) × Int × Unit) × Unit))
  {cs:List (List Int)} (hcs:∀ c ∈ cs,(∀ x ∈ c,ZD x) ∧ c.length ≤ 512) (hn:cs.length ≤ 16) (hk:600 < k) {m:Int} (hm:m = 0 ∨ m = 1) (p:Int) (l:List Int) (o:Int) (B:WE) :
  Zdq k L1 L2 (UD cs.length,(0:Int),cs,m,p,l,o,true,B.1,B.2.1,B.2.2.1,B.2.2.2,m,p,(6:Int),[],0,0,0) =
   L2 (m + 1,p,l,o,if (ZZ m cs [] 6).2.2 = true ∧ (B.2.2.1 < 0 ∨ (ZZ m cs [] 6).2.1 < B.2.2.1) then (m,p,(ZZ m cs [] 6).2.1,(ZZ m cs [] 6).1,0,0,0) else (B.1,B.2.1,B.2.2.1,B.2.2.2,0,0,0)):=by
 have hm1:Jx.wrap (m + 1) = m + 1:=by rcases hm with rfl | rfl <;> rfl
 have:=Zi (A:=Int × List Prt) (R:=(Int × Int × List (Int × Int × Int × Unit) × Int × Unit) × Unit) (step:=fun L3 => Zcc k L1 L2 L3)
  (fun i a => (UD cs.length,UD i,cs,m,p,l,o,true,B.1,B.2.1,B.2.2.1,B.2.2.2,m,p,a.1,a.2,0,0,0)) cs
  (fun cs' a => L2 (m + 1,p,l,o,if (ZZ m cs' a.2 a.1).2.2 = true ∧ (B.2.2.1 < 0 ∨ (ZZ m cs' a.2 a.1).2.1 < B.2.2.1) then (m,p,(ZZ m cs' a.2 a.1).2.1,(ZZ m cs' a.2 a.1).1,0,0,0) else (B.1,B.2.1,B.2.2.1,B.2.2.2,0,0,0)))
  (fun i a => 0 ≤ a.1 ∧ a.1 ≤ 6 + (i:Int) * 8796093022208 ∧ a.2.length = i)
  (fun L a _ => by
   simp only [Zcc]
   rw [Zn (XJ _),hm1]
   simp only [cond_true,ZZ,true_and]
   grind)
  (fun L i hi a ha hL => by
   simp only [Zcc]
   obtain ⟨hc1,hc2⟩:=hcs cs[i] (Ha hi)
   rw [Zb (W9 hi),Zb (QV hi),Zs hi,ZID k hc1 hc2 (by omega) hm]
   simp only [Z9]
   cases hb:(Qk cs[i] m).2 with
   | false =>
    rw [Zg2 _ _ _ hb]
    simp_all
   | true =>
    rw [Zea _ _ _ hb]
    simp only [HF,cond_false]
    have hs:=(Zab hb).size hc1 hc2
    have hi16:(i:Int) < 16:=by omega
    have hm01:0 ≤ m ∧ m ≤ 1:=by rcases hm with rfl | rfl <;> omega
    rw [Zb (by grind),ZXH,ZsX k hm]
    simp only [Z9]
    rw [ZL hi (by omega),ZK (n:=4 + m + (Qk cs[i] m).1.2.2.1) (by omega),ZK (by omega)]
    exact hL (a.1 + (4 + m + (Qk cs[i] m).1.2.2.1),a.2 ++ [(Qk cs[i] m).1]) ⟨by omega,by push_cast; omega,by simp; omega⟩)
  k 0 ((6:Int),[]) ⟨by omega,by simp,rfl⟩ (by omega) (Ht _)
 rw [U5] at this
 exact this
theorem ZHV (k:Nat) (L1:Int × List Int × Int × Int × Int × Int × List (Int × Int × Int × Unit) × Int × Int × Int → Option ((Int × Int × List (Int × Int × Int × Unit) × Int × Unit) × Unit))
  {l:List Int} (hl:∀ x ∈ l,ZD x) {o p:Nat} (hn:l.length + o ≤ 512) (hp:p ≤ 4) (hk:40000 < k) (hf:Zh1 (l.length + o) o p = true) (B:WE) :
  ZiL k L1 ((0:Int),(p:Int),l,(o:Int),B.1,B.2.1,B.2.2.1,B.2.2.2,0,0,0) =
   L1 (((p + 1:Nat):Int),l,(o:Int),(WP l o p 1 (WP l o p 0 B)).1,(WP l o p 1 (WP l o p 0 B)).2.1,(WP l o p 1 (WP l o p 0 B)).2.2.1,(WP l o p 1 (WP l o p 0 B)).2.2.2,0,0,0):=by
 have hcs:∀ c ∈ WF l o p,(∀ x ∈ c,ZD x) ∧ c.length ≤ 512:=fun c hc => ⟨fun x hx => hl x (Yp hc x hx),by have:=Zbd hc; omega⟩
 have hlen:(WF l o p).length ≤ 16:=by
  rw [Zb3]
  have:2 ^ p ≤ 2 ^ 4:=He (by omega) hp
  omega
 have hcut:=ZsV k (l:=l) (o:=o) (p:=p) (by omega) (by omega) (by omega) hf
 have one:∀ (j:Nat) (m:Int) (B:WE),m = 0 ∨ m = 1 → Ze (fun L2 => YL k (Zdq k L1 L2) L1 L2) (j + 1) (m,(p:Int),l,(o:Int),B.1,B.2.1,B.2.2.1,B.2.2.2,0,0,0) =
   Ze (fun L2 => YL k (Zdq k L1 L2) L1 L2) j (m + 1,(p:Int),l,(o:Int),(WP l o p m B).1,(WP l o p m B).2.1,(WP l o p m B).2.2.1,(WP l o p m B).2.2.2,0,0,0):=by
  intro j m B hm
  rw [Zd]
  simp only [YL]
  rw [Zb (by rcases hm with rfl | rfl <;> omega),hcut]
  simp only [Z9]
  refine (ZBB k L1 _ hcs hlen (by omega) hm (p:Int) l (o:Int) B).trans ?_
  unfold WP
  split <;> rfl
 obtain ⟨j,rfl⟩:∃ j,k = j + 3:=⟨k - 3,by omega⟩
 show Ze (fun L2 => YL (j + 3) (Zdq (j + 3) L1 L2) L1 L2) (j + 3) _ = _
 rw [one (j + 2) 0 B (.inl rfl),show (0:Int) + 1 = 1 from rfl,one (j + 1) 1 _ (.inr rfl),Zd]
 simp only [YL]
 rw [Zn (by omega),ZK (by omega)]
 rfl
theorem ZsU (k:Nat) {l:List Int} (hl:∀ x ∈ l,ZD x) {o:Nat} (hn:l.length + o ≤ 512) (hk:40000 < k) :
  Zvi k (l,(o:Int),()) = some (((Ql l o).1,(Ql l o).2.1,(Ql l o).2.2.2,(Ql l o).2.2.1,()),()):=by
 show Zgt k (ZnA k) _ = _
 simp only [Zgt]
 suffices H:∀ (d p m:Nat) (B:WE),d < m → p + d = 5 → Ze (fun L1 => Zcb k (ZiL k L1) L1) m ((p:Int),l,(o:Int),B.1,B.2.1,B.2.2.1,B.2.2.2,0,0,0) =
   some (((WW l o d p B).1,(WW l o d p B).2.1,(WW l o d p B).2.2.2,(WW l o d p B).2.2.1,()),()) from H 5 0 k (0,0,-1,[]) (by omega) rfl
 intro d
 induction d with
 | zero =>
  intro p m B hm hp
  obtain ⟨m,rfl⟩:=Zt hm
  rw [Zd]
  simp only [Zcb]
  rw [Zn (by omega)]
  rfl
 | succ d ih =>
  intro p m B hm hp
  obtain ⟨m,rfl⟩:=Zt (show 0 < m by omega)
  rw [Zd]
  simp only [Zcb]
  have e1:Jx.wrap (UD l.length + (o:Int)) = ((l.length + o:Nat):Int):=by rw [ZK (by simp only [QT]; omega)]; rfl
  rw [Zb (by omega),e1,ZY5,ZIz k (by omega) (by omega)]
  simp only [Z9]
  have e2:Jx.wrap ((p:Int) + 1) = ((p + 1:Nat):Int):=by rw [ZK (by omega)]; rfl
  cases hf:Zh1 (l.length + o) o p with
  | false =>
   simp only [Ec,cond_true]
   rw [e2,ih (p + 1) m B (by omega) (by omega)]
   simp only [WW,ZbJ,hf,JJ,if_false]
  | true =>
   simp only [HF,cond_false]
   rw [ZHV k _ hl hn (by omega) hk hf,ih (p + 1) m _ (by omega) (by omega)]
   simp only [WW,ZbJ,hf,if_true]
structure RGood (l:List Int) (o:Nat) (R:WE) (p:Nat):Prop where
 hp:R.2.1 = (p:Int)
 p4:p ≤ 4
 fit:Zh1 (l.length + o) o p = true
 hm:R.1 = 0 ∨ R.1 = 1
 parts:ZZ R.1 (WF l o p) [] 6 = (R.2.2.2,R.2.2.1,true)
theorem Zmp {m:Int} (hm:0 ≤ m):∀ (cs:List (List Int)) (ps:List Prt) (sz:Int),(∀ c ∈ cs,(∀ x ∈ c,ZD x) ∧ c.length ≤ 512) → sz ≤ (ZZ m cs ps sz).2.1
 | [],_,_,_ => Ei _
 | c :: cs,ps,sz,h => by
  unfold ZZ
  split
  ·rename_i hb
   have h1:=h c (Jl ..)
   have h2:=(Zab hb).size h1.1 h1.2
   have:=Zmp hm cs (ps ++ [(Qk c m).1]) (sz + (4 + m + (Qk c m).1.2.2.1)) fun c hc => h c (Jn _ hc)
   omega
  ·exact Ei _
theorem ZrE {l:List Int} {o p:Nat} {m:Int} {B:WE} (hm:m = 0 ∨ m = 1) (hp:p ≤ 4) (hf:Zh1 (l.length + o) o p = true) (hB:B.2.2.1 < 0 ∨ ∃ q,RGood l o B q) :
  (WP l o p m B).2.2.1 < 0 ∨ ∃ q,RGood l o (WP l o p m B) q:=by
 unfold WP
 split
 ·rename_i hc
  right
  refine ⟨p,rfl,hp,hf,hm,?_⟩
  simp only
  rw [← hc.1]
 ·exact hB
theorem ZDW {l:List Int} {o p:Nat} {B:WE} (hp:p ≤ 4) (hB:B.2.2.1 < 0 ∨ ∃ q,RGood l o B q):(ZbJ l o B p).2.2.1 < 0 ∨ ∃ q,RGood l o (ZbJ l o B p) q:=by
 unfold ZbJ
 split
 ·rename_i hf
  exact ZrE (.inr rfl) hp hf (ZrE (.inl rfl) hp hf hB)
 ·exact hB
theorem Ziu {l:List Int} {o:Nat}:∀ (d p:Nat) (B:WE),p + d ≤ 5 → (B.2.2.1 < 0 ∨ ∃ q,RGood l o B q) → (WW l o d p B).2.2.1 < 0 ∨ ∃ q,RGood l o (WW l o d p B) q
 | 0,_,B,_,hB => hB
 | d + 1,p,B,h,hB => Ziu d (p + 1) _ (by omega) (ZDW (by omega) hB)
theorem ZrF {l:List Int} {o p:Nat} {m:Int} {B:WE} (hl:∀ x ∈ l,ZD x) (hn:l.length ≤ 512) (hm:0 ≤ m) (hB:0 ≤ B.2.2.1):0 ≤ (WP l o p m B).2.2.1:=by
 unfold WP
 split
 ·have:=Zmp hm (WF l o p) [] 6 fun c hc => ⟨fun x hx => hl x (Yp hc x hx),by have:=Zbd hc; omega⟩
  simp only
  omega
 ·exact hB
theorem Zpm {l:List Int} {o:Nat} (hl:∀ x ∈ l,ZD x) (hn:l.length ≤ 512):∀ (d p:Nat) (B:WE),0 ≤ B.2.2.1 → 0 ≤ (WW l o d p B).2.2.1
 | 0,_,B,hB => hB
 | d + 1,p,B,hB => Zpm hl hn d (p + 1) _ (by
  unfold ZbJ
  split
  ·exact ZrF hl hn (by omega) (ZrF hl hn (by omega) hB)
  ·exact hB)
theorem Zun {m:Int}:∀ (cs:List (List Int)) (ps:List Prt) (sz:Int),(∀ c ∈ cs,(Qk c m).2 = true) → (ZZ m cs ps sz).2.2 = true
 | [],_,_,_ => rfl
 | c :: cs,ps,sz,h => by
  unfold ZZ
  rw [if_pos (h c (Jl ..))]
  exact Zun cs _ _ fun c hc => h c (Jn _ hc)
theorem XA {l:List Int} {o:Nat} (hl:∀ x ∈ l,ZD x) (hn:l.length + o ≤ 512) (ho:o ≤ l.length + o):0 ≤ (Ql l o).2.2.1 ∧ ∃ q,RGood l o (Ql l o) q:=by
 have hnn:0 ≤ (Ql l o).2.2.1:=by
  show 0 ≤ (WW l o 4 1 (ZbJ l o (0,0,-1,[]) 0)).2.2.1
  refine Zpm hl (by omega) 4 1 _ ?_
  unfold ZbJ
  have hf:Zh1 (l.length + o) o 0 = true:=by unfold Zh1; simp [Nat.mod_one]
  rw [if_pos hf]
  generalize WP l o 0 0 (0,0,-1,[]) = B
  by_cases hB:0 ≤ B.2.2.1
  ·exact ZrF hl (by omega) (by omega) hB
  ·unfold WP
   have hok:=Zun (m:=1) (WF l o 0) [] 6 fun c hc => ZBe fun x hx => hl x (Yp hc x hx)
   rw [if_pos ⟨hok,.inl (by omega)⟩]
   have:=Zmp (m:=1) (by omega) (WF l o 0) [] 6 fun c hc => ⟨fun x hx => hl x (Yp hc x hx),by have:=Zbd hc; omega⟩
   simp only
   omega
 refine ⟨hnn,?_⟩
 rcases Ziu (l:=l) (o:=o) 5 0 (0,0,-1,[]) (by omega) (.inl (by show (-1:Int) < 0; omega)) with h | h
 ·exact absurd h (by unfold Ql at hnn; omega)
 ·exact h
end Go.Sh
namespace Go.Sh
open Go Go.Proofs
theorem ZIs (k:Nat) {l:List Int} (hl:l.length ≤ 512) {o:Nat} (hk:40000 < k) :
  ZBI k (l,(o:Int),()) = some ((if W1 l o = 0 then ((Ql l o).2.2.1,0,()) else (0,W1 l o,())),()):=by
 show ZlG k _ = _
 simp only [ZlG]
 rw [ZsT k l o (by omega) (by omega)]
 simp only [Z9]
 rw [ZU]
 by_cases h:W1 l o = 0
 ·rw [Zn (by simpa using h),if_pos h]
  have hc:ZbP ((l.length:Int) + o) o = true ∧ l.any QA = false:=by
   unfold W1 at h
   grind
  have hb:=of_decide_eq_true hc.1
  rw [ZsU k (Y4 hc.2) (by omega) hk]
  rfl
 ·rw [Zb h,if_neg h]
theorem ZbD {l:List Int} {o:Nat}:W1 l o = 0 ↔ (1 ≤ l.length + o ∧ l.length + o ≤ 512 ∧ o ≤ 8) ∧ l.any QA = false:=by
 unfold W1
 constructor
 ·intro h
  split at h
  ·omega
  ·split at h
   ·omega
   ·rename_i h1 h2
    split at h
    ·omega
    ·rename_i hw
     have:=of_decide_eq_true (by simpa using h2:ZbP ((l.length:Int) + o) o = true)
     exact ⟨by omega,by simpa using hw⟩
 ·rintro ⟨h1,h2⟩
  rw [if_neg (by omega),if_neg,if_neg (by simp [h2])]
  unfold ZbP
  rw [dTr (by omega)]
  simp
def Zd8 (kk:Nat) (n:Int):List Bool:=(Jd (Z3 n / 2 ^ kk) false ++ [true]) ++ Za (Z3 n % 2 ^ kk) kk
def Xv (m:Int) (y:Prt) (c:List Int):List Bool:=if y.1 = (QM m:Int) then c.flatMap (fun n => Wu n y.2.1.toNat) else c.flatMap (Zd8 y.1.toNat)
def Xa (m:Int) (x:List Int × Prt):List Bool:=Za x.2.1.toNat (4 + m.toNat) ++ ((if x.2.1 = (QM m:Int) then Za x.2.2.1.toNat 5 else []) ++ Xv m x.2 x.1)
def Zc2 (l:List Int) (o:Nat) (R:WE):List Bool:=(Za R.1.toNat 2 ++ Za R.2.1.toNat 4) ++ ((WF l o R.2.1.toNat).zip R.2.2.2).flatMap (Xa R.1)
def YC (l:List Int) (o:Nat):List Bool:=Zc2 l o (Ql l o)
theorem Zbu (kk:Nat) (n:Int):(Zd8 kk n).length = Z3 n / 2 ^ kk + 1 + kk:=by
 simp [Zd8,Zc]
 omega
theorem ZAh (k:Nat) (L1:Int × Int × List (List Int) × Int × List Int × Int × Int × List (Int × Int × Int × Unit) × Int → Option (Int × (List Int × Int × Unit) × Unit))
  {c:List Int} (hc:∀ x ∈ c,ZD x) (hn:c.length ≤ 512) (hk:70000 < k) {m:Int} (hm:m = 0 ∨ m = 1) {y:Prt} (hy:KK c m y) (v3 v4:Int) (v5:List (List Int)) (v12:Int) (v13:List Prt) (v14:Int)
  (hv3:0 ≤ v3 ∧ v3 ≤ 65536) (bs:List Bool) (hb:bs.length ≤ 2147483648) :
  Zl6 k L1 (UD c.length,(0:Int),c,v3,v4,v5,(bs.length:Int),ZE bs,y.1,y.2.1,y.2.2.1,m,v12,v13,v14) =
   L1 (v4,v3 + 1,v5,((bs ++ Xv m y c).length:Int),ZE (bs ++ Xv m y c),m,v12,v13,v14):=by
 have he:QM m ≤ 31:=by unfold QM; split <;> omega
 have hfin:∀ (g:Int → List Bool),(∀ x ∈ c,(g x).length ≤ 70000) →
   (∀ (L:Int × Int × List Int × Int × Int × List (List Int) × Int × List Int × Int × Int × Int × Int × Int × List (Int × Int × Int × Unit) × Int → Option (Int × (List Int × Int × Unit) × Unit)) (i:Nat) (hi:i < c.length) (a:List Bool),a.length ≤ 2147483648 + i * 70000 →
    ZaN k L1 L (UD c.length,UD i,c,v3,v4,v5,(a.length:Int),ZE a,y.1,y.2.1,y.2.2.1,m,v12,v13,v14) =
    L (UD c.length,UD (i + 1),c,v3,v4,v5,((a ++ g c[i]).length:Int),ZE (a ++ g c[i]),y.1,y.2.1,y.2.2.1,m,v12,v13,v14)) →
   Zl6 k L1 (UD c.length,(0:Int),c,v3,v4,v5,(bs.length:Int),ZE bs,y.1,y.2.1,y.2.2.1,m,v12,v13,v14) =
   L1 (v4,v3 + 1,v5,((bs ++ c.flatMap g).length:Int),ZE (bs ++ c.flatMap g),m,v12,v13,v14):=by
  intro g hg hstep
  have:=Zi (A:=List Bool) (R:=Int × (List Int × Int × Unit) × Unit) (step:=fun L2 => ZaN k L1 L2)
   (fun i a => (UD c.length,UD i,c,v3,v4,v5,(a.length:Int),ZE a,y.1,y.2.1,y.2.2.1,m,v12,v13,v14)) c
   (fun c' a => L1 (v4,v3 + 1,v5,((a ++ c'.flatMap g).length:Int),ZE (a ++ c'.flatMap g),m,v12,v13,v14))
   (fun i a => a.length ≤ 2147483648 + i * 70000)
   (fun L a _ => by
    simp only [ZaN]
    rw [Zn (XJ _),ZK (by omega)]
    simp)
   (fun L i hi a ha hL => by
    grind)
   k 0 bs (by omega) (by omega) (Ht _)
  rw [U5] at this
  exact this
 unfold Xv
 rcases hy with ⟨kk,hkk,hfar,rfl⟩ | ⟨hw,rfl⟩
 ·simp only
  rw [if_neg (by omega)]
  have hq:∀ x ∈ c,Z3 x / 2 ^ kk ≤ 65536:=by
   intro x hx
   unfold ZcS at hfar
   simp_all
  rw [Yi]
  refine hfin (Zd8 kk) (fun x hx => by have:=hq x hx; rw [Zbu]; omega) ?_
  intro L i hi a ha
  have hx:=hc c[i] (Ha hi)
  have hxq:=hq c[i] (Ha hi)
  simp only [ZaN]
  rw [Zb (W9 hi),Zb (QV hi),ZKo,ZeR k hm]
  simp only [Z9]
  rw [ZC,Zn (by omega),Zs hi,ZXI,Zs0 k hx]
  simp only [Z9]
  have hf32:=Zkq hx
  rw [Zb (by omega),Zx2 (by omega) (by omega)]
  simp only [Yi,Hs (show kk ≤ 64 by omega),ZcT]
  rw [show ((ZE a,((a.length:Nat):Int),()):List Int × Int × Unit) = Ke a from rfl,ZAg k a _ (by omega) hxq (by omega)]
  simp only [Z9]
  rw [Zb (by omega)]
  have hlen:(a ++ (Jd (Z3 c[i] / 2 ^ kk) false ++ [true])).length = a.length + (Z3 c[i] / 2 ^ kk + 1):=by simp
  rw [QD k (a ++ (Jd (Z3 c[i] / 2 ^ kk) false ++ [true])) _ kk (by omega) (by omega) (UY _ (Hq (by omega))) (by rw [hlen]; omega)]
  simp only [Z9]
  rw [ZL hi (by omega)]
  unfold Zd8
  simp only [Ju]
 ·simp only
  rw [if_pos trivial,Yi]
  refine hfin (fun n => Wu n (Z6 c)) (fun x hx => by simp only [Yd]; omega) ?_
  intro L i hi a ha
  have hx:=ZuE hc c[i] (Ha hi)
  simp only [ZaN]
  rw [Zb (W9 hi),Zb (QV hi),ZKo,ZeR k hm]
  simp only [Z9]
  rw [ZC,Zb rfl,Zs hi]
  rw [show ((ZE a,((a.length:Nat):Int),()):List Int × Int × Unit) = Ke a from rfl,ZsS k a _ (Z6 c) (by omega) (by omega) hx (by omega)]
  simp only [Z9]
  rw [ZL hi (by omega)]
theorem ZfT {c:List Int} (hc:∀ x ∈ c,ZD x) (hn:c.length ≤ 512) {m:Int} {y:Prt} (hy:KK c m y):(Xv m y c).length ≤ c.length * 70000:=by
 have he:QM m ≤ 31:=by unfold QM; split <;> omega
 have key:∀ (g:Int → List Bool) (l:List Int),(∀ x ∈ l,(g x).length ≤ 70000) → (l.flatMap g).length ≤ l.length * 70000:=by
  intro g l
  induction l with
  | nil => intro _; simp
  | cons a l ih =>
   grind
 unfold Xv
 rcases hy with ⟨kk,hkk,hfar,rfl⟩ | ⟨hw,rfl⟩
 ·simp only
  rw [if_neg (by omega)]
  refine key _ c fun x hx => ?_
  unfold ZcS at hfar
  rw [Uj] at hfar
  have:=hfar x hx
  simp only [decide_eq_true_eq] at this
  rw [Zbu,Yi]
  omega
 ·simp only
  rw [if_pos trivial]
  refine key _ c fun x hx => ?_
  rw [Yd,Yi]
  omega
def KS (m:Int):List (List Int) → List Prt → Prop
 | [],[] => True
 | c :: cs,y :: ys => KK c m y ∧ KS m cs ys
 | _,_ => False
theorem ZbB {m:Int}:∀ (cs:List (List Int)) (ps:List Prt) (sz:Int),(ZZ m cs ps sz).2.2 = true → ∃ ys,(ZZ m cs ps sz).1 = ps ++ ys ∧ KS m cs ys ∧ ys = cs.map fun c => (Qk c m).1
 | [],ps,sz,_ => ⟨[],by simp [ZZ],trivial,rfl⟩
 | c :: cs,ps,sz,h => by
  unfold ZZ at h ⊢
  split at h
  ·rename_i hb
   rw [if_pos hb]
   obtain ⟨ys,h1,h2,h3⟩:=ZbB cs _ _ h
   refine ⟨(Qk c m).1 :: ys,by rw [h1]; simp,⟨Zab hb,h2⟩,by rw [h3]; rfl⟩
  ·cases h
theorem KS.len {m:Int}:∀ {cs:List (List Int)} {ys:List Prt},KS m cs ys → ys.length = cs.length
 | [],[],_ => rfl
 | c :: cs,y :: ys,h => by simp [KS.len h.2]
theorem KS.get {m:Int}:∀ {cs:List (List Int)} {ys:List Prt},KS m cs ys → ∀ (i:Nat) (h1:i < cs.length) (h2:i < ys.length),KK cs[i] m ys[i]
 | c :: cs,y :: ys,h,0,_,_ => h.1
 | c :: cs,y :: ys,h,i + 1,h1,h2 => by
  simp only [Ez]
  exact KS.get h.2 i (by simpa using h1) (by simpa using h2)
theorem RGood.ys {l:List Int} {o p:Nat} {R:WE} (h:RGood l o R p):KS R.1 (WF l o p) R.2.2.2:=by
 obtain ⟨ys,h1,h2,_⟩:=ZbB (m:=R.1) (WF l o p) [] 6 (by rw [h.parts])
 rw [h.parts] at h1
 simp_all
theorem ZrB {c:List Int} {m:Int} (hm:m = 0 ∨ m = 1) {y:Prt} (hy:KK c m y):∃ a w:Nat,y.1 = (a:Int) ∧ a < 2 ^ (4 + m.toNat) ∧ y.2.1 = (w:Int) ∧ w ≤ 31:=by
 rcases hy with ⟨kk,hkk,hfar,rfl⟩ | ⟨hw,rfl⟩
 ·refine ⟨kk,0,rfl,?_,rfl,by omega⟩
  rcases hm with rfl | rfl
  ·have:QM 0 = 15:=rfl
   grind
  ·have:QM 1 = 31:=rfl
   grind
 ·refine ⟨QM m,Z6 c,rfl,?_,rfl,hw⟩
  rcases hm with rfl | rfl <;> decide
theorem ZAi (k:Nat) {l:List Int} {o:Nat} (hk:70000 < k) (h:W1 l o = 0) (bs:List Bool) (hb:bs.length ≤ 1073741824) :
  ZmW k (Ke bs,l,(o:Int),()) = some (0,Ke (bs ++ YC l o),()):=by
 show Zkh k (Zw7 k) _ = _
 have ⟨h1,h2⟩:=ZbD.1 h
 have hl:=Y4 h2
 obtain ⟨hsz,q,hg⟩:=XA hl (o:=o) (by omega) (by omega)
 simp only [Zkh]
 rw [ZsT k l o (by omega) (by omega),h]
 simp only [Z9]
 rw [show ((0:Int) != 0) = false from rfl]
 simp only [cond_false]
 rw [ZsU k hl (by omega) (by omega)]
 simp only [Z9]
 unfold YC Zc2
 generalize Ql l o = R at hg hsz
 have hys:=hg.ys
 obtain ⟨m,p,sz,ys⟩:=R
 obtain ⟨hp,p4,hfit,hm,hparts⟩:=hg
 simp only at hp hm hparts hys
 subst hp
 simp only [Yi]
 have hmn:m = ((m.toNat:Nat):Int):=by rcases hm with rfl | rfl <;> rfl
 have hm2:m.toNat < 2 ^ 2:=by rcases hm with rfl | rfl <;> decide
 have e1:=QD k bs m.toNat 2 (by omega) (by omega) hm2 (by omega)
 rw [← hmn] at e1
 rw [show ((ZE bs,((bs.length:Nat):Int),()):List Int × Int × Unit) = Ke bs from rfl,show (2:Int) = ((2:Nat):Int) from rfl,e1]
 simp only [Z9]
 have hl1:(bs ++ Za m.toNat 2).length = bs.length + 2:=by rw [QZ,Zc]
 have e2:=QD k (bs ++ Za m.toNat 2) q 4 (by omega) (by omega) (by omega) (by rw [hl1]; omega)
 rw [show (4:Int) = ((4:Nat):Int) from rfl,e2]
 simp only [Z9]
 rw [ZsV k (by omega) (by omega) (by omega) hfit]
 simp only [Z9]
 have hcs:∀ c ∈ WF l o q,(∀ x ∈ c,ZD x) ∧ c.length ≤ 512:=fun c hc => ⟨fun x hx => hl x (Yp hc x hx),by have:=Zbd hc; omega⟩
 have hclen:(WF l o q).length ≤ 16:=by
  rw [Zb3]
  have:2 ^ q ≤ 2 ^ 4:=He (by omega) p4
  omega
 have hyl:=hys.len
 generalize WF l o q = cs at hcs hclen hys hyl
 have hzl:(cs.zip ys).length = cs.length:=by rw [En]; omega
 have hl2:(bs ++ Za m.toNat 2 ++ Za q 4).length = bs.length + 6:=by rw [QZ,hl1,Zc]
 have:=Zi (A:=List Bool) (R:=Int × (List Int × Int × Unit) × Unit) (step:=fun L1 => Zfx k (Zl6 k L1) L1)
  (fun i a => (UD cs.length,UD i,cs,(a.length:Int),ZE a,m,(q:Int),ys,sz)) (cs.zip ys)
  (fun l' a => some (0,Ke (a ++ l'.flatMap (Xa m)),()))
  (fun i a => a.length ≤ 1073741900 + i * 35900000)
  (fun L a _ => by
   grind [Zfx])
  (fun L i hi a ha hL => by
   have hi1:i < cs.length:=by omega
   have hi2:i < ys.length:=by omega
   obtain ⟨hc1,hc2⟩:=hcs cs[i] (Ha hi1)
   have hy:=hys.get i hi1 hi2
   have hzi:(cs.zip ys)[i] = (cs[i],ys[i]):=by rw [EA]
   simp only [Zfx]
   rw [Zb (W9 hi1),Zb (QV hi1),Zb (QV hi2),ZXH,ZsX k hm]
   simp only [Z9]
   rw [Zs hi1,Zs hi2]
   obtain ⟨b,w,hb1,hb2,hw1,hw2⟩:=ZrB hm hy
   have hll:=ZfT hc1 hc2 hy
   have e4:(4:Int) + m = ((4 + m.toNat:Nat):Int):=by rcases hm with rfl | rfl <;> rfl
   have hm1:m.toNat ≤ 1:=by rcases hm with rfl | rfl <;> decide
   rw [hb1,hw1,e4,show ((ZE a,((a.length:Nat):Int),()):List Int × Int × Unit) = Ke a from rfl,QD k a b (4 + m.toNat) (by omega) (by omega) hb2 (by omega)]
   simp only [Z9]
   rw [ZKo,ZeR k hm]
   simp only [Z9]
   have hla:(a ++ Za b (4 + m.toNat)).length = a.length + (4 + m.toNat):=by rw [QZ,Zc]
   have hI:((i:Nat):Int) ≤ 16:=by omega
   have hout:Xa m (cs[i],ys[i]) = Za b (4 + m.toNat) ++ ((if (b:Int) = (QM m:Int) then Za w 5 else []) ++ Xv m ys[i] cs[i]):=by
    unfold Xa
    simp only [hb1,hw1,Yi]
   rw [hzi,Hn,hout,ZC]
   have hnext:UD i + 1 = UD (i + 1):=rfl
   by_cases hesc:(b:Int) = (QM m:Int)
   ·rw [Zb hesc,if_pos hesc]
    have h5:w < 2 ^ 5:=by omega
    rw [show ((5:Int)) = ((5:Nat):Int) from rfl,QD k (a ++ Za b (4 + m.toNat)) w 5 (by omega) (by omega) h5 (by omega)]
    simp only [Z9]
    have hlb:(a ++ Za b (4 + m.toNat) ++ Za w 5).length = a.length + (4 + m.toNat) + 5:=by rw [QZ,hla,Zc]
    have:=ZAh k L hc1 hc2 (by omega) hm hy (UD i) (UD cs.length) cs (q:Int) ys sz (by simp only [QT]; omega) (a ++ Za b (4 + m.toNat) ++ Za w 5) (by omega)
    grind
   ·rw [Zn hesc,if_neg hesc]
    have:=ZAh k L hc1 hc2 (by omega) hm hy (UD i) (UD cs.length) cs (q:Int) ys sz (by simp only [QT]; omega) (a ++ Za b (4 + m.toNat)) (by omega)
    grind)
  k 0 (bs ++ Za m.toNat 2 ++ Za q 4) (by omega) (by omega) (Ht _)
 rw [U5] at this
 refine U4 this ?_
 simp
end Go.Sh
namespace Go.Sh
open Go Go.Proofs
theorem ZPV (k:Nat) (n d:Int):ZPU k (n,d,()) = some (decide (1 ≤ n ∧ n ≤ 512 ∧ 4 ≤ d ∧ d ≤ 25),()):=by
 show Zq4 k _ = _
 grind [Zq4]
theorem ZPX (k:Nat) (x:Int) {d:Nat} (h1:1 ≤ d) (h2:d ≤ 64):ZPW k (x,(d:Int),()) = some (Xe x d,()):=by
 show Zq5 k _ = _
 simp only [Zq5]
 have e1:Jx.wrap ((d:Int) - 1) = ((d - 1:Nat):Int):=by rw [ZK (by omega)]; omega
 rw [e1,ZAN x (by omega)]
 grind
theorem ZHH (k:Nat) (x:Int) {d:Nat} (h1:1 ≤ d) (h2:d ≤ 64):ZBw k (x,((d:Int),()),()) = some (!Xe x d,((d:Int),()),()):=by
 show Zlf k _ = _
 simp only [Zlf]
 rw [ZPX k x h1 h2]
 rfl
theorem Zys (k:Nat) (c:List Int) {d:Nat} (h1:1 ≤ d) (h2:d ≤ 64) (hk:c.length < k) (hn:c.length < 4294967296) :
  ZpC k (c,(((d:Int),()),()),()) = some (!c.all (Xe · d),((d:Int),()),()):=by
 show ZeJ k _ = _
 simp only [ZeJ]
 have key:∃ i:Int,ZpM k (c,(((d:Int),()),()),()) = some (i,((d:Int),()),()) ∧ (0 ≤ i ↔ c.all (Xe · d) = false):=by
  have:=Qm (A:=Unit) (R:=Int × (Int × Unit) × Unit) (step:=fun L1 => Kp k L1) (fun i _ => (UD c.length,UD i,c,(d:Int))) c
   (fun l _ => some (if l.all (Xe · d) then -1 else UD (c.length - l.length + (l.takeWhile (fun x => Xe x d)).length),((d:Int),()),()))
   (fun L _ => by grind [Kp])
   (fun L i hi _ hL => by
    simp only [Kp]
    rw [Zb (W9 hi),Zb (QV hi),Zs hi,ZHH k _ h1 h2]
    simp only [Z9]
    have hlen:(UN (i + 1) c).length = c.length - (i + 1):=by simp
    cases hc:Xe c[i] d with
    | true =>
     simp only [HF,cond_false]
     rw [ZL hi (by omega),hL ()]
     simp only [UA,hc,UC,Hz,if_true,JF,hlen]
     grind
    | false =>
     simp only [Ec,cond_true,UA,hc,Bool.false_and,JJ,if_false,Hz,JF,hlen,H2]
     congr 3; omega) k 0 () (by omega) (Ht _)
  rw [U5] at this
  refine ⟨_,this,?_⟩
  cases c.all (Xe · d) <;> simp
 grind
def Zee (s:List Int) (d:Int):Int:=if 1 ≤ s.length ∧ s.length ≤ 512 ∧ 4 ≤ d ∧ d ≤ 25 then (if s.all (Xe · d.toNat) = true then 0 else 12) else 1
theorem ZO5 (k:Nat) (s:List Int) (d:Int) (hk:1000 < k):ZGh k (s,d,()) = some (Zee s d,()):=by
 show ZqU k _ = _
 simp only [ZqU]
 rw [ZPV]
 simp only [Z9]
 unfold Zee
 by_cases h:1 ≤ s.length ∧ s.length ≤ 512 ∧ 4 ≤ d ∧ d ≤ 25
 ·rw [if_pos h,dTr (by simp only [QT]; omega)]
  simp only [HF,cond_false]
  obtain ⟨e,rfl⟩:=Vp (show 0 ≤ d by omega)
  rw [Zys k s (by omega) (by omega) (by omega) (by omega),Yi]
  grind
 grind
def ZfU (x:Int):Nat:=(x % 18446744073709551616).toNat
def Zeu (s:List Int):Nat:=s.foldl (fun v x => v ||| ZfU x) 0
def Zm (s:List Int):Nat:=if Zeu s = 0 then 0 else Lib.ctz 64 (Zeu s)
theorem Zxt (x:Int):ZfU x < 2 ^ 64:=by unfold ZfU; omega
theorem Zbw (x:Int):(UH 64 x).toNat = ZfU x:=by rw [Eh]; rfl
theorem Zmh {n:Nat} (h:n < 2 ^ 64):ZfU (Jx.wrap (n:Int)) = n:=by
 unfold ZfU
 rw [IntKind.wrap_i64]
 omega
theorem Zrw:∀ (s:List Int) (v:Nat),v < 2 ^ 64 → s.foldl (fun v x => v ||| ZfU x) v < 2 ^ 64
 | [],_,h => h
 | x :: s,v,h => Zrw s _ (Er h (Zxt x))
theorem ZEb (s:List Int):Zeu s < 2 ^ 64:=Zrw s 0 (by decide)
theorem ZHJ (k:Nat) (s:List Int) (hk:s.length < k) (hn:s.length < 4294967296):ZBx k (s,()) = some (((Zm s:Nat):Int),()):=by
 show Zgn k (Znu k) _ = _
 simp only [Zgn]
 have:=Zi (A:=Nat) (R:=Int × Unit) (step:=fun L1 => Zb8 k L1) (fun i v => (UD s.length,UD i,s,Jx.wrap (v:Int))) s
  (fun s' v => some ((((if s'.foldl (fun v x => v ||| ZfU x) v = 0 then 0 else Lib.ctz 64 (s'.foldl (fun v x => v ||| ZfU x) v)):Nat):Int),()))
  (fun i v => v < 2 ^ 64)
  (fun L v hv => by
   simp only [Zb8]
   rw [Zn (XJ _),ZC,List.foldl_nil]
   by_cases h0:v = 0
   ·subst h0; rfl
   ·have hne:¬ Jx.wrap (v:Int) = 0:=by
     intro h
     have:=Zmh hv
     rw [h] at this
     exact h0 this.symm
    rw [Zn hne,if_neg h0]
    have hu:UI.wrap (Jx.wrap (v:Int)) = (v:Int):=by
     rw [IntKind.wrap_u64,IntKind.wrap_i64]; omega
    rw [hu]
    show (tzF _).bind _ = _
    unfold tzF
    grind)
  (fun L i hi v hv hL => by
   simp only [Zb8]
   rw [Zb (W9 hi),Zb (QV hi),Zs hi,BitVec.toNat_or,Zbw,Zbw,Zmh hv,ZL hi (by omega),H0]
   exact hL (v ||| ZfU s[i]) (Er hv (Zxt _)))
  k 0 0 (by decide) (by omega) (Ht _)
 rw [U5] at this
 exact this
theorem ZAE {a b k:Nat} (h:(a ||| b) % 2 ^ k = 0):a % 2 ^ k = 0 ∧ b % 2 ^ k = 0:=by
 rw [Nat.or_mod_two_pow] at h
 simp_all
theorem ZkA {k:Nat}:∀ (s:List Int) (v:Nat),(s.foldl (fun v x => v ||| ZfU x) v) % 2 ^ k = 0 → v % 2 ^ k = 0 ∧ ∀ x ∈ s,ZfU x % 2 ^ k = 0
 | [],v,h => ⟨h,by simp⟩
 | x :: s,v,h => by
  obtain ⟨h1,h2⟩:=ZkA s _ h
  obtain ⟨h3,h4⟩:=ZAE h1
  simp_all
theorem ZTE {x:Int} {k:Nat} (hk:k ≤ 64) (h:ZfU x % 2 ^ k = 0):((2:Int) ^ k) ∣ x:=by
 have:=Zm5 x k 64 hk
 unfold ZfU at h
 simp_all <;> omega
theorem Zne {s:List Int} (h:Zeu s ≠ 0):∃ m,Zeu s = 2 ^ Zm s * (2 * m + 1) ∧ Zm s < 64:=by
 unfold Zm Lib.ctz
 rw [if_neg h,if_neg h]
 exact Lib.ctzFrom_spec 64 (Zeu s) (by omega) (ZEb s)
theorem Zel {s:List Int}:∀ x ∈ s,((2:Int) ^ Zm s) ∣ x:=by
 intro x hx
 by_cases h:Zeu s = 0
 ·unfold Zm
  rw [if_pos h]
  exact Int.one_dvd _
 ·obtain ⟨m,hm,hlt⟩:=Zne h
  have:Zeu s % 2 ^ Zm s = 0:=by rw [hm]; exact Nat.mul_mod_right _ _
  exact ZTE (by omega) ((ZkA s 0 this).2 x hx)
theorem Zx3:∀ (s:List Int) (v:Nat),v = 0 → (∀ x ∈ s,x = 0) → s.foldl (fun v x => v ||| ZfU x) v = 0
 | [],v,h,_ => h
 | x :: s,v,h,hx => by
  refine Zx3 s _ ?_ fun y hy => hx y (Jn _ hy)
  rw [h,hx x (Jl ..)]
  rfl
theorem Zdd {s:List Int} {d:Nat} (hd:1 ≤ d) (hs:∀ x ∈ s,Xe x d = true):Zm s < d:=by
 by_cases h:Zeu s = 0
 ·unfold Zm
  rw [if_pos h]
  omega
 ·have:∃ x ∈ s,x ≠ 0:=by
   apply Classical.byContradiction
   intro hc
   refine h (Zx3 s 0 rfl fun x hx => ?_)
   grind
  obtain ⟨x,hx,hne⟩:=this
  have h1:=hs x hx
  unfold Xe at h1
  rw [if_neg (by omega),decide_eq_true_eq] at h1
  have h2:=Int.natAbs_dvd_natAbs.2 (Zel x hx)
  rw [Int.natAbs_pow] at h2
  have h3:=Nat.le_of_dvd (by omega) h2
  have h4:x.natAbs ≤ 2 ^ (d - 1):=by
   grind
  have h5:2 ^ Zm s ≤ 2 ^ (d - 1):=VH h3 h4
  have:=(Nat.pow_le_pow_iff_right (by omega:1 < 2)).1 h5
  omega
def QE (s:List Int):List Int:=s.map fun x => x.fdiv (2 ^ Zm s)
theorem K7 (s:List Int):(QE s).length = s.length:=by simp [QE]
theorem ZP5 {x:Int} {k:Nat} (h:((2:Int) ^ k) ∣ x):x.fdiv (2 ^ k) * 2 ^ k = x:=by
 rw [HI _ (Int.pow_nonneg (by omega))]
 exact Int.ediv_mul_cancel h
theorem ZJ5 {x:Int} {d k:Nat} (hk:k < d) (h:((2:Int) ^ k) ∣ x) (hx:Xe x d = true):Xe (x.fdiv (2 ^ k)) (d - k) = true:=by
 have he:=ZP5 h
 generalize x.fdiv (2 ^ k) = y at he
 unfold Xe at hx ⊢
 rw [if_neg (by omega),decide_eq_true_eq] at hx
 rw [if_neg (by omega),decide_eq_true_eq]
 have hp:(0:Int) < 2 ^ k:=Int.pow_pos (by omega)
 have e:(2:Int) ^ (d - 1) = 2 ^ (d - k - 1) * 2 ^ k:=by rw [← Int.pow_add]; congr 1; omega
 rw [e,← he,← Int.neg_mul] at hx
 exact ⟨Int.le_of_mul_le_mul_right hx.1 hp,Int.lt_of_mul_lt_mul_right hx.2 (by omega)⟩
theorem Zik {s:List Int} {d:Nat} (hd:1 ≤ d) (hs:∀ x ∈ s,Xe x d = true):∀ x ∈ QE s,Xe x (d - Zm s) = true:=by
 intro y hy
 obtain ⟨x,hx,rfl⟩:=VF.1 hy
 exact ZJ5 (Zdd hd hs) (Zel x hx) (hs x hx)
theorem Zij {x:Int} {d:Nat} (hd:d ≤ 31) (h:Xe x d = true):ZD x:=by
 unfold Xe at h
 unfold ZD
 split at h
 ·simp_all
 ·rw [decide_eq_true_eq,QS] at h
  have:2 ^ (d - 1) ≤ 2 ^ 30:=He (by omega) (by omega)
  omega
end Go.Sh
namespace Go.Sh
open Go Go.Proofs
abbrev Wd:=Int × List Int × Int × List Int × Int
def Zev (s:List Int) (d:Nat) (kind:Int) (c:List Int) (sh head:Int):Option Wd :=
 if (Qx c sh s).2 = 0 then some (kind,c,sh,(Qx c sh s).1,head + (c.length:Int) * (d:Int) + (Ql (Qx c sh s).1 c.length).2.2.1) else none
def Qh (b:Option Wd) (x:Option Wd):Option Wd :=
 match x with
 | none => b
 | some x => match b with
  | none => some x
  | some b => if x.2.2.2.2 < b.2.2.2.2 then some x else some b
abbrev FPl:=Int × Int × Int × List Int × List Int × Int × List Int × Int × Unit
abbrev SPl:=Int × Int × Int × List Int × (List Int × Int × Unit) × List Int × Int × Unit
def Qo (kk d:Int) (s:List Int):Option Wd → FPl
 | none => (0,0,0,[],[],0,[],-1,())
 | some (kind,c,sh,r,sz) => (kind,kk,d,s,c,sh,r,sz,())
abbrev ZXq (kk d:Int) (s:List Int) (x:Wd):SPl:=(x.1,kk,d,s,(x.2.1,x.2.2.1,()),x.2.2.2.1,x.2.2.2.2,())
def nnC (b:Option Wd):Prop := ∀ c,b = some c → 0 ≤ c.2.2.2.2
theorem Zdb {b x:Option Wd} (hb:nnC b) (hx:nnC x):nnC (Qh b x):=by
 intro c hc
 unfold Qh at hc
 match x,b,hc with
 | none,b,hc => exact hb c hc
 | some x,none,hc => exact hx c hc
 | some x,some b,hc =>
  simp only at hc
  split at hc
  ·exact hx c hc
  ·exact hb c hc
theorem Zyx (k:Nat) (kk d:Int) (s:List Int) (x:Wd) (b:Option Wd) (hb:nnC b) :
  ZeO k (ZXq kk d s x,true,Qo kk d s b,()) = some ((),Qo kk d s (Qh b (some x)),()):=by
 match b with
 | none => rfl
 | some b =>
  have h0:=hb b rfl
  show (bif decide (b.2.2.2.2 < 0) then _ else bif decide (x.2.2.2.2 < b.2.2.2.2) then _ else _) = _
  rw [Zn (by omega)]
  unfold Qh
  simp only
  by_cases h:x.2.2.2.2 < b.2.2.2.2
  ·rw [Zb h,if_pos h]; rfl
  ·rw [Zn h,if_neg h]; rfl
theorem Ziv {l:List Int} {o:Nat} (hl:∀ x ∈ l,ZD x) (hn:l.length + o ≤ 512):0 ≤ (Ql l o).2.2.1 ∧ (Ql l o).2.2.1 ≤ 281474976710656:=by
 obtain ⟨h1,q,hg⟩:=XA hl hn (by omega)
 refine ⟨h1,?_⟩
 have key:∀ (cs:List (List Int)) (ps:List Prt) (sz m:Int),(m = 0 ∨ m = 1) → (∀ c ∈ cs,(∀ x ∈ c,ZD x) ∧ c.length ≤ 512) → (ZZ m cs ps sz).2.1 ≤ sz + (cs.length:Int) * 8796093022208:=by
  intro cs
  induction cs with
  | nil => intro ps sz m _ _; simp [ZZ]
  | cons c cs ih =>
   intro ps sz m hm h
   cases hb:(Qk c m).2 with
   | false => rw [Zg2 _ _ _ hb]; simp only [JF]; omega
   | true =>
    rw [Zea _ _ _ hb]
    have h1:=h c (Jl ..)
    have h2:=(Zab hb).size h1.1 h1.2
    have:=ih (ps ++ [(Qk c m).1]) (sz + (4 + m + (Qk c m).1.2.2.1)) m hm fun c hc => h c (Jn _ hc)
    grind
 have:=key (WF l o q) [] 6 _ hg.hm fun c hc => ⟨fun x hx => hl x (Yp hc x hx),by have:=Zbd hc; omega⟩
 rw [hg.parts,Zb3] at this
 have h16:2 ^ q ≤ 2 ^ 4:=He (by omega) hg.p4
 grind
theorem Zf3 {c s:List Int} {sh:Int} (h:(Qx c sh s).2 = 0):(Qx c sh s).1 = ZaZ c sh s ∧ c.length ≤ s.length ∧ ZaR c sh = true:=by
 unfold Qx at h ⊢
 grind
theorem ZbY {c s:List Int} {sh:Int} (h:(Qx c sh s).2 = 0) (h1:1 ≤ s.length) (h2:s.length ≤ 512):(Qx c sh s).1.length + c.length = s.length ∧ c.length ≤ 8 ∧ W1 (Qx c sh s).1 (c.length:Nat) = 0:=by
 have hz:=Zf3 h
 have hlen:(Qx c sh s).1.length + c.length = s.length:=by rw [hz.1,ZaZ,ZrO]; omega
 have h8:=(Zbt hz.2.2).1
 refine ⟨hlen,h8,ZbD.2 ⟨⟨by omega,by omega,h8⟩,?_⟩⟩
 rw [Uj]
 intro x hx
 have:=WB c sh s x hx
 unfold ZD at this
 unfold QA
 simp only [decide_eq_true_eq]
 omega
def ZXj (p:SPl) (kk d:Int) (s:List Int):Option Wd → SPl × Bool × Unit
 | none => (p,false,())
 | some x => (ZXq kk d s x,true,())
theorem ZHP (k:Nat) (hk:40000 < k) {s:List Int} (h1:1 ≤ s.length) (h2:s.length ≤ 512) {d:Nat} (hd:d ≤ 25) {head:Int} (hh:0 ≤ head ∧ head ≤ 1000) (kind:Int) (c:List Int) (sh a0 a1 a5:Int) (a4 a6:List Int) (a7:Int) :
  ZpH k ((a0,a1,(d:Int),s,(a4,a5,()),a6,a7,()),kind,(c,sh,()),head,()) = some (ZXj (a0,a1,(d:Int),s,(a4,a5,()),a6,a7,()) a1 d s (Zev s d kind c sh head),()):=by
 show Zlh k _ = _
 simp only [Zlh]
 rw [Ztc k c sh s (by omega) (by omega)]
 simp only [Z9]
 rw [ZU]
 unfold Zev
 by_cases h:(Qx c sh s).2 = 0
 ·rw [Zn (by simpa using h),if_pos h]
  obtain ⟨hl,h8,hr⟩:=ZbY h h1 h2
  have hc:=ZIs k (l:=(Qx c sh s).1) (o:=c.length) (by omega) hk
  rw [if_pos hr] at hc
  rw [show UD c.length = ((c.length:Nat):Int) from rfl,hc]
  simp only [Z9]
  rw [show ((0:Int) != 0) = false from rfl]
  simp only [cond_false]
  have hsz:=Ziv (WB c sh s) (o:=c.length) (by omega)
  have hcd:c.length * d ≤ 8 * 25:=J3 h8 hd
  have e1:((c.length:Nat):Int) * (d:Int) = ((c.length * d:Nat):Int):=by push_cast; rfl
  rw [e1,ZK (n:=((c.length * d:Nat):Int)) (by omega),ZK (n:=head + ((c.length * d:Nat):Int)) (by omega),ZK (by omega)]
  rfl
 ·rw [Zb h,if_neg h]
  rfl
theorem Zyt (k:Nat) {s:List Int} (h1:1 ≤ s.length) (h2:s.length ≤ 512) (hk:1000 < k) (a0 a1 a2 a5 a7:Int) (a4 a6:List Int) :
  ZpD k (s,((a0,a1,a2,s,a4,a5,a6,a7,()),()),()) = some (!s.all (fun x => decide (x = s.headD 0)),(a0,a1,a2,s,a4,a5,a6,a7,()),()):=by
 show ZeK k _ = _
 simp only [ZeK]
 have hhd:s.getD 0 0 = s.headD 0:=by cases s <;> rfl
 have key:∃ i:Int,ZpO k (s,((a0,a1,a2,s,a4,a5,a6,a7,()),()),()) = some (i,(a0,a1,a2,s,a4,a5,a6,a7,()),()) ∧ (0 ≤ i ↔ s.all (fun x => decide (x = s.headD 0)) = false):=by
  have:=Qm (A:=Unit) (R:=Int × FPl × Unit) (step:=fun L1 => Kq k L1) (fun i _ => (UD s.length,UD i,s,a0,a1,a2,s,a4,a5,a6,a7)) s
   (fun l _ => some (if l.all (fun x => decide (x = s.headD 0)) then -1 else UD (s.length - l.length + (l.takeWhile (fun x => decide (x = s.headD 0))).length),(a0,a1,a2,s,a4,a5,a6,a7,()),()))
   (fun L _ => by grind [Kq])
   (fun L i hi _ hL => by
    simp only [Kq]
    have e:ZBy k (s[i],(a0,a1,a2,s,a4,a5,a6,a7,()),()) = some (s[i] != s.headD 0,(a0,a1,a2,s,a4,a5,a6,a7,()),()):=by
     show Zlg k _ = _
     grind [Zlg,QT]
    rw [Zb (W9 hi),Zb (QV hi),Zs hi,e]
    simp only [Z9]
    have hlen:(UN (i + 1) s).length = s.length - (i + 1):=by simp
    rw [ZU]
    by_cases hc:s[i] = s.headD 0
    ·rw [Zn (by simpa using hc),ZL hi (by omega),hL ()]
     simp only [UA,hc,decide_true,UC,Hz,if_true,JF,hlen]
     grind
    ·rw [Zb hc]
     simp only [UA,hc,decide_false,Bool.false_and,JJ,if_false,Hz,JF,hlen,H2]
     congr 3; omega) k 0 () (by omega) (Ht _)
  rw [U5] at this
  refine ⟨_,this,?_⟩
  grind
 grind
def Zd3 (s:List Int) (d:Nat):Option Wd:=if s.all (fun x => decide (x = s.headD 0)) = true then some (0,[],0,[],(d:Int)) else none
def ZJA (s:List Int) (d:Nat) (o:Nat):Option Wd:=Zev s d (8 + (o:Int)) (YX o) 0 0
def YF (s:List Int) (d:Nat) (o:Nat):Option Wd:=if o < s.length then Zev s d (31 + (o:Int)) (XW s o) 4 (9 + 12 * (o:Int)) else none
def ZHh (s:List Int) (d:Nat):Option Wd:=some (1,[],0,[],(s.length:Int) * (d:Int))
def Zh2 (s:List Int) (d:Nat):Nat → Nat → Option Wd → Option Wd
 | 0,_,b => b
 | e + 1,o,b => Zh2 s d e (o + 1) (Qh b (ZJA s d o))
def Zit (s:List Int) (d:Nat):Option Wd :=
 Qh (Qh (Qh (Qh (Zh2 s d (min 4 s.length + 1) 0 (Qh none (Zd3 s d))) (YF s d 2)) (YF s d 4)) (YF s d 8)) (ZHh s d)
theorem ZGU {s:List Int} {d:Nat} {kind:Int} {c:List Int} {sh head:Int} (h1:1 ≤ s.length) (h2:s.length ≤ 512) (hh:0 ≤ head):nnC (Zev s d kind c sh head):=by
 intro x hx
 unfold Zev at hx
 split at hx
 ·rename_i h
  obtain rfl:=(VE.inj hx).symm
  obtain ⟨hl,h8,_⟩:=ZbY h h1 h2
  have:=(Ziv (WB c sh s) (o:=c.length) (by omega)).1
  grind
 ·cases hx
theorem ZGW:nnC none:=fun _ h => by cases h
theorem ZJz (s:List Int) (d:Nat):nnC (Zd3 s d):=by
 intro x hx
 unfold Zd3 at hx
 grind
theorem ZGI {s:List Int} {d o:Nat} (h1:1 ≤ s.length) (h2:s.length ≤ 512):nnC (ZJA s d o):=ZGU h1 h2 (Ei _)
theorem Zxu {s:List Int} {d o:Nat} (h1:1 ≤ s.length) (h2:s.length ≤ 512):nnC (YF s d o):=by
 unfold YF
 split
 ·exact ZGU h1 h2 (by omega)
 ·exact ZGW
theorem ZGJ {s:List Int} {d:Nat} (h1:1 ≤ s.length) (h2:s.length ≤ 512):∀ (e o:Nat) (b:Option Wd),nnC b → nnC (Zh2 s d e o b)
 | 0,_,b,h => h
 | e + 1,o,b,h => ZGJ h1 h2 e (o + 1) _ (Zdb h (ZGI h1 h2))
theorem ZuD (k:Nat) (hk:40000 < k) {s:List Int} (h1:1 ≤ s.length) (h2:s.length ≤ 512) {d:Nat} (hd:d ≤ 25) {head:Int} (hh:0 ≤ head ∧ head ≤ 1000) (kind:Int) (c:List Int) (sh a0 a1 a5:Int) (a4 a6:List Int) (a7:Int) {b:Option Wd} (hb:nnC b)
  {R:Type} (K:Unit × FPl × Unit → Option R) :
  ((ZpH k ((a0,a1,(d:Int),s,(a4,a5,()),a6,a7,()),kind,(c,sh,()),head,())).bind fun y =>
   (ZeO k ((y.1.1.1,y.1.1.2.1,y.1.1.2.2.1,y.1.1.2.2.2.1,(y.1.1.2.2.2.2.1.1,y.1.1.2.2.2.2.1.2.1,()),y.1.1.2.2.2.2.2.1,y.1.1.2.2.2.2.2.2.1,()),y.1.2.1,((Qo a1 d s b).1,(Qo a1 d s b).2.1,(Qo a1 d s b).2.2.1,(Qo a1 d s b).2.2.2.1,(Qo a1 d s b).2.2.2.2.1,(Qo a1 d s b).2.2.2.2.2.1,(Qo a1 d s b).2.2.2.2.2.2.1,(Qo a1 d s b).2.2.2.2.2.2.2.1,()),())).bind K) =
  K ((),Qo a1 d s (Qh b (Zev s d kind c sh head)),()):=by
 rw [ZHP k hk h1 h2 hd hh]
 simp only [Z9]
 cases hm:Zev s d kind c sh head with
 | none => rfl
 | some x =>
  have:=Zyx k a1 d s x b hb
  exact (congrArg (fun z => z.bind K) this).trans rfl
end Go.Sh
namespace Go.Sh
open Go Go.Proofs
theorem Zl {α β:Type} {x:Option α} {a:α} (h:x = some a) (K:α → Option β):x.bind K = K a:=by rw [h]; rfl
theorem ZTu (k:Nat) (hk:40000 < k) {s:List Int} (h1:1 ≤ s.length) (h2:s.length ≤ 512) {d:Nat} (hd:d ≤ 25) (kk:Int) :
  ∀ (e o j:Nat) (b:Option Wd),e < j → o + e ≤ 5 → nnC b →
  Ze (fun L2 => Zft k (Zl3 k) L2) j (((o + e:Nat):Int),(o:Int),UD s.length,(Qo kk d s b).1,(Qo kk d s b).2.1,(Qo kk d s b).2.2.1,(Qo kk d s b).2.2.2.1,(Qo kk d s b).2.2.2.2.1,(Qo kk d s b).2.2.2.2.2.1,(Qo kk d s b).2.2.2.2.2.2.1,(Qo kk d s b).2.2.2.2.2.2.2.1,
    0,kk,(d:Int),s,[],0,[],0,0,kk,(d:Int),0,(d:Int),s,0,0,0,0,0) =
   (fun b => Zl3 k ((0:Int),(2:Int),(4:Int),(8:Int),UD s.length,0,kk,(d:Int),s,[],0,[],0,(Qo kk d s b).1,(Qo kk d s b).2.1,(Qo kk d s b).2.2.1,(Qo kk d s b).2.2.2.1,(Qo kk d s b).2.2.2.2.1,(Qo kk d s b).2.2.2.2.2.1,(Qo kk d s b).2.2.2.2.2.2.1,(Qo kk d s b).2.2.2.2.2.2.2.1,
    0,kk,(d:Int),0,(d:Int),s,0,0,0,0,0)) (Zh2 s d e o b):=by
 intro e
 induction e with
 | zero =>
  intro o j b hj ho hb
  obtain ⟨j,rfl⟩:=Zt hj
  rw [Zd]
  simp only [Zft]
  rw [Zn (by omega)]
  rfl
 | succ e ih =>
  intro o j b hj ho hb
  obtain ⟨j,rfl⟩:=Zt (show 0 < j by omega)
  rw [Zd]
  simp only [Zft]
  rw [Zb (by omega),ZHO k o (by omega) (by omega)]
  simp only [Z9]
  have e1:Jx.wrap ((8:Int) + (o:Int)) = 8 + (o:Int):=by rw [ZK (by omega)]
  have e2:Jx.wrap ((o:Int) + 1) = ((o + 1:Nat):Int):=by rw [ZK (by omega)]; rfl
  rw [e1,e2]
  refine (ZuD k hk h1 h2 hd (show (0:Int) ≤ 0 ∧ (0:Int) ≤ 1000 by omega) (8 + (o:Int)) (YX o) 0 0 kk 0 [] [] 0 hb _).trans ?_
  have:=ih (o + 1) j (Qh b (ZJA s d o)) (by omega) (by omega) (Zdb hb (ZGI h1 h2))
  rw [show o + 1 + e = o + (e + 1) by omega] at this
  exact this
theorem ZTv (k:Nat) (hk:40000 < k) {s:List Int} (h1:1 ≤ s.length) (h2:s.length ≤ 512) (hs:∀ x ∈ s,ZD x) {d:Nat} (hd:d ≤ 25) (kk:Int) (b:Option Wd) (hb:nnC b) :
  Zl3 k ((0:Int),(2:Int),(4:Int),(8:Int),UD s.length,0,kk,(d:Int),s,[],0,[],0,(Qo kk d s b).1,(Qo kk d s b).2.1,(Qo kk d s b).2.2.1,(Qo kk d s b).2.2.2.1,(Qo kk d s b).2.2.2.2.1,(Qo kk d s b).2.2.2.2.2.1,(Qo kk d s b).2.2.2.2.2.2.1,(Qo kk d s b).2.2.2.2.2.2.2.1,
    0,kk,(d:Int),0,(d:Int),s,0,0,0,0,0) =
   (fun b => some (((Qo kk d s b).1,(Qo kk d s b).2.1,(Qo kk d s b).2.2.1,(Qo kk d s b).2.2.2.1,((Qo kk d s b).2.2.2.2.1,(Qo kk d s b).2.2.2.2.2.1,()),(Qo kk d s b).2.2.2.2.2.2.1,(Qo kk d s b).2.2.2.2.2.2.2.1,()),()))
    (Qh (Qh (Qh (Qh b (YF s d 2)) (YF s d 4)) (YF s d 8)) (ZHh s d)):=by
 have one:∀ (j i o:Nat) (b:Option Wd),(i = 0 ∧ o = 2 ∨ i = 1 ∧ o = 4 ∨ i = 2 ∧ o = 8) → nnC b →
   Ze (fun L3 => ZcP k L3) (j + 1) ((i:Int),(2:Int),(4:Int),(8:Int),UD s.length,0,kk,(d:Int),s,[],0,[],0,(Qo kk d s b).1,(Qo kk d s b).2.1,(Qo kk d s b).2.2.1,(Qo kk d s b).2.2.2.1,(Qo kk d s b).2.2.2.2.1,(Qo kk d s b).2.2.2.2.2.1,(Qo kk d s b).2.2.2.2.2.2.1,(Qo kk d s b).2.2.2.2.2.2.2.1,
    0,kk,(d:Int),0,(d:Int),s,0,0,0,0,0) =
   (fun b => Ze (fun L3 => ZcP k L3) j (((i + 1:Nat):Int),(2:Int),(4:Int),(8:Int),UD s.length,0,kk,(d:Int),s,[],0,[],0,(Qo kk d s b).1,(Qo kk d s b).2.1,(Qo kk d s b).2.2.1,(Qo kk d s b).2.2.2.1,(Qo kk d s b).2.2.2.2.1,(Qo kk d s b).2.2.2.2.2.1,(Qo kk d s b).2.2.2.2.2.2.1,(Qo kk d s b).2.2.2.2.2.2.2.1,
    0,kk,(d:Int),0,(d:Int),s,0,0,0,0,0)) (Qh b (YF s d o)):=by
  intro j i o b hio hb
  rw [Zd]
  simp only [ZcP]
  have ho:o = 2 ∨ o = 4 ∨ o = 8:=by omega
  have hg:[(2:Int),4,8].getD ((i:Int)).toNat 0 = (o:Int):=by
   grind
  have e2:Jx.wrap ((i:Int) + 1) = ((i + 1:Nat):Int):=by rw [ZK (by omega)]; rfl
  rw [Zb (by omega),Zb (by omega),hg,e2]
  unfold YF
  by_cases hlt:o < s.length
  ·rw [Zb (by simp only [QT]; omega),if_pos hlt,ZHU k s o ho (by omega) hs (by omega) (by omega)]
   simp only [Z9]
   have e1:Jx.wrap ((31:Int) + (o:Int)) = 31 + (o:Int):=by rw [ZK (by omega)]
   have e3:Jx.wrap ((9:Int) + Jx.wrap ((12:Int) * (o:Int))) = 9 + 12 * (o:Int):=by rw [ZK (n:=12 * (o:Int)) (by omega),ZK (by omega)]
   rw [e1,e3]
   exact ZuD k hk h1 h2 hd (show (0:Int) ≤ 9 + 12 * (o:Int) ∧ 9 + 12 * (o:Int) ≤ 1000 by omega) (31 + (o:Int)) (XW s o) 4 0 kk 0 [] [] 0 hb _
  ·rw [Zn (by simp only [QT]; omega),if_neg hlt]
   rfl
 obtain ⟨j,rfl⟩:∃ j,k = j + 4:=⟨k - 4,by omega⟩
 have nn1:=Zdb hb (Zxu (o:=2) (d:=d) h1 h2)
 have nn2:=Zdb nn1 (Zxu (o:=4) (d:=d) h1 h2)
 have nn3:=Zdb nn2 (Zxu (o:=8) (d:=d) h1 h2)
 refine (one (j + 3) 0 2 b (by omega) hb).trans ((one (j + 2) 1 4 _ (by omega) nn1).trans ((one (j + 1) 2 8 _ (by omega) nn2).trans ?_))
 generalize Qh (Qh (Qh b (YF s d 2)) (YF s d 4)) (YF s d 8) = b3 at nn3
 simp only
 rw [Zd]
 simp only [ZcP]
 rw [Zn (by omega)]
 have hmul:s.length * d ≤ 512 * 25:=J3 h2 hd
 have e1:Jx.wrap (UD s.length * (d:Int)) = (s.length:Int) * (d:Int):=by
  have:UD s.length * (d:Int) = ((s.length * d:Nat):Int):=by rfl
  rw [this,ZK (by omega)]; push_cast; rfl
 rw [e1]
 have:=Zyx (j + 4) kk d s (1,[],0,[],(s.length:Int) * (d:Int)) b3 nn3
 exact Zl this _
theorem ZPc (k:Nat) (hk:40000 < k) {s:List Int} (h1:1 ≤ s.length) (h2:s.length ≤ 512) {d:Nat} (hd1:1 ≤ d) (hd:d ≤ 25) (hs:∀ x ∈ s,Xe x d = true) :
  ZGj k (s,(d:Int),()) = (fun b => some (((Qo (Zm s:Nat) ((d - Zm s:Nat):Int) (QE s) b).1,(Qo (Zm s:Nat) ((d - Zm s:Nat):Int) (QE s) b).2.1,(Qo (Zm s:Nat) ((d - Zm s:Nat):Int) (QE s) b).2.2.1,(Qo (Zm s:Nat) ((d - Zm s:Nat):Int) (QE s) b).2.2.2.1,((Qo (Zm s:Nat) ((d - Zm s:Nat):Int) (QE s) b).2.2.2.2.1,(Qo (Zm s:Nat) ((d - Zm s:Nat):Int) (QE s) b).2.2.2.2.2.1,()),(Qo (Zm s:Nat) ((d - Zm s:Nat):Int) (QE s) b).2.2.2.2.2.2.1,(Qo (Zm s:Nat) ((d - Zm s:Nat):Int) (QE s) b).2.2.2.2.2.2.2.1,()),()))
   (Zit (QE s) (d - Zm s)):=by
 show Zke k (Zw0 k) _ = _
 simp only [Zke]
 rw [ZHJ k s (by omega) (by omega)]
 simp only [Z9]
 have hw:=Zdd hd1 hs
 have hsg:=Zik hd1 hs
 have hsl:=K7 s
 have e1:Jx.wrap ((d:Int) - ((Zm s:Nat):Int)) = ((d - Zm s:Nat):Int):=by rw [ZK (by omega)]; omega
 rw [e1]
 generalize hkk:Zm s = kk at hw hsg
 generalize hdd:d - kk = dd at hsg
 have:=Zi (A:=List Int) (R:=SPl × Unit) (step:=fun L1 => KE k (Zl2 k) L1)
  (fun i a => (UD s.length,UD i,s,(kk:Int),(0:Int),(kk:Int),(dd:Int),(0:Int),(0:Int),a,(0:Int),(0:Int),(0:Int),(0:Int),(0:Int))) s
  (fun s' a => KE k (Zl2 k) (fun _ => none) (UD s.length,UD s.length,s,(kk:Int),(0:Int),(kk:Int),(dd:Int),(0:Int),(0:Int),a ++ s'.map (fun x => x.fdiv (2 ^ kk)),(0:Int),(0:Int),(0:Int),(0:Int),(0:Int)))
  (fun i a => a.length = i)
  (fun L a _ => by
   grind [KE])
  (fun L i hi a ha hL => by
   have key:KE k (Zl2 k) L (UD s.length,UD i,s,(kk:Int),(0:Int),(kk:Int),(dd:Int),(0:Int),(0:Int),a,(0:Int),(0:Int),(0:Int),(0:Int),(0:Int)) =
     L (UD s.length,UD (i + 1),s,(kk:Int),(0:Int),(kk:Int),(dd:Int),(0:Int),(0:Int),a ++ [s[i].fdiv (2 ^ kk)],(0:Int),(0:Int),(0:Int),(0:Int),(0:Int)):=by
    simp only [KE]
    rw [Zb (W9 hi),Zb (QV hi),Zb (by omega),Zb (by grind),Zs hi,Yi,Hs (by omega),ZL hi (by omega)]
   grind)
  k 0 [] rfl (by omega) (Ht _)
 rw [U5,VS] at this
 refine U4 this ?_
 have hsh:s.map (fun x => x.fdiv (2 ^ kk)) = QE s:=by unfold QE; rw [hkk]
 rw [hsh]
 generalize QE s = t at hsg hsl
 simp only [KE]
 rw [Zn (XJ _),Zyt k (by omega) (by omega) (by omega)]
 simp only [Z9,Bool.not_not]
 have nar:∀ x ∈ t,ZD x:=fun x hx => Zij (by omega) (hsg x hx)
 have hfirst:ZeO k (((0:Int),(kk:Int),(dd:Int),t,([],0,()),[],(dd:Int),()),t.all (fun x => decide (x = t.headD 0)),(0,0,0,[],[],0,[],(-1:Int),()),()) = some ((),Qo kk dd t (Qh none (Zd3 t dd)),()):=by
  unfold Zd3
  cases t.all (fun x => decide (x = t.headD 0)) with
  | false => rfl
  | true => rfl
 rw [hfirst]
 simp only [Z9]
 have e4:Jx.wrap ((if UD t.length < (4:Int) then UD t.length else (4:Int)) + (1:Int)) = ((0 + (min 4 t.length + 1):Nat):Int):=by
  have:(if UD t.length < (4:Int) then UD t.length else (4:Int)) = ((min 4 t.length:Nat):Int):=by
   grind
  rw [this,ZK (by omega)]
  omega
 rw [e4]
 have nn0:nnC (Qh none (Zd3 t dd)):=Zdb ZGW (ZJz t dd)
 refine (ZTu k hk (by omega) (by omega) (show dd ≤ 25 by omega) kk (min 4 t.length + 1) 0 k _ (by omega) (by omega) nn0).trans ?_
 exact ZTv k hk (by omega) (by omega) nar (by omega) kk _ (ZGJ (by omega) (by omega) _ _ _ nn0)
end Go.Sh
namespace Go.Sh
open Go Go.Proofs
theorem Q8 (w:Nat):∀ c:List Int,(c.flatMap fun n => Wu n w).length = w * c.length
 | [] => rfl
 | a :: c => by rw [Hn,QZ,Yd,Q8 w c,JF,Nat.mul_add,Nat.mul_one]; omega
theorem Zkp (kk:Nat):∀ c:List Int,(c.flatMap (Zd8 kk)).length = XK c kk
 | [] => rfl
 | a :: c => by
  rw [Hn,QZ,Zbu,Zkp kk c]
  unfold XK
  simp only [JF,JR,Zf8,Nat.mul_add,Nat.mul_one]
  omega
theorem ZxD {c:List Int} {m:Int} (hm:m = 0 ∨ m = 1) {y:Prt} (hy:KK c m y):((Xa m (c,y)).length:Int) = 4 + m + y.2.2.1:=by
 have hmn:((m.toNat:Nat):Int) = m:=by rcases hm with rfl | rfl <;> rfl
 unfold Xa Xv
 rcases hy with ⟨kk,hkk,hfar,rfl⟩ | ⟨hw,rfl⟩
 ·grind [QZ,Zc,H2,Yi,Zkp]
 ·simp only
  rw [if_pos trivial,if_pos trivial]
  simp only [QZ,Zc,Yi,Q8]
  omega
theorem Zuo {m:Int} (hm:m = 0 ∨ m = 1):∀ (cs:List (List Int)) (ps:List Prt) (sz:Int),(ZZ m cs ps sz).2.2 = true →
  ((((cs.zip (cs.map fun c => (Qk c m).1)).flatMap (Xa m)).length:Nat):Int) = (ZZ m cs ps sz).2.1 - sz
 | [],ps,sz,_ => by simp [ZZ]
 | c :: cs,ps,sz,h => by
  cases hb:(Qk c m).2 with
  | false => rw [Zg2 _ _ _ hb] at h; cases h
  | true =>
   rw [Zea _ _ _ hb] at h ⊢
   have h1:=ZxD hm (Zab hb)
   have h2:=Zuo hm cs _ _ h
   simp_all <;> omega
theorem RGood.map {l:List Int} {o p:Nat} {R:WE} (h:RGood l o R p):R.2.2.2 = (WF l o p).map fun c => (Qk c R.1).1:=by
 obtain ⟨ys,h1,h2,h3⟩:=ZbB (m:=R.1) (WF l o p) [] 6 (by rw [h.parts])
 rw [h.parts] at h1
 simp_all
theorem RGood.len {l:List Int} {o p:Nat} {R:WE} (h:RGood l o R p):((Zc2 l o R).length:Int) = R.2.2.1:=by
 have h1:=Zuo h.hm (WF l o p) [] 6 (by rw [h.parts])
 rw [h.parts,← h.map] at h1
 unfold Zc2
 rw [h.hp,Yi]
 grind [QZ,Zc]
theorem ZxK {l:List Int} {o:Nat} (hl:∀ x ∈ l,ZD x) (hn:l.length + o ≤ 512):((YC l o).length:Int) = (Ql l o).2.2.1:=by
 obtain ⟨_,q,hg⟩:=XA hl hn (by omega)
 exact hg.len
def ZbM (s:List Int) (d:Nat) (x:Wd):Prop :=
 (x = (0,[],0,[],(d:Int)) ∧ s.all (fun x => decide (x = s.headD 0)) = true) ∨ x = (1,[],0,[],(s.length:Int) * (d:Int)) ∨
 (∃ o,o ≤ 4 ∧ o ≤ s.length ∧ ZJA s d o = some x) ∨ (∃ o,(o = 2 ∨ o = 4 ∨ o = 8) ∧ o < s.length ∧ Zev s d (31 + (o:Int)) (XW s o) 4 (9 + 12 * (o:Int)) = some x)
def K9 (s:List Int) (d:Nat) (b:Option Wd):Prop := ∀ x,b = some x → ZbM s d x
theorem ZAR {b x:Option Wd} {y:Wd} (h:Qh b x = some y):b = some y ∨ x = some y:=by
 unfold Qh at h
 grind
theorem XV {s:List Int} {d:Nat} {b x:Option Wd} (hb:K9 s d b) (hx:K9 s d x):K9 s d (Qh b x):=fun y hy => by
 rcases ZAR hy with h | h
 ·exact hb y h
 ·exact hx y h
theorem ZQM {b x:Option Wd}:(∀ y,b = some y → ∃ z,Qh b x = some z ∧ z.2.2.2.2 ≤ y.2.2.2.2) ∧ (∀ y,x = some y → ∃ z,Qh b x = some z ∧ z.2.2.2.2 ≤ y.2.2.2.2):=by
 unfold Qh
 grind
theorem Zxj {s:List Int} {d:Nat}:∀ (e o:Nat) (b:Option Wd),o + e ≤ min 4 s.length + 1 → K9 s d b → K9 s d (Zh2 s d e o b)
 | 0,_,b,_,h => h
 | e + 1,o,b,he,h => Zxj e (o + 1) _ (by omega) (XV h fun x hx => .inr (.inr (.inl ⟨o,by omega,by omega,hx⟩)))
theorem Zg1 {s:List Int} {d o:Nat} (ho:o = 2 ∨ o = 4 ∨ o = 8):K9 s d (YF s d o):=by
 intro x hx
 unfold YF at hx
 split at hx
 ·exact .inr (.inr (.inr ⟨o,ho,by omega,hx⟩))
 ·cases hx
theorem ZBp (s:List Int) (d:Nat):∃ x,Zit s d = some x ∧ ZbM s d x ∧ x.2.2.2.2 ≤ (s.length:Int) * (d:Int):=by
 obtain ⟨z,h1,h2⟩:=(ZQM (b:=Qh (Qh (Qh (Zh2 s d (min 4 s.length + 1) 0 (Qh none (Zd3 s d))) (YF s d 2)) (YF s d 4)) (YF s d 8)) (x:=ZHh s d)).2 _ rfl
 refine ⟨z,h1,?_,h2⟩
 refine XV (XV (XV (XV (Zxj _ _ _ (by omega) (XV (fun x hx => by cases hx) ?_)) (Zg1 (.inl rfl))) (Zg1 (.inr (.inl rfl)))) (Zg1 (.inr (.inr rfl)))) ?_ z h1
 ·intro x hx
  unfold Zd3 at hx
  split at hx
  ·rename_i h
   exact .inl ⟨(VE.inj hx).symm,h⟩
  ·cases hx
 ·intro x hx
  exact .inr (.inl (VE.inj hx).symm)
def QQ (s:List Int) (d:Nat) (x:Wd):List Bool :=
 if x.1 = 0 then (s.take 1).flatMap (fun n => Wu n d) else if x.1 = 1 then s.flatMap (fun n => Wu n d)
 else (s.take x.2.1.length).flatMap (fun n => Wu n d) ++ ((if 31 < x.1 then Za 11 4 ++ (Za x.2.2.1.toNat 5 ++ x.2.1.flatMap (fun n => Wu n 12)) else []) ++ YC x.2.2.2.1 x.2.1.length)
def Xu (kind:Int) (kk:Nat):List Bool:=Za kind.toNat 7 ++ (if 0 < kk then [true] ++ (Jd (kk - 1) false ++ [true]) else [false])
def QK (s:List Int) (d:Nat):List Bool:=match Zit (QE s) (d - Zm s) with
 | none => []
 | some x => Xu x.1 (Zm s) ++ QQ (QE s) (d - Zm s) x
theorem Yw (kind:Int) (kk:Nat):(Xu kind kk).length = 8 + kk:=by
 unfold Xu
 rw [QZ,Zc]
 split
 ·simp; omega
 ·simp; omega
theorem Wl {s:List Int} {d:Nat} {kind:Int} {c:List Int} {sh head:Int} {x:Wd} (h1:1 ≤ s.length) (h2:s.length ≤ 512) (h:Zev s d kind c sh head = some x) :
  x.1 = kind ∧ x.2.1 = c ∧ x.2.2.1 = sh ∧ x.2.2.2.1 = ZaZ c sh s ∧ x.2.2.2.2 = head + (c.length:Int) * (d:Int) + ((YC (ZaZ c sh s) c.length).length:Int) ∧ W1 (ZaZ c sh s) (c.length:Nat) = 0 ∧ c.length ≤ s.length ∧ c.length ≤ 8 ∧ ZaR c sh = true ∧
   (Qx c sh s).2 = 0:=by
 unfold Zev at h
 split at h
 ·rename_i hz
  obtain rfl:=(VE.inj h).symm
  obtain ⟨hl,h8,hr⟩:=ZbY hz h1 h2
  obtain ⟨e1,e2,e3⟩:=Zf3 hz
  have:=ZxK (WB c sh s) (o:=c.length) (by omega)
  simp_all
 ·cases h
theorem Xg (s:List Int) (d j:Nat) (h:j ≤ s.length):((s.take j).flatMap (fun n => Wu n d)).length = d * j:=by
 rw [Q8,Jz,Hs h]
theorem KU {s:List Int} {d:Nat} {x:Wd} (h1:1 ≤ s.length) (h2:s.length ≤ 512) (h:ZbM s d x):((QQ s d x).length:Int) = x.2.2.2.2:=by
 unfold QQ
 rcases h with ⟨rfl,_⟩ | rfl | ⟨o,ho,hos,hx⟩ | ⟨o,ho,hos,hx⟩
 ·simp only
  rw [if_pos trivial,Xg _ _ _ h1]
  omega
 ·simp only
  rw [if_neg (by omega),if_pos trivial,Q8]
  push_cast
  rw [Int.mul_comm]
 ·obtain ⟨e1,e2,e3,e4,e5,e6,e7,e8,e9,_⟩:=Wl h1 h2 hx
  rw [e1,e2,e3,e4,e5,if_neg (by omega),if_neg (by omega),if_neg (by omega)]
  simp only [QZ,H2,Xg _ _ _ e7]
  grind
 ·obtain ⟨e1,e2,e3,e4,e5,e6,e7,e8,e9,_⟩:=Wl h1 h2 hx
  have hsl:=(ZrT s o ho).1
  rw [e1,e2,e3,e4,e5,if_neg (by omega),if_neg (by omega),if_pos (by omega)]
  simp only [QZ,Xg _ _ _ e7,Zc,Q8]
  grind
theorem Zeh (s:List Int) (d:Nat) (h1:1 ≤ s.length) (h2:s.length ≤ 512):∃ x,Zit (QE s) (d - Zm s) = some x ∧ ZbM (QE s) (d - Zm s) x ∧ QK s d = Xu x.1 (Zm s) ++ QQ (QE s) (d - Zm s) x ∧
  ((QK s d).length:Int) = 8 + (Zm s:Int) + x.2.2.2.2 ∧ x.2.2.2.2 ≤ (s.length:Int) * ((d - Zm s:Nat):Int):=by
 obtain ⟨x,h3,h4,h5⟩:=ZBp (QE s) (d - Zm s)
 have hb:=KU (by rw [K7]; exact h1) (by rw [K7]; exact h2) h4
 rw [K7] at h5
 have e:QK s d = Xu x.1 (Zm s) ++ QQ (QE s) (d - Zm s) x:=by unfold QK; rw [h3]
 refine ⟨x,h3,h4,e,?_,h5⟩
 rw [e,QZ,Yw]
 omega
theorem ZAP {s:List Int} {d:Nat} (h1:1 ≤ s.length) (h2:s.length ≤ 512) (hw:Zm s < d):(QK s d).length ≤ 8 + s.length * d:=by
 obtain ⟨x,_,_,_,h4,h5⟩:=Zeh s d h1 h2
 have e:(s.length:Int) * ((d - Zm s:Nat):Int) = ((s.length * d - s.length * Zm s:Nat):Int):=by
  rw [← Nat.mul_sub]; push_cast; rfl
 have h6:Zm s ≤ s.length * Zm s:=Ep _ h1
 grind
end Go.Sh
namespace Go.Sh
open Go Go.Proofs
theorem Zfw (k:Nat) {l:List Int} {w:Nat} (hk:10000 < k) (hl:l.length ≤ 8192) (hw:w ≤ 32) (hs:∀ x ∈ l,Xe x w = true) (bs:List Bool) (hb:bs.length ≤ 2147483648) :
  Zbq k (Ke bs,l,(w:Int),()) = some ((),Ke (bs ++ l.flatMap (fun n => Wu n w)),()):=by
 show Zkg k (Zw5 k) _ = _
 simp only [Zkg]
 have:=Zi (A:=List Bool) (R:=Unit × (List Int × Int × Unit) × Unit) (step:=fun L1 => Zfv k L1)
  (fun i a => (UD l.length,UD i,l,(w:Int),(a.length:Int),ZE a)) l
  (fun l' a => some ((),Ke (a ++ l'.flatMap (fun n => Wu n w)),()))
  (fun i a => a.length ≤ 2147483648 + i * 32)
  (fun L a _ => by
   grind [Zfv])
  (fun L i hi a ha hL => by
   simp only [Zfv]
   rw [Zb (W9 hi),Zb (QV hi),Zs hi]
   rw [show ((ZE a,((a.length:Nat):Int),()):List Int × Int × Unit) = Ke a from rfl,ZsS k a _ w (by omega) hw (hs _ (Ha hi)) (by omega)]
   simp only [Z9]
   rw [ZL hi (by omega),hL (a ++ Wu l[i] w) (by rw [QZ,Yd]; omega),Hn,Ju])
  k 0 bs (by omega) (by omega) (Ht _)
 rw [U5] at this
 exact this
noncomputable def Zj0 (k:Nat) (p:SPl) (w:List Int × Int × Unit):Option (Int × (List Int × Int × Unit) × Unit) :=
 bif p.1 == (0:Int) then bif decide ((0:Int) ≤ (0:Int) ∧ (0:Int) ≤ (1:Int) ∧ (1:Int) ≤ UD (UK p.2.2.2.1)) then (Zbq k (w,UN (0:Nat) (UO (1:Nat) p.2.2.2.1),p.2.2.1,())).bind fun y => some (0,(y.2.1.1,y.2.1.2.1,()),()) else none
 else bif p.1 == (1:Int) then (Zbq k (w,p.2.2.2.1,p.2.2.1,())).bind fun y => some (0,(y.2.1.1,y.2.1.2.1,()),())
 else bif decide ((0:Int) ≤ (0:Int) ∧ (0:Int) ≤ UD (UK p.2.2.2.2.1.1) ∧ UD (UK p.2.2.2.2.1.1) ≤ UD (UK p.2.2.2.1)) then
  (Zbq k (w,UN (0:Nat) (UO (UD (UK p.2.2.2.2.1.1)).toNat p.2.2.2.1),p.2.2.1,())).bind fun y_4 =>
   bif decide ((31:Int) < p.1) then (ZP k ((y_4.2.1.1,y_4.2.1.2.1,()),11,4,())).bind fun y_5 => (ZP k ((y_5.2.1.1,y_5.2.1.2.1,()),p.2.2.2.2.1.2.1,5,())).bind fun y_6 => (Zbq k ((y_6.2.1.1,y_6.2.1.2.1,()),p.2.2.2.2.1.1,12,())).bind fun y_7 => (ZmW k ((y_7.2.1.1,y_7.2.1.2.1,()),p.2.2.2.2.2.1,UD (UK p.2.2.2.2.1.1),())).bind fun y => some (y.1,(y.2.1.1,y.2.1.2.1,()),())
   else (ZmW k ((y_4.2.1.1,y_4.2.1.2.1,()),p.2.2.2.2.2.1,UD (UK p.2.2.2.2.1.1),())).bind fun y => some (y.1,(y.2.1.1,y.2.1.2.1,()),())
 else none
theorem ZJs (k:Nat) (w:List Int × Int × Unit) (s:List Int) (d:Int):ZFV k (w,s,d,()) =
  (ZGh k (s,d,())).bind fun y => bif y.1 != (0:Int) then some (y.1,w,()) else (ZGj k (s,d,())).bind fun y => (ZP k (w,y.1.1,7,())).bind fun y_1 =>
   bif decide ((0:Int) < y.1.2.1) then (ZP k ((y_1.2.1.1,y_1.2.1.2.1,()),1,1,())).bind fun y_2 => (Zt5 k ((y_2.2.1.1,y_2.2.1.2.1,()),Jx.wrap (y.1.2.1 - (1:Int)),())).bind fun y_3 => Zj0 k y.1 (y_3.2.1.1,y_3.2.1.2.1,())
   else (ZP k ((y_1.2.1.1,y_1.2.1.2.1,()),0,1,())).bind fun y_2 => Zj0 k y.1 (y_2.2.1.1,y_2.2.1.2.1,()):=rfl
theorem Zhe (k:Nat) (hk:70000 < k) {s:List Int} (h1:1 ≤ s.length) (h2:s.length ≤ 512) {d:Nat} (hd1:1 ≤ d) (hd:d ≤ 25) (hs:∀ x ∈ s,Xe x d = true) {x:Wd} (hx:ZbM s d x) (kk:Int) (bs:List Bool) (hb:bs.length ≤ 1000000000) :
  Zj0 k (ZXq kk d s x) (Ke bs) = some (0,Ke (bs ++ QQ s d x),()):=by
 unfold Zj0 QQ
 rcases hx with ⟨rfl,_⟩ | rfl | ⟨o,ho,hos,hx⟩ | ⟨o,ho,hos,hx⟩
 ·simp only
  rw [ZC,Zb rfl,Zb (by simp only [QT]; omega),if_pos trivial,U5]
  rw [Zfw k (by omega) (by rw [Jz]; omega) (by omega) (fun y hy => hs y (JT hy)) bs (by omega)]
  rfl
 ·simp only
  rw [ZC,Zn (by omega),ZC,Zb rfl,if_neg (by omega),if_pos trivial]
  rw [Zfw k (by omega) (by omega) (by omega) hs bs (by omega)]
  rfl
 ·obtain ⟨e1,e2,e3,e4,e5,e6,e7,e8,e9,_⟩:=Wl h1 h2 hx
  obtain ⟨kind,c,sh,r,sz⟩:=x
  simp only at e1 e2 e3 e4 e5
  subst e1; subst e2; subst e3; subst e4
  simp only
  rw [ZC,Zn (by omega),ZC,Zn (by omega),Zb (by simp only [QT]; omega),if_neg (by omega),if_neg (by omega),if_neg (by omega),U5]
  rw [show (UD (YX o).length).toNat = (YX o).length from rfl]
  rw [Zfw k (by omega) (by rw [Jz]; omega) (by omega) (fun y hy => hs y (JT hy)) bs (by omega)]
  simp only [Z9]
  rw [Zn (by omega),show UD (YX o).length = ((YX o).length:Nat) from rfl]
  have hlen:=Xg s d (YX o).length e7
  have hmul:d * (YX o).length ≤ 25 * 8:=J3 hd e8
  refine (Zl (ZAi k (by omega) e6 (bs ++ (s.take (YX o).length).flatMap (fun n => Wu n d)) (by rw [QZ]; omega)) _).trans ?_
  simp_all
 ·obtain ⟨e1,e2,e3,e4,e5,e6,e7,e8,e9,_⟩:=Wl h1 h2 hx
  obtain ⟨hsl,hsr⟩:=ZrT s o ho
  obtain ⟨kind,c,sh,r,sz⟩:=x
  simp only at e1 e2 e3 e4 e5
  subst e1; subst e2; subst e3; subst e4
  simp only
  rw [ZC,Zn (by omega),ZC,Zn (by omega),Zb (by simp only [QT]; omega),if_neg (by omega),if_neg (by omega),if_pos (by omega),U5]
  generalize XW s o = c at hsl hsr e6 e7 e8 e9
  rw [show (UD c.length).toNat = c.length from rfl]
  rw [Zfw k (by omega) (by rw [Jz]; omega) (by omega) (fun y hy => hs y (JT hy)) bs (by omega)]
  simp only [Z9]
  rw [Zb (by omega),show UD c.length = (c.length:Nat) from rfl]
  have hlen:=Xg s d c.length e7
  have hmul:d * c.length ≤ 25 * 8:=J3 hd e8
  generalize hW:(s.take c.length).flatMap (fun n => Wu n d) = W at hlen
  have l1:(bs ++ W).length = bs.length + d * c.length:=by rw [QZ,hlen]
  refine (Zl (QD k (bs ++ W) 11 4 (by omega) (by omega) (by omega) (by omega)) _).trans ?_
  have l2:(bs ++ W ++ Za 11 4).length = bs.length + d * c.length + 4:=by rw [QZ,l1,Zc]
  refine (Zl (QD k (bs ++ W ++ Za 11 4) 4 5 (by omega) (by omega) (by omega) (by omega)) _).trans ?_
  have l3:(bs ++ W ++ Za 11 4 ++ Za 4 5).length = bs.length + d * c.length + 9:=by rw [QZ,l2,Zc]
  refine (Zl (Zfw k (l:=c) (w:=12) (by omega) (by omega) (by omega) (fun y hy => by
   have:=hsr y hy
   unfold Xe
   grind) (bs ++ W ++ Za 11 4 ++ Za 4 5) (by omega)) _).trans ?_
  have l4:(bs ++ W ++ Za 11 4 ++ Za 4 5 ++ c.flatMap (fun n => Wu n 12)).length = bs.length + d * c.length + 9 + 12 * c.length:=by rw [QZ,l3,Q8]
  refine (Zl (ZAi k (by omega) e6 (bs ++ W ++ Za 11 4 ++ Za 4 5 ++ c.flatMap (fun n => Wu n 12)) (by omega)) _).trans ?_
  simp_all
theorem ZbM.kind {s:List Int} {d:Nat} {x:Wd} (h1:1 ≤ s.length) (h2:s.length ≤ 512) (h:ZbM s d x):∃ n:Nat,x.1 = (n:Int) ∧ n < 2 ^ 7:=by
 rcases h with ⟨rfl,_⟩ | rfl | ⟨o,ho,hos,hx⟩ | ⟨o,ho,hos,hx⟩
 ·exact ⟨0,rfl,by omega⟩
 ·exact ⟨1,rfl,by omega⟩
 ·exact ⟨8 + o,by rw [(Wl h1 h2 hx).1]; omega,by omega⟩
 ·exact ⟨31 + o,by rw [(Wl h1 h2 hx).1]; omega,by omega⟩
theorem ZbH {s:List Int} {d:Nat}:Zee s (d:Int) = 0 ↔ (1 ≤ s.length ∧ s.length ≤ 512 ∧ 4 ≤ d ∧ d ≤ 25) ∧ ∀ x ∈ s,Xe x d = true:=by
 unfold Zee
 grind
theorem ZNV (k:Nat) (hk:70000 < k) {s:List Int} {d:Nat} (h:Zee s (d:Int) = 0) (bs:List Bool) (hb:bs.length ≤ 900000000) :
  ZFV k (Ke bs,s,(d:Int),()) = some (0,Ke (bs ++ QK s d),()):=by
 obtain ⟨⟨h1,h2,h3,h4⟩,hs⟩:=ZbH.1 h
 rw [ZJs,ZO5 k s d (by omega),h]
 simp only [Z9]
 rw [show ((0:Int) != 0) = false from rfl]
 simp only [cond_false]
 rw [ZPc k (by omega) h1 h2 (by omega) h4 hs]
 obtain ⟨x,hx,hok,hsub,hlen,_⟩:=Zeh s d h1 h2
 rw [hx,hsub]
 have hw:=Zdd (by omega) hs
 have hsg:=Zik (by omega) hs
 have hsl:=K7 s
 generalize Zm s = kk at hw hsg hok ⊢
 generalize QE s = t at hsg hsl hok ⊢
 generalize hdd:d - kk = dd at hsg hok ⊢
 obtain ⟨kn,hk1,hk2⟩:=hok.kind (by omega) (by omega)
 show (ZP k (Ke bs,x.1,7,())).bind _ = _
 unfold Xu
 rw [hk1,Yi]
 refine (Zl (QD k bs kn 7 (by omega) (by omega) hk2 (by omega)) _).trans ?_
 have l1:(bs ++ Za kn 7).length = bs.length + 7:=by rw [QZ,Zc]
 show (bif decide ((0:Int) < (kk:Int)) then _ else _) = _
 by_cases h0:0 < kk
 ·rw [Zb (by omega),if_pos h0]
  refine (Zl (QD k (bs ++ Za kn 7) 1 1 (by omega) (by omega) (by omega) (by omega)) _).trans ?_
  have l2:(bs ++ Za kn 7 ++ Za 1 1).length = bs.length + 8:=by rw [QZ,l1,Zc]
  show (Zt5 k (Ke (bs ++ Za kn 7 ++ Za 1 1),Jx.wrap ((kk:Int) - 1),())).bind _ = _
  have e1:Jx.wrap ((kk:Int) - 1) = ((kk - 1:Nat):Int):=by rw [ZK (by omega)]; omega
  rw [e1]
  refine (Zl (ZAg k (bs ++ Za kn 7 ++ Za 1 1) (kk - 1) (by omega) (by omega) (by omega)) _).trans ?_
  have l3:(bs ++ Za kn 7 ++ Za 1 1 ++ (Jd (kk - 1) false ++ [true])).length = bs.length + 8 + kk:=by
   grind
  have:=Zhe k hk (by omega) (by omega) (d:=dd) (by omega) (by omega) hsg hok (kk:Int) (bs ++ Za kn 7 ++ Za 1 1 ++ (Jd (kk - 1) false ++ [true])) (by omega)
  refine U4 this ?_
  rw [show Za 1 1 = [true] from rfl]
  simp only [Ju]
 ·rw [Zn (by omega),if_neg h0]
  refine (Zl (QD k (bs ++ Za kn 7) 0 1 (by omega) (by omega) (by omega) (by omega)) _).trans ?_
  have l2:(bs ++ Za kn 7 ++ Za 0 1).length = bs.length + 8:=by rw [QZ,l1,Zc]
  have:=Zhe k hk (by omega) (by omega) (d:=dd) (by omega) (by omega) hsg hok (kk:Int) (bs ++ Za kn 7 ++ Za 0 1) (by omega)
  refine U4 this ?_
  rw [show Za 0 1 = [false] from rfl]
  simp only [Ju]
end Go.Sh
namespace Go.Sh
open Go Go.Proofs
def QW (n:Nat):Nat:=if 256 < n then 7 else 6
def WK (mode num n:Nat):List Bool :=
 Za 16382 14 ++ (Za (QW n) 6 ++ (Za mode 8 ++ (Za 0 4 ++ ((Qg num).flatMap (fun x => Za x 8) ++ Za (n - 1) (8 * (QW n - 5))))))
def YZ (mode num n:Nat):List Bool:=WK mode num n ++ Za (ZHx (ZE (WK mode num n))) 8
def WL (ls:List (List Int)) (ds:List Int):List Bool:=(ls.zip ds).flatMap fun x => QK x.1 x.2.toNat
def WA (bs:List Bool):List Bool:=bs ++ Jd (ZbV bs.length) false
def Xh (bs:List Bool):List Bool:=WA bs ++ Za (Zba (ZE (WA bs))) 16
def Za5 (c d r n:Int) (ch:List (List Int)):List Int × Int :=
 if Yo c d r n ch = 0 then (ZE (Xh (YZ (W8 ch).2.toNat n.toNat (ch.headD []).length ++ WL (W8 ch).1 (Qr c d (W8 ch).2))),0) else ([],Yo c d r n ch)
theorem Zac {c d r n:Int} {ch:List (List Int)} (h:Yo c d r n ch = 0):(1 ≤ c ∧ c ≤ 2 ∧ 4 ≤ d ∧ d ≤ 24 ∧ 1 ≤ r ∧ r ≤ 655350) ∧ (0 ≤ n ∧ n ≤ 2147483647) ∧ (ch.length:Int) = c ∧
  (∀ l ∈ ch,l.length = (ch.headD []).length ∧ 1 ≤ l.length ∧ l.length ≤ 512) ∧ (∀ l ∈ ch,∀ x ∈ l,Xe x d.toNat = true):=by
 unfold Yo at h
 split at h
 ·omega
 ·rename_i h1
  split at h
  ·omega
  ·rename_i h2
   split at h
   ·omega
   ·rename_i h3
    split at h
    ·omega
    ·rename_i h4
     refine ⟨of_decide_eq_true (by simpa [ZbZ] using h1),by omega,by omega,?_,?_⟩
     ·intro l hl
      have h3:ch.all (KO (ch.headD []).length) = true:=by simpa using h3
      have:=of_decide_eq_true (Ve.1 h3 l hl)
      exact ⟨this.1,by omega,by omega⟩
     grind
theorem Ye {x:Int} {d:Nat} (hd:d ≤ 24) (h:Xe x d = true):ZT x:=by
 unfold Xe at h
 unfold ZT
 split at h
 ·simp_all
 ·rw [decide_eq_true_eq,QS] at h
  have:2 ^ (d - 1) ≤ 2 ^ 23:=He (by omega) (by omega)
  omega
theorem ZkJ {l r:Int} {d:Nat} (h1:1 ≤ d) (hl:Xe l d = true) (hr:Xe r d = true):Xe (l - r) (d + 1) = true ∧ Xe ((l + r) / 2) d = true:=by
 unfold Xe at hl hr ⊢
 rw [if_neg (by omega),decide_eq_true_eq] at hl hr
 rw [if_neg (by omega),decide_eq_true_eq,if_neg (by omega),decide_eq_true_eq]
 have e:(2:Int) ^ (d + 1 - 1) = 2 * 2 ^ (d - 1):=by
  rw [show d + 1 - 1 = (d - 1) + 1 by omega,Int.pow_succ,Int.mul_comm]
 omega
structure LayOk (n d:Nat) (ls:List (List Int)) (ds:List Int):Prop where
 len:ls.length = ds.length
 two:ls.length = 1 ∨ ls.length = 2
 all:∀ (i:Nat) (h1:i < ls.length) (h2:i < ds.length),ls[i].length = n ∧ (ds[i] = (d:Int) ∨ ds[i] = (d:Int) + 1) ∧ ∀ x ∈ ls[i],Xe x ds[i].toNat = true
theorem Zxq {c d r n:Int} {ch:List (List Int)} (h:Yo c d r n ch = 0):LayOk (ch.headD []).length d.toNat (W8 ch).1 (Qr c d (W8 ch).2) ∧ (∃ m:Nat,(W8 ch).2 = (m:Int) ∧ (m = 0 ∧ c = 1 ∨ c = 2 ∧ (m = 1 ∨ m = 8 ∨ m = 9 ∨ m = 10))) ∧ ((W8 ch).1.headD []).length = (ch.headD []).length:=by
 obtain ⟨hs,hn,hc,hlen,hsg⟩:=Zac h
 obtain ⟨dn,rfl⟩:=Vp (show 0 ≤ d by omega)
 simp only [Yi] at hsg ⊢
 match ch,hc,hlen,hsg with
 | [],hc,_,_ => simp at hc; omega
 | [l],hc,hlen,hsg =>
  have hc:c = 1:=by simp at hc; omega
  subst hc
  refine ⟨⟨rfl,.inl rfl,?_⟩,⟨0,rfl,.inl ⟨rfl,rfl⟩⟩,rfl⟩
  intro i h1 h2
  obtain rfl:i = 0:=by simp [W8] at h1; omega
  exact ⟨rfl,.inl rfl,hsg l (by simp)⟩
 | [l,r'],hc,hlen,hsg =>
  have hc:c = 2:=by simp at hc; omega
  subst hc
  have hr:=(hlen r' (by simp)).1
  simp only [EB] at hr
  have hsl:=hsg l (by simp)
  have hsr:=hsg r' (by simp)
  have hmd:=Zhz l r'
  show LayOk _ _ [Yj (ZQ l r') l r',Yk (ZQ l r') l r'] (Qr 2 dn (if ZQ l r' = 0 then 1 else ZQ l r')) ∧ _ ∧ _
  refine ⟨?_,?_,(Zb1 hr.symm).1⟩
  ·have e:Qr 2 (dn:Int) (if ZQ l r' = 0 then 1 else ZQ l r') = Qr 2 dn (ZQ l r'):=by
    rcases hmd with h | h | h | h <;> rw [h] <;> rfl
   rw [e]
   obtain ⟨la,lb⟩:=Zb1 (m:=ZQ l r') hr.symm
   have hz:∀ x ∈ l.zip r',Xe x.1 dn = true ∧ Xe x.2 dn = true:=fun x hx => ⟨hsl _ (Vy hx).1,hsr _ (Vy hx).2⟩
   generalize ZQ l r' = m at hmd la lb ⊢
   have hA:∀ y ∈ Yj m l r',∃ a b,y = apA m a b ∧ Xe a dn = true ∧ Xe b dn = true:=by
    intro y hy
    obtain ⟨x,hx,rfl⟩:=VF.1 hy
    grind
   have hB:∀ y ∈ Yk m l r',∃ a b,y = apB m a b ∧ Xe a dn = true ∧ Xe b dn = true:=by
    intro y hy
    obtain ⟨x,hx,rfl⟩:=VF.1 hy
    grind
   have hdn:1 ≤ dn:=by omega
   have eN:((dn:Int) + 1).toNat = dn + 1:=by omega
   rcases hmd with rfl | rfl | rfl | rfl
   ·refine ⟨rfl,.inr rfl,fun i h1 h2 => ?_⟩
    obtain rfl | rfl:i = 0 ∨ i = 1:=by simp at h1; omega
    ·simp_all [apA,Qr]
    simp_all [hr,apB,Qr]
   ·refine ⟨rfl,.inr rfl,fun i h1 h2 => ?_⟩
    obtain rfl | rfl:i = 0 ∨ i = 1:=by simp at h1; omega
    ·simp_all [apA,Qr]
    ·exact ⟨by simpa [hr] using lb,.inr rfl,fun y hy => by obtain ⟨a,b,rfl,ha,hb⟩:=hB y hy; simpa [apB,Qr,eN] using (ZkJ hdn ha hb).1⟩
   ·refine ⟨rfl,.inr rfl,fun i h1 h2 => ?_⟩
    obtain rfl | rfl:i = 0 ∨ i = 1:=by simp at h1; omega
    ·exact ⟨la,.inr rfl,fun y hy => by obtain ⟨a,b,rfl,ha,hb⟩:=hA y hy; simpa [apA,Qr,eN] using (ZkJ hdn ha hb).1⟩
    simp_all [hr,apB,Qr]
   ·refine ⟨rfl,.inr rfl,fun i h1 h2 => ?_⟩
    obtain rfl | rfl:i = 0 ∨ i = 1:=by simp at h1; omega
    ·exact ⟨la,.inl rfl,fun y hy => by obtain ⟨a,b,rfl,ha,hb⟩:=hA y hy; simpa [apA,Qr] using (ZkJ hdn ha hb).2⟩
    ·exact ⟨by simpa [hr] using lb,.inr rfl,fun y hy => by obtain ⟨a,b,rfl,ha,hb⟩:=hB y hy; simpa [apB,Qr,eN] using (ZkJ hdn ha hb).1⟩
  ·rcases hmd with h | h | h | h
   ·exact ⟨1,by simp [W8,h],.inr ⟨rfl,by omega⟩⟩
   ·exact ⟨8,by simp [W8,h],.inr ⟨rfl,by omega⟩⟩
   ·exact ⟨9,by simp [W8,h],.inr ⟨rfl,by omega⟩⟩
   ·exact ⟨10,by simp [W8,h],.inr ⟨rfl,by omega⟩⟩
 | _ :: _ :: _ :: _,hc,_,_ => simp at hc; omega
theorem ZsH:∀ (i n:Nat),(Ko n i).length = i
 | 0,_ => rfl
 | i + 1,n => by simp [Ko,ZsH i]
theorem Zyg:∀ (i n:Nat),∀ x ∈ Ko n i,x < 256
 | 0,_,x,h => by simp [Ko] at h
 | i + 1,n,x,h => by
  rcases Js.1 h with h | h
  ·exact Zyg i _ x h
  ·simp at h; omega
theorem Zxr (n:Nat):1 ≤ Xi n ∧ Xi n ≤ 7:=by
 unfold Xi
 repeat' split
 all_goals omega
theorem ZJy {k m:Nat} (hm:m < 64):Zh0 k m < 256:=by
 unfold Zh0
 exact Er (n:=8) (UY _ (by omega)) (by omega)
theorem Zgi (n:Nat):1 ≤ (Qg n).length ∧ (Qg n).length ≤ 7:=by
 unfold Qg
 have:=Zxr n
 grind [JF,ZsH]
theorem Zuh {n:Nat} (h:n < 2 ^ 36) (h2:128 ≤ n):2 ≤ Xi n ∧ n < 2 ^ Wh (Xi n):=by
 obtain ⟨r2,r3,r4,r5,r6,r7⟩:=ZrR
 unfold Xi
 grind
theorem Zpp {n:Nat} (h:n < 2 ^ 36):∀ x ∈ Qg n,x < 256:=by
 intro x hx
 unfold Qg at hx
 split at hx
 ·simp at hx; omega
 ·rcases VL.1 hx with rfl | hx
  ·obtain ⟨h1,h2⟩:=Zuh h (by omega)
   exact ZJy (Zh4 h1 (Zxr n).2 h2)
  ·exact Zyg _ _ x hx
theorem ZgZ:∀ l:List Nat,(l.flatMap fun x => Za x 8).length = 8 * l.length
 | [] => rfl
 | a :: l => by rw [Hn,QZ,Zc,ZgZ l,JF]; omega
theorem ZbC (mode num n:Nat):(WK mode num n).length = 32 + 8 * (Qg num).length + 8 * (QW n - 5):=by
 unfold WK
 simp only [QZ,Zc,ZgZ]
 omega
theorem ZfS (n:Nat):QW n = 6 ∨ QW n = 7:=by unfold QW; split <;> omega
theorem ZJI {l:List Nat} {i:Nat} (h:i < (Q3 l).length):(Q3 l)[i] = ((l[i]'(by simpa [Q3] using h):Nat):Int):=by simp [Q3]
theorem ZcY (l:List Nat):(Q3 l).length = l.length:=by simp [Q3]
end Go.Sh
namespace Go.Sh
open Go Go.Proofs
theorem Zdm {n d:Nat} {ls:List (List Int)} {ds:List Int} (h:LayOk n d ls ds) (hn:1 ≤ n) (hn2:n ≤ 512) (hd1:4 ≤ d) (hd2:d ≤ 24):(WL ls ds).length ≤ 30000:=by
 have one:∀ (i:Nat) (h1:i < ls.length) (h2:i < ds.length),(QK ls[i] ds[i].toNat).length ≤ 13000:=by
  intro i h1 h2
  obtain ⟨a,b,c⟩:=h.all i h1 h2
  have hw:=Zdd (d:=ds[i].toNat) (by omega) c
  have:=ZAP (s:=ls[i]) (by omega) (by omega) hw
  have hm:ls[i].length * ds[i].toNat ≤ 512 * 25:=J3 (by omega) (by omega)
  omega
 unfold WL
 have hl:=h.len
 rcases h.two with h2 | h2
 ·match ls,ds,h2,hl,one with
  | [a],[x],_,_,one =>
   have:=one 0 (by simp) (by simp)
   simp at this ⊢
   omega
 ·match ls,ds,h2,hl,one with
  | [a,b],[x,y],_,_,one =>
   have h1:=one 0 (by simp) (by simp)
   have h2:=one 1 (by simp) (by simp)
   simp at h1 h2 ⊢
   omega
theorem Zy0 (k:Nat) (hk:100000 < k) {n d:Nat} {ls:List (List Int)} {ds:List Int} (h:LayOk n d ls ds) (hn:1 ≤ n) (hn2:n ≤ 512) (hd1:4 ≤ d) (hd2:d ≤ 24) (bs:List Bool) (hb:bs.length ≤ 200) :
  ZhH k (UD ds.length,(0:Int),ds,ls,(bs.length:Int),ZE bs) = some ((ZE (Xh (bs ++ WL ls ds)),0,()),()):=by
 have hdl:ds.length ≤ 2:=by have:=h.len; have:=h.two; omega
 have hall:(bs ++ WL ls ds).length ≤ 30200:=by have:=Zdm h hn hn2 hd1 hd2; rw [QZ]; omega
 have hpart:∀ i,(bs ++ ((ls.zip ds).take i).flatMap (fun x => QK x.1 x.2.toNat)).length ≤ 30200:=by
  intro i
  refine VH ?_ hall
  unfold WL
  conv => rhs; rw [← EG i (ls.zip ds),Em]
  simp_all
 have hzl:(ls.zip ds).length = ds.length:=by rw [En]; have:=h.len; omega
 have hend:∀ L,Zcj k L (UD ds.length,UD ds.length,ds,ls,(((bs ++ WL ls ds).length:Nat):Int),ZE (bs ++ WL ls ds)) = some ((ZE (Xh (bs ++ WL ls ds)),0,()),()):=by
  intro L
  generalize bs ++ WL ls ds = B at hall
  simp only [Zcj]
  rw [Zn (XJ _)]
  have hp:ZbV B.length < 8:=by unfold ZbV; omega
  have hpl:(WA B).length ≤ 30210:=by unfold WA; grind
  refine (Zl (ZNX k B (by omega)) _).trans ?_
  refine (Zl (ZjZ k (WA B) (by omega)) _).trans ?_
  have hb16:=Y6 (WA B)
  have hpk:(ZE (WA B)).length ≤ 4000:=by rw [Z5]; omega
  refine (Zl (ZNY k (ZE (WA B)) hb16 (by omega) (by omega)) _).trans ?_
  refine (Zl (QD k (WA B) (Zba (ZE (WA B))) 16 (by omega) (by omega) (Zpq hb16) (by omega)) _).trans ?_
  have hcl:(Xh B).length ≤ 30300:=by unfold Xh; rw [QZ,Zc]; omega
  refine (Zl (ZjZ k (Xh B) (by omega)) _).trans ?_
  rfl
 have:=Zi (A:=List Bool) (R:=(List Int × Int × Unit) × Unit) (step:=fun L2 => Zcj k L2)
  (fun i a => (UD ds.length,UD i,ds,ls,(a.length:Int),ZE a)) (ls.zip ds)
  (fun l' a => some ((ZE (Xh (a ++ l'.flatMap fun x => QK x.1 x.2.toNat)),0,()),()))
  (fun i a => a = bs ++ ((ls.zip ds).take i).flatMap (fun x => QK x.1 x.2.toNat))
  (fun L a ha => by
   rw [Ea] at ha
   have:=hend L
   unfold WL at this
   simp_all)
  (fun L i hi a ha hL => by
   have h1:i < ls.length:=by have:=h.len; omega
   have h2:i < ds.length:=by omega
   obtain ⟨o1,o2,o3⟩:=h.all i h1 h2
   have hal:a.length ≤ 30200:=by rw [ha]; exact hpart i
   simp only [Zcj]
   rw [Zb (W9 h2),Zb (QV h2),Zb (QV h1),Zs h1,Zs h2]
   have hds:ds[i] = ((ds[i].toNat:Nat):Int):=by omega
   have hsc:Zee ls[i] ((ds[i].toNat:Nat):Int) = 0:=ZbH.2 ⟨by omega,o3⟩
   have e:=ZNV k (by omega) hsc a (by omega)
   rw [← hds] at e
   refine (Zl e _).trans ?_
   have hzi:(ls.zip ds)[i] = (ls[i],ds[i]):=by rw [EA]
   have hnext:a ++ QK ls[i] ds[i].toNat = bs ++ ((ls.zip ds).take (i + 1)).flatMap (fun x => QK x.1 x.2.toNat):=by
    rw [ha,Eo,VN hi,hzi,Em]
    simp
   have:=hL (a ++ QK ls[i] ds[i].toNat) hnext
   show L (UD ds.length,Jx.wrap (UD i + 1),ds,ls,(((a ++ QK ls[i] ds[i].toNat).length:Nat):Int),ZE (a ++ QK ls[i] ds[i].toNat)) = _
   rw [ZL h2 (by omega),this,hzi,Hn,Ju])
  k 0 bs (by simp) (by omega) (Ht _)
 rw [U5] at this
 exact this
theorem ZyZ (k:Nat) (hk:100000 < k) {c d r:Int} {mode num n dn:Nat} (hnum:num < 2 ^ 31) (hd:d = (dn:Int)) {ls:List (List Int)} (hc:c = 1 ∧ mode = 0 ∨ c = 2) (hn:1 ≤ n) (hn2:n ≤ 512) (hd1:4 ≤ dn) (hd2:dn ≤ 24)
  (h:LayOk n dn ls (Qr c d (mode:Int))) (bs:List Bool) (hb:bs = Za 16382 14 ++ (Za (QW n) 6 ++ (Za mode 8 ++ Za 0 4))) :
  ZlH k (UD (Q3 (Qg num)).length,(0:Int),Q3 (Qg num),(n:Int),((QW n:Nat):Int),(mode:Int),ls,(bs.length:Int),ZE bs,c,d,r) =
   some ((ZE (Xh (YZ mode num n ++ WL ls (Qr c d (mode:Int)))),0,()),()):=by
 have hbl:bs.length = 32:=by grind [QZ,Zc]
 have hcl:=Zgi num
 have hlt:=Zpp (n:=num) (by omega)
 have hkn:=ZfS n
 have:=Zi (A:=List Bool) (R:=(List Int × Int × Unit) × Unit) (step:=fun L1 => Ku k (ZhH k) L1)
  (fun i a => (UD (Q3 (Qg num)).length,UD i,Q3 (Qg num),(n:Int),((QW n:Nat):Int),(mode:Int),ls,(a.length:Int),ZE a,c,d,r)) (Qg num)
  (fun l' a => Ku k (ZhH k) (fun _ => none) (UD (Qg num).length,UD (Qg num).length,Q3 (Qg num),(n:Int),((QW n:Nat):Int),(mode:Int),ls,(((a ++ l'.flatMap fun x => Za x 8).length:Nat):Int),ZE (a ++ l'.flatMap fun x => Za x 8),c,d,r))
  (fun i a => a.length ≤ 32 + 8 * i)
  (fun L a ha => by
   rw [ZcY]
   grind [Ku])
  (fun L i hi a ha hL => by
   have hi2:i < (Q3 (Qg num)).length:=by rw [ZcY]; exact hi
   have key:Ku k (ZhH k) L (UD (Q3 (Qg num)).length,UD i,Q3 (Qg num),(n:Int),((QW n:Nat):Int),(mode:Int),ls,(a.length:Int),ZE a,c,d,r) =
     L (UD (Q3 (Qg num)).length,UD (i + 1),Q3 (Qg num),(n:Int),((QW n:Nat):Int),(mode:Int),ls,(((a ++ Za (Qg num)[i] 8).length:Nat):Int),ZE (a ++ Za (Qg num)[i] 8),c,d,r):=by
    simp only [Ku]
    rw [Zb (W9 hi2),Zb (QV hi2),Zs hi2,ZJI hi2]
    have hx:=hlt _ (Ha hi)
    have hil:=ZcY (Qg num)
    rw [ZK (by omega)]
    refine (Zl (QD k a (Qg num)[i] 8 (by omega) (by omega) (by omega) (by omega)) _).trans ?_
    rw [ZL hi2 (by omega)]
   rw [key,hL _ (by rw [QZ,Zc]; omega),Hn,Ju])
  k 0 bs (by omega) (by omega) (Ht _)
 rw [U5] at this
 refine U4 this ?_
 have hpre:bs ++ (Qg num).flatMap (fun x => Za x 8) ++ Za (n - 1) (8 * (QW n - 5)) = WK mode num n:=by
  rw [hb]
  rfl
 have hprel:=ZbC mode num n
 have hB:(bs ++ (Qg num).flatMap (fun x => Za x 8)).length ≤ 100:=by rw [QZ,ZgZ]; omega
 generalize bs ++ (Qg num).flatMap (fun x => Za x 8) = B at hpre hB
 simp only [Ku]
 rw [Zn (XJ _)]
 have e1:Jx.wrap ((n:Int) - 1) = ((n - 1:Nat):Int):=by rw [ZK (by omega)]; omega
 have e2:Jx.wrap ((8:Int) * Jx.wrap (Jx.wrap (((QW n:Nat):Int) - (6:Int)) + (1:Int))) = ((8 * (QW n - 5):Nat):Int):=by
  rcases hkn with h | h <;> rw [h] <;> rfl
 have hw:n - 1 < 2 ^ (8 * (QW n - 5)):=by
  unfold QW
  grind
 rw [e1,e2]
 refine (Zl (QD k B (n - 1) (8 * (QW n - 5)) (by omega) (by omega) hw (by omega)) _).trans ?_
 rw [hpre]
 refine (Zl (ZjZ k (WK mode num n) (by omega)) _).trans ?_
 have hb8:=Y6 (WK mode num n)
 refine (Zl (ZNP k (ZE (WK mode num n)) hb8 (by rw [Z5]; omega) (by rw [Z5]; omega)) _).trans ?_
 refine (Zl (QD k (WK mode num n) (ZHx (ZE (WK mode num n))) 8 (by omega) (by omega) (ZEh hb8) (by omega)) _).trans ?_
 refine (Zl (ZNT k (c:=c) (d:=d) (r:=r) (m:=(mode:Int)) (by omega) (by omega)) _).trans ?_
 exact Zy0 k hk h hn hn2 hd1 hd2 (YZ mode num n) (by unfold YZ; rw [QZ,Zc]; omega)
theorem ZLV (k:Nat) (hk:100000 < k) (c d r n:Int) (ch:List (List Int)):ZLP k ((c,d,r,()),(n,ch,()),()) = some (((Za5 c d r n ch).1,(Za5 c d r n ch).2,()),()):=by
 show ZiP k (ZlH k) _ = _
 simp only [ZiP]
 rw [ZNF k c d r n ch (by omega)]
 simp only [Z9]
 unfold Za5
 rw [ZU]
 by_cases h:Yo c d r n ch = 0
 ·rw [Zn (by simpa using h),if_pos h]
  obtain ⟨hs,hn,hc,hlen,hsg⟩:=Zac h
  obtain ⟨hlay,⟨mode,hm,hmc⟩,hn0⟩:=Zxq h
  have hch:ch.length = 1 ∨ (∃ L R,ch = [L,R] ∧ L.length = R.length ∧ L.length ≤ 8192 ∧ (∀ x ∈ L,ZT x) ∧ ∀ x ∈ R,ZT x):=by
   match ch,hc,hlen,hsg with
   | [],hc,_,_ => simp at hc; omega
   | [_],_,_,_ => exact .inl rfl
   | [l,r'],_,hlen,hsg =>
    refine .inr ⟨l,r',rfl,?_,?_,?_,?_⟩
    ·simp_all
    ·have:=(hlen l (by simp)).2.2; omega
    ·exact fun x hx => Ye (by omega) (hsg l (by simp) x hx)
    ·exact fun x hx => Ye (by omega) (hsg r' (by simp) x hx)
   | _ :: _ :: _ :: _,hc,_,_ => simp at hc; omega
  refine (Zl (ZNH k n ch (by omega) hch) _).trans ?_
  rw [show ((0:Int) != 0) = false from rfl]
  simp only [cond_false]
  have hbig:∃ l0,(W8 ch).1.getD 0 [] = l0 ∧ l0.length = (ch.headD []).length ∧ 0 < (W8 ch).1.length:=by
   have:=hlay.two
   match hh:(W8 ch).1,this with
   | [],h => simp at h
   | l :: ls,_ => simp_all
  obtain ⟨l0,hl0,hl0n,hpos⟩:=hbig
  rw [Zb (by simp only [QT]; omega),hl0,hl0n]
  have hn1:1 ≤ (ch.headD []).length ∧ (ch.headD []).length ≤ 512:=by
   obtain ⟨a,b,c⟩:=hlay.all 0 hpos (by rw [← hlay.len]; exact hpos)
   have:0 < ch.length:=by omega
   match ch,this with
   | l :: _,_ => exact (hlen l (by simp)).2
  rw [hm] at hlay ⊢
  obtain ⟨num,hnum⟩:=Vp hn.1
  obtain ⟨dn,hdn⟩:=Vp (show 0 ≤ d by omega)
  subst hnum
  rw [Yi,Yi]
  have hdt:d.toNat = dn:=by omega
  rw [hdt] at hlay
  have hmode:mode < 2 ^ 8:=by omega
  have e14:(16382:Int) = ((16382:Nat):Int):=rfl
  generalize hN:(ch.headD []).length = N at hn1 hlay
  have l1:(([]:List Bool) ++ Za 16382 14).length = 14:=by rfl
  have fin:∀ kd:Nat,kd = QW N → ((Zt1 k ()).bind fun y_1 => (ZP k ((y_1.1.1,y_1.1.2.1,()),16382,14,())).bind fun y_2 => (ZP k ((y_2.2.1.1,y_2.2.1.2.1,()),(kd:Int),6,())).bind fun y_3 => (ZP k ((y_3.2.1.1,y_3.2.1.2.1,()),(mode:Int),8,())).bind fun y_4 => (ZP k ((y_4.2.1.1,y_4.2.1.2.1,()),0,4,())).bind fun y_5 => (Zz4 k ((num:Int),())).bind fun y_6 => bif y_6.1.2.1 != (0:Int) then some (([],y_6.1.2.1,()),()) else ZlH k (UD (UK y_6.1.1),(0:Int),y_6.1.1,(N:Int),(kd:Int),(mode:Int),(W8 ch).1,y_5.2.1.2.1,y_5.2.1.1,c,d,r)) =
    some ((ZE (Xh (YZ mode num N ++ WL (W8 ch).1 (Qr c d (mode:Int)))),0,()),()):=by
   rintro kd rfl
   have hkn:=ZfS N
   refine (Zl (Zz3 k) _).trans ?_
   refine (Zl (QD k [] 16382 14 (by omega) (by omega) (by omega) (by simp)) _).trans ?_
   refine (Zl (QD k ([] ++ Za 16382 14) (QW N) 6 (by omega) (by omega) (by omega) (by omega)) _).trans ?_
   have l2:([] ++ Za 16382 14 ++ Za (QW N) 6).length = 20:=by rw [QZ,l1,Zc]
   refine (Zl (QD k ([] ++ Za 16382 14 ++ Za (QW N) 6) mode 8 (by omega) (by omega) hmode (by omega)) _).trans ?_
   have l3:([] ++ Za 16382 14 ++ Za (QW N) 6 ++ Za mode 8).length = 28:=by rw [QZ,l2,Zc]
   refine (Zl (QD k ([] ++ Za 16382 14 ++ Za (QW N) 6 ++ Za mode 8) 0 4 (by omega) (by omega) (by omega) (by omega)) _).trans ?_
   refine (Zl (ZNO k (by omega) (n:=num) (by omega)) _).trans ?_
   exact ZyZ k hk (by omega) hdn (hmc.elim (fun h => .inl ⟨h.2,h.1⟩) (fun h => .inr h.1)) hn1.1 hn1.2 (by omega) (by omega) hlay _ (by rfl)
  by_cases h256:256 < N
  ·rw [Zb (by simp only [QT]; omega)]
   exact fin 7 (by unfold QW; rw [if_pos h256])
  ·rw [Zn (by simp only [QT]; omega)]
   exact fin 6 (by unfold QW; rw [if_neg h256])
 ·rw [Zb h,if_neg h]
end Go.Sh
namespace Go.Sh
open Go Go.Proofs
def YH (l:List Nat):List Bool:=l.flatMap fun x => Za x 8
theorem WH (l:List Nat):(YH l).length = 8 * l.length:=by
 unfold YH
 rw [ZcU (B:=8) fun x _ => Zc x 8]; omega
theorem ZBk (a b:List Nat):YH (a ++ b) = YH a ++ YH b:=by simp [YH]
theorem W0 {k:Nat} {bs:List Bool} {n w:Nat} (hk:64 < k) (hw:w ≤ 32) (hn:n < 2 ^ w) (hb:bs.length + w < 4294967296) {α:Type} (K:Int × (List Int × Int × Unit) × Unit → Option α) :
  (ZP k (Ke bs,(n:Int),(w:Int),())).bind K = K (0,Ke (bs ++ Za n w),()):=by
 rw [QD k bs n w hk hw hn hb]; rfl
section prog
variable {k:Nat}
theorem ZdW (hk:100 ≤ k) (bs:List Bool) (s:ByteArray) (hs:s.size < k) (hb:bs.length + 8 * s.size < 4000000000):Zbp k (Ke bs,s,()) = some ((),Ke (bs ++ YH (WO s)),()):=by
 have hl:=QY s
 have key:=Zi (A:=List Bool) (step:=fun L1 => ZaJ k L1) (fun i a => (UD s.size,UD i,s,(a.length:Int),ZE a)) s.data.toList
  (fun rest a => some ((),Ke (a ++ YH (rest.map UInt8.toNat)),())) (fun i a => a.length = bs.length + 8 * i)
  (fun L a _ => by
   simp_all [ZaJ,YH,Ke])
  (fun L i hi a hI hL => by
   rw [hl] at hi
   simp only [ZaJ]
   rw [Zb (W9 hi),Zb (QV hi),Zs (by omega)]
   have h256:=(s.data.toList[i]'(by omega)).toNat_lt
   rw [show Jx.wrap (UD (s.data.toList[i]'(by omega)).toNat) = (((s.data.toList[i]'(by omega)).toNat:Nat):Int) from ZK (by simp only [QT]; omega)]
   refine U4 (W0 (k:=k) (bs:=a) (w:=8) (by omega) (by omega) h256 (by omega) _) ?_
   rw [ZL hi (by omega)]
   refine U4 (hL _ (by rw [QZ,Zc,hI]; omega)) ?_
   simp [YH])
  k 0 bs (by simp) (by omega) (by omega)
 rw [U5] at key
 exact key
theorem ZhU (hk:100 ≤ k) (bs:List Bool) {a b n:Nat} (ha:a < 2) (hb:b < 128) (hn:n < 16777216) (hl:bs.length < 4000000000):ZdX k (Ke bs,(a:Int),(b:Int),(n:Int),()) = some ((),Ke (bs ++ (Za a 1 ++ Za b 7 ++ Za n 24)),()):=by
 show ZhT k _ = _
 simp only [ZhT]
 refine U4 (W0 (k:=k) (bs:=bs) (w:=1) (by omega) (by omega) ha (by omega) _) ?_
 refine U4 (W0 (k:=k) (bs:=bs ++ Za a 1) (w:=7) (by omega) (by omega) hb (by rw [QZ,Zc]; omega) _) ?_
 refine U4 (W0 (k:=k) (bs:=bs ++ Za a 1 ++ Za b 7) (w:=24) (by omega) (by omega) hn (by simp only [QZ,Zc]; omega) _) ?_
 simp [Ke]
theorem ZU1 {n i:Nat} (hn:n < 4294967296) (hi:i < 4):Jx.wrap (UD (UH 64 (Int.fdiv (n:Int) ((2:Int) ^ min (((8 * i:Nat):Int)).toNat 64)) &&& UH 64 (255:Int)).toNat) = ((n / 2 ^ (8 * i) % 256:Nat):Int):=by
 have e1:min (((8 * i:Nat):Int)).toNat 64 = 8 * i:=by omega
 have hd:n / 2 ^ (8 * i) ≤ n:=Eb _ _
 have e:(n / 2 ^ (8 * i)) &&& 255 = n / 2 ^ (8 * i) % 256:=Hp _ 8
 rw [e1,show ((2:Int) ^ (8 * i)) = ((2 ^ (8 * i):Nat):Int) by simp,ZfJ,BitVec.toNat_and,Zis (by omega),show (UH 64 (255:Int)).toNat = 255 from rfl,e]
 rw [show UD (n / 2 ^ (8 * i) % 256) = ((n / 2 ^ (8 * i) % 256:Nat):Int) from rfl,Zku (by omega)]
theorem ZQj (N i:Nat):YH (K6 N (i + 1)) = YH (K6 N i) ++ Za (N / 2 ^ (8 * i) % 256) 8:=by
 rw [Zrh,ZBk]; simp [YH]
theorem ZFG (hk:100 ≤ k) (bs:List Bool) {N:Nat} (hN:N < 4294967296) (hl:bs.length < 4000000000):∀ (n i fuel:Nat),i + n = 4 → n < fuel →
  Ze (fun L1 => Zd0 k L1) fuel (((8 * i:Nat):Int),(N:Int),(((bs ++ YH (K6 N i)).length:Nat):Int),ZE (bs ++ YH (K6 N i))) = some ((),Ke (bs ++ YH (K6 N 4)),())
 | 0,i,fuel + 1,h1,h2 => by
  obtain rfl:i = 4:=by omega
  rfl
 | n + 1,i,fuel + 1,h1,h2 => by
  rw [Zd]
  simp only [Zd0]
  rw [Zb (by omega),Zb (by omega)]
  simp only [ZU1 hN (show i < 4 by omega)]
  refine U4 (W0 (k:=k) (bs:=bs ++ YH (K6 N i)) (w:=8) (by omega) (by omega) (UY _ (by omega)) (by rw [QZ,WH,QJ]; omega) _) ?_
  rw [show Jx.wrap (((8 * i:Nat):Int) + 8) = ((8 * (i + 1):Nat):Int) by rw [ZK (by omega)]; omega,Ju,← ZQj]
  exact ZFG hk bs hN hl n (i + 1) fuel (by omega) (by omega)
 | 0,_,0,_,h2 => absurd h2 (Nat.lt_irrefl _)
 | n + 1,_,0,_,h2 => absurd h2 (Nat.not_lt_zero _)
theorem ZhV (hk:100 ≤ k) (bs:List Bool) {N:Nat} (hN:N < 4294967296) (hl:bs.length < 4000000000):ZjS k (Ke bs,(N:Int),()) = some ((),Ke (bs ++ YH (K6 N 4)),()):=by
 have:=ZFG hk bs hN hl 4 0 k rfl (by omega)
 rw [show K6 N 0 = [] from rfl,show YH [] = [] from rfl,Vf] at this
 exact this
def Yh:List Nat → Nat
 | [] => 0
 | x :: l => l.foldl min x
def Yg:List Nat → Nat
 | [] => 0
 | x :: l => l.foldl max x
theorem ZDi {l:List Nat} (h:l ≠ []) (hk:l.length < k) (hl:l.length < 4294967296):Zwi k (Zh l,()) = some ((Yh l:Int),()):=by
 match l,h with
 | x :: l,_ =>
  show ZdY k (ZjP k) _ = _
  simp only [ZdY]
  rw [ZB,Zn (by grind),Zb (by simp_all)]
  have hc:(Zh (x :: l)).length = l.length + 1:=by rw [ZB]; rfl
  have key:=Qm (A:=Nat) (step:=fun L1 => ZaK k L1) (fun i a => (UD i,Zh (x :: l),(a:Int))) (x :: l) (fun rest a => some (((rest.foldl min a:Nat):Int),()))
   (fun L a => by
    grind [ZaK])
   (fun L i hi a hL => by
    simp only [ZaK]
    rw [ZB,Zb (W9 hi),Zb (QV hi)]
    have e:(Zh (x :: l)).getD (UD i).toNat 0 = (((x :: l)[i]:Nat):Int):=by
     rw [show (UD i).toNat = i from rfl,ZW,KW hi]
    rw [e,ZL hi (by omega)]
    grind) k 1 x (by simp at hk ⊢; omega) (by simp)
  exact key
theorem ZDk {l:List Nat} (h:l ≠ []) (hk:l.length < k) (hl:l.length < 4294967296):Zwj k (Zh l,()) = some ((Yg l:Int),()):=by
 match l,h with
 | x :: l,_ =>
  show ZdZ k (ZjR k) _ = _
  simp only [ZdZ]
  rw [ZB,Zn (by grind),Zb (by simp_all)]
  have hc:(Zh (x :: l)).length = l.length + 1:=by rw [ZB]; rfl
  have key:=Qm (A:=Nat) (step:=fun L1 => ZaL k L1) (fun i a => (UD i,Zh (x :: l),(a:Int))) (x :: l) (fun rest a => some (((rest.foldl max a:Nat):Int),()))
   (fun L a => by
    grind [ZaL])
   (fun L i hi a hL => by
    simp only [ZaL]
    rw [ZB,Zb (W9 hi),Zb (QV hi)]
    have e:(Zh (x :: l)).getD (UD i).toNat 0 = (((x :: l)[i]:Nat):Int):=by
     rw [show (UD i).toNat = i from rfl,ZW,KW hi]
    rw [e,ZL hi (by omega)]
    have e2:(if (a:Int) < (((x :: l)[i]:Nat):Int) then (((x :: l)[i]:Nat):Int) else (a:Int)) = ((max a (x :: l)[i]:Nat):Int):=by
     split <;> omega
    rw [e2]
    exact hL _) k 1 x (by simp at hk ⊢; omega) (by simp)
  exact key
end prog
end Go.Sh
namespace Go.Sh
open Go Go.Proofs
def XI:List Nat:=[102,76,97,67]
def ZbL:List Nat:=[115,104,101,108,108,97,99]
def KQ (a b n:Nat):List Bool:=Za a 1 ++ Za b 7 ++ Za n 24
def ZaV (size n i at_:Nat):List Bool:=Za 0 32 ++ Za (i * size) 32 ++ Za 0 32 ++ Za at_ 32 ++ Za (min size (n - i * size)) 16
def Zhb (size n:Nat):Nat → Nat → List Nat → List Bool
 | _,_,[] => []
 | i,at_,x :: l => ZaV size n i at_ ++ Zhb size n (i + 1) (at_ + x) l
def Zsy (tags:List ByteArray):List Bool:=tags.flatMap fun t => YH (K6 t.size 4) ++ YH (WO t)
def ZrY (tags:List ByteArray):Nat:=(tags.map fun t => 4 + t.size).sum
def Zm2 (c d r size n small great:Nat):List Bool:=YH XI ++ KQ 0 0 34 ++ Za size 16 ++ Za size 16 ++ Za small 24 ++ Za great 24 ++ Za r 20 ++ Za (c - 1) 3 ++ Za (d - 1) 5 ++ Za 0 4 ++ Za n 32
def XN (tags:List ByteArray):List Bool:=KQ 1 4 (15 + ZrY tags) ++ YH (K6 7 4) ++ YH ZbL ++ YH (K6 tags.length 4) ++ Zsy tags
def Zga (size n:Nat) (lens:List Nat):List Bool:=if 1 < lens.length then KQ 0 3 (18 * lens.length) ++ Zhb size n 0 0 lens else []
noncomputable def Zf9 (d:Nat) (ch:List (List Int)):List Nat:=Zsn (Za3 (nbD d) ch (ch.getD 0 []).length)
noncomputable def ZeA (d r:Nat) (tags:List ByteArray) (ch:List (List Int)) (size:Nat) (lens:List Nat):List Bool :=
 Zm2 ch.length d r size (ch.getD 0 []).length (Yh lens) (Yg lens) ++ YH (Zf9 d ch) ++ Zga size (ch.getD 0 []).length lens ++ XN tags
theorem Y7 (a b n:Nat):(KQ a b n).length = 32:=by simp [KQ,Zc]
theorem Zib (size n i a:Nat):(ZaV size n i a).length = 144:=by simp [ZaV,Zc]
theorem ZQt (s:S4):QL (ZDL s):=by
 intro x hx
 simp only [ZDL,le4,Js,VL,List.not_mem_nil,or_false] at hx
 omega
theorem ZXx (d:Nat) (ch:List (List Int)):QL (Zf9 d ch):=ZQt _
theorem Zda (d:Nat) (ch:List (List Int)):(Zf9 d ch).length = 16:=by simp [Zf9,Zsn,ZDL,le4]
theorem Zks:∀ (l:List Nat) (a:Nat),l.foldl min a ≤ a
 | [],a => Nat.le_refl a
 | x :: l,a => VH (Zks l (min a x)) (Nat.min_le_left a x)
theorem ZGS {l:List Nat} {B:Nat} (hB:0 < B) (h:∀ x ∈ l,x < B):Yh l < B:=by
 match l,h with
 | [],_ => exact hB
 | x :: l,h => exact Nat.lt_of_le_of_lt (Zks l x) (h x (Jl ..))
theorem Zkr {B:Nat}:∀ (l:List Nat) (a:Nat),a < B → (∀ x ∈ l,x < B) → l.foldl max a < B
 | [],a,h,_ => h
 | x :: l,a,h,h2 => Zkr l (max a x) (by simp_all <;> omega) fun y hy => h2 y (Jn _ hy)
theorem ZGQ {l:List Nat} {B:Nat} (hB:0 < B) (h:∀ x ∈ l,x < B):Yg l < B:=by
 match l,h with
 | [],_ => exact hB
 | x :: l,h => exact Zkr l x (h x (Jl ..)) fun y hy => h y (Jn _ hy)
section prog
variable {k:Nat} {c d r:Int} {tags:List ByteArray} {ch:List (List Int)}
def Tg (tags:List ByteArray):Prop:=tags.length ≤ 8 ∧ ∀ t ∈ tags,t.size ≤ 12
theorem ZS3 (hk:100 ≤ k) (hT:Tg tags) (bs:List Bool) (hb:bs.length < 1000000000):Zfa k (UD tags.length,(0:Int),tags,(bs.length:Int),ZE bs) = some (ZE (bs ++ Zsy tags),()):=by
 have key:=Zi (A:=List Bool) (step:=fun L3 => ZaG k L3) (fun i a => (UD tags.length,UD i,tags,(a.length:Int),ZE a)) tags
  (fun rest a => some (ZE (a ++ Zsy rest),())) (fun i a => a.length ≤ bs.length + 200 * i)
  (fun L a hI => by
   simp only [ZaG]
   rw [Zn (XJ _)]
   refine U4 (congrArg (fun x => H8 x _) (ZjZ k a (by have:=hT.1; omega))) ?_
   simp [Zsy])
  (fun L i hi a hI hL => by
   have ht:=hT.2 _ (Ha hi)
   have ht8:=hT.1
   simp only [ZaG]
   rw [Zb (W9 hi),Zb (QV hi),Zs hi]
   refine U4 (congrArg (fun x => H8 x _) (ZhV hk a (N:=tags[i].size) (by omega) (by omega))) ?_
   simp only [Z9]
   refine U4 (congrArg (fun x => H8 x _) (ZdW hk (a ++ YH (K6 tags[i].size 4)) tags[i] (by omega) (by rw [QZ,WH,QJ]; omega))) ?_
   simp only [Z9]
   rw [ZL hi (by omega)]
   grind [QZ,WH,QJ,Y5,Zsy,Ju])
  k 0 bs (by simp) (by have:=hT.1; omega) (by omega)
 rw [U5] at key
 exact key
theorem ZFw (hk:100 ≤ k) (hT:Tg tags) (bs:List Bool) (hb:bs.length < 900000000):Yr k (UD tags.length,(0:Int),tags,(15:Int),(bs.length:Int),ZE bs,c,d,r,tags,ch) = some (ZE (bs ++ XN tags),()):=by
 have h8:=hT.1
 have key:=Zi (A:=Nat) (step:=fun L2 => ZaF k (Zfa k) L2) (fun i a => (UD tags.length,UD i,tags,(a:Int),(bs.length:Int),ZE bs,c,d,r,tags,ch)) tags
  (fun rest a => some (ZE (bs ++ (KQ 1 4 (a + ZrY rest) ++ YH (K6 7 4) ++ YH ZbL ++ YH (K6 tags.length 4) ++ Zsy tags)),())) (fun i a => a ≤ 15 + 16 * i)
  (fun L a hI => by
   simp only [ZaF]
   rw [Zn (XJ _)]
   refine U4 (congrArg (fun x => H8 x _) (ZhU hk bs (a:=1) (b:=4) (n:=a) (by omega) (by omega) (by omega) (by omega))) ?_
   simp only [Z9]
   refine U4 (congrArg (fun x => H8 x _) (ZhV hk (bs ++ KQ 1 4 a) (N:=7) (by omega) (by rw [QZ,Y7]; omega))) ?_
   simp only [Z9]
   have hv:(UJ #[115,104,101,108,108,97,99]).size = 7:=rfl
   have hn:WO (UJ #[115,104,101,108,108,97,99]) = ZbL:=rfl
   refine U4 (congrArg (fun x => H8 x _) (ZdW hk (bs ++ KQ 1 4 a ++ YH (K6 7 4)) (UJ #[115,104,101,108,108,97,99]) (by rw [hv]; omega) (by simp only [QZ,Y7,WH,QJ,hv]; omega))) ?_
   rw [hn]
   simp only [Z9]
   refine U4 (congrArg (fun x => H8 x _) (ZhV hk (bs ++ KQ 1 4 a ++ YH (K6 7 4) ++ YH ZbL) (N:=tags.length) (by omega) (by simp only [QZ,Y7,WH,QJ,ZbL,JF,H2]; omega))) ?_
   simp only [Z9]
   refine U4 (ZS3 hk hT (bs ++ KQ 1 4 a ++ YH (K6 7 4) ++ YH ZbL ++ YH (K6 tags.length 4)) (by simp only [QZ,Y7,WH,QJ,ZbL,JF,H2]; omega)) ?_
   simp [ZrY,Ju])
  (fun L i hi a hI hL => by
   have ht:=hT.2 _ (Ha hi)
   simp only [ZaF]
   rw [Zb (W9 hi),Zb (QV hi),Zs hi,ZL hi (by omega)]
   have e:Jx.wrap ((a:Int) + Jx.wrap ((4:Int) + UD tags[i].size)) = ((a + (4 + tags[i].size):Nat):Int):=by
    simp only [QT]
    rw [ZK (n:=(4:Int) + (tags[i].size:Int)) (by omega),ZK (by omega)]; omega
   rw [e]
   refine U4 (hL _ (by omega)) ?_
   simp only [ZrY,JR,List.sum_cons,Nat.add_assoc])
  k 0 15 (by omega) (by omega) (by omega)
 rw [U5] at key
 exact key
theorem ZS2 (hk:1000 ≤ k) (hT:Tg tags) {size n:Nat} (hs:16 ≤ size ∧ size ≤ 512) (hn:(ch.getD 0 []).length = n) (hn4:n ≤ 4096) {lens:List Nat} (hl:lens.length ≤ 300) (hB:∀ x ∈ lens,x < 65536) (hi:∀ i,i < lens.length → i * size ≤ n) (bs:List Bool) (hb:bs.length < 100000000) :
  Ze9 k (UD lens.length,(0:Int),Zh lens,(size:Int),(0:Int),(bs.length:Int),ZE bs,c,d,r,tags,ch) = some (ZE (bs ++ Zhb size n 0 0 lens ++ XN tags),()):=by
 have key:=Zi (A:=List Bool × Nat) (step:=fun L1 => ZaE k (Yr k) L1) (fun i a => (UD lens.length,UD i,Zh lens,(size:Int),(a.2:Int),(a.1.length:Int),ZE a.1,c,d,r,tags,ch)) lens
  (fun rest a => some (ZE (a.1 ++ Zhb size n (lens.length - rest.length) a.2 rest ++ XN tags),())) (fun i a => a.1.length ≤ bs.length + 144 * i ∧ a.2 ≤ 65536 * i)
  (fun L a hI => by
   simp only [ZaE]
   rw [Zn (XJ _)]
   refine U4 (ZFw (by omega) hT a.1 (by omega)) ?_
   simp [Zhb])
  (fun L i hlt a hI hL => by
   obtain ⟨B,at_⟩:=a
   simp only at hI hL ⊢
   have hx:=hB _ (Ha hlt)
   have hin:=hi i hlt
   have him:i * size < 4294967296:=by omega
   simp only [ZaE]
   rw [ZB,Zb (W9 hlt),Zb (QV hlt)]
   refine U4 (W0 (k:=k) (bs:=B) (n:=0) (w:=32) (by omega) (by omega) (by omega) (by omega) _) ?_
   have e1:Jx.wrap (UD i * (size:Int)) = ((i * size:Nat):Int):=by
    rw [show UD i * (size:Int) = ((i * size:Nat):Int) by simp,Zku (by omega)]
   rw [e1]
   refine U4 (W0 (k:=k) (bs:=B ++ Za 0 32) (w:=32) (by omega) (by omega) him (by simp only [QZ,Zc]; omega) _) ?_
   refine U4 (W0 (k:=k) (bs:=B ++ Za 0 32 ++ Za (i * size) 32) (n:=0) (w:=32) (by omega) (by omega) (by omega) (by simp only [QZ,Zc]; omega) _) ?_
   refine U4 (W0 (k:=k) (bs:=B ++ Za 0 32 ++ Za (i * size) 32 ++ Za 0 32) (n:=at_) (w:=32) (by omega) (by omega) (by omega) (by simp only [QZ,Zc]; omega) _) ?_
   rw [XX,hn]
   simp only [Z9]
   have e2:(if Jx.wrap (UD n - ((i * size:Nat):Int)) < (size:Int) then Jx.wrap (UD n - ((i * size:Nat):Int)) else (size:Int)) = ((min size (n - i * size):Nat):Int):=by
    simp only [QT]
    generalize i * size = q at *
    rw [ZK (by omega)]
    split <;> omega
   rw [e2]
   refine U4 (W0 (k:=k) (bs:=B ++ Za 0 32 ++ Za (i * size) 32 ++ Za 0 32 ++ Za at_ 32) (w:=16) (by omega) (by omega) (by omega) (by simp only [QZ,Zc]; omega) _) ?_
   have e3:(Zh lens).getD (UD i).toNat 0 = ((lens[i]:Nat):Int):=by
    rw [show (UD i).toNat = i from rfl,ZW,KW hlt]
   have e4:Jx.wrap ((at_:Int) + ((lens[i]:Nat):Int)) = ((at_ + lens[i]:Nat):Int):=by rw [ZK (by omega)]; omega
   rw [e3,e4,ZL hlt (by omega)]
   refine U4 (hL (B ++ ZaV size n i at_,at_ + lens[i]) ⟨by rw [QZ,Zib]; omega,by simp only; omega⟩ |> fun h => by
    simp only [ZaV,← Ju] at h ⊢
    exact h) ?_
   have e5:lens.length - (lens[i] :: lens.drop (i + 1)).length = i:=by grind
   have e6:lens.length - (lens.drop (i + 1)).length = i + 1:=by rw [Vh]; omega
   simp only [e5,e6,Zhb,ZaV,Ju])
  k 0 (bs,0) ⟨by simp,by simp⟩ (by omega) (by omega)
 rw [U5] at key
 simp only [Ef] at key
 exact key
end prog
end Go.Sh
namespace Go.Sh
open Go Go.Proofs
theorem ZrW (size n:Nat):∀ (l:List Nat) (i a:Nat),(Zhb size n i a l).length = 144 * l.length
 | [],_,_ => rfl
 | x :: l,i,a => by simp only [Zhb,QZ,Zib,ZrW size n l,JF]; omega
theorem Good0.tg {tags:List ByteArray} (h:tags.all Zim = true) (h8:tags.length ≤ 8):Tg tags :=
 ⟨h8,fun t ht => by
  have:=Ve.1 h t ht
  unfold Zim at this
  simp_all⟩
structure Lens (size n:Nat) (lens:List Nat):Prop where
 sz:16 ≤ size ∧ size ≤ 512
 len:lens.length ≤ 300
 small:∀ x ∈ lens,x < 65536
 in_:∀ i,i < lens.length → i * size ≤ n
theorem ZUQ {k:Nat} (hk:1000 ≤ k) {size small great r c1 d1:Nat} (hs:size < 65536) (h1:small < 16777216) (h2:great < 16777216) (h3:r < 1048576) (h4:c1 < 8) (h5:d1 < 32) (B:List Bool) (hB:B.length ≤ 1000) {α:Type} (K:Int × (List Int × Int × Unit) × Unit → Option α) :
  ((ZP k (Ke B,(size:Int),16,())).bind fun y => (ZP k ((y.2.1.1,y.2.1.2.1,()),(size:Int),16,())).bind fun y => (ZP k ((y.2.1.1,y.2.1.2.1,()),(small:Int),24,())).bind fun y => (ZP k ((y.2.1.1,y.2.1.2.1,()),(great:Int),24,())).bind fun y => (ZP k ((y.2.1.1,y.2.1.2.1,()),(r:Int),20,())).bind fun y => (ZP k ((y.2.1.1,y.2.1.2.1,()),(c1:Int),3,())).bind fun y => (ZP k ((y.2.1.1,y.2.1.2.1,()),(d1:Int),5,())).bind fun y => (ZP k ((y.2.1.1,y.2.1.2.1,()),0,4,())).bind K) =
   K (0,Ke (B ++ Za size 16 ++ Za size 16 ++ Za small 24 ++ Za great 24 ++ Za r 20 ++ Za c1 3 ++ Za d1 5 ++ Za 0 4),()):=by
 refine U4 (W0 (k:=k) (bs:=B) (w:=16) (by omega) (by omega) hs (by omega) _) ?_
 refine U4 (W0 (k:=k) (bs:=B ++ Za size 16) (w:=16) (by omega) (by omega) hs (by simp only [QZ,Zc]; omega) _) ?_
 refine U4 (W0 (k:=k) (bs:=B ++ Za size 16 ++ Za size 16) (w:=24) (by omega) (by omega) h1 (by simp only [QZ,Zc]; omega) _) ?_
 refine U4 (W0 (k:=k) (bs:=B ++ Za size 16 ++ Za size 16 ++ Za small 24) (w:=24) (by omega) (by omega) h2 (by simp only [QZ,Zc]; omega) _) ?_
 refine U4 (W0 (k:=k) (bs:=B ++ Za size 16 ++ Za size 16 ++ Za small 24 ++ Za great 24) (w:=20) (by omega) (by omega) h3 (by simp only [QZ,Zc]; omega) _) ?_
 refine U4 (W0 (k:=k) (bs:=B ++ Za size 16 ++ Za size 16 ++ Za small 24 ++ Za great 24 ++ Za r 20) (w:=3) (by omega) (by omega) h4 (by simp only [QZ,Zc]; omega) _) ?_
 refine U4 (W0 (k:=k) (bs:=B ++ Za size 16 ++ Za size 16 ++ Za small 24 ++ Za great 24 ++ Za r 20 ++ Za c1 3) (w:=5) (by omega) (by omega) h5 (by simp only [QZ,Zc]; omega) _) ?_
 exact W0 (k:=k) (bs:=B ++ Za size 16 ++ Za size 16 ++ Za small 24 ++ Za great 24 ++ Za r 20 ++ Za c1 3 ++ Za d1 5) (n:=0) (w:=4) (by omega) (by omega) (by omega) (by simp only [QZ,Zc]; omega) K
theorem ZC3 {k:Nat} (hk:16777216 ≤ k) {d r:Nat} {tags:List ByteArray} {ch:List (List Int)} (h0:chk (ch.length:Int) (d:Int) (r:Int) tags ch = 0) (hS:Small tags ch) {size:Nat} {lens:List Nat} (hL:Lens size (ch.getD 0 []).length lens) :
  Zwb k ((((ch.length:Int),(d:Int),(r:Int),()),tags,ch,()),(size:Int),Zh lens,()) = some (ZE (ZeA d r tags ch size lens),()):=by
 obtain ⟨hg,hshape,-,htv,ht8⟩:=XM h0
 have hT:=Good0.tg htv ht8
 have hsh:=of_decide_eq_true hshape
 have hs:=hL.sz
 have hn4:=hg.n4
 generalize hn:(ch.getD 0 []).length = n at *
 have hmin:Yh lens < 65536:=ZGS (by omega) hL.small
 have hmax:Yg lens < 65536:=ZGQ (by omega) hL.small
 show ZdU k _ _ _ = _
 simp only [ZdU]
 refine U4 (congrArg (fun x => H8 x _) (Zz3 k)) ?_
 simp only [Z9]
 have hmg:WO (UJ #[102,76,97,67]) = XI:=rfl
 refine U4 (congrArg (fun x => H8 x _) (ZdW (by omega) [] (UJ #[102,76,97,67]) (by rw [show (UJ #[102,76,97,67]).size = 4 from rfl]; omega) (by rw [show (UJ #[102,76,97,67]).size = 4 from rfl]; simp))) ?_
 rw [hmg,VS]
 simp only [Z9]
 refine U4 (congrArg (fun x => H8 x _) (ZhU (by omega) (YH XI) (a:=0) (b:=0) (n:=34) (by omega) (by omega) (by omega) (by rw [WH]; simp [XI]))) ?_
 simp only [Z9]
 rw [show (Za 0 1 ++ Za 0 7 ++ Za 34 24) = KQ 0 0 34 from rfl]
 have hA:(YH XI ++ KQ 0 0 34).length = 64:=by rfl
 generalize hAe:YH XI ++ KQ 0 0 34 = A at hA
 have e1:Jx.wrap ((ch.length:Int) - 1) = ((ch.length - 1:Nat):Int):=by rw [ZK (by omega)]; omega
 have e2:Jx.wrap ((d:Int) - 1) = ((d - 1:Nat):Int):=by rw [ZK (by omega)]; omega
 have e3:Jx.wrap ((18:Int) * UD (Zh lens).length) = ((18 * lens.length:Nat):Int):=by
  have:=hL.len
  rw [ZB,ZK (by simp only [QT]; omega)]; simp
 rw [ZB] at e3
 have nl:=hL.len
 have tail:∀ (C:List Bool),C.length ≤ 1000 →
   ((ZP k (Ke C,(n:Int),32,())).bind fun y => (Zi2 k ((((ch.length:Int),(d:Int),(r:Int),()),tags,ch,()),())).bind fun y_4 => (Zbp k ((y.2.1.1,y.2.1.2.1,()),y_4.1.1,())).bind fun y => bif decide ((1:Int) < UD lens.length) then (ZdX k ((y.2.1.1,y.2.1.2.1,()),0,3,Jx.wrap ((18:Int) * UD lens.length),())).bind fun y => Ze9 k (UD lens.length,(0:Int),Zh lens,(size:Int),(0:Int),y.2.1.2.1,y.2.1.1,(ch.length:Int),(d:Int),(r:Int),tags,ch) else Yr k (UD tags.length,(0:Int),tags,(15:Int),y.2.1.2.1,y.2.1.1,(ch.length:Int),(d:Int),(r:Int),tags,ch)) =
    some (ZE (C ++ Za n 32 ++ YH (Zf9 d ch) ++ Zga size n lens ++ XN tags),()):=by
  intro C hC
  refine U4 (W0 (k:=k) (bs:=C) (w:=32) (by omega) (by omega) (by omega) (by omega) _) ?_
  rw [ZCn hk hS,if_pos h0]
  simp only [Z9]
  have hst:(WO (WG (Zsn (Za3 (nbD d) ch (ch.getD 0 []).length)))) = Zf9 d ch:=Zh6 (ZQt _)
  have hsz:(WG (Zsn (Za3 (nbD d) ch (ch.getD 0 []).length))).size = 16:=by rw [← Y5,hst,Zda]
  refine U4 (congrArg (fun x => H8 x _) (ZdW (by omega) (C ++ Za n 32) (WG (Zsn (Za3 (nbD d) ch (ch.getD 0 []).length))) (by omega) (by simp only [QZ,Zc]; omega))) ?_
  simp only [Z9]
  rw [hst,e3]
  by_cases h1:1 < lens.length
  ·rw [Zb (by simp only [QT]; omega)]
   refine U4 (congrArg (fun x => H8 x _) (ZhU (by omega) (C ++ Za n 32 ++ YH (Zf9 d ch)) (a:=0) (b:=3) (n:=18 * lens.length) (by omega) (by omega) (by omega) (by simp only [QZ,Zc,WH,Zda]; omega))) ?_
   simp only [Z9]
   refine U4 (ZS2 (by omega) hT hs hn hn4 nl hL.small hL.in_ (C ++ Za n 32 ++ YH (Zf9 d ch) ++ (Za 0 1 ++ Za 3 7 ++ Za (18 * lens.length) 24)) (by simp only [QZ,Zc,WH,Zda]; omega)) ?_
   simp only [Zga,if_pos h1,KQ,Ju]
  ·rw [Zn (by simp only [QT]; omega)]
   refine U4 (ZFw (by omega) hT (C ++ Za n 32 ++ YH (Zf9 d ch)) (by simp only [QZ,Zc,WH,Zda]; omega)) ?_
   simp only [Zga,if_neg h1,Vf]
 have fin:A ++ Za size 16 ++ Za size 16 ++ Za (Yh lens) 24 ++ Za (Yg lens) 24 ++ Za r 20 ++ Za (ch.length - 1) 3 ++ Za (d - 1) 5 ++ Za 0 4 ++ Za n 32 ++ YH (Zf9 d ch) ++ Zga size n lens ++ XN tags = ZeA d r tags ch size lens:=by
  unfold ZeA Zm2
  rw [hn,hAe]
 have hC:(A ++ Za size 16 ++ Za size 16 ++ Za (Yh lens) 24 ++ Za (Yg lens) 24 ++ Za r 20 ++ Za (ch.length - 1) 3 ++ Za (d - 1) 5 ++ Za 0 4).length ≤ 1000:=by
  simp only [QZ,Zc,hA]; omega
 rw [ZB,e1,e2]
 by_cases hl0:0 < lens.length
 ·have hne:lens ≠ []:=by intro h; rw [h] at hl0; simp at hl0
  rw [Zb (by simp only [QT]; omega),ZDi hne (by omega) (by omega)]
  simp only [Z9]
  rw [ZDk hne (by omega) (by omega)]
  simp only [Z9]
  refine U4 (ZUQ (by omega) (by omega) (by omega) (by omega) (by omega) (by omega) (by omega) A (by omega) _) ?_
  rw [XX,hn]
  grind
 ·have hne:lens = []:=List.length_eq_zero_iff.1 (by omega)
  rw [Zn (by simp only [QT]; omega)]
  have hm0:Yh lens = 0:=by rw [hne]; rfl
  have hx0:Yg lens = 0:=by rw [hne]; rfl
  rw [hm0,hx0] at fin hC
  refine U4 (ZUQ (small:=0) (great:=0) (by omega) (by omega) (by omega) (by omega) (by omega) (by omega) (by omega) A (by omega) _) ?_
  rw [XX,hn]
  grind
end Go.Sh
namespace Go.Sh
open Go Go.Proofs
def Q2 (b:List Int):List Bool:=b.flatMap fun x => Za x.toNat 8
theorem Xc:∀ b:List Int,(Q2 b).length = 8 * b.length
 | [] => rfl
 | a :: b => by
  have:=Xc b
  unfold Q2 at this ⊢
  rw [Hn,QZ,Zc,this,JF]; omega
theorem Zhw (a:Int) (b:List Int):Q2 (a :: b) = Za a.toNat 8 ++ Q2 b:=by unfold Q2; rw [Hn]
theorem ZuQ (a b:List Int):Q2 (a ++ b) = Q2 a ++ Q2 b:=by unfold Q2; rw [Em]
theorem Zpc:∀ (b:List Int) (i:Nat),(Q2 b).drop (8 * i) = Q2 (b.drop i)
 | b,0 => rfl
 | [],i + 1 => by simp [Q2]
 | a :: b,i + 1 => by
  rw [List.drop_succ_cons,Zhw,El,Zc,UF (by rw [Zc]; omega),VS,show 8 * (i + 1) - 8 = 8 * i by omega]
  exact Zpc b i
theorem Zpd (n:Nat):∀ (w i:Nat) (h:i < (Za n w).length),(Za n w)[i] = n.testBit (w - 1 - i)
 | w + 1,0,_ => by simp [Za]
 | w + 1,i + 1,h => by
  simp only [Za,Ez]
  rw [Zpd n w i (by simpa [Za] using h)]
  congr 1
  omega
theorem ZsC {b:List Int} {i:Nat} (h:i < 8 * b.length):(Q2 b)[i]'(by rw [Xc]; exact h) = (b[i / 8]'(by omega)).toNat.testBit (7 - i % 8):=by
 have h1:i / 8 < b.length:=by omega
 have h2:(Q2 b)[i]'(by rw [Xc]; exact h) = (Q2 (b.drop (i / 8)))[i % 8]'(by rw [Xc,Vh]; omega):=by
  simp only [← Zpc,List.getElem_drop]
  congr 1
  omega
 rw [h2]
 have h3:b.drop (i / 8) = b[i / 8] :: b.drop (i / 8 + 1):=List.drop_eq_getElem_cons h1
 simp only [h3,Zhw]
 rw [Ey (by rw [Zc]; omega),Zpd]
def ZTT (b:List Int) (r:List Bool):Nat:=8 * b.length - r.length
def Zdf (b:List Int) (r:List Bool):Prop:=r <:+ Q2 b
theorem Zdf.len {b:List Int} {r:List Bool} (h:Zdf b r):r.length ≤ 8 * b.length:=by
 have:=h.length_le
 rwa [Xc] at this
theorem Zdf.eq {b:List Int} {r:List Bool} (h:Zdf b r):r = (Q2 b).drop (ZTT b r):=by
 have:=List.suffix_iff_eq_drop.1 h
 unfold ZTT
 rwa [Xc] at this
theorem Zdf.drop {b:List Int} {r:List Bool} (h:Zdf b r) (i:Nat):Zdf b (r.drop i):=(List.drop_suffix i r).trans h
theorem Zdf.get {b:List Int} {r:List Bool} (h:Zdf b r) {i:Nat} (hi:i < r.length):(Q2 b)[ZTT b r + i]'(by have:=h.len; rw [Xc]; unfold ZTT; omega) = r[i]:=by
 have:=h.eq
 grind
def ZU6 (l:List Bool):Nat:=l.foldl (fun a b => 2 * a + b.toNat) 0
def ZXf (w:Nat) (r:List Bool):Nat × Int × List Bool:=if w ≤ r.length then (ZU6 (r.take w),0,r.drop w) else (0,10,r)
end Go.Sh
namespace Go.Sh
open Go Go.Proofs
abbrev IS:=List Bool × Int
def gI (w:Nat) (s:IS):Nat × IS:=if s.2 = 0 then ((ZXf w s.1).1,(ZXf w s.1).2.2,(ZXf w s.1).2.1) else (0,s)
def mI (ok:Bool) (s:IS) (code:Int):IS:=if s.2 = 0 ∧ ok = false then (s.1,code) else s
end Go.Sh
namespace Go.Sh
open Go Go.Proofs
def hd1 (s:IS):IS:=mI ((gI 15 s).1 == 32764) (gI 15 s).2 11
def hd2 (s:IS):IS:=mI ((gI 1 s).1 == 0) (gI 1 s).2 2
def hd6 (kind:Nat) (s:IS):Nat × IS:=if s.2 = 0 then ((gI (8 * (kind - 5)) s).1 + 1,mI (decide ((gI (8 * (kind - 5)) s).1 + 1 ≤ 512)) (gI (8 * (kind - 5)) s).2 1) else (0,s)
end Go.Sh
namespace Go.Sh
open Go Go.Proofs
def Sm (ch:List (List Int)):Prop:=ch.length ≤ 1048576 ∧ ∀ l ∈ ch,l.length ≤ 1048576
theorem ZKG:∀ (a b c d e f g h:Bool) (j:Fin 8),(a.toNat * 128 + b.toNat * 64 + c.toNat * 32 + d.toNat * 16 + e.toNat * 8 + f.toNat * 4 + g.toNat * 2 + h.toNat).testBit (7 - j.val) = [a,b,c,d,e,f,g,h].getD j.val false:=by decide +kernel
theorem ZHq (f:Nat → Bool) {j:Nat} (hj:j < 8):(XL f).testBit (7 - j) = f j:=by
 have:=ZKG (f 0) (f 1) (f 2) (f 3) (f 4) (f 5) (f 6) (f 7) ⟨j,hj⟩
 simp only at this
 unfold XL
 rw [this]
 match j,hj with
 | 0,_ => rfl
 | 1,_ => rfl
 | 2,_ => rfl
 | 3,_ => rfl
 | 4,_ => rfl
 | 5,_ => rfl
 | 6,_ => rfl
 | 7,_ => rfl
theorem ZBh {B:List Bool} (h:B.length % 8 = 0):Q2 (ZE B) = B:=by
 have hl:(ZE B).length = B.length / 8:=by rw [Z5]; omega
 apply HZ
 ·rw [Xc,hl]; omega
 ·intro i h1 h2
  rw [ZsC (by rw [hl]; omega),Xw,Ui]
  unfold Q7
  rw [ZHq _ (UY _ (by omega)),show 8 * (i / 8) + i % 8 = i by omega,KW h2]
theorem ZKI:∀ x:Fin 256,XL (fun j => x.val.testBit (7 - j)) = x.val:=by decide +kernel
theorem Zia {b:List Int} (h:WV b = true):ZE (Q2 b) = b:=by
 apply HZ
 ·rw [Z5,Xc]; omega
 ·intro i h1 h2
  obtain ⟨x,hx,hxe⟩:=Zdl h h2
  rw [Xw,hxe]
  have:Q7 (Q2 b) i = XL (fun j => x.testBit (7 - j)):=by
   have key:∀ j,j < 8 → (Q2 b).getD (8 * i + j) false = x.testBit (7 - j):=by
    intro j hj
    rw [KW (by rw [Xc]; omega),ZsC (by omega)]
    have:(8 * i + j) / 8 = i:=by omega
    simp only [this,hxe,Ui]
    congr 1
    omega
   unfold Q7 XL
   simp only
   rw [key 0 (by omega),key 1 (by omega),key 2 (by omega),key 3 (by omega),key 4 (by omega),key 5 (by omega),key 6 (by omega),key 7 (by omega)]
  rw [this]
  have:=ZKI ⟨x,hx⟩
  simp only at this
  rw [this]
theorem ZrA (B:List Bool):(WA B).length % 8 = 0 ∧ (WA B).length = B.length + ZbV B.length:=by
 unfold WA
 rw [JP,Uq]
 unfold ZbV
 omega
theorem ZBq (B:List Bool):(Xh B).length % 8 = 0 ∧ (Xh B).length = B.length + ZbV B.length + 16:=by
 have:=ZrA B
 unfold Xh
 rw [JP,Zc]
 omega
theorem Ym (c a w:Nat):Za c (a + w) = Za (c / 2 ^ w) a ++ Za c w:=by
 induction a with
 | zero => simp [Za]
 | succ a ih =>
  rw [show a + 1 + w = (a + w) + 1 by omega]
  simp only [Za,List.cons_append]
  rw [ih,Nat.testBit_div_two_pow]
theorem ZuW (B:List Bool):ZE (Xh B) = ZE (WA B) ++ [((Zba (ZE (WA B)) / 256:Nat):Int),((Zba (ZE (WA B)) % 256:Nat):Int)]:=by
 have hc:=Zpq (Y6 (WA B))
 generalize hC:Zba (ZE (WA B)) = c at hc
 have hb:WV (ZE (WA B) ++ [((c / 256:Nat):Int),((c % 256:Nat):Int)]) = true:=by
  refine Ve.2 fun x hx => ?_
  rcases Js.1 hx with hx | hx
  ·exact Ve.1 (Y6 (WA B)) x hx
  ·simp only [VL,List.mem_nil_iff,or_false] at hx
   rw [Jh,decide_eq_true_eq,decide_eq_true_eq]
   rcases hx with rfl | rfl <;> omega
 rw [← Zia hb,ZuQ,ZBh (ZrA B).1]
 unfold Xh
 rw [hC]
 congr 2
 simp only [Q2,Hn,List.flatMap_nil,Ui,Vf]
 rw [show (16:Nat) = 8 + 8 from rfl,Ym c 8 8,show (c % 256) = c % 2 ^ 8 from rfl,Zdi c 8 8 (by omega)]
end Go.Sh
namespace Go.Sh
open Go Go.Proofs
theorem ZKg (c d r n:Int) (ch:List (List Int)):(Za5 c d r n ch).1.length ≤ 5000:=by
 unfold Za5
 split
 ·rename_i h
  obtain ⟨hs,hn,hc,hlen,hsg⟩:=Zac h
  obtain ⟨hlay,_,_⟩:=Zxq h
  have h2:1 ≤ (ch.headD []).length ∧ (ch.headD []).length ≤ 512:=by
   have:0 < ch.length:=by omega
   match ch,this with
   | l :: _,_ => exact (hlen l (by simp)).2
  have h1:=Zdm hlay h2.1 h2.2 (by omega) (by omega)
  have h3:=ZbC (W8 ch).2.toNat n.toNat (ch.headD []).length
  have h4:=Zgi n.toNat
  have h5:=ZfS (ch.headD []).length
  have h6:=ZBq (YZ (W8 ch).2.toNat n.toNat (ch.headD []).length ++ WL (W8 ch).1 (Qr c d (W8 ch).2))
  have h7:ZbV (YZ (W8 ch).2.toNat n.toNat (ch.headD []).length ++ WL (W8 ch).1 (Qr c d (W8 ch).2)).length < 8:=by unfold ZbV; omega
  simp only
  rw [Z5]
  rw [JP] at h6 h7
  unfold YZ at h6 h7 ⊢
  rw [JP,Zc] at h6 h7
  omega
 ·simp
end Go.Sh
namespace Go.Sh
open Go Go.Proofs
def QX (ch:List (List Int)) (size i:Nat):List (List Int):=ch.map fun c => (c.take ((i + 1) * size)).drop (i * size)
def WY (n size:Nat):Nat:=(n + size - 1) / size
def Zq9 (c d r:Int) (ch:List (List Int)) (size i:Nat):List Int:=(Za5 c d r (i:Int) (QX ch size i)).1
def Zk3 (c d r:Int) (ch:List (List Int)) (size:Nat):List (List Int):=(List.range (WY (ch.getD 0 []).length size)).map (Zq9 c d r ch size)
theorem ZcV {n size i:Nat} (hs:1 ≤ size):i < WY n size ↔ i * size < n:=by
 unfold WY
 rw [Nat.lt_div_iff_mul_lt (by omega)]
 omega
theorem K5 {n size:Nat} (hs:16 ≤ size) (hn:n ≤ 4096):WY n size ≤ 256:=by
 rcases Nat.lt_or_ge 256 (WY n size) with h | h
 ·have:=(ZcV (by omega)).1 h
  omega
 ·exact h
theorem ZXv {d:Int} {x:Int} (hd:4 ≤ d) (h:Zha d x = true):Xe x d.toNat = true:=by
 unfold Zha at h
 unfold Xe
 grind
theorem Zyc {c d r:Int} {tags:List ByteArray} {ch:List (List Int)} (h0:chk c d r tags ch = 0) {size i:Nat} (hs:16 ≤ size ∧ size ≤ 512) (hi:i * size < (ch.getD 0 []).length):Yo c d r (i:Int) (QX ch size i) = 0:=by
 obtain ⟨hg,hshape,hsg,-,-⟩:=XM h0
 have hsh:=of_decide_eq_true hshape
 generalize (ch.getD 0 []).length = n at *
 have hlen:∀ x ∈ ch,((x.take ((i + 1) * size)).drop (i * size)).length = min size (n - i * size):=by
  intro x hx
  rw [Vh,Jz,hg.len x hx,Jg]; omega
 have hn4:=hg.n4
 have hi4:i ≤ 4096:=by
  have:i * 1 ≤ i * size:=EJ i (by omega)
  omega
 unfold Yo
 rw [if_neg (by rw [show ZbZ c d r = true from hshape]; simp),if_neg (by rw [show (QX ch size i).length = ch.length by simp [QX]]; have:=hg.cl; omega)]
 have hc1:=hg.c1.1
 have hhead:((QX ch size i).headD []).length = min size (n - i * size):=by
  match ch,hc1,hlen with
  | x :: l,_,hlen => exact hlen x (Jl ..)
 rw [hhead]
 have h1:(QX ch size i).all (KO (min size (n - i * size))) = true:=by
  rw [Ve]
  intro y hy
  obtain ⟨x,hx,rfl⟩:=VF.1 hy
  exact dTr ⟨hlen x hx,by omega,by omega⟩
 have h2:(QX ch size i).all (fun l => l.all fun x => Xe x d.toNat) = true:=by
  rw [Ve]
  intro y hy
  obtain ⟨x,hx,rfl⟩:=VF.1 hy
  rw [Ve]
  intro z hz
  exact ZXv (by omega) (Ve.1 (hsg x hx) z (JT (JS hz)))
 rw [h1,h2]
 rfl
section prog
variable {k:Nat} {c d r:Int} {tags:List ByteArray} {ch:List (List Int)}
theorem ZCV (hk:100 ≤ k) {n size i:Nat} (hg:Good0 c d ch n) (hs:16 ≤ size ∧ size ≤ 512) (hi:i * size < n) :
  Zv7 k (((c,d,r,()),tags,ch,()),(i:Int),(size:Int),()) = some (((i:Int),QX ch size i,()),()):=by
 have hn4:=hg.n4
 have hc2:=hg.c1.2
 have hi4:i ≤ 4096:=by
  have:i * 1 ≤ i * size:=EJ i (by omega)
  omega
 have key:=Qm (A:=Unit) (step:=fun L1 => Zaz k L1) (fun j _ => (UD ch.length,UD j,ch,(i:Int),(size:Int),(i:Int),(QX ch size i).take j,(0:Int))) ch (fun _ _ => some (((i:Int),QX ch size i,()),()))
  (fun L _ => by
   simp only [Zaz]
   rw [Zn (XJ _),Eg (by simp [QX])])
  (fun L j hj _ hL => by
   simp only [Zaz]
   have hl:=hg.len _ (Ha hj)
   have e1:Jx.wrap ((i:Int) * (size:Int)) = ((i * size:Nat):Int):=by rw [← HO,Zku (by omega)]
   have hq:(i + 1) * size ≤ 4096 + 512:=by rw [Jg]; omega
   have e2:Jx.wrap (Jx.wrap ((i:Int) + 1) * (size:Int)) = (((i + 1) * size:Nat):Int):=by rw [ZsA (by omega),← HO,Zku (by omega)]
   rw [Zb (W9 hj),Zb (QV hj),Zs hj,hl,e1,e2]
   have hqq:(i + 1) * size = i * size + size:=by rw [Jg]; omega
   have e3:(if UD n < (((i + 1) * size:Nat):Int) then UD n else (((i + 1) * size:Nat):Int)) = ((min n ((i + 1) * size):Nat):Int):=by
    simp_all <;> omega
   rw [e3,Zb (by simp only [QT]; omega)]
   simp only [Yi]
   have e4:UN (i * size) (UO (min n ((i + 1) * size)) ch[j]) = (QX ch size i)[j]'(by simp [QX]; exact hj):=by
    grind [QX]
   simp only [e4]
   rw [Zb (by rw [Jz]; simp; omega),ZL hj (by omega)]
   simp_all) k 0 () (by omega) (by omega)
 exact key
theorem ZdN (hk:16777216 ≤ k) (hS:Small tags ch) (s:Int):Zoy k (((c,d,r,()),tags,ch,()),s,()) =
  if chk c d r tags ch = 0 then (if 16 ≤ s ∧ s ≤ 512 then some ((Zk3 c d r ch s.toNat,0,()),()) else some (([],1,()),())) else some (([],chk c d r tags ch,()),()):=by
 show ZdM k _ _ = _
 simp only [ZdM]
 rw [Zp1 hk hS]
 simp only [Z9]
 by_cases h0:chk c d r tags ch = 0
 ·rw [if_pos h0,h0,ZU,Zn (by simp)]
  by_cases h1:s < 16
  ·rw [Zb h1,if_neg (by omega)]
  rw [Zn h1]
  by_cases h2:512 < s
  ·rw [Zb h2,if_neg (by omega)]
  rw [Zn h2,if_pos (by omega)]
  obtain ⟨size,rfl⟩:=Vp (show 0 ≤ s by omega)
  have hs:16 ≤ size ∧ size ≤ 512:=by omega
  obtain ⟨hg,-⟩:=XM h0
  have hn4:=hg.n4
  generalize hn:(ch.getD 0 []).length = n at hg hn4
  have hfr:=K5 hs.1 hn4
  have key:=Zi (A:=List (List Int)) (step:=fun L1 => Zaq k L1) (fun i a => (UD i,(size:Int),c,d,r,tags,ch,a)) (List.range (WY n size))
   (fun rest a => some ((a ++ rest.map (Zq9 c d r ch size),0,()),())) (fun i a => a.length = i)
   (fun L a _ => by
    simp only [Zaq,U7]
    rw [XX,hn]
    simp only [Z9]
    have hge:n ≤ WY n size * size:=by
     have:=(ZcV (n:=n) (i:=WY n size) (by omega:1 ≤ size)).2
     omega
    have hle:WY n size * size ≤ 256 * 512:=J3 hfr hs.2
    rw [show UD (WY n size) * (size:Int) = ((WY n size * size:Nat):Int) by simp,Zku (by omega),Zn (by simp only [QT]; omega)]
    simp)
   (fun L i hi a hI hL => by
    rw [U7] at hi
    have hlt:=(ZcV (by omega:1 ≤ size)).1 hi
    simp only [Zaq]
    rw [XX,hn]
    simp only [Z9]
    rw [show UD i * (size:Int) = ((i * size:Nat):Int) by simp,Zku (by omega),Zb (by simp only [QT]; omega)]
    rw [show UD i = (i:Int) from rfl,ZCV (by omega) hg hs hlt]
    simp only [Z9]
    refine (Zl (ZLV k (by omega) c d r (i:Int) (QX ch size i)) _).trans ?_
    have hck:=Zyc h0 (size:=size) (i:=i) hs (by rw [hn]; exact hlt)
    have he:(Za5 c d r (i:Int) (QX ch size i)).2 = 0:=by unfold Za5; rw [if_pos hck]
    simp only [he]
    rw [ZU,Zn (by simp),Zb (by simp; omega),show Jx.wrap ((i:Int) + 1) = UD (i + 1) from ZL hi (by omega)]
    refine U4 (hL (a ++ [Zq9 c d r ch size i]) (by simp [hI])) ?_
    simp_all)
   k 0 [] rfl (by rw [U7]; omega) (by omega)
  rw [U5,VS] at key
  refine U4 key ?_
  simp only [Yi,Zk3,hn]
 ·rw [if_neg h0,ZU,Zb h0]
end prog
end Go.Sh
namespace Go.Sh
open Go Go.Proofs
theorem Zma {α:Type} {l:List (List α)} {i:Nat} (hi:i < l.length):(l.take (i + 1)).flatten = (l.take i).flatten ++ l[i]:=by
 rw [EH hi,Vq]; simp
theorem Zd4 {α:Type} {l:List (List α)} (i:Nat):(l.take i).flatten.length ≤ l.flatten.length:=by
 conv => rhs; rw [← EG i l,Vq,QZ]
 omega
section prog
variable {k:Nat} {c d r:Int} {tags:List ByteArray} {ch:List (List Int)}
theorem Zqi {ll:List (List Int)} (hk:ll.length < k) (hl:ll.length < 1000000) (hs:ll.flatten.length < 2000000000):ZoF k (ll,()) = some (ll.flatten,()):=by
 show ZdT k (ZjE k) _ = _
 simp only [ZdT]
 have key2:=Qm (A:=Unit) (step:=fun L2 => ZaD k L2) (fun i _ => (UD ll.length,UD i,ll,(ll.take i).flatten)) ll (fun _ _ => some (ll.flatten,()))
  (fun L _ => by
   grind [ZaD])
  (fun L i hi _ hL => by
   simp only [ZaD]
   have h1:=Zma hi
   have h2:=Zd4 (l:=ll) (i + 1)
   rw [h1,QZ] at h2
   rw [Zb (W9 hi),Zb (QV hi),Zs hi,Zb (by omega),ZL hi (by omega),← h1]
   exact hL ()) k 0 () (by omega) (by omega)
 have key1:=Qm (A:=Unit) (step:=fun L1 => ZaC k (ZjF k) L1) (fun i _ => (UD ll.length,UD i,ll,(((ll.take i).flatten.length:Nat):Int),ll)) ll (fun _ _ => some (ll.flatten,()))
  (fun L _ => by
   simp only [ZaC]
   rw [Zn (XJ _),Ea]
   have:ZoJ k (Value.slice none 0 0,((ll.flatten.length:Nat):Int),()) = some ([],()):=by
    show ZAu _ = _
    unfold ZAu
    simp only
    rw [ZQl (by omega) (by omega)]
    rfl
   rw [this]
   simp only [Z9]
   exact key2)
  (fun L i hi _ hL => by
   simp only [ZaC]
   have h1:=Zma hi
   have h2:=Zd4 (l:=ll) (i + 1)
   rw [h1,QZ] at h2
   have e:Jx.wrap ((((ll.take i).flatten.length:Nat):Int) + UD ll[i].length) = (((ll.take (i + 1)).flatten.length:Nat):Int):=by
    rw [h1,QZ,ZK (by simp only [QT]; omega)]; simp
   rw [Zb (W9 hi),Zb (QV hi),Zs hi,e,Zn (by omega),ZL hi (by omega)]
   exact hL ()) k 0 () (by omega) (by omega)
 exact key1
def Zhh (c d r:Int) (ch:List (List Int)) (size:Nat):List Nat:=(Zk3 c d r ch size).map UK
theorem ZeH (c d r:Int) (ch:List (List Int)) (size:Nat):(Zk3 c d r ch size).length = WY (ch.getD 0 []).length size:=by simp [Zk3]
theorem ZhC {c d r:Int} {ch:List (List Int)} {size:Nat}:∀ x ∈ Zk3 c d r ch size,x.length ≤ 5000:=by
 intro x hx
 obtain ⟨i,_,rfl⟩:=VF.1 hx
 exact ZKg _ _ _ _ _
theorem ZAA {c d r:Int} {ch:List (List Int)} {size n:Nat} (hs:16 ≤ size ∧ size ≤ 512) (hn:(ch.getD 0 []).length = n) (hn4:n ≤ 4096):Lens size n (Zhh c d r ch size) where
 sz:=hs
 len:=by
  have:=K5 hs.1 hn4
  simp only [Zhh,Ed,ZeH,hn]; omega
 small:=by
  intro x hx
  obtain ⟨y,hy,rfl⟩:=VF.1 hx
  have:=ZhC y hy
  omega
 in_:=by
  intro i hi
  simp only [Zhh,Ed,ZeH,hn] at hi
  have:=(ZcV (by omega:1 ≤ size)).1 hi
  omega
theorem Zxk {α:Type} {B:Nat}:∀ {l:List (List α)},(∀ x ∈ l,x.length ≤ B) → l.flatten.length ≤ l.length * B
 | [],_ => by simp
 | x :: l,h => by
  have h1:=h x (Jl ..)
  have h2:=Zxk fun y hy => h y (Jn _ hy)
  rw [J1,QZ,JF,Jg]; omega
noncomputable def Zue (d r:Nat) (tags:List ByteArray) (ch:List (List Int)) (size:Nat) (lens:List Nat):List Int:=ZE (ZeA d r tags ch size lens)
noncomputable def Zgk (c d r:Int) (tags:List ByteArray) (ch:List (List Int)) (size:Nat):List Int:=Zue d.toNat r.toNat tags ch size (Zhh c d r ch size) ++ (Zk3 c d r ch size).flatten
theorem Zo4 {d r:Nat} {tags:List ByteArray} {ch:List (List Int)} {size:Nat} {lens:List Nat} (hT:Tg tags) (hl:lens.length ≤ 300):(ZeA d r tags ch size lens).length ≤ 60000:=by
 have hti:(Zm2 ch.length d r size (ch.getD 0 []).length (Yh lens) (Yg lens)).length = 208:=by
  simp [Zm2,WH,Y7,Zc,XI]
 have htt:(Zga size (ch.getD 0 []).length lens).length ≤ 144 * 300 + 32:=by
  unfold Zga
  split
  ·rw [QZ,Y7,ZrW]; omega
  ·simp
 have htg:(Zsy tags).length ≤ tags.length * 128:=by
  unfold Zsy
  have:∀ (l:List ByteArray),(∀ t ∈ l,t.size ≤ 12) → (l.flatMap fun t => YH (K6 t.size 4) ++ YH (WO t)).length ≤ l.length * 128:=by
   intro l
   induction l with
   | nil => intro _; simp
   | cons x l ih =>
    intro h
    have h1:=h x (Jl ..)
    have h2:=ih fun t ht => h t (Jn _ ht)
    rw [Hn,QZ,QZ,WH,WH,QJ,Y5,JF,Jg]; omega
  exact this tags hT.2
 have h8:=hT.1
 unfold ZeA XN
 simp only [QZ,hti,WH,Zda,Y7,QJ,ZbL,JF,H2]
 omega
theorem ZhM (hk:16777216 ≤ k) (hS:Small tags ch) (s:Int):ZvY k (((c,d,r,()),tags,ch,()),s,()) =
  if chk c d r tags ch = 0 then (if 16 ≤ s ∧ s ≤ 512 then some ((Zgk c d r tags ch s.toNat,0,()),()) else some (([],1,()),())) else some (([],chk c d r tags ch,()),()):=by
 show ZdP k (Zjh k) _ = _
 simp only [ZdP]
 rw [ZdN hk hS]
 by_cases h0:¬ chk c d r tags ch = 0
 ·grind
 have h0:=Decidable.not_not.1 h0
 rw [if_pos h0,if_pos h0]
 by_cases hs:¬ (16 ≤ s ∧ s ≤ 512)
 ·rw [if_neg hs,if_neg hs]; rfl
 have hs:=Decidable.not_not.1 hs
 rw [if_pos hs,if_pos hs]
 simp only [Z9]
 rw [ZU,Zn (by simp)]
 obtain ⟨size,rfl⟩:=Vp (show 0 ≤ s by omega)
 have hs2:16 ≤ size ∧ size ≤ 512:=by omega
 obtain ⟨hg,hshape,-,htv,ht8⟩:=XM h0
 have hT:=Good0.tg htv ht8
 have hsh:=of_decide_eq_true hshape
 obtain ⟨dn,rfl⟩:=Vp (show 0 ≤ d by omega)
 obtain ⟨rn,rfl⟩:=Vp (show 0 ≤ r by omega)
 have hcl:=hg.cl
 subst hcl
 have hn4:=hg.n4
 have hLn:=ZAA (c:=(ch.length:Int)) (d:=(dn:Int)) (r:=(rn:Int)) hs2 rfl hn4
 simp only [Yi]
 generalize hC:Zk3 (ch.length:Int) (dn:Int) (rn:Int) ch size = C
 have hCl:C.length ≤ 256:=by rw [← hC,ZeH]; exact K5 hs2.1 hn4
 have hCs:∀ x ∈ C,x.length ≤ 5000:=by rw [← hC]; exact ZhC
 have hCf:=Zxk hCs
 have hlen:Zhh (ch.length:Int) (dn:Int) (rn:Int) ch size = C.map UK:=by unfold Zhh; rw [hC]
 have key:=Zi (A:=List Nat) (step:=fun L1 => Zas k L1) (fun i a => (UD C.length,UD i,C,(size:Int),C,Zh a,(ch.length:Int),(dn:Int),(rn:Int),tags,ch)) C
  (fun rest a => some ((Zue dn rn tags ch size (a ++ rest.map UK) ++ C.flatten,0,()),())) (fun i a => a = (C.take i).map UK)
  (fun L a hI => by
   simp only [Zas]
   rw [Ea] at hI
   rw [Zn (XJ _),hI,← hlen,ZC3 hk h0 hS hLn]
   simp only [Z9]
   rw [Zqi (by omega) (by omega) (by omega)]
   simp only [Z9]
   have hal:=Zo4 (d:=dn) (r:=rn) (ch:=ch) (size:=size) hT hLn.len
   have hpl:(ZE (ZeA dn rn tags ch size (Zhh (ch.length:Int) (dn:Int) (rn:Int) ch size))).length ≤ 10000:=by rw [Z5]; omega
   rw [Zqi (by simp; omega) (by simp) (by grind)]
   simp only [Z9,J1,List.flatten_nil,Vf,VD,Zue])
  (fun L i hi a hI hL => by
   simp only [Zas]
   have hal:a.length ≤ 256:=by grind
   rw [Zb (W9 hi),Zb (QV hi),Zs hi,ZB,Zb (by simp; omega),ZL hi (by omega)]
   rw [show Zh a ++ [UD C[i].length] = Zh (a ++ [C[i].length]) by rw [QC]; rfl]
   refine U4 (hL (a ++ [C[i].length]) (by rw [hI,EH hi,EC]; rfl)) ?_
   grind)
  k 0 [] (by simp) (by omega) (by omega)
 rw [U5,VS,← hlen] at key
 refine U4 key ?_
 unfold Zgk
 rw [hC]
 rfl
end prog
end Go.Sh
namespace Go.Sh
open Go Go.Proofs
theorem KH {A X:List Bool} (h:A.length % 8 = 0):ZE (A ++ X) = ZE A ++ ZE X:=by
 have hA:(ZE A).length = A.length / 8:=by rw [Z5]; omega
 apply HZ
 ·rw [JP,Z5,Z5,Z5,JP]; omega
 ·intro i h1 h2
  rw [Xw]
  by_cases hi:i < (ZE A).length
  ·rw [Ey hi,Xw]
   congr 1
   unfold Q7 XL
   have:∀ j,j < 8 → (A ++ X).getD (8 * i + j) false = A.getD (8 * i + j) false:=by
    intro j hj
    simp only [VR]
    rw [List.getElem?_append_left (by omega)]
   simp only []
   rw [this 0 (by omega),this 1 (by omega),this 2 (by omega),this 3 (by omega),this 4 (by omega),this 5 (by omega),this 6 (by omega),this 7 (by omega)]
  ·rw [List.getElem_append_right (by omega),Xw]
   congr 1
   unfold Q7 XL
   have:∀ j,j < 8 → (A ++ X).getD (8 * i + j) false = X.getD (8 * (i - (ZE A).length) + j) false:=by
    intro j hj
    simp only [VR]
    rw [List.getElem?_append_right (by omega)]
    congr 2
    omega
   simp only []
   rw [this 0 (by omega),this 1 (by omega),this 2 (by omega),this 3 (by omega),this 4 (by omega),this 5 (by omega),this 6 (by omega),this 7 (by omega)]
end Go.Sh
namespace Go.Sh
open Go Go.Proofs
def ch1 (b:Bool):UInt8:=if b then 49 else 48
def Xz (bs:List Bool):ByteArray:=⟨(bs.map ch1).toArray⟩
theorem ZkO (bs:List Bool):(Xz bs).data.toList = bs.map ch1:=by simp [Xz]
theorem Zo (bs:List Bool):(Xz bs).size = bs.length:=by rw [← QY,ZkO,Ed]
theorem Zu (a b:List Bool):Xz a ++ Xz b = Xz (a ++ b):=by
 apply Zhv
 simp [Xz]
theorem Zgc (bs:List Bool) (i j:Nat):(Xz bs).extract i j = Xz ((bs.take j).drop i):=by
 apply Zhv
 rw [ZkO,ByteArray.data_extract]
 simp [Xz,List.extract]
 rw [List.drop_take]
theorem Za4:UJ #[] = Xz [] ∧ UJ #[48] = Xz [false] ∧ UJ #[49] = Xz [true] ∧ UJ #[48,48] = Xz [false,false] ∧ UJ #[48,48,48,48] = Xz [false,false,false,false] ∧ UJ #[49,48] = Xz [true,false] ∧
  UJ #[49,49,49,49,49,49,49,49] = Xz (Jd 8 true):=⟨rfl,rfl,rfl,rfl,rfl,rfl,rfl⟩
def KP (bs:List Bool):List Int:=bs.map fun b => if b then 49 else 48
theorem Zrp (bs:List Bool):UJ (UT (fun (n:Int) => UU n.toNat) (KP bs)).toArray = Xz bs:=by
 unfold KP Xz
 rw [VY]
 congr 2
 apply ED
 intro b _
 cases b <;> rfl
theorem Zyb (n w:Nat):Za n (w + 1) = Za (n / 2) w ++ [n.testBit 0]:=by
 have:=Ym n w 1
 rw [Nat.pow_one] at this
 rw [this]
 rfl
theorem ZU8:∀ m:Fin 2,UD ((UJ #[48,49]).data.toList.getD m.val 0).toNat = if m.val = 1 then 49 else 48:=by decide
theorem ZN4 (k:Nat):∀ (j m n:Nat) (suf:List Int),j < m → j + suf.length < 4294967296 → n < 9223372036854775808 →
  Ze (fun L1 => Zj3 k L1) m ((j:Int) - 1,(n:Int),Jd j 0 ++ suf) = some (UJ (UT (fun (n:Int) => UU n.toNat) (KP (Za n j) ++ suf)).toArray,()):=by
 intro j
 induction j with
 | zero =>
  intro m n suf hm hl hn
  obtain ⟨m,rfl⟩:=Zt hm
  rfl
 | succ j ih =>
  intro m n suf hm hl hn
  obtain ⟨m,rfl⟩:=Zt (show 0 < m by omega)
  rw [Zd]
  simp only [Zj3]
  have e0:((j + 1:Nat):Int) - 1 = (j:Int):=by omega
  have e1:((n:Int)).tmod 2 = ((n % 2:Nat):Int):=by rfl
  have e2:((n:Int)).tdiv 2 = ((n / 2:Nat):Int):=by rfl
  have hlen:(Jd (j + 1) (0:Int) ++ suf).length = j + 1 + suf.length:=by simp
  rw [e0,e1,e2,Zb (by omega),Zb (by omega),Zb (by grind),Zb (by rw [hlen,Ui]; omega)]
  have h2:n % 2 < 2:=UY _ (by omega)
  have ht:=ZU8 ⟨n % 2,h2⟩
  simp only at ht
  rw [Ui,Ui,ht,ZK (n:=(j:Int) - 1) (by omega),ZK (n:=((n / 2:Nat):Int)) (by omega)]
  have hset:(Jd (j + 1) (0:Int) ++ suf).set j (if n % 2 = 1 then 49 else 48) = Jd j 0 ++ ((if n % 2 = 1 then 49 else 48) :: suf):=by
   rw [EE (n:=j),Ju,EF _ _ (by simp)]
   simp
  have key:KP (Za n (j + 1)) ++ suf = KP (Za (n / 2) j) ++ ((if n % 2 = 1 then 49 else 48) :: suf):=by
   rw [Zyb]
   unfold KP
   simp_all
  rw [hset,ih m (n / 2) _ (by omega) (by simp; omega) (by omega),key]
theorem Qi (k n w:Nat) (hk:w < k) (hw:w < 4294967296) (hn:n < 9223372036854775808):Qy k ((n:Int),(w:Int),()) = some (Xz (Za n w),()):=by
 show Zj2 k (Zwv k) _ = _
 simp only [Zj2]
 rw [Zb (by omega),ZK (n:=(w:Int) - 1) (by omega),Ui]
 have:=ZN4 k w k n [] hk (by simpa using hw) hn
 rw [Vf,Vf,Zrp] at this
 exact this
def Zhg (f:Nat → Bool):Nat → Nat
 | 0 => 0
 | j + 1 => 2 * Zhg f j + (f j).toNat
theorem ZYL (f:Nat → Bool):Zhg f 8 = XL f:=by
 simp only [Zhg,XL]
 omega
theorem ZGL (f:Nat → Bool):∀ j,Zhg f j < 2 ^ j
 | 0 => by simp [Zhg]
 | j + 1 => by
  have:=ZGL f j
  simp only [Zhg,HS]
  cases f j <;> simp <;> omega
theorem ZRl (b:Bool):Jx.wrap (IntKind.u8.wrap (UD (ch1 b).toNat - 48)) = ((b.toNat:Nat):Int):=by cases b <;> rfl
theorem ZJt (k:Nat) (L1:Int × ByteArray × List Int → Option (List Int × Unit)) (bs:List Bool) (hb:bs.length ≤ 4000000000) (i:Nat) (hi:i ≤ 4000000000) (out:List Int) (ho:out.length < 1000000000):∀ (d m j:Nat),j + d = 8 → d < m →
  Ze (fun L2 => Zfl k L1 L2) m (((i + j:Nat):Int),(i:Int),((Zhg (fun j => bs.getD (i + j) false) j:Nat):Int),Xz bs,out) = L1 (((i + 8:Nat):Int),Xz bs,out ++ [((XL (fun j => bs.getD (i + j) false):Nat):Int)]):=by
 intro d
 induction d with
 | zero =>
  intro m j hj hm
  obtain ⟨m,rfl⟩:=Zt hm
  obtain rfl:j = 8:=by omega
  rw [Zd]
  simp only [Zfl]
  have hlt:=Zpj (fun j => bs.getD (i + j) false)
  rw [ZK (n:=(i:Int) + 8) (by omega),Zn (by omega),Zb (by grind),ZYL,wu8 (by omega)]
  rfl
 | succ d ih =>
  intro m j hj hm
  obtain ⟨m,rfl⟩:=Zt (show 0 < m by omega)
  rw [Zd]
  simp only [Zfl]
  have hlt:=ZGL (fun j => bs.getD (i + j) false) j
  have h8:2 ^ j ≤ 2 ^ 8:=He (by omega) (by omega)
  have e2:Jx.wrap (((i + j:Nat):Int) + 1) = ((i + (j + 1):Nat):Int):=by rw [ZK (by omega)]; omega
  rw [ZK (n:=(i:Int) + 8) (by omega),Zb (by omega),Zo,e2]
  generalize hv:Zhg (fun j => bs.getD (i + j) false) j = v at hlt
  by_cases hb2:i + j < bs.length
  ·rw [Zb (by simp only [H7]; omega),Zb (by simp only [H7]; omega),Ui,ZkO]
   have hg:(bs.map ch1).getD (i + j) 0 = ch1 (bs.getD (i + j) false):=by
    simp_all
   have hbt:(bs.getD (i + j) false).toNat ≤ 1:=by cases bs.getD (i + j) false <;> decide
   rw [hg,ZRl,ZK (n:=2 * (v:Int)) (by omega),ZK (by omega)]
   have:=ih m (j + 1) (by omega) (by omega)
   simp_all [Zhg,hv]
  ·rw [Zn (by simp only [H7]; omega),ZK (n:=2 * (v:Int)) (by omega)]
   have hg:bs.getD (i + j) false = false:=by simp_all
   have:=ih m (j + 1) (by omega) (by omega)
   simp_all [Zhg,hv,hg,Bool.toNat_false,JH]
theorem ZcL (k:Nat) (bs:List Bool) (hk:bs.length + 100 < k) (hb:bs.length ≤ 3000000000):ZmU k (Xz bs,()) = some (ZE bs,()):=by
 show Zj6 k (ZwC k) _ = _
 simp only [Zj6]
 have H:∀ (d m q:Nat) (out:List Int),q + d = (bs.length + 7) / 8 → d < m → out = (ZE bs).take q →
   Ze (fun L1 => ZcK k (ZqO k L1) L1) m (((8 * q:Nat):Int),Xz bs,out) = some (ZE bs,()):=by
  intro d
  induction d with
  | zero =>
   intro m q out hq hm ho
   obtain ⟨m,rfl⟩:=Zt hm
   rw [Zd]
   simp only [ZcK]
   rw [Zo,Zn (by simp only [H7]; omega),ho,Eg (by rw [Z5]; omega)]
  | succ d ih =>
   intro m q out hq hm ho
   obtain ⟨m,rfl⟩:=Zt (show 0 < m by omega)
   rw [Zd]
   simp only [ZcK]
   rw [Zo,Zb (by simp only [H7]; omega)]
   have hol:out.length = q:=by rw [ho,Jz,Z5]; omega
   have:=ZJt k (Ze (fun L1 => ZcK k (ZqO k L1) L1) m) bs (by omega) (8 * q) (by omega) out (by omega) 8 k 0 (by omega) (by omega)
   refine U4 this ?_
   rw [show 8 * q + 8 = 8 * (q + 1) by omega]
   refine ih m (q + 1) _ (by omega) (by omega) ?_
   rw [Eo,VN (by rw [Z5]; omega),Xw,ho]
   rfl
 exact H ((bs.length + 7) / 8) k 0 [] (by omega) (by omega) (by simp)
theorem ZJM (bs:List Bool):UT (fun (b:UInt8) => UD b.toNat) (Xz bs).data.toList = KP bs:=by
 rw [ZkO,VY]
 unfold KP
 apply ED
 intro b _
 cases b <;> rfl
theorem ZN8 (k:Nat) {b:List Int} (hb:WV b = true) (hk:b.length + 100 < k) (hn:b.length ≤ 100000000):ZN5 k (b,()) = some (Xz (Q2 b),()):=by
 show Zj4 k (Zwx k) _ = _
 simp only [Zj4]
 have e1:Jx.wrap ((8:Int) * UD b.length) = ((8 * b.length:Nat):Int):=by simp only [H7]; rw [ZK (by omega)]; omega
 rw [e1,Zb (by omega)]
 have:=Zi (A:=List Bool) (R:=ByteArray × Unit) (step:=fun L1 => Zfj k L1) (fun i a => (UD i,b,KP a)) b
  (fun l' a => some (Xz (a ++ Q2 l'),())) (fun i a => a.length = 8 * i)
  (fun L a _ => by
   simp only [Zfj]
   rw [Zn (XJ _),Zrp]
   simp [Q2])
  (fun L i hi a ha hL => by
   simp only [Zfj]
   obtain ⟨x,hx,hxe⟩:=Zdl hb hi
   rw [Zb (W9 hi),Zb (QV hi),Zs hi,hxe,ZK (n:=(x:Int)) (by omega)]
   have e35:=Qi k x 8 (by omega) (by omega) (by omega)
   refine (Zl e35 _).trans ?_
   simp only
   rw [ZJM,Zb (by unfold KP; rw [Ed,Ed,Zc]; omega),ZL hi (by omega)]
   have e2:KP a ++ KP (Za x 8) = KP (a ++ Za x 8):=by unfold KP; rw [EC]
   rw [e2,hL (a ++ Za x 8) (by rw [JP,Zc]; omega),Zhw,Ui,Ju])
  k 0 [] (by simp) (by omega) (Ht _)
 rw [U5,VS] at this
 exact this
end Go.Sh
namespace Go.Sh
open Go Go.Proofs
def Xj (s p r:Nat) (b:Bool):Nat:=if (r / 2 ^ (s - 1) % 2 + b.toNat) % 2 = 1 then (2 * r % 2 ^ s) ^^^ p else 2 * r % 2 ^ s
theorem Zpu {s p r:Nat} {b:Bool} (hp:p < 2 ^ s):Xj s p r b < 2 ^ s:=by
 have h:2 * r % 2 ^ s < 2 ^ s:=UY _ (Hq (by omega))
 unfold Xj
 split
 ·exact Nat.xor_lt_two_pow h hp
 ·exact h
theorem ZJ6 {s p r j y:Nat} {b:Bool} (hs:j + 1 ≤ s) (hp:p < 2 ^ s) (hr:r < 2 ^ s) (hy:y < 2 ^ j) :
  ZeG s p (r ^^^ ((b.toNat * 2 ^ j + y) * 2 ^ (s - (j + 1)))) = Xj s p r b ^^^ (y * 2 ^ (s - j)):=by
 obtain ⟨t,rfl⟩:∃ t,s = j + 1 + t:=⟨s - (j + 1),by omega⟩
 have e1:j + 1 + t - (j + 1) = t:=by omega
 have e2:j + 1 + t - 1 = j + t:=by omega
 have e3:j + 1 + t - j = t + 1:=by omega
 unfold ZeG Xj
 rw [e1,e2,e3]
 have hw:(b.toNat * 2 ^ j + y) * 2 ^ t = b.toNat * 2 ^ (j + t) + y * 2 ^ t:=by grind
 have hyt:y * 2 ^ t < 2 ^ (j + t):=by rw [Nat.pow_add]; exact Nat.mul_lt_mul_of_pos_right hy (Hq (by omega))
 have hy2:y * 2 ^ (t + 1) = y * 2 ^ t * 2:=by rw [HS,Nat.mul_assoc]
 rw [hw,hy2]
 generalize y * 2 ^ t = z at hyt
 have hbz:b.toNat * 2 ^ (j + t) + z < 2 ^ (j + 1 + t):=by
  rw [show j + 1 + t = (j + t) + 1 by omega,HS]
  cases b <;> simp <;> omega
 have hxor:(r ^^^ (b.toNat * 2 ^ (j + t) + z)) / 2 ^ (j + t) % 2 = (r / 2 ^ (j + t) % 2 + b.toNat) % 2:=by
  have h1:(r ^^^ (b.toNat * 2 ^ (j + t) + z)).testBit (j + t) = (r.testBit (j + t) ^^ b):=by
   rw [Nat.testBit_xor]
   congr 1
   rw [Es]
   have:(b.toNat * 2 ^ (j + t) + z) / 2 ^ (j + t) = b.toNat:=by
    rw [Nat.mul_comm,Nat.mul_add_div (Hq (by omega)),Nat.div_eq_of_lt hyt,JH]
   rw [this]
   cases b <;> rfl
  grind
 have hlow:2 * (r ^^^ (b.toNat * 2 ^ (j + t) + z)) % 2 ^ (j + 1 + t) = (2 * r % 2 ^ (j + 1 + t)) ^^^ (z * 2):=by
  have d1:2 * (r ^^^ (b.toNat * 2 ^ (j + t) + z)) = (2 * r) ^^^ (2 * (b.toNat * 2 ^ (j + t) + z)):=by
   have:=Nat.shiftLeft_xor_distrib (a:=r) (b:=b.toNat * 2 ^ (j + t) + z) (i:=1)
   simp only [Nat.shiftLeft_eq,Nat.pow_one] at this
   grind
  rw [d1,Nat.xor_mod_two_pow]
  congr 1
  have h2:2 * (b.toNat * 2 ^ (j + t) + z) = b.toNat * 2 ^ (j + 1 + t) + z * 2:=by
   grind
  rw [h2,Nat.mul_comm,Nat.mul_add_mod,EI]
  grind
 rw [hxor,hlow]
 have hfin:∀ w:Nat,w < 2 → (2 * r % 2 ^ (j + 1 + t) ^^^ z * 2) ^^^ w * p = (if w = 1 then (2 * r % 2 ^ (j + 1 + t)) ^^^ p else 2 * r % 2 ^ (j + 1 + t)) ^^^ (z * 2):=by
  intro w hw
  match w,hw with
  | 0,_ => simp
  | 1,_ => grind
 exact hfin _ (UY _ (by omega))
theorem ZmJ {s p:Nat} (hp:p < 2 ^ s):∀ (j x r:Nat),j ≤ s → r < 2 ^ s → Zbb s p j (r ^^^ ((x % 2 ^ j) * 2 ^ (s - j))) = (Za x j).foldl (Xj s p) r
 | 0,x,r,_,hr => by simp [Zbb,Za,Nat.mod_one]
 | j + 1,x,r,hs,hr => by
  have hx:x % 2 ^ (j + 1) = (x.testBit j).toNat * 2 ^ j + x % 2 ^ j:=by
   rw [Nat.mod_pow_succ,Es]
   have h2:x / 2 ^ j % 2 < 2:=UY _ (by omega)
   generalize x / 2 ^ j % 2 = m at h2
   match m,h2 with
   | 0,_ => simp
   | 1,_ => simp; omega
  rw [hx]
  show Zbb s p j (ZeG s p _) = _
  rw [ZJ6 hs hp hr (UY _ (Hq (by omega))),ZmJ hp j x _ (by omega) (Zpu hp)]
  rfl
theorem Zyj {s p r x:Nat} (hs:8 ≤ s) (hp:p < 2 ^ s) (hr:r < 2 ^ s) (hx:x < 256):(Za x 8).foldl (Xj s p) r = Zbc s p r x:=by
 have:=ZmJ hp 8 x r hs hr
 rw [show x % 2 ^ 8 = x from EI hx] at this
 exact this.symm
theorem ZJv (k:Nat) {s p:Nat} (hs:8 ≤ s) (hs':s ≤ 16) (hp:p < 2 ^ s) (L1:Int × ByteArray × Int × Int × Int → Option (Int × Unit)) (S:ByteArray) {i x:Nat} (hi:i < S.size) (hx:(S.data.toList.getD i 0).toNat = x) (hn:S.size < 4294967296) :
  ∀ (j m r:Nat),j ≤ 8 → j < m → r < 2 ^ s →
  Ze (fun L2 => ZfB k L1 L2) m ((j:Int) - 1,(r:Int),(s:Int),S,(i:Int),(p:Int)) = L1 (((i + 1:Nat):Int),S,(((Za x j).foldl (Xj s p) r:Nat):Int),(s:Int),(p:Int)):=by
 have hxl:x < 256:=by rw [← hx]; exact (S.data.toList.getD i 0).toNat_lt
 have h16:2 ^ s ≤ 2 ^ 16:=He (by omega) hs'
 intro j
 induction j with
 | zero =>
  intro m r hj hm hr
  obtain ⟨m,rfl⟩:=Zt hm
  rw [Zd]
  simp only [ZfB]
  rw [Zn (by omega),ZK (n:=(i:Int) + 1) (by omega)]
  rfl
 | succ j ih =>
  intro m r hj hm hr
  obtain ⟨m,rfl⟩:=Zt (show 0 < m by omega)
  rw [Zd]
  simp only [ZfB]
  have e0:((j + 1:Nat):Int) - 1 = (j:Int):=by omega
  have e1:Jx.wrap ((s:Int) - 1) = ((s - 1:Nat):Int):=by rw [ZK (by omega)]; omega
  rw [e0,e1,Zb (by omega),Zb (by omega),Zb (by simp only [H7]; omega),Zb (by omega),Zb (by omega),Zby (by omega)]
  have hne:¬ ((2 ^ s:Nat):Int) = 0:=by
   omega
  rw [Zb hne]
  simp only [Ui,Hs (show s - 1 ≤ 64 by omega),Hs (show j ≤ 64 by omega),ZcT]
  have ebit:∀ v:Nat,v < 18446744073709551616 → Jx.wrap (UD (UH 64 (v:Int) &&& UH 64 1).toNat) = ((v % 2:Nat):Int):=by
   intro v hv
   rw [show (1:Int) = ((1:Nat):Int) from rfl,ZKs hv (by omega),Nat.and_one_is_mod,ZK (by omega)]
  have hd1:r / 2 ^ (s - 1) ≤ r:=Eb _ _
  have hd2:x / 2 ^ j ≤ x:=Eb _ _
  have ex:Jx.wrap (UD (S.data.toList.getD i 0).toNat) = (x:Int):=by rw [hx]; simp only [H7]; rw [ZK (by omega)]
  rw [ex,ZcT,ebit _ (by omega),ebit _ (by omega)]
  have m1:r / 2 ^ (s - 1) % 2 < 2:=UY _ (by omega)
  have m2:x / 2 ^ j % 2 < 2:=UY _ (by omega)
  have htb:x.testBit j = decide (x / 2 ^ j % 2 = 1):=Es
  have exor:Jx.wrap (UD (UH 64 ((r / 2 ^ (s - 1) % 2:Nat):Int) ^^^ UH 64 ((x / 2 ^ j % 2:Nat):Int)).toNat) = (((r / 2 ^ (s - 1) % 2 + (x.testBit j).toNat) % 2:Nat):Int):=by
   rw [htb]
   generalize r / 2 ^ (s - 1) % 2 = u at m1
   generalize x / 2 ^ j % 2 = v at m2
   match u,v,m1,m2 with
   | 0,0,_,_ => rfl
   | 0,1,_,_ => rfl
   | 1,0,_,_ => rfl
   | 1,1,_,_ => rfl
  have e2r:(Jx.wrap ((2:Int) * (r:Int))).tmod ((2 ^ s:Nat):Int) = ((2 * r % 2 ^ s:Nat):Int):=by
   rw [ZK (by omega),show (2:Int) * (r:Int) = ((2 * r:Nat):Int) from by push_cast; rfl,Ej (by omega)]
   rfl
  have ej:Jx.wrap ((j:Int) - 1) = (j:Int) - 1:=ZK (by omega)
  rw [exor,e2r,ej,ZC]
  have hmlt:2 * r % 2 ^ s < 2 ^ s:=UY _ (Hq (by omega))
  have hlt:=Zpu (s:=s) (p:=p) (r:=r) (b:=x.testBit j) hp
  have hfold:(Za x (j + 1)).foldl (Xj s p) r = (Za x j).foldl (Xj s p) (Xj s p r (x.testBit j)):=rfl
  rw [hfold]
  by_cases h1:(r / 2 ^ (s - 1) % 2 + (x.testBit j).toNat) % 2 = 1
  ·have ed:Xj s p r (x.testBit j) = (2 * r % 2 ^ s) ^^^ p:=by unfold Xj; rw [if_pos h1]
   rw [Zb (by omega),ZXB (by omega) (by omega),← ed,ZK (by omega)]
   exact ih m _ (by omega) (by omega) hlt
  ·have ed:Xj s p r (x.testBit j) = 2 * r % 2 ^ s:=by unfold Xj; rw [if_neg h1]
   rw [Zn (by omega),← ed]
   exact ih m _ (by omega) (by omega) hlt
theorem ZAk (k:Nat) {l:List Int} {s p:Nat} (hs:8 ≤ s) (hs':s ≤ 16) (hp:p < 2 ^ s) (hl:WV l = true) (hk:l.length + 20 < k) (hk':l.length < 4294967296) :
  ZGu k (QI l,(s:Int),(p:Int),()) = some (((ZKL s p (Zh7 l):Nat):Int),()):=by
 show Zkj k (Zxa k) _ = _
 simp only [Zkj]
 have hsz:(QI l).size = l.length:=by rw [← QY]; simp
 have:=Zi (A:=Nat) (R:=Int × Unit) (step:=fun L1 => ZfA k (Zxb k L1) L1) (fun i r => (UD i,QI l,(r:Int),(s:Int),(p:Int))) l
  (fun l' r => some ((((Zh7 l').foldl (Zbc s p) r:Nat):Int),())) (fun i r => r < 2 ^ s)
  (fun L r _ => by
   simp only [ZfA]
   rw [hsz,Zn (XJ _)]
   rfl)
  (fun L i hi r hr hL => by
   simp only [ZfA]
   rw [hsz,Zb (W9 hi)]
   obtain ⟨x,hx,hxe⟩:=Zdl hl hi
   have hg:((QI l).data.toList.getD i 0).toNat = x:=by
    simp_all
   have:=ZJv k hs hs' hp L (QI l) (i:=i) (by omega) hg (by omega) 8 k r (by omega) (by omega) hr
   refine U4 this ?_
   rw [Zyj hs hp hr hx]
   have h2:=hL (Zbc s p r x) (ZhA hs hp hr hx)
   refine U4 h2 ?_
   rw [hxe]
   rfl)
  k 0 0 (Hq (by omega)) (by omega) (Ht _)
 rw [U5] at this
 exact this
theorem ZOi (k:Nat) {l:List Int} (hl:WV l = true) (hk:l.length + 20 < k) (hk':l.length < 4294967296):ZOh k (QI l,()) = some (((ZHx l:Nat):Int),()):=by
 show ZqN k _ = _
 simp only [ZqN]
 exact Zl (ZAk k (s:=8) (p:=7) (by omega) (by omega) (by omega) hl hk hk') _
theorem ZOF (k:Nat) {l:List Int} (hl:WV l = true) (hk:l.length + 20 < k) (hk':l.length < 4294967296):ZOE k (QI l,()) = some (((Zba l:Nat):Int),()):=by
 show ZqR k _ = _
 simp only [ZqR]
 exact Zl (ZAk k (s:=16) (p:=32773) (by omega) (by omega) (by omega) hl hk hk') _
end Go.Sh
namespace Go.Sh
open Go Go.Proofs
theorem ZqX (k kk:Nat) (h:kk ≤ 100):ZGt k ((kk:Int),()) = some (((Wh kk:Nat):Int),()):=by
 show ZqW k _ = _
 simp only [ZqW]
 unfold Wh
 by_cases h1:kk = 1
 ·subst h1; rfl
 ·rw [show (((kk:Nat):Int) == (1:Int)) = false from by rw [ZC]; simp; omega,if_neg h1]
  simp only [cond_false]
  rw [ZK (n:=5 * (kk:Int)) (by omega),ZK (by omega)]
  congr 2
theorem ZDy:∀ (k:Fin 8) (m:Fin 64),2 ≤ k.val → m.val < 2 ^ (7 - k.val) → Za (Zh0 k.val m.val) 8 = (Jd k.val true ++ [false]) ++ Za m.val (7 - k.val):=by decide +kernel
theorem ZHv:∀ x:Fin 64,Za (128 + x.val) 8 = [true,false] ++ Za x.val 6:=by decide +kernel
def Znm:Nat → Nat → List (List Bool)
 | _,0 => []
 | n,i + 1 => Za (n / 64 ^ i) 6 :: Znm n i
theorem Zuy:∀ (i n:Nat),(Ko n i).flatMap (fun x => Za x 8) = (Znm n i).flatMap fun d => [true,false] ++ d
 | 0,n => rfl
 | i + 1,n => by
  rw [conts_cons',Hn,Zuy i n]
  have:=ZHv ⟨n / 64 ^ i % 64,UY _ (by omega)⟩
  simp only at this
  rw [this,show n / 64 ^ i % 64 = n / 64 ^ i % 2 ^ 6 from rfl,Zdi _ 6 6 (by omega)]
  rfl
where
 conts_cons' {i n:Nat}:Ko n (i + 1) = (128 + n / 64 ^ i % 64) :: Ko n i:=by
  induction i generalizing n with
  | zero => simp [Ko]
  | succ i ih =>
   rw [show Ko n (i + 1 + 1) = Ko (n / 64) (i + 1) ++ [128 + n % 64] from rfl,ih,show Ko n (i + 1) = Ko (n / 64) i ++ [128 + n % 64] from rfl,H4,← Nat.pow_succ']
   rfl
theorem ZmB:∀ (i n a:Nat),Za n (a + 6 * i) = Za (n / 64 ^ i) a ++ (Znm n i).flatten
 | 0,n,a => by simp [Znm]
 | i + 1,n,a => by
  have e1:a + 6 * (i + 1) = (a + 6) + 6 * i:=by omega
  rw [e1,ZmB i n (a + 6)]
  have:=Ym (n / 64 ^ i) a 6
  rw [this,H4,show (2:Nat) ^ 6 = 64 from rfl,← HS]
  simp only [Znm,J1,Ju]
theorem ZHa:∀ (i n:Nat),(Znm n i).length = i ∧ ∀ d ∈ Znm n i,d.length = 6
 | 0,n => ⟨rfl,by simp [Znm]⟩
 | i + 1,n => by
  obtain ⟨h1,h2⟩:=ZHa i n
  refine ⟨by simp [Znm,h1],?_⟩
  intro d hd
  rcases VL.1 hd with rfl | hd
  ·exact Zc _ _
  ·exact h2 d hd
theorem ZBr {n:Nat} (h:n < 2 ^ 36) (h128:128 ≤ n):(Qg n).flatMap (fun x => Za x 8) = (Jd (Xi n) true ++ [false]) ++ (Za (n / 64 ^ (Xi n - 1)) (7 - Xi n) ++ (Znm n (Xi n - 1)).flatMap fun d => [true,false] ++ d):=by
 obtain ⟨h1,h2⟩:=Zuh h h128
 have h7:=(Zxr n).2
 have hm64:=Zh4 h1 h7 h2
 have hm:n / 64 ^ (Xi n - 1) < 2 ^ (7 - Xi n):=by
  have h64:(64:Nat) = 2 ^ 6:=rfl
  rw [Nat.div_lt_iff_lt_mul (Hq (by omega))]
  refine VZ h2 ?_
  rw [h64,← Nat.pow_mul,← Nat.pow_add]
  refine He (by omega) ?_
  unfold Wh
  rw [if_neg (by omega)]
  omega
 have e:Qg n = Zh0 (Xi n) (n / 64 ^ (Xi n - 1)) :: Ko n (Xi n - 1):=by unfold Qg; rw [if_neg (by omega)]
 rw [e,Hn,Zuy]
 have:=ZDy ⟨Xi n,by omega⟩ ⟨n / 64 ^ (Xi n - 1),hm64⟩ h1 hm
 simp_all
theorem ZDN {n:Nat} (h:n < 2 ^ 36):ZE ((Qg n).flatMap fun x => Za x 8) = Q3 (Qg n):=by
 have hlt:=Zpp h
 have hb:WV (Q3 (Qg n)) = true:=by
  refine Ve.2 fun x hx => ?_
  obtain ⟨y,hy,rfl⟩:=VF.1 hx
  grind
 have e:((Qg n).flatMap fun x => Za x 8) = Q2 (Q3 (Qg n)):=by
  unfold Q2 Q3
  rw [List.flatMap_map]
  rfl
 rw [e,Zia hb]
theorem ZOf (k:Nat) (hk:20000 < k) (D:List Bool) (hD:D.length ≤ 100):∀ (ss:List (List Bool)) (m i:Nat) (A:List Bool),ss.length < m → (∀ d ∈ ss,d.length = 6) → D.drop i = ss.flatten → i + 6 * ss.length = D.length → A.length ≤ 10000 - 8 * ss.length → ss.length ≤ 20 →
  Ze (fun L2 => Zfk k L2) m ((i:Int),Xz D,Xz A) = some (ZE (A ++ ss.flatMap fun d => [true,false] ++ d),()):=by
 intro ss
 induction ss with
 | nil =>
  intro m i A hm hs hd hi hA _
  obtain ⟨m,rfl⟩:=Zt hm
  simp only [H2,Nat.mul_zero,JH,Nat.sub_zero] at hi hA
  rw [Zd]
  simp only [Zfk]
  rw [Zo,Zn (by simp only [H7]; omega),ZcL k A (by omega) (by omega)]
  simp
 | cons d ss ih =>
  intro m i A hm hs hd hi hA h20
  obtain ⟨m,rfl⟩:=Zt (show 0 < m by omega)
  simp only [JF] at hi hA hm h20
  have hd6:=hs d (Jl ..)
  rw [Zd]
  simp only [Zfk]
  have e1:Jx.wrap ((i:Int) + 6) = ((i + 6:Nat):Int):=by rw [ZK (by omega)]; rfl
  rw [Zo,Zo,e1,Zb (by simp only [H7]; omega),Zb (by omega),Zb (by simp only [H7]; omega)]
  rw [Ui,Ui,Za4.2.2.2.2.2.1,Zu,Zgc]
  have hex:(D.take (i + 6)).drop i = d:=by
   grind
  rw [hex,Zo,Zo,Zb (by simp; omega),Zu]
  rw [ih m (i + 6) _ (by omega) (fun x hx => hs x (Jn _ hx)) (by
   rw [← List.drop_drop,hd,J1,El,UF (by omega),VS,hd6]
   rfl) (by omega) (by simp; omega) (by omega)]
  simp_all
theorem ZOg (k:Nat) (hk:20000 < k) {n:Nat} (h:n < 2 ^ 36):ZOa k ((n:Int),()) = some (Q3 (Qg n),()):=by
 show Zj5 k (ZwA k) _ = _
 simp only [Zj5]
 obtain ⟨r2,r3,r4,r5,r6,r7⟩:=ZrR
 have r1:Wh 1 = 7:=rfl
 have H:∀ (d kk m:Nat),kk + d = 7 → d < m → 1 ≤ kk → (1 < kk → 2 ^ Wh (kk - 1) ≤ n) → Ze (fun L1 => Yt k (ZhY k) L1) m ((n:Int),(kk:Int)) = some (Q3 (Qg n),()):=by
  intro d
  induction d with
  | zero =>
   intro kk m hkk hm h1 hge
   obtain ⟨m,rfl⟩:=Zt hm
   obtain rfl:kk = 7:=by omega
   have hge:=hge (by omega)
   rw [show Wh (7 - 1) = 31 from r6] at hge
   have hl7:Xi n = 7:=by unfold Xi; grind
   rw [Zd]
   exact fin 7 (fun L1 => Yt k (ZhY k) L1) m (by omega) (by omega) hl7 (by rw [r7]; exact h)
  | succ d ih =>
   intro kk m hkk hm h1 hge
   obtain ⟨m,rfl⟩:=Zt (show 0 < m by omega)
   have hroom:Wh kk ≤ 31:=by unfold Wh; split <;> omega
   by_cases hlt:n < 2 ^ Wh kk
   ·rw [Zd]
    by_cases hk1:kk = 1
    ·subst hk1
     rw [r1] at hlt
     simp only [Yt]
     rw [show (1:Int) = ((1:Nat):Int) from rfl,ZqX k 1 (by omega)]
     simp only [VJ]
     rw [Zb (by omega)]
     have e:Jx.wrap (((1:Nat):Int) * (2:Int) ^ min (((Wh 1:Nat):Int)).toNat 64) = 128:=by rw [r1]; decide
     rw [e,Zn (by omega),show ((((1:Nat):Int)) == ((1:Nat):Int)) = true from rfl]
     simp only [cond_true]
     have ec:Qg n = [n]:=by unfold Qg; rw [if_pos (by omega)]
     rw [ec,wu8 (by omega)]
     rfl
    ·have hl:Xi n = kk:=by
      have hge:=hge (by omega)
      have hrange:kk = 2 ∨ kk = 3 ∨ kk = 4 ∨ kk = 5 ∨ kk = 6:=by omega
      rcases hrange with rfl | rfl | rfl | rfl | rfl
      ·simp only [Ee,r1,r2] at hge hlt
       unfold Xi; simp_all
      ·simp only [Ee,r2,r3] at hge hlt
       unfold Xi; grind
      ·simp only [Ee,r3,r4] at hge hlt
       unfold Xi; grind
      ·simp only [Ee,r4,r5] at hge hlt
       unfold Xi; grind
      ·simp only [Ee,r5,r6] at hge hlt
       unfold Xi; grind
     exact fin kk (fun L1 => Yt k (ZhY k) L1) m (by omega) (by omega) hl hlt
   ·rw [Zd]
    simp only [Yt]
    rw [ZqX k kk (by omega)]
    simp only [VJ]
    rw [Zb (by omega),Zby hroom,Zb (by omega),show Jx.wrap ((kk:Int) + 1) = ((kk + 1:Nat):Int) from by rw [ZK (by omega)]; rfl]
    exact ih (kk + 1) m (by omega) (by omega) (by omega) (fun _ => by rw [Nat.add_sub_cancel]; omega)
 exact H 6 1 k (by omega) (by omega) (by omega) (fun h => by omega)
where
 fin (kk:Nat) (step:(Int × Int → Option (List Int × Unit)) → Int × Int → Option (List Int × Unit)) (m:Nat) (h2:2 ≤ kk) (h7:kk ≤ 7) (hl:Xi n = kk) (hlt:n < 2 ^ Wh kk):Yt k (ZhY k) (Ze step m) ((n:Int),(kk:Int)) = some (Q3 (Qg n),()):=by
  have h128:128 ≤ n:=by
   by_cases hh:n < 128
   ·exfalso
    unfold Xi at hl
    grind
   ·omega
  have hroom:Wh kk ≤ 36:=by unfold Wh; split <;> omega
  have hre:Wh kk = (7 - kk) + 6 * (kk - 1):=by unfold Wh; rw [if_neg (by omega)]; omega
  simp only [Yt]
  rw [ZqX k kk (by omega)]
  simp only [VJ]
  have eshl:Jx.wrap ((1:Int) * (2:Int) ^ min (((Wh kk:Nat):Int)).toNat 64) = ((2 ^ Wh kk:Nat):Int):=by
   have h1:2 ^ Wh kk ≤ 2 ^ 36:=He (by omega) hroom
   rw [Ui,Hs (by omega),H9,QS]
   generalize 2 ^ Wh kk = Q at h1 ⊢
   rw [ZK (by omega)]
  rw [Zb (by omega),eshl,Zn (by omega),show ((kk:Int) == (1:Int)) = false from by rw [ZC]; simp; omega]
  simp only [cond_false]
  refine (Zl (Qi k n (Wh kk) (by omega) (by omega) (by omega)) _).trans ?_
  rw [Zb (by omega),Za4.2.2.2.2.2.2,Za4.2.1,Ui,Zgc]
  have e1:((Jd 8 true).take kk).drop 0 = Jd kk true:=by grind
  simp only [e1,Zu,Zo]
  have hl1:(Jd kk true ++ [false]).length = kk + 1:=by simp
  have e2:Jx.wrap ((8:Int) - UD (Jd kk true ++ [false]).length) = ((7 - kk:Nat):Int):=by
   rw [hl1,ZK (by simp only [H7]; omega)]
   grind
  rw [e2,Zb (by simp; omega),Zb (by rw [Zc]; simp only [H7]; omega),Ui,Zgc,U5]
  have e3:(Za n (Wh kk)).take (7 - kk) = Za (n / 64 ^ (kk - 1)) (7 - kk):=by
   rw [hre,ZmB,List.take_append_of_le_length (by rw [Zc]; omega),Eg (by rw [Zc]; omega)]
  rw [e3,Zo,Zu,Zb (by rw [hl1,Zc]; omega)]
  have h6:=ZHa (kk - 1) n
  have hdrop:(Za n (Wh kk)).drop (7 - kk) = (Znm n (kk - 1)).flatten:=by
   rw [hre,ZmB,El,UF (by rw [Zc]; omega),VS,Zc,Ef,U5]
  have:=ZOf k hk (Za n (Wh kk)) (by rw [Zc]; omega) (Znm n (kk - 1)) k (7 - kk) ((Jd kk true ++ [false]) ++ Za (n / 64 ^ (kk - 1)) (7 - kk)) (by omega) h6.2 hdrop (by rw [h6.1,Zc,hre]) (by grind) (by omega)
  refine U4 this ?_
  have hb:=ZBr h h128
  rw [hl] at hb
  rw [Ju,← hb,ZDN h]
end Go.Sh
namespace Go.Sh
open Go Go.Proofs
theorem ZLs (k:Nat) (c d r:Int):ZyK k ((c,d,r,()),()) = some (ZbZ c d r,()):=by
 show ZeT k _ = _
 simp only [ZeT]
 have rest:(bif decide ((4:Int) ≤ d) then bif decide (d ≤ (24:Int)) then bif decide ((1:Int) ≤ r) then some (decide (r ≤ (655350:Int)),()) else some (false,()) else some (false,()) else some (false,())) = some (decide (4 ≤ d ∧ d ≤ 24 ∧ 1 ≤ r ∧ r ≤ 655350),()):=by
  grind
 have fin:∀ b:Bool,b = decide (1 ≤ c ∧ c ≤ 2) → some ((b && decide (4 ≤ d ∧ d ≤ 24 ∧ 1 ≤ r ∧ r ≤ 655350)),()) = some (ZbZ c d r,()):=by
  rintro b rfl
  unfold ZbZ
  congr 2
  grind
 rw [ZC,ZC]
 by_cases h1:c = 1
 ·simp_all
 ·rw [Zn h1]
  by_cases h2:c = 2
  ·simp_all
  ·rw [Zn h2]
   have:=fin false (by rw [decide_eq_false (by omega)])
   simpa using this
theorem ZjW (k:Nat) (x:Int) {d:Nat} (hd:d ≤ 40):ZqA k (x,(d:Int),()) = some (Xe x d,()):=by
 show Zfc k _ = _
 simp only [Zfc]
 unfold Xe
 rw [ZC,ZC]
 by_cases h0:d = 0
 ·rw [Zb (by omega),if_pos h0]
 ·rw [Zn (by omega),if_neg h0]
  have e1:Jx.wrap ((d:Int) - 1) = ((d - 1:Nat):Int):=by rw [ZK (by omega)]; omega
  have hp:2 ^ (d - 1) ≤ 2 ^ 39:=He (by omega) (by omega)
  have e2:Jx.wrap ((1:Int) * (2:Int) ^ min (((d - 1:Nat):Int)).toNat 64) = ((2 ^ (d - 1):Nat):Int):=by
   rw [Ui,Hs (by omega),H9,QS]
   generalize 2 ^ (d - 1) = Q at hp ⊢
   rw [ZK (by omega)]
  rw [e1,e2,Zb (by omega),QS]
  generalize 2 ^ (d - 1) = Q at hp ⊢
  rw [ZK (n:=0 - (Q:Int)) (by omega)]
  grind
theorem ZLC (k:Nat) (hk:1000 < k) (c d r n:Int) {ch:List (List Int)} (hs:Sm ch):ZEH k ((c,d,r,()),(n,ch,()),()) = some (Yo c d r n ch,()):=by
 show ZiO k (Zvw k) _ = _
 simp only [ZiO]
 rw [ZLs]
 simp only [VJ]
 unfold Yo
 cases hsh:ZbZ c d r with
 | false => rfl
 | true =>
  have hb:=of_decide_eq_true hsh
  simp only [HF,cond_false,HV,if_false]
  by_cases h1:n < 0
  ·rw [Zb h1,if_pos (.inl h1)]
  rw [Zn h1]
  by_cases h2:2147483647 < n
  ·rw [Zb h2,if_pos (.inr (.inl h2))]
  rw [Zn h2,ZU]
  by_cases h3:(ch.length:Int) = c
  case neg => simp_all
  rw [Zn (by simpa using h3),if_neg (by omega)]
  have hpos:0 < ch.length:=by omega
  have hlast:(Jx.wrap (c - 1)).toNat = ch.length - 1 ∧ (0:Int) ≤ Jx.wrap (c - 1) ∧ Jx.wrap (c - 1) < UD ch.length:=by rw [ZK (by omega)]; simp only [H7]; omega
  rw [Zb (by simp only [H7]; omega)]
  have hhd:ch.getD 0 [] = ch.headD []:=by cases ch <;> rfl
  rw [hhd]
  have hlen2:ch.length = 1 ∨ ch.length = 2:=by omega
  have hall:ch.all (KO (ch.headD []).length) = decide (1 ≤ (ch.headD []).length ∧ (ch.headD []).length ≤ 512 ∧ (ch.getD (ch.length - 1) []).length = (ch.headD []).length):=by
   match ch,hlen2 with
   | [a],_ =>
    simp_all [UA,List.all_nil,Bool.and_true,EB,KO,Ur,Ef,List.getD_cons_zero]
   | [a,b],_ =>
    show (KO a.length a && (KO a.length b && true)) = decide (1 ≤ a.length ∧ a.length ≤ 512 ∧ b.length = a.length)
    unfold KO
    grind
  rw [hall]
  generalize hN:(ch.headD []).length = N
  by_cases h4:(N:Int) < 1
  ·grind
  rw [Zn (by simp only [H7]; omega)]
  by_cases h5:512 < N
  ·grind
  rw [Zn (by simp only [H7]; omega),Zb ⟨hlast.2.1,hlast.2.2⟩,hlast.1,ZU]
  by_cases h6:(ch.getD (ch.length - 1) []).length = N
  case neg => grind
  rw [Zn (by simp only [H7]; omega),decide_eq_true (by omega),if_neg (by simp)]
  have hlens:∀ l ∈ ch,l.length = N:=by
   have:ch.all (KO N) = true:=by grind
   intro l hl
   have:=of_decide_eq_true (Ve.1 this l hl)
   exact this.1
  obtain ⟨dn,hdn⟩:=Vp (show 0 ≤ d by omega)
  subst hdn
  rw [Ui]
  have hcn:c = ((ch.length:Nat):Int):=h3.symm
  subst hcn
  have inner:∀ (L1:Int × Int × Int × Int × Int × Int × List (List Int) → Option (Int × Unit)) (q:Nat) (hq:q < ch.length),ZpK k L1 ((0:Int),UD N,(q:Int),n,ch,((ch.length:Nat):Int),(dn:Int),r) =
    bif ch[q].all (fun x => Xe x dn) then L1 (((q + 1:Nat):Int),UD N,((ch.length:Nat):Int),(dn:Int),r,n,ch) else some (12,()):=by
   intro L1 q hq
   have hql:=hlens ch[q] (Ha hq)
   have hgq:ch.getD q [] = ch[q]:=KW hq
   exact QN (R:=Int × Unit) (step:=fun L2 => ZeV k L1 L2) (fun i => (UD i,UD N,(q:Int),n,ch,((ch.length:Nat):Int),(dn:Int),r)) ch[q] (fun x => Xe x dn) (some (12,())) (L1 (((q + 1:Nat):Int),UD N,((ch.length:Nat):Int),(dn:Int),r,n,ch))
    (fun L => by
     simp only [ZeV]
     rw [hql,Zn (XJ _),ZK (n:=(q:Int) + 1) (by omega)]
     rfl)
    (fun L i hi => by
     simp only [ZeV]
     rw [Zb (by rw [← hql]; exact W9 hi),Zb (by simp only [H7]; omega),Ui,hgq,Zb (QV hi),Zs hi,ZjW k _ (by omega)]
     simp only [VJ]
     cases Xe ch[q][i] dn with
     | false => rfl
     | true =>
      simp only [HF,cond_false,cond_true]
      rw [ZL hi (by omega)]) k (by omega)
  have outer:=QN (R:=Int × Unit) (step:=fun L1 => ZeU k (ZpK k L1) L1) (fun i => (UD i,UD N,((ch.length:Nat):Int),(dn:Int),r,n,ch)) ch (fun l => l.all fun x => Xe x dn) (some (12,())) (some (0,()))
   (fun L => by
    grind [ZeU,H7])
   (fun L i hi => by
    grind [ZeU,H7]) k (by omega)
  refine U4 outer ?_
  grind
theorem ZQO (n:Int) : -1 ≤ n.tmod 2 ∧ n.tmod 2 ≤ 1:=by
 grind
theorem ZPQ (k:Nat) {n:Int} (h : -1000000000000 ≤ n ∧ n ≤ 1000000000000):ZPP k (n,()) = some (n / 2,()):=by
 show Zq3 k _ = _
 simp only [Zq3]
 have e1:Jx.wrap (n.tmod 2 + 2) = n.tmod 2 + 2:=by
  have:=ZQO n
  exact ZK (by omega)
 have e2:(n.tmod 2 + 2).tmod 2 = n % 2:=by
  grind
 rw [e1,e2,ZK (n:=n - n % 2) (by omega)]
 have e3:(n - n % 2).tdiv 2 = n / 2:=by
  grind
 rw [e3,ZK (by omega)]
theorem Zz6 (k:Nat) {L R:List Int} {m:Int} (hm:Zxp m) (hl:L.length = R.length) (hn:L.length ≤ 8192) (hk:10000 < k) (hL:∀ x ∈ L,ZT x) (hR:∀ x ∈ R,ZT x) :
  ZF9 k ((L,R,()),m,()) = some ((Yj m L R,Yk m L R,()),()):=by
 show Zj8 k (ZwM k) _ = _
 simp only [Zj8]
 have hzl:(L.zip R).length = L.length:=by rw [En]; omega
 have:=Zi (A:=List Int × List Int) (R:=(List Int × List Int × Unit) × Unit) (step:=fun L1 => ZcO k L1) (fun i a => (UD i,m,L,R,a.1,a.2)) (L.zip R)
  (fun l' a => some ((a.1 ++ l'.map (fun x => apA m x.1 x.2),a.2 ++ l'.map (fun x => apB m x.1 x.2),()),())) (fun i a => a.1.length = i ∧ a.2.length = i)
  (fun L1 a _ => by
   grind [ZcO])
  (fun L1 i hi a ha hL1 => by
   have hi1:i < L.length:=by omega
   have hi2:i < R.length:=by omega
   have b1:=hL L[i] (Ha hi1)
   have b2:=hR R[i] (Ha hi2)
   unfold ZT at b1 b2
   have key:ZcO k L1 (UD i,m,L,R,a.1,a.2) = L1 (UD (i + 1),m,L,R,a.1 ++ [apA m L[i] R[i]],a.2 ++ [apB m L[i] R[i]]):=by
    simp only [ZcO]
    rw [Zb (W9 hi1),Zb (QV hi1),Zb (QV hi2),Zs hi1,Zs hi2,ZK (n:=L[i] - R[i]) (by omega),ZK (n:=L[i] + R[i]) (by omega),ZPQ k (by omega)]
    simp only [VJ]
    have c1:∀ v:Int,a.1.length + [v].length < 2147483648:=fun v => by grind
    have c2:∀ v:Int,a.2.length + [v].length < 2147483648:=fun v => by simp_all
    rw [ZC,ZC,ZC]
    simp only [decide_eq_true (c1 _),decide_eq_true (c2 _),cond_true,ZL hi1 (show L.length ≤ 4294967296 by omega)]
    unfold apA apB
    grind
   simp_all)
  k 0 ([],[]) ⟨rfl,rfl⟩ (by omega) (Ht _)
 rw [U5] at this
 exact this
theorem ZAj (k:Nat) {l:List Int} (hk:l.length < k) (hn:l.length ≤ 8192) (hl:∀ x ∈ l,Wc x):ZGr k (l,()) = some (Za0 l,()):=by
 show Zki k (Zw8 k) _ = _
 simp only [Zki]
 have:=Zi (A:=Int × Int) (R:=Int × Unit) (step:=fun L1 => Zfz k L1) (fun i a => (UD i,l,a.1,a.2)) l
  (fun l' a => some (Zf5 l' a.1 a.2,())) (fun i a => 0 ≤ a.1 ∧ a.1 ≤ (i:Int) * 134217728 ∧ Wc a.2)
  (fun L a _ => by simp only [Zfz]; rw [Zn (XJ _)]; rfl)
  (fun L i hi a ha hL => by
   simp only [Zfz]
   have hx:=hl l[i] (Ha hi)
   have hx2:=hx
   unfold Wc at hx ha
   rw [Zb (W9 hi),Zb (QV hi),Zb (QV hi),Zb (QV hi),Zs hi,ZK (n:=l[i] - a.2) (by omega),ZK (n:=a.2 - l[i]) (by omega)]
   have hmx:(if l[i] - a.2 < a.2 - l[i] then a.2 - l[i] else l[i] - a.2) = ((l[i] - a.2).natAbs:Int):=by omega
   rw [hmx,ZK (n:=a.1 + ((l[i] - a.2).natAbs:Int)) (by omega),ZL hi (by omega)]
   exact hL (a.1 + ((l[i] - a.2).natAbs:Int),l[i]) ⟨by omega,by push_cast; omega,hx2⟩)
  k 0 (0,0) ⟨by omega,by omega,by unfold Wc; omega⟩ (by omega) (Ht _)
 rw [U5] at this
 exact this
theorem ZN2 (k:Nat) {L R:List Int} (hl:L.length = R.length) (hn:L.length ≤ 8192) (hk:10000 < k) (hL:∀ x ∈ L,ZT x) (hR:∀ x ∈ R,ZT x):ZqM k ((L,R,()),()) = some (ZQ L R,()):=by
 show Zj1 k (Zwt k) _ = _
 simp only [Zj1]
 obtain ⟨j,rfl⟩:∃ j,k = j + 5:=⟨k - 5,by omega⟩
 have hcost:∀ m,0 ≤ ZmI L R m ∧ ZmI L R m ≤ 2199023255552:=by
  intro m
  obtain ⟨s1,s2⟩:=ZeB (m:=m) hL hR
  obtain ⟨l1,l2⟩:=Zb1 (m:=m) hl
  have h1:=K1 s1 (by omega)
  have h2:=K1 s2 (by omega)
  unfold ZmI
  omega
 have one:∀ (e i:Nat) (m:Int) (B:Int × Int),Zxp m → i < 4 → [(0:Int),8,9,10].getD i 0 = m → (i = 0 ∧ B.1 < 0 ∨ i ≠ 0 ∧ 0 ≤ B.1) → ∀ z:Int,(B.1 < 0 → True) → (0 ≤ B.1 → z = B.1) →
   Ze (fun L1 => Zfi (j + 5) L1) (e + 1) ((i:Int),z,B.2,L,R,[0,8,9,10]) = Ze (fun L1 => Zfi (j + 5) L1) e (((i + 1:Nat):Int),(Yb L R B m).1,(Yb L R B m).2,L,R,[0,8,9,10]):=by
  intro e i m B hm hi hg hB z _ hz
  rw [Zd]
  simp only [Zfi]
  have c1:(0:Int) ≤ (i:Int) ∧ (i:Int) < UD [(0:Int),8,9,10].length:=by grind
  have c2:((i:Int)).toNat < [(0:Int),8,9,10].length:=by simp_all
  simp only [decide_eq_true c1,decide_eq_true c2,cond_true]
  rw [Zb (by omega),Ui,hg]
  obtain ⟨s1,s2⟩:=ZeB (m:=m) hL hR
  obtain ⟨l1,l2⟩:=Zb1 (m:=m) hl
  refine (Zl (Zz6 (j + 5) hm hl hn hk hL hR) _).trans ?_
  refine (Zl (ZAj (j + 5) (by omega) (by omega) s1) _).trans ?_
  refine (Zl (ZAj (j + 5) (by omega) (by omega) s2) _).trans ?_
  have hc:=hcost m
  have ec:Jx.wrap (Za0 (Yj m L R) + Za0 (Yk m L R)) = ZmI L R m:=by unfold ZmI at hc ⊢; rw [ZK (by omega)]
  have ei:Jx.wrap ((i:Int) + 1) = ((i + 1:Nat):Int):=by rw [ZK (by omega)]; rfl
  simp only
  rw [ec,ei,ZC]
  unfold Yb
  grind
 have nn:∀ (B:Int × Int) (m:Int),(Yb L R B m).1 ≥ 0:=by
  intro B m
  have:=hcost m
  unfold Yb
  split <;> omega
 have s0:=one (j + 4) 0 0 (-1,0) (.inl rfl) (by omega) rfl (.inl ⟨rfl,by decide⟩) 0 (fun _ => trivial) (fun h => by simp at h)
 have s1:=one (j + 3) 1 8 (Yb L R (-1,0) 0) (.inr (.inl rfl)) (by omega) rfl (.inr ⟨by omega,nn _ _⟩) _ (fun _ => trivial) (fun _ => rfl)
 have s2:=one (j + 2) 2 9 (Yb L R (Yb L R (-1,0) 0) 8) (.inr (.inr (.inl rfl))) (by omega) rfl (.inr ⟨by omega,nn _ _⟩) _ (fun _ => trivial) (fun _ => rfl)
 have s3:=one (j + 1) 3 10 (Yb L R (Yb L R (Yb L R (-1,0) 0) 8) 9) (.inr (.inr (.inr rfl))) (by omega) rfl (.inr ⟨by omega,nn _ _⟩) _ (fun _ => trivial) (fun _ => rfl)
 refine s0.trans (s1.trans (s2.trans (s3.trans ?_)))
 rfl
theorem ZOD (k:Nat) (d m:Int) (hd:0 ≤ d ∧ d ≤ 100):ZOC k (d,m,()) = some ((if m = 9 then d + 1 else d,if m = 8 ∨ m = 10 then d + 1 else d,()),()):=by
 show ZqQ k _ = _
 simp only [ZqQ]
 rw [ZK (n:=d + 1) (by omega),ZC,ZC,ZC]
 grind
end Go.Sh
namespace Go.Sh
open Go Go.Proofs
theorem ZIU (k:Nat) (x:Int):ZBW k (x,()) = some (!QA x,()):=by
 show ZlN k _ = _
 simp only [ZlN]
 unfold QA
 by_cases h1 : -2147483648 < x
 ·rw [Zb h1]
  by_cases h2:x < 2147483648
  ·simp_all
  simp_all
 grind
theorem Zlp (k:Nat) (l:List Int) (hk:l.length < k) (hn:l.length < 4294967296):ZpJ k (l,()) = some (!l.any QA,()):=by
 show Zgz k (ZnK k) _ = _
 simp only [Zgz]
 have:=QN (R:=Bool × Unit) (step:=fun L1 => Zcg k L1) (fun i => (UD i,l)) l (fun x => !QA x) (some (false,())) (some (true,()))
  (fun L => by grind [Zcg])
  (fun L i hi => by
   simp only [Zcg]
   rw [Zb (W9 hi),Zb (QV hi),Zs hi,ZIU]
   simp only [VJ]
   rw [ZL hi (by omega)]
   cases QA l[i] <;> rfl) k hk
 refine U4 this ?_
 grind
theorem ZIG (k:Nat) (c:List Int) (sh:Int) (hk:10 < k):ZBR k ((c,sh,()),()) = some (ZaR c sh,()):=by
 show ZgI k (Zn7 k) _ = _
 simp only [ZgI]
 unfold ZaR
 by_cases h1:(8:Int) < UD c.length
 ·grind
 ·simp only [H7] at h1
  rw [Zn (by simp only [H7]; omega)]
  by_cases h2:sh < 0
  ·grind
  ·rw [Zn h2]
   by_cases h3:15 < sh
   ·grind
   ·rw [Zn h3,decide_eq_true (by omega)]
    have:=QN (R:=Bool × Unit) (step:=fun L1 => Zcp k L1) (fun i => (UD i,c,sh)) c Zeo (some (false,())) (some (true,()))
     (fun L => by grind [Zcp])
     (fun L i hi => by
      simp only [Zcp]
      rw [Zb (W9 hi),Zb (QV hi),Zb (QV hi),Zs hi,ZL hi (by omega)]
      unfold Zeo
      grind) k (by omega)
    refine U4 this ?_
    grind
theorem ZP8 {a Q:Int} (hQ:0 < Q):a.fdiv Q = if a.tmod Q < 0 then a.tdiv Q - 1 else a.tdiv Q:=by
 rw [HI _ (by omega)]
 have h1:=Int.tmod_add_mul_tdiv a Q
 have h2 : -Q < a.tmod Q ∧ a.tmod Q < Q:=by
  rcases Int.le_total 0 a with h | h
  ·rw [Ej h]
   have:=HH a (show Q ≠ 0 by omega)
   have:=Ew a hQ
   omega
  ·have e:=Int.neg_tmod (a := -a) (b:=Q)
   rw [Int.neg_neg] at e
   rw [e,Ej (by omega)]
   have:=HH (-a) (show Q ≠ 0 by omega)
   have:=Ew (-a) hQ
   omega
 generalize a.tmod Q = r at h1 h2 ⊢
 generalize a.tdiv Q = q at h1 ⊢
 rw [← h1,Et _ _ (by omega)]
 split
 ·have h3:(r + Q) / Q = 0:=Eu (by omega) (by omega)
  have h4:=Et r 1 (show Q ≠ 0 by omega)
  rw [Int.mul_one,h3] at h4
  omega
 ·rw [Eu (by omega) (by omega)]
  omega
theorem ZI7 (k:Nat) {x sh:Int} (hx : -140737488355328 ≤ x ∧ x ≤ 140737488355328) (hsh:0 ≤ sh ∧ sh ≤ 15):ZB2 k (x,sh,()) = some (x.fdiv (2 ^ sh.toNat),()):=by
 show ZlR k _ = _
 simp only [ZlR]
 have hb:=ZhZ (x:=x) (b:=140737488355328) sh.toNat hx (by omega)
 rw [Hs (by omega),H9]
 have hp:2 ^ sh.toNat ≤ 2 ^ 15:=He (by omega) (by omega)
 have hp0:0 < 2 ^ sh.toNat:=Hq (by omega)
 rw [QS] at hb ⊢
 generalize 2 ^ sh.toNat = Q at *
 have e:=ZP8 (a:=x) (Q:=(Q:Int)) (by omega)
 rw [Zb hsh.1,ZK (n:=(Q:Int)) (by omega),Zb (by omega),Zb (by omega)]
 by_cases h:x.tmod (Q:Int) < 0
 ·rw [if_pos h] at e
  rw [Zb h,ZK (n:=x.tdiv (Q:Int)) (by omega),ZK (by omega),e]
 ·rw [if_neg h] at e
  rw [Zn h,ZK (n:=x.tdiv (Q:Int)) (by omega),e]
theorem ZII (k:Nat) {c s:List Int} {sh:Int} {p:Nat} (hk:c.length < k) (hl:c.length ≤ 8) (hcp:c.length ≤ p) (hps:p ≤ s.length) (hn:s.length ≤ 4294967296) (hsh:0 ≤ sh ∧ sh ≤ 15) (hc:∀ x ∈ c,ZsG x) (hs:∀ x ∈ s,ZD x) :
  ZBS k ((c,sh,()),s,(p:Int),()) = some (Znc c sh (s.take p),()):=by
 show ZgJ k (Zn9 k) _ = _
 simp only [ZgJ]
 have hta:(s.take p).length = p:=by simp; omega
 have hzl:(c.zip (s.take p).reverse).length = c.length:=by simp_all
 have hterm:=Zk8 hc (fun x hx => hs x (JT hx):∀ x ∈ s.take p,ZD x)
 have hI:=Zi (A:=Int) (R:=Int × Unit) (step:=fun L1 => Zcq k L1) (fun i acc => (UD i,acc,s,(p:Int),c,sh)) (c.zip (s.take p).reverse)
  (fun l acc => some ((acc + Za2 (l.map fun x => x.1 * x.2)).fdiv (2 ^ sh.toNat),())) (fun i acc => i ≤ 8 ∧ -((i:Int) * 4398046511104) ≤ acc ∧ acc ≤ (i:Int) * 4398046511104)
  (fun L acc h => by
   simp only [Zcq]
   rw [hzl,Zn (XJ _)]
   rw [hzl] at h
   have h8:(c.length:Int) ≤ 8:=by omega
   rw [ZI7 k (by omega) hsh]
   simp [Za2])
  (fun L i hi acc hacc hL => by
   have hi2:i < c.length:=by omega
   have hi3:i < (s.take p).reverse.length:=by simp; omega
   simp only [Zcq]
   have e1:Jx.wrap (Jx.wrap ((p:Int) - 1) - UD i) = ((p - 1 - i:Nat):Int):=by
    simp only [H7]
    rw [ZK (n:=(p:Int) - 1) (by omega),ZK (by omega)]; omega
   rw [Zb (W9 hi2),Zb (QV hi2),e1,Zb (by simp only [H7]; omega),Zs hi2,Ui]
   have e2:s.getD (p - 1 - i) 0 = (s.take p).reverse[i]:=by
    grind
   rw [e2]
   have hz:(c.zip (s.take p).reverse)[i] = (c[i],(s.take p).reverse[i]):=by simp
   have ht:=hterm (c[i] * (s.take p).reverse[i]) (VF.2 ⟨(c[i],(s.take p).reverse[i]),by rw [← hz]; exact Ha _,rfl⟩)
   have hi8:(i:Int) ≤ 8:=by omega
   rw [ZK (n:=c[i] * (s.take p).reverse[i]) (by omega),ZK (n:=acc + c[i] * (s.take p).reverse[i]) (by omega),ZL hi2 (by omega)]
   grind [Za2]) k 0 0 ⟨by omega,by omega,by omega⟩ (by omega) (Ht _)
 refine U4 hI ?_
 rw [U5,Ek]
 rfl
theorem Zs2 (k:Nat) (c:List Int) (sh:Int) (s:List Int) (hk:s.length + 10 < k) (hn:s.length ≤ 8192):ZpI k ((c,sh,()),s,()) = some (((Qx c sh s).1,(Qx c sh s).2,()),()):=by
 show Zgv k (ZnG k) _ = _
 simp only [Zgv]
 rw [ZIG k c sh (by omega)]
 simp only [VJ]
 unfold Qx
 cases hm:ZaR c sh with
 | false => rfl
 | true =>
  simp only [HV,if_false,HF,cond_false,H7]
  by_cases hl:s.length < c.length
  ·rw [Zb (by omega),if_pos hl]
  ·rw [Zn (by omega),if_neg hl,Zlp k s (by omega) (by omega)]
   simp only [VJ,Bool.not_not]
   cases hw:s.any QA with
   | true => simp only [cond_true,if_true]
   | false =>
    simp only [cond_false,JJ,if_false]
    obtain ⟨hc8,hsh,hcR⟩:=Zbt hm
    have hnar:=Y4 hw
    suffices H:∀ (d i m:Nat) (acc:List Int),i + d = s.length → c.length ≤ i → d < m → acc.length + d ≤ s.length →
      Ze (fun L1 => Zce k L1) m ((i:Int),s,acc,c,sh) = some (if (acc ++ Znk c sh s d i).any QA then (([],12,()),()) else ((acc ++ Znk c sh s d i,0,()),())) by
     have:=H (s.length - c.length) c.length k [] (by omega) (by omega) (by omega) (by simp)
     refine U4 this ?_
     unfold ZaZ
     grind
    intro d
    induction d with
    | zero =>
     intro i m acc hi hci hm _
     obtain ⟨m,rfl⟩:=Zt hm
     rw [Zd]
     simp only [Zce]
     rw [Zn (by simp only [H7]; omega),Zlp k acc (by omega) (by omega)]
     grind [Znk]
    | succ d ih =>
     intro i m acc hi hci hm hacc
     obtain ⟨m,rfl⟩:=Zt (show 0 < m by omega)
     rw [Zd]
     simp only [Zce]
     have hi2:i < s.length:=by omega
     rw [Zb (by simp only [H7]; omega),Zb (by simp only [H7]; omega),Ui]
     have htn:∀ x ∈ s.take i,ZD x:=fun x hx => hnar x (JT hx)
     rw [ZII k (by omega) hc8 hci (by omega) (by omega) hsh hcR hnar]
     simp only [VJ]
     have hpb:=Znd (sh:=sh) hcR htn hc8
     have hsi:s.getD i 0 = s[i]:=KW hi2
     have hsn:=hnar s[i] (Ha hi2)
     unfold ZD at hsn
     have e1:Jx.wrap (s.getD i 0 - Znc c sh (s.take i)) = ZrN c sh s i:=by unfold ZrN; rw [hsi]; exact ZK (by omega)
     rw [e1,Zb (by simp; omega),show Jx.wrap ((i:Int) + 1) = ((i + 1:Nat):Int) from by rw [ZK (by omega)]; omega]
     rw [ih (i + 1) m _ (by omega) (by omega) (by omega) (by simp; omega)]
     grind [Znk,Ju,List.singleton_append]
theorem Zs6 (k:Nat) (c:List Int) (sh:Int) (s:List Int) (hk:s.length + 10 < k) (hn:s.length ≤ 8192):Zvr k ((c,sh,()),s,()) = some (((QU c sh s).1,(QU c sh s).2,()),()):=by
 show ZgA k (ZnO k) _ = _
 simp only [ZgA]
 rw [Zs2 k c sh s hk hn]
 simp only [VJ]
 have hnar:=WB c sh s
 have hlen:=Zie c sh s
 unfold QU
 generalize (Qx c sh s).2 = e
 generalize (Qx c sh s).1 = l at hnar hlen
 have:=Zi (A:=Int) (R:=(Int × Int × Unit) × Unit) (step:=fun L1 => Zch k L1) (fun i acc => (UD i,l,acc,e)) l
  (fun l' acc => some ((acc + Za2 (l'.map fun x => (x.natAbs:Int)),e,()),())) (fun i acc => 0 ≤ acc ∧ acc ≤ (i:Int) * 2147483648)
  (fun L acc _ => by grind [Zch,Za2])
  (fun L i hi acc hacc hL => by
   have hx:=hnar l[i] (Ha hi)
   unfold ZD at hx
   simp only [Zch]
   rw [Zb (W9 hi),Zb (QV hi),Zb (QV hi),Zs hi,ZL hi (by omega),ZK (n:=0 - l[i]) (by omega)]
   have e1:(if l[i] < 0 - l[i] then 0 - l[i] else l[i]) = (l[i].natAbs:Int):=by split <;> omega
   have hi8:(i:Int) ≤ 8192:=by omega
   rw [e1,ZK (n:=acc + (l[i].natAbs:Int)) (by omega),hL _ ⟨by omega,by push_cast; omega⟩]
   grind [Za2]) k 0 0 ⟨by omega,by omega⟩ (by omega) (Ht _)
 exact U4 this (by rw [U5,Ek])
theorem Zyi (c:List Int) (sh:Int) (s:List Int) (hn:s.length ≤ 8192):0 ≤ (QU c sh s).1 ∧ (QU c sh s).1 ≤ 35184372088832:=by
 unfold QU
 have hnar:=WB c sh s
 have hlen:=Zie c sh s
 generalize (Qx c sh s).1 = l at hnar hlen
 have:∀ l:List Int,(∀ x ∈ l,ZD x) → 0 ≤ Za2 (l.map fun x => (x.natAbs:Int)) ∧ Za2 (l.map fun x => (x.natAbs:Int)) ≤ (l.length:Int) * 2147483648:=by
  intro l h
  induction l with
  | nil => simp [Za2]
  | cons x l ih =>
   have h1:=h x (Jl ..)
   unfold ZD at h1
   grind [Za2,JF]
 have:=this l hnar
 omega
theorem ZPD (k:Nat) (o:Nat) (ho:o ≤ 4):ZGA k ((o:Int),()) = some (((YX o,0,()),0,()),()) :=
 match o,ho with
 | 0,_ => rfl
 | 1,_ => rfl
 | 2,_ => rfl
 | 3,_ => rfl
 | 4,_ => rfl
theorem ZIf (k:Nat) (o:Nat) (ho:o = 2 ∨ o = 4 ∨ o = 8) (hk:40 < k):ZBF k ((o:Int),()) = some ((Z2 o,4,()),()):=by
 obtain ⟨k,rfl⟩:∃ m,k = m + 40:=⟨k - 40,by omega⟩
 rcases ho with rfl | rfl | rfl
 ·rfl
 ·rfl
 ·rfl
def Km (M:Mdl):Int:=if M.2.2 then M.2.1 else 4611686018427387904
abbrev T80:=((List Int × Int × Unit) × Int × Unit) × Unit
abbrev A80:=Int × Int × List Int × Int × List Int × Int × List Int × Int
abbrev B80:=Int × Int × Int × List Int × Int × List Int × Int × List Int × Int
abbrev C80:=Int × Int × Int × List Int × Int × Int × List Int × Int × List Int × Int
abbrev Zh3:List Int:=[8,4,2,1]
theorem ZPK (k:Nat) (s:List Int) (hk:s.length + 20 < k) (hn:s.length ≤ 8192) (L1:A80 → Option T80) (L2:B80 → Option T80)
  {o j si:Nat} {st:Int} {M:Mdl} {v9:Int} (hM:MOk o 1000 M) (hj:j < o) (ho:o ≤ 8) (hsi:si < 4) (hg:Zh3.getD si 0 = st) (hst:0 ≤ st ∧ st ≤ 8) :
  Zq2 k L1 L2 (0,(j:Int),(si:Int),s,Km M,(o:Int),M.1,4,Zh3,v9) =
   L2 (((j + 1:Nat):Int),(o:Int),(si:Int),s,Km (Zpe s st j M),(Zpe s st j M).1,4,Zh3,v9):=by
 obtain ⟨k,rfl⟩:∃ m,k = m + 3:=⟨k - 3,by omega⟩
 have one:∀ (i:Nat) (by_:Int) (L3:C80 → Option T80) (M:Mdl),i < 2 → by_ = st * (1 - 2 * (i:Int)) → MOk o 1008 M →
   ZcR (k + 3) L1 L2 L3 ((i:Int),(j:Int),(si:Int),s,Km M,(o:Int),M.1,4,Zh3,v9) =
    L3 (((i + 1:Nat):Int),(j:Int),(si:Int),s,Km (Zf7 s by_ j M),(o:Int),(Zf7 s by_ j M).1,4,Zh3,v9):=by
  intro i by_ L3 M hi hb hM
  have hb8 : -8 ≤ by_ ∧ by_ ≤ 8:=by
   grind
  simp only [ZcR]
  have hl:=hM.len
  have e1:Jx.wrap (Zh3.getD si 0 * Jx.wrap (1 - Jx.wrap (2 * (i:Int)))) = by_:=by
   rw [hg,ZK (n:=2 * (i:Int)) (by omega),ZK (n:=1 - 2 * (i:Int)) (by omega),← hb,ZK (by omega)]
  simp only [VS,Ui,H7]
  have h4:Zh3.length = 4:=rfl
  rw [Zb (by omega),Zb (by omega),Zb (by omega),Zb (by omega),Zb (by omega),Zb (by omega),Zb (by omega),Zb (by omega),e1]
  have hx:=hM.bd (M.1.getD j 0) (by simp_all)
  rw [ZK (n:=M.1.getD j 0 + by_) (by omega),Zs6 (k + 3) _ 4 s (by omega) hn]
  simp only [VJ]
  rw [show Jx.wrap ((i:Int) + 1) = ((i + 1:Nat):Int) from by rw [ZK (by omega)]; omega]
  have hcb:=Zyi (M.1.set j (M.1.getD j 0 + by_)) 4 s hn
  unfold Zf7
  rw [ZC]
  by_cases h1:(QU (M.1.set j (M.1.getD j 0 + by_)) 4 s).2 = 0
  ·rw [Zb h1]
   cases h2:M.2.2 with
   | false =>
    rw [if_pos ⟨h1,.inl rfl⟩]
    unfold Km
    grind
   | true =>
    have hv:Km M = M.2.1:=by unfold Km; rw [h2]; rfl
    rw [hv]
    by_cases h3:(QU (M.1.set j (M.1.getD j 0 + by_)) 4 s).1 < M.2.1
    ·rw [Zb h3,if_pos ⟨h1,.inr h3⟩]; rfl
    grind
  simp_all
 show Ze (fun L3 => ZcR (k + 3) L1 L2 L3) (k + 3) ((0:Nat),(j:Int),(si:Int),s,Km M,(o:Int),M.1,4,Zh3,v9) = _
 rw [Zd,one 0 st _ M (by omega) (by omega) ⟨hM.len,fun x hx => by have:=hM.bd x hx; omega⟩]
 have h2:=ZkM (s:=s) hM hj (by_:=st) (by omega)
 rw [Zd,one 1 (-st) _ _ (by omega) (by omega) h2,Zd]
 simp only [ZcR]
 rw [Zn (by omega),show Jx.wrap ((j:Int) + 1) = ((j + 1:Nat):Int) from by rw [ZK (by omega)]; omega]
 rfl
theorem ZTw (k:Nat) (s:List Int) (hk:s.length + 20 < k) (hn:s.length ≤ 8192) (L1:A80 → Option T80)
  {o si:Nat} {st:Int} {v9:Int} (ho:o ≤ 8) (hsi:si < 4) (hg:Zh3.getD si 0 = st) (hst:0 ≤ st ∧ st ≤ 8):∀ (d j m:Nat) (b:Int) (M:Mdl),j + d = o → d < m → MOk o b M → b + 16 * (d:Int) ≤ 1000 →
  Ze (fun L2 => ZfH k (Zq2 k L1 L2) L1 L2) m ((j:Int),(o:Int),(si:Int),s,Km M,M.1,4,Zh3,v9) =
   L1 (((si + 1:Nat):Int),(o:Int),s,Km (Zsu s st d j M),(Zsu s st d j M).1,4,Zh3,v9):=by
 intro d
 induction d with
 | zero =>
  intro j m b M hj hm hM hb
  obtain ⟨m,rfl⟩:=Zt hm
  rw [Zd]
  simp only [ZfH]
  rw [Zn (by omega),show Jx.wrap ((si:Int) + 1) = ((si + 1:Nat):Int) from by rw [ZK (by omega)]; omega]
  rfl
 | succ d ih =>
  intro j m b M hj hm hM hb
  obtain ⟨m,rfl⟩:=Zt (show 0 < m by omega)
  rw [Zd]
  simp only [ZfH]
  rw [Zb (by omega)]
  rw [ZPK k s hk hn L1 _ (M:=M) ⟨hM.len,fun x hx => by have:=hM.bd x hx; omega⟩ (by omega) ho hsi hg hst]
  rw [ih (j + 1) m (b + 16) _ (by omega) (by omega) (Zpf hM (by omega) (by omega)) (by push_cast at hb; omega)]
  rfl
theorem ZPO (k:Nat) (s:List Int) (o:Nat) (ho:o = 2 ∨ o = 4 ∨ o = 8) (hos:o ≤ s.length) (hs:∀ x ∈ s,ZD x) (hk:s.length + 60 < k) (hn:s.length ≤ 8192) :
  ZPG k (s,(o:Int),()) = some (((XW s o,4,()),0,()),()):=by
 show Zkn k (Zq0 k) _ = _
 simp only [Zkn]
 have hw:s.any QA = false:=by
  rw [Uj]
  intro x hx
  have:=hs x hx
  unfold ZD at this
  unfold QA
  simp only [decide_eq_true_eq]
  omega
 rw [Zn (by omega),Zn (by omega),Zn (by simp only [H7]; omega),Zlp k s (by omega) (by omega),hw]
 simp only [VJ,cond_false,Ec,HF]
 rw [ZIf k o ho (by omega)]
 simp only [VJ]
 rw [Zs6 k _ 4 s (by omega) hn]
 simp only [VJ]
 have hM0:MOk o 96 (Z2 o,(QU (Z2 o) 4 s).1,(QU (Z2 o) 4 s).2 == 0):=by
  rcases ho with rfl | rfl | rfl
  ·exact ⟨rfl,show ∀ x ∈ Z2 2,-96 ≤ x ∧ x ≤ 96 by decide⟩
  ·exact ⟨rfl,show ∀ x ∈ Z2 4,-96 ≤ x ∧ x ≤ 96 by decide⟩
  ·exact ⟨rfl,show ∀ x ∈ Z2 8,-96 ≤ x ∧ x ≤ 96 by decide⟩
 have ho8:o ≤ 8:=by omega
 have h1:=Kj (s:=s) (st:=8) (by omega) ho8 hM0
 have h2:=Kj (s:=s) (st:=4) (by omega) ho8 h1
 have h3:=Kj (s:=s) (st:=2) (by omega) ho8 h2
 obtain ⟨k',rfl⟩:∃ m,k = m + 5:=⟨k - 5,by omega⟩
 have row:∀ (L1:A80 → Option T80) (st:Int) (si:Nat) (b:Int) (M:Mdl),si < 4 → Zh3.getD si 0 = st → 0 < st → st ≤ 8 → MOk o b M → b + 128 ≤ 1000 →
   ZfG (k' + 5) (Zq1 (k' + 5) L1) L1 ((si:Int),(o:Int),s,Km M,M.1,4,Zh3,0) = L1 (((si + 1:Nat):Int),(o:Int),s,Km (Zsv s st o M),(Zsv s st o M).1,4,Zh3,0):=by
  intro L1 st si b M hsi hg h0 h8 hM hb
  simp only [ZfG]
  rw [Zb (by omega)]
  exact ZTw (k' + 5) s (by omega) hn L1 ho8 hsi hg (by omega) o 0 (k' + 5) b M (by omega) (by omega) hM (by omega)
 have fin:Zq0 (k' + 5) (((0:Nat):Int),(o:Int),s,Km (Z2 o,(QU (Z2 o) 4 s).1,(QU (Z2 o) 4 s).2 == 0),Z2 o,4,Zh3,0) = some (((XW s o,4,()),0,()),()):=by
  show Ze (fun L1 => ZfG (k' + 5) (Zq1 (k' + 5) L1) L1) (k' + 5) _ = _
  rw [Zd]
  refine (row _ 8 0 96 (Z2 o,(QU (Z2 o) 4 s).1,(QU (Z2 o) 4 s).2 == 0) (by omega) rfl (by omega) (by omega) hM0 (by omega)).trans ?_
  rw [Zd]
  refine (row _ 4 1 _ _ (by omega) rfl (by omega) (by omega) h1 (by omega)).trans ?_
  rw [Zd]
  refine (row _ 2 2 _ _ (by omega) rfl (by omega) (by omega) h2 (by omega)).trans ?_
  rw [Zd]
  refine (row _ 1 3 _ _ (by omega) rfl (by omega) (by omega) h3 (by omega)).trans ?_
  rfl
 rw [ZU,← fin]
 by_cases h:(QU (Z2 o) 4 s).2 = 0
 ·rw [Zn (by simpa using h)]
  have:Km (Z2 o,(QU (Z2 o) 4 s).1,(QU (Z2 o) 4 s).2 == 0) = (QU (Z2 o) 4 s).1:=by unfold Km; simp [h]
  rw [this]
  rfl
 ·rw [Zb h]
  have:Km (Z2 o,(QU (Z2 o) 4 s).1,(QU (Z2 o) 4 s).2 == 0) = 4611686018427387904:=by unfold Km; simp [h]
  rw [this]
  rfl
end Go.Sh
namespace Go.Sh
open Go Go.Proofs
theorem ZI1 (k:Nat) (n o:Int):ZBZ k (n,o,()) = some (ZbP n o,()):=by
 show ZlP k _ = _
 simp only [ZlP]
 unfold ZbP
 grind
theorem ZIK (k:Nat) (l:List Int) (o:Int) (hk:l.length < k) (hn:l.length < 4294967296):ZBT k (l,o,()) = some (W1 l o,()):=by
 show ZgK k (Zob k) _ = _
 simp only [ZgK]
 unfold W1
 by_cases h1:o < 0
 ·rw [Zb h1,if_pos (.inl h1)]
 rw [Zn h1]
 by_cases h2:8 < o
 ·rw [Zb h2,if_pos (.inr h2)]
 rw [Zn h2,if_neg (by omega)]
 have e:Jx.wrap (UD l.length + o) = (l.length:Int) + o:=by simp only [H7]; rw [ZK (by omega)]
 rw [e,ZI1]
 simp only [VJ]
 cases hb:ZbP ((l.length:Int) + o) o with
 | false => rfl
 | true =>
  simp only [HF,cond_false,HV,if_false]
  have:=QN (R:=Int × Unit) (step:=fun L1 => Zcr k L1) (fun i => (UD i,l)) l (fun x => !QA x) (some (12,())) (some (0,()))
   (fun L => by grind [Zcr])
   (fun L i hi => by
    simp only [Zcr]
    rw [Zb (W9 hi),Zb (QV hi),Zb (QV hi),Zs hi,ZL hi (by omega)]
    unfold QA
    grind) k hk
  refine U4 this ?_
  grind
theorem ZIR (k:Nat) {p n o size:Nat} (hp:p ≤ 15) (hsz:n / 2 ^ p = size) (hnn:n < 4294967296):∀ (d i m:Nat) (r:List Int) (out:List (List Int)),d < m → i + d = 2 ^ p → 0 < i → out.length = i → r.length = d * size → r.length < 4294967296 →
  Ze (fun L1 => YN k L1) m ((i:Int),(p:Int),(n:Int),(o:Int),r,out) = some (out ++ KL size d r,()):=by
 have h15:2 ^ p ≤ 2 ^ 15:=He (by omega) hp
 have hd:size ≤ n:=by rw [← hsz]; exact Eb _ _
 intro d
 induction d with
 | zero =>
  intro i m r out hm hi h0 ho hr hn
  obtain ⟨m,rfl⟩:=Zt hm
  rw [Zd]
  simp only [YN]
  rw [Zb (by omega),Zby (by omega),Zn (by omega),Zb (by omega)]
  simp [KL]
 | succ d ih =>
  intro i m r out hm hi h0 ho hr hn
  obtain ⟨m,rfl⟩:=Zt (show 0 < m by omega)
  rw [Zd]
  simp only [YN]
  have hs:(d + 1) * size = d * size + size:=by rw [Jg,Jp]
  have hle:size ≤ r.length:=by omega
  have e0:(n:Int).fdiv (2 ^ min ((p:Int)).toNat 64) = (size:Int):=by grind
  rw [Zb (by omega),Zby (by omega),Zb (by omega),Zb (by omega),ZC,Zn (by omega),e0]
  rw [Zb (by simp only [H7]; omega),Zb (by grind),Zb (by simp only [H7]; omega)]
  rw [Ui,show (UD r.length).toNat = r.length from rfl,Ea,U5,ZK (n:=(i:Int) + 1) (by omega)]
  have:=ih (i + 1) m (r.drop size) (out ++ [r.take size]) (by omega) (by omega) (by omega) (by simp; omega) (by rw [Vh]; omega) (by rw [Vh]; omega)
  grind [KL]
theorem Ztj (k:Nat) {l:List Int} {o p:Nat} (hp:p ≤ 15) (hn:l.length + o < 4294967296) (hk:32768 < k) :
  ZvK k (l,(o:Int),(p:Int),()) = some (if Zh1 (l.length + o) o p = true then WF l o p else [],()):=by
 show ZgN k (Zof k) _ = _
 have h15:2 ^ p ≤ 2 ^ 15:=He (by omega) hp
 have h0:0 < 2 ^ p:=Hq (by omega)
 simp only [ZgN]
 have e1:Jx.wrap (UD l.length + (o:Int)) = ((l.length + o:Nat):Int):=by rw [ZK (by simp only [H7]; omega)]; rfl
 have e2:(((l.length + o:Nat):Int)).tmod (((2 ^ p:Nat)):Int) = (((l.length + o) % 2 ^ p:Nat):Int):=by
  rfl
 have e3:(((l.length + o:Nat):Int)).fdiv (2 ^ min ((p:Int)).toNat 64) = (((l.length + o) / 2 ^ p:Nat):Int):=by grind
 rw [e1,Zby (by omega),e2,e3,Zb (by omega),Zb (by omega),ZU]
 unfold Zh1
 by_cases hm:(l.length + o) % 2 ^ p = 0
 case neg => grind
 rw [Zn (by rw [hm]; simp),decide_eq_true hm,UC,Zb (by omega)]
 by_cases ho:o ≤ (l.length + o) / 2 ^ p
 case neg => grind
 rw [Zn (by omega),decide_eq_true ho,if_pos rfl]
 obtain ⟨j,rfl⟩:=Zt (show 0 < k by omega)
 show Ze (fun L1 => YN (j + 1) L1) (j + 1) _ = _
 rw [Zd]
 simp only [YN]
 have hd:(l.length + o) / 2 ^ p ≤ l.length + o:=Eb _ _
 have hmul:2 ^ p * ((l.length + o) / 2 ^ p) = l.length + o:=by have:=Nat.div_add_mod (l.length + o) (2 ^ p); omega
 unfold WF
 rw [e3,Zby (by omega)]
 generalize hsz:(l.length + o) / 2 ^ p = size at ho hd hmul
 have e4:Jx.wrap ((size:Int) - (o:Int)) = ((size - o:Nat):Int):=by rw [ZK (by omega)]; omega
 have e5:(2 ^ p - 1) * size = 2 ^ p * size - size:=by rw [Nat.sub_mul,Jp]
 have hps:size ≤ 2 ^ p * size:=Ep _ h0
 rw [e4,Zb (by omega),Zb (by omega),Zb (by omega),ZC,Zb (by rfl),Zb (by simp only [H7]; omega),Zb (by simp),Zb (by simp only [H7]; omega)]
 rw [Ui,show (UD l.length).toNat = l.length from rfl,Ea,U5,show Jx.wrap ((0:Int) + 1) = ((1:Nat):Int) from by decide]
 exact ZIR (j + 1) hp hsz (by omega) (2 ^ p - 1) 1 j _ _ (by omega) (by omega) (by omega) rfl (by rw [Vh,e5]; omega) (by rw [Vh]; omega)
theorem Ztl (k:Nat) {n:Int} (h:ZD n):ZvM k (n,()) = some (((Z3 n:Nat):Int),()):=by
 show ZlM k _ = _
 unfold ZD at h
 simp only [ZlM]
 unfold Z3
 by_cases h0:n < 0
 ·rw [Zb h0,if_pos h0,ZK (n := -2 * n) (by omega),ZK (by omega)]
  congr 2
  omega
 ·rw [Zn h0,if_neg h0,ZK (by omega)]
  congr 2
  omega
theorem ZI9 (k:Nat) {l:List Int} (hl:∀ x ∈ l,ZD x) (hn:l.length ≤ 512) (hk:l.length < k) {kk:Nat} (hkk:kk ≤ 31) :
  ZB3 k (l,(kk:Int),()) = some (if ZcS l kk = true then -1 else ((XK l kk:Nat):Int),()):=by
 show ZgQ k (Zok k) _ = _
 simp only [ZgQ]
 have:=Zi (A:=Int) (R:=Int × Unit) (step:=fun L1 => Zcw k L1) (fun i a => (UD i,l,(kk:Int),a)) l
  (fun l' a => some (if ZcS l' kk = true then -1 else a + ((XK l' kk:Nat):Int),())) (fun i a => 0 ≤ a ∧ a ≤ (i:Int) * 70000)
  (fun L a _ => by
   grind [Zcw,ZcS,XK,Zf8])
  (fun L i hi a ha hL => by
   simp only [Zcw]
   have hx:=hl l[i] (Ha hi)
   rw [Zb (W9 hi),Zb (QV hi),Zs hi,Ztl k hx]
   simp only [VJ]
   simp only [Ui,Hs (show kk ≤ 64 by omega),ZcT]
   rw [Zb (by omega)]
   have hfar:ZcS (l[i] :: l.drop (i + 1)) kk = (decide (65536 < Z3 l[i] / 2 ^ kk) || ZcS (l.drop (i + 1)) kk):=by unfold ZcS; rw [HQ]
   have hsz:XK (l[i] :: l.drop (i + 1)) kk = Z3 l[i] / 2 ^ kk + 1 + kk + XK (l.drop (i + 1)) kk:=by
    unfold XK
    grind [Zf8,JF]
   rw [hfar,hsz]
   generalize Z3 l[i] / 2 ^ kk = q
   by_cases h6:65536 < q
   ·grind
   ·have hi5:(i:Int) ≤ 512:=by omega
    rw [Zn (by omega),decide_eq_false h6,Bool.false_or,ZL hi (by omega),ZK (n:=a + (q:Int)) (by omega),ZK (n:=a + (q:Int) + 1) (by omega),ZK (by omega)]
    grind)
  k 0 0 ⟨by omega,by omega⟩ (by omega) (Ht _)
 rw [U5] at this
 refine U4 this ?_
 rw [Ek]
theorem ZJ3 {x:Int} (hx:ZD x) (h0:x ≠ 0) {w:Nat} (h:Xe x w = true):Q0 x ≤ w:=by
 unfold Xe at h
 unfold ZD at hx
 by_cases hw:w = 0
 ·simp_all
 ·rw [if_neg hw,decide_eq_true_eq] at h
  unfold Q0
  have e:(2:Int) ^ (w - 1) = ((2 ^ (w - 1):Nat):Int):=QS _
  rw [e] at h
  have hm:(if x < 0 then (-x - 1).toNat else x.toNat) < 2 ^ (w - 1):=by
   grind
  by_cases hw2:w - 1 ≤ 64
  ·have:=Lib.bitLen_le (if x < 0 then (-x - 1).toNat else x.toNat) (w - 1) hw2 hm
   omega
  ·have:=Lib.bitLen_le (if x < 0 then (-x - 1).toNat else x.toNat) 31 (by omega) (by split <;> omega)
   omega
theorem ZG9 {x:Int} (hx:ZD x) (w:Nat):Xe x w = decide ((if x = 0 then 0 else Q0 x) ≤ w):=by
 by_cases h0:x = 0
 ·subst h0
  rw [if_pos rfl,decide_eq_true (Ht _)]
  unfold Xe
  split
  ·exact decide_eq_true rfl
  ·have:0 < 2 ^ (w - 1):=Hq (by omega)
   grind
 ·rw [if_neg h0]
  by_cases h:Q0 x ≤ w
  ·rw [decide_eq_true h]
   exact ZsD hx h
  ·rw [decide_eq_false h]
   cases hs:Xe x w with
   | false => rfl
   | true => exact absurd (ZJ3 hx h0 hs) h
theorem ZJc (k:Nat) {l:List Int} (hl:∀ x ∈ l,ZD x) (hn:l.length ≤ 512) (hk:l.length + 50 < k):ZB5 k (l,()) = some (((Z6 l:Nat):Int),()):=by
 show ZgR k (Zom k) _ = _
 simp only [ZgR]
 have inner:∀ (L1:Int × List Int × Int → Option (Int × Unit)) (i:Nat) (hi:i < l.length) (d w m:Nat),w ≤ 32 → max w (if l[i] = 0 then 0 else Q0 l[i]) = w + d → d < m →
   Ze (fun L2 => Zcy k L1 L2) m (l,UD i,(w:Int)) = L1 (UD (i + 1),l,((w + d:Nat):Int)):=by
  intro L1 i hi d
  have hx:=hl l[i] (Ha hi)
  have hb:=ZeD hx
  induction d with
  | zero =>
   intro w m hw he hm
   obtain ⟨m,rfl⟩:=Zt hm
   rw [Zd]
   simp only [Zcy]
   rw [Zb (QV hi),Zs hi,ZjW k _ (by omega),ZG9 hx,decide_eq_true (by omega)]
   simp only [VJ,HF,cond_false]
   rw [ZL hi (by omega)]
   rfl
  | succ d ih =>
   intro w m hw he hm
   obtain ⟨m,rfl⟩:=Zt (show 0 < m by omega)
   have hlt:w < (if l[i] = 0 then 0 else Q0 l[i]):=by omega
   have h32:(if l[i] = 0 then 0 else Q0 l[i]) ≤ 32:=by split <;> omega
   rw [Zd]
   simp only [Zcy]
   rw [Zb (QV hi),Zs hi,ZjW k _ (by omega),ZG9 hx,decide_eq_false (by omega)]
   simp only [VJ,Ec,cond_true]
   rw [show Jx.wrap ((w:Int) + 1) = ((w + 1:Nat):Int) from by rw [ZK (by omega)]; omega]
   rw [ih (w + 1) m (by omega) (by omega) (by omega),show w + 1 + d = w + (d + 1) by omega]
 have:=Zi (A:=Nat) (R:=Int × Unit) (step:=fun L1 => Zcx k (Zon k L1) L1) (fun i a => (UD i,l,((a:Nat):Int))) l
  (fun l' a => some (((l'.foldl (fun w n => if n = 0 then w else max w (Q0 n)) a:Nat):Int),())) (fun i a => a ≤ 32)
  (fun L a _ => by grind [Zcx])
  (fun L i hi a ha hL => by
   have hx:=hl l[i] (Ha hi)
   have hb:=ZeD hx
   simp only [Zcx]
   rw [Zb (W9 hi)]
   have h32:(if l[i] = 0 then 0 else Q0 l[i]) ≤ 32:=by split <;> omega
   refine (inner L i hi (max a (if l[i] = 0 then 0 else Q0 l[i]) - a) a k ha (by omega) (by omega)).trans ?_
   have e:a + (max a (if l[i] = 0 then 0 else Q0 l[i]) - a) = if l[i] = 0 then a else max a (Q0 l[i]):=by split <;> omega
   rw [e]
   exact hL (if l[i] = 0 then a else max a (Q0 l[i])) (by split <;> omega))
  k 0 0 (by omega) (by omega) (Ht _)
 rw [U5] at this
 exact this
def Zya (l:List Int) (m:Int):Prt:=if (Qk l m).2 = true then (Qk l m).1 else (-1,0,0,())
def kSt (B:Prt × Bool):Int × Int:=if B.2 = true then (B.1.1,B.1.2.2.1) else (-1,0)
def KOk (B:Prt × Bool):Prop:=B.2 = true → 0 ≤ B.1.1 ∧ B.1.2.1 = 0
theorem Zup {l:List Int} {B:Prt × Bool} (kk:Nat) (hB:KOk B):KOk (ZaU l B kk):=by
 unfold ZaU KOk
 split
 ·intro _; exact ⟨by simp,rfl⟩
 ·exact hB
theorem ZIT (k:Nat) {l:List Int} (hl:∀ x ∈ l,ZD x) (hn:l.length ≤ 512) (hk:l.length + 50 < k) {m:Int} (hm:m = 0 ∨ m = 1) :
  ∀ (d kk j:Nat) (B:Prt × Bool),kk + d = QM m → d < j → KOk B → 
  Ze (fun L1 => Zcu k L1) j ((kk:Int),((QM m:Nat):Int),l,(kSt B).1,(kSt B).2) =
   some ((let B:=kF l d kk B; if Z6 l ≤ 31 ∧ (B.2 = false ∨ ((5 + Z6 l * l.length:Nat):Int) < B.1.2.2.1) then (((QM m:Nat):Int),((Z6 l:Nat):Int),((5 + Z6 l * l.length:Nat):Int),()) else ((kSt B).1,0,(kSt B).2,())),()):=by
 have he:QM m ≤ 31:=by unfold QM; split <;> omega
 have hw:=(Zem l 0 hl (by omega)).2.1
 intro d
 induction d with
 | zero =>
  intro kk j B hkk hj hB
  obtain ⟨j,rfl⟩:=Zt hj
  rw [Zd]
  simp only [Zcu]
  rw [Zn (by omega),ZJc k hl hn hk]
  simp only [VJ]
  have hwl:Z6 l * l.length ≤ 32 * 512:=J3 hw hn
  have e1:Jx.wrap ((5:Int) + Jx.wrap (((Z6 l:Nat):Int) * UD l.length)) = ((5 + Z6 l * l.length:Nat):Int):=by
   have:((Z6 l:Nat):Int) * UD l.length = ((Z6 l * l.length:Nat):Int):=by rfl
   rw [this,ZK (n:=((Z6 l * l.length:Nat):Int)) (by omega),ZK (by omega)]
   push_cast; rfl
  rw [e1]
  rw [show kF l 0 kk B = B from rfl]
  by_cases h31:Z6 l ≤ 31
  ·rw [Zb (by omega)]
   unfold kSt
   cases hb:B.2 with
   | false => simp_all
   | true =>
    have:=(hB hb).1
    grind
  grind
 | succ d ih =>
  intro kk j B hkk hj hB
  obtain ⟨j,rfl⟩:=Zt (show 0 < j by omega)
  rw [Zd]
  simp only [Zcu]
  rw [Zb (by omega),ZI9 k hl hn (by omega) (by omega)]
  simp only [VJ]
  rw [show Jx.wrap ((kk:Int) + 1) = ((kk + 1:Nat):Int) from by rw [ZK (by omega)]; omega]
  have hnext:=ih (kk + 1) j (ZaU l B kk) (by omega) (by omega) (Zup kk hB)
  rw [show kF l (d + 1) kk B = kF l d (kk + 1) (ZaU l B kk) from rfl,← hnext]
  have hsz:(0:Int) ≤ ((XK l kk:Nat):Int):=Int.natCast_nonneg _
  unfold ZaU
  cases hf:ZcS l kk with
  | true => rfl
  | false =>
   simp only [JJ,if_false]
   rw [Zb hsz]
   cases hb:B.2 with
   | false =>
    have e:kSt B = (-1,0):=by unfold kSt; rw [hb]; rfl
    rw [e,Zb (by decide),if_pos ⟨trivial,.inl rfl⟩]
    rfl
   | true =>
    have e:kSt B = (B.1.1,B.1.2.2.1):=by unfold kSt; rw [hb]; rfl
    have:=(hB hb).1
    rw [e]
    simp only
    rw [Zn (by omega)]
    by_cases hlt:((XK l kk:Nat):Int) < B.1.2.2.1
    ·rw [Zb hlt,if_pos ⟨trivial,.inr hlt⟩]
     rfl
    grind
theorem ZQg {l:List Int}:∀ (d kk:Nat) (B:Prt × Bool),KOk B → KOk (kF l d kk B)
 | 0,_,_,h => h
 | d + 1,kk,B,h => ZQg d (kk + 1) _ (Zup kk h)
theorem Ztk (k:Nat) {l:List Int} (hl:∀ x ∈ l,ZD x) (hn:l.length ≤ 512) (hk:l.length + 90 < k) {m:Int} (hm:m = 0 ∨ m = 1) :
  ZvL k (l,m,()) = some (Zya l m,()):=by
 show ZgO k (Zoh k) _ = _
 simp only [ZgO]
 have he:QM m ≤ 31:=by unfold QM; split <;> omega
 have hg:[(15:Int),31].getD m.toNat 0 = ((QM m:Nat):Int):=by rcases hm with rfl | rfl <;> rfl
 rw [Zb (by omega),Zb (by omega),hg]
 refine (ZIT k hl hn (by omega) hm (QM m) 0 k ((0,0,0,()),false) (by omega) (by omega) (fun h => by cases h)).trans ?_
 have hk0:KOk (kF l (QM m) 0 ((0,0,0,()),false)):=ZQg _ _ _ (fun h => by cases h)
 unfold Zya Qk
 simp only
 generalize kF l (QM m) 0 ((0,0,0,()),false) = B at hk0
 by_cases h:Z6 l ≤ 31 ∧ (B.2 = false ∨ ((5 + Z6 l * l.length:Nat):Int) < B.1.2.2.1)
 ·rw [if_pos h,if_pos h]; rfl
 ·rw [if_neg h,if_neg h]
  unfold kSt
  obtain ⟨⟨x,y,z,u⟩,b⟩:=B
  cases b with
  | false => rfl
  | true =>
   have:=(hk0 rfl).2
   simp_all
end Go.Sh
namespace Go.Sh
open Go Go.Proofs
def rSt (B:WE):Int × Int × Int:=if B.2.2.1 < 0 then (-1,0,0) else (B.2.1,B.2.2.1,B.1)
def ROk (B:WE):Prop:=B.2.2.1 < 0 ∨ 0 ≤ B.2.1
theorem Zmq {l:List Int} {o p:Nat} {m:Int} {B:WE} (hB:ROk B):ROk (WP l o p m B):=by
 unfold WP
 split
 ·exact .inr (by simp)
 ·exact hB
abbrev ZRa:=(Int × Int × Int × Unit) × Unit
abbrev ZXG:=Int × List Int × Int × Int × Int × Int
abbrev ZY2:=Int × List (List Int) × Int × Int × Int × List Int × Int × Int
theorem ZBV (k : Nat) (L1 : ZXG → Option ZRa) (L2 : ZY2 → Option ZRa)
    {cs : List (List Int)} (hcs : ∀ c ∈ cs, (∀ x ∈ c, ZD x) ∧ c.length ≤ 512) (hn : cs.length ≤ 16) (hk : 700 < k) {m : Int} (hm : m = 0 ∨ m = 1) {p : Int} (hp : 0 ≤ p) (l : List Int) (o : Int) {B : WE} (hB : ROk B) :
    Zbk k L1 L2 ((0 : Int), cs, m, (rSt B).1, (rSt B).2.1, p, l, o, (rSt B).2.2, (6 : Int)) =
      (let B' := if (ZZ m cs [] 6).2.2 = true ∧ (B.2.2.1 < 0 ∨ (ZZ m cs [] 6).2.1 < B.2.2.1) then (m, p, (ZZ m cs [] 6).2.1, (ZZ m cs [] 6).1) else B
       L2 (m + 1, cs, (rSt B').1, (rSt B').2.1, p, l, o, (rSt B').2.2)) := by
  have hm1 : Jx.wrap (m + 1) = m + 1 := by rcases hm with rfl | rfl <;> rfl
  have := Zi (A := Int × List Prt) (R := ZRa) (step := fun L3 => Zct k L1 L2 L3)
    (fun i a => (UD i, cs, m, (rSt B).1, (rSt B).2.1, p, l, o, (rSt B).2.2, a.1)) cs
    (fun cs' a => (let B' := if (ZZ m cs' a.2 a.1).2.2 = true ∧ (B.2.2.1 < 0 ∨ (ZZ m cs' a.2 a.1).2.1 < B.2.2.1) then (m, p, (ZZ m cs' a.2 a.1).2.1, (ZZ m cs' a.2 a.1).1) else B
       L2 (m + 1, cs, (rSt B').1, (rSt B').2.1, p, l, o, (rSt B').2.2)))
    (fun i a => 0 ≤ a.1 ∧ a.1 ≤ 6 + (i : Int) * 8796093022208)
    (fun L a ha => by
      simp only [Zct]
      rw [Zn (XJ _), hm1, Zb ha.1]
      simp only [ZZ, true_and]
      by_cases h1 : B.2.2.1 < 0
      · have e : (rSt B).1 = -1 := by unfold rSt; rw [if_pos h1]
        rw [e, Zb (by omega), if_pos (.inl h1)]
        unfold rSt
        grind
      · have h0 : 0 ≤ B.2.1 := by rcases hB with h | h; exact absurd h h1; exact h
        have e : rSt B = (B.2.1, B.2.2.1, B.1) := by unfold rSt; rw [if_neg h1]
        rw [e]
        simp only
        rw [Zn (by omega)]
        by_cases h2 : a.1 < B.2.2.1
        · rw [Zb h2, if_pos (.inr h2)]
          unfold rSt
          grind
        · rw [Zn h2, if_neg (by omega), e])
    (fun L i hi a ha hL => by
      simp only [Zct]
      obtain ⟨hc1, hc2⟩ := hcs cs[i] (Ha hi)
      rw [Zb (W9 hi), Zb (QV hi), Zs hi, Ztk k hc1 hc2 (by omega) hm]
      simp only [VJ]
      unfold Zya
      cases hb : (Qk cs[i] m).2 with
      | false =>
        rw [Zg2 _ _ _ hb]
        simp_all
      | true =>
        rw [Zea _ _ _ hb]
        simp only [if_true]
        have hok := Zab hb
        have hs := hok.size hc1 hc2
        have h0 : 0 ≤ (Qk cs[i] m).1.1 := by rcases hok with ⟨kk, _, _, h⟩ | ⟨_, h⟩ <;> rw [h] <;> simp
        have hi16 : (i : Int) < 16 := by omega
        have hm01 : 0 ≤ m ∧ m ≤ 1 := by rcases hm with rfl | rfl <;> omega
        rw [Zn (by omega), ZL hi (by omega), ZK (n := a.1 + 4) (by omega), ZK (n := a.1 + 4 + m) (by omega), ZK (by omega)]
        have e : a.1 + 4 + m + (Qk cs[i] m).1.2.2.1 = a.1 + (4 + m + (Qk cs[i] m).1.2.2.1) := by omega
        rw [e]
        exact hL (a.1 + (4 + m + (Qk cs[i] m).1.2.2.1), a.2 ++ [(Qk cs[i] m).1]) ⟨by omega, by push_cast; omega⟩)
    k 0 ((6 : Int), []) ⟨by omega, by simp⟩ (by omega) (Ht _)
  rw [U5] at this
  exact this
theorem ZIL (k:Nat) (L1:ZXG → Option ZRa)
  {l:List Int} (hl:∀ x ∈ l,ZD x) {o p:Nat} (hn:l.length + o ≤ 512) (hp:p ≤ 4) (hk:40000 < k) {B:WE} (hB:ROk B) :
  ZiT k L1 ((0:Int),(if Zh1 (l.length + o) o p = true then WF l o p else []),(rSt B).1,(rSt B).2.1,(p:Int),l,(o:Int),(rSt B).2.2) =
   L1 (((p + 1:Nat):Int),l,(o:Int),(rSt (ZbJ l o B p)).1,(rSt (ZbJ l o B p)).2.1,(rSt (ZbJ l o B p)).2.2):=by
 obtain ⟨j,rfl⟩:∃ j,k = j + 3:=⟨k - 3,by omega⟩
 have ep:Jx.wrap ((p:Int) + 1) = ((p + 1:Nat):Int):=by rw [ZK (by omega)]; rfl
 unfold ZbJ
 cases hf:Zh1 (l.length + o) o p with
 | false =>
  simp only [JJ,if_false]
  show Ze (fun L2 => XD (j + 3) (Zbk (j + 3) L1 L2) L1 L2) (j + 3) _ = _
  rw [Zd]
  grind [XD]
 | true =>
  simp only [if_true]
  have hcs:∀ c ∈ WF l o p,(∀ x ∈ c,ZD x) ∧ c.length ≤ 512:=fun c hc => ⟨fun x hx => hl x (Yp hc x hx),by have:=Zbd hc; omega⟩
  have hlen:(WF l o p).length ≤ 16:=by
   rw [Zb3]
   have:2 ^ p ≤ 2 ^ 4:=He (by omega) hp
   omega
  have hne:(WF l o p).isEmpty = false:=rfl
  have one:∀ (e:Nat) (m:Int) (B:WE),m = 0 ∨ m = 1 → ROk B → Ze (fun L2 => XD (j + 3) (Zbk (j + 3) L1 L2) L1 L2) (e + 1) (m,WF l o p,(rSt B).1,(rSt B).2.1,(p:Int),l,(o:Int),(rSt B).2.2) =
    Ze (fun L2 => XD (j + 3) (Zbk (j + 3) L1 L2) L1 L2) e (m + 1,WF l o p,(rSt (WP l o p m B)).1,(rSt (WP l o p m B)).2.1,(p:Int),l,(o:Int),(rSt (WP l o p m B)).2.2):=by
   intro e m B hm hB
   rw [Zd]
   simp only [XD]
   rw [Zb (by rcases hm with rfl | rfl <;> omega),hne]
   simp only [Ec,cond_true]
   exact ZBV (j + 3) L1 _ hcs hlen (by omega) hm (by omega) l (o:Int) hB
  show Ze (fun L2 => XD (j + 3) (Zbk (j + 3) L1 L2) L1 L2) (j + 3) _ = _
  rw [one (j + 2) 0 B (.inl rfl) hB,show (0:Int) + 1 = 1 from rfl,one (j + 1) 1 _ (.inr rfl) (Zmq hB),Zd]
  grind [XD]
theorem ZIP (k:Nat) {l:List Int} (hl:∀ x ∈ l,ZD x) {o:Nat} (hn:l.length + o ≤ 512) (hk:40000 < k) :
  ZBU k (l,(o:Int),()) = some (((Ql l o).2.1,(Ql l o).1,(Ql l o).2.2.1,()),()):=by
 show ZgM k (Zod k) _ = _
 simp only [ZgM]
 obtain ⟨hnn,_⟩:=XA hl (o:=o) (by omega) (by omega)
 suffices H:∀ (d p m:Nat) (B:WE),d < m → p + d = 5 → ROk B → Ze (fun L1 => Zcs k (ZiT k L1) L1) m ((p:Int),l,(o:Int),(rSt B).1,(rSt B).2.1,(rSt B).2.2) =
   some (((rSt (WW l o d p B)).1,(rSt (WW l o d p B)).2.2,(rSt (WW l o d p B)).2.1,()),()) by
  refine (H 5 0 k (0,0,-1,[]) (by omega) rfl (.inl (by decide))).trans ?_
  have e:rSt (Ql l o) = ((Ql l o).2.1,(Ql l o).2.2.1,(Ql l o).1):=by unfold rSt; rw [if_neg (by omega)]
  show some (((rSt (Ql l o)).1,(rSt (Ql l o)).2.2,(rSt (Ql l o)).2.1,()),()) = _
  rw [e]
 intro d
 induction d with
 | zero =>
  intro p m B hm hp _
  obtain ⟨m,rfl⟩:=Zt hm
  rw [Zd]
  simp only [Zcs]
  rw [Zn (by omega)]
  rfl
 | succ d ih =>
  intro p m B hm hp hB
  obtain ⟨m,rfl⟩:=Zt (show 0 < m by omega)
  rw [Zd]
  simp only [Zcs]
  rw [Zb (by omega),Ztj k (by omega) (by omega) (by omega)]
  simp only [VJ]
  rw [ZIL k _ hl hn (by omega) hk hB,ih (p + 1) m _ (by omega) (by omega) (by
   unfold ZbJ
   split
   ·exact Zmq (Zmq hB)
   ·exact hB)]
  rfl
theorem Zti (k n:Nat) (hn:n ≤ 65536) (hk:70000 < k):ZvH k ((n:Int),()) = some ((Xz (Jd n false ++ [true]),0,()),()):=by
 show ZgH k (Zn5 k) _ = _
 simp only [ZgH]
 have e1:Jx.wrap ((n:Int) + 1) = ((n + 1:Nat):Int):=by rw [ZK (by omega)]; rfl
 rw [e1,Zn (by omega),Zn (by omega),Zb (by omega),Ui]
 suffices H:∀ (d i m:Nat),i + d = n → d < m → Ze (fun L1 => Zco k L1) m ((i:Int),(n:Int),Jd i (48:Int) ++ Jd (d + 1) 0) = some ((Xz (Jd n false ++ [true]),0,()),()) by
  exact H n 0 k (by omega) (by omega)
 intro d
 induction d with
 | zero =>
  intro i m hi hm
  obtain ⟨m,rfl⟩:=Zt hm
  obtain rfl:i = n:=by omega
  rw [Zd]
  simp only [Zco]
  have hlen:(Jd i (48:Int) ++ Jd (0 + 1) 0).length = i + 1:=by simp
  rw [Zn (by omega),Zb (by grind),Zb (by rw [hlen,Ui]; omega),Ui]
  have:(Jd i (48:Int) ++ Jd (0 + 1) 0).set i 49 = KP (Jd i false ++ [true]):=by
   simp_all [KP]
  rw [this,Zrp]
 | succ d ih =>
  intro i m hi hm
  obtain ⟨m,rfl⟩:=Zt (show 0 < m by omega)
  rw [Zd]
  simp only [Zco]
  have hlen:(Jd i (48:Int) ++ Jd (d + 1 + 1) 0).length = i + d + 2:=by simp; omega
  rw [Zb (by omega),Zb (by grind),Zb (by rw [hlen,Ui]; omega),Ui]
  have:(Jd i (48:Int) ++ Jd (d + 1 + 1) 0).set i 48 = Jd (i + 1) 48 ++ Jd (d + 1) 0:=by
   rw [EF _ _ (by simp),Uq,Ef,List.replicate_succ (n:=d + 1),List.set_cons_zero,EE (n:=i),Ju]
   rfl
  rw [this,show Jx.wrap ((i:Int) + 1) = ((i + 1:Nat):Int) from by rw [ZK (by omega)]; omega]
  grind
theorem Zs1 (k:Nat) {x:Int} {w:Nat} (hw:w ≤ 32) (h:Xe x w = true) (hk:100 < k):Zvo k (x,(w:Int),()) = some ((Xz (Wu x w),0,()),()):=by
 show Zlo k _ = _
 simp only [Zlo]
 rw [Zn (by omega),Zn (by omega),ZjW k x (by omega),h]
 simp only [VJ,HF,cond_false]
 have hb : -(((2 ^ w:Nat)):Int) ≤ x ∧ x < ((2 ^ w:Nat):Int):=by
  have hQ:0 < 2 ^ w:=Hq (by omega)
  unfold Xe at h
  by_cases h0:w = 0
  ·simp_all
  ·rw [if_neg h0,decide_eq_true_eq,QS] at h
   have:2 ^ (w - 1) ≤ 2 ^ w:=He (by omega) (by omega)
   omega
 have hP:2 ^ w ≤ 2 ^ 32:=He (by omega) hw
 have e:(x % (2 ^ w:Int)).toNat = if x < 0 then (x + ((2 ^ w:Nat):Int)).toNat else x.toNat:=by
  rw [QS]
  generalize 2 ^ w = Q at hb ⊢
  split
  ·rw [← Int.add_emod_right,Ev (by omega) (by omega)]
  ·rw [Ev (by omega) (by omega)]
 have e2:Jx.wrap ((1:Int) * (2:Int) ^ min ((w:Int)).toNat 64) = ((2 ^ w:Nat):Int):=by
  rw [Ui,Hs (by omega),H9,QS]
  generalize 2 ^ w = Q at hP ⊢
  rw [ZK (by omega)]
 unfold Wu
 rw [e,e2]
 generalize 2 ^ w = Q at hb hP
 by_cases hx:x < 0
 ·rw [Zb hx,if_pos hx,Zb (by omega),ZK (n:=x + (Q:Int)) (by omega)]
  obtain ⟨y,hy⟩:=Vp (show 0 ≤ x + (Q:Int) by omega)
  rw [hy,Ui,Qi k y w (by omega) (by omega) (by omega)]
  rfl
 ·rw [Zn hx,if_neg hx]
  obtain ⟨y,rfl⟩:=Vp (show 0 ≤ x by omega)
  rw [Ui,Qi k y w (by omega) (by omega) (by omega)]
  rfl
theorem ZrC {m:Int}:∀ (cs:List (List Int)) (ps:List Prt) (sz:Int),(ZZ m cs ps sz).2.2 = true → ∀ c ∈ cs,(Qk c m).2 = true
 | [],_,_,_ => by simp
 | c :: cs,ps,sz,h => by
  unfold ZZ at h
  split at h
  ·rename_i hb
   intro x hx
   rcases VL.1 hx with rfl | hx
   ·exact hb
   ·exact ZrC cs _ _ h x hx
  ·cases h
theorem ZkR (f:List Int → Prt) (g:List Int × Prt → List Bool):∀ cs:List (List Int),(cs.zip (cs.map f)).flatMap g = cs.flatMap fun c => g (c,f c)
 | [] => rfl
 | c :: cs => by simp only [JR,List.zip_cons_cons,Hn,ZkR f g cs]
abbrev ZQ9:=(ByteArray × Int × Unit) × Unit
theorem Zs3 (k:Nat) (L1:Int × List (List Int) × Int × ByteArray → Option ZQ9)
  {cs:List (List Int)} {i:Nat} (hi:i < cs.length) (hcl:cs.length ≤ 16) (hc:∀ x ∈ cs[i],ZD x) (hn:cs[i].length ≤ 512) (hk:70100 < k) {m:Int} (hm:m = 0 ∨ m = 1) {y:Prt} (hy:KK cs[i] m y)
  (bs:List Bool) (hb:bs.length ≤ 2147483648) :
  Zgx k L1 ((0:Int),cs,UD i,y.1 == ((QM m:Nat):Int),y.2.1,Xz bs,y.1,m) = L1 (UD (i + 1),cs,m,Xz (bs ++ Xv m y cs[i])):=by
 have he:QM m ≤ 31:=by unfold QM; split <;> omega
 have hgi:cs.getD (UD i).toNat [] = cs[i]:=Zs hi
 have hfin:∀ (g:Int → List Bool),(∀ x ∈ cs[i],(g x).length ≤ 70000) →
   (∀ (L:Int × List (List Int) × Int × Bool × Int × ByteArray × Int × Int → Option ZQ9) (j:Nat) (hj:j < cs[i].length) (a:List Bool),a.length ≤ 2147483648 + j * 70000 →
    YM k L1 L (UD j,cs,UD i,y.1 == ((QM m:Nat):Int),y.2.1,Xz a,y.1,m) = L (UD (j + 1),cs,UD i,y.1 == ((QM m:Nat):Int),y.2.1,Xz (a ++ g cs[i][j]),y.1,m)) →
   Zgx k L1 ((0:Int),cs,UD i,y.1 == ((QM m:Nat):Int),y.2.1,Xz bs,y.1,m) = L1 (UD (i + 1),cs,m,Xz (bs ++ cs[i].flatMap g)):=by
  intro g hg hstep
  have:=Zi (A:=List Bool) (R:=ZQ9) (step:=fun L2 => YM k L1 L2)
   (fun j a => (UD j,cs,UD i,y.1 == ((QM m:Nat):Int),y.2.1,Xz a,y.1,m)) cs[i]
   (fun c' a => L1 (UD (i + 1),cs,m,Xz (a ++ c'.flatMap g)))
   (fun j a => a.length ≤ 2147483648 + j * 70000)
   (fun L a _ => by
    simp only [YM]
    rw [Zb (QV hi),hgi,Zn (XJ _),ZL hi (by omega)]
    simp)
   (fun L j hj a ha hL => by
    grind)
   k 0 bs (by omega) (by omega) (Ht _)
  rw [U5] at this
  exact this
 unfold Xv
 rcases hy with ⟨kk,hkk,hfar,rfl⟩ | ⟨hw,rfl⟩
 ·simp only
  rw [if_neg (by omega)]
  have hq:∀ x ∈ cs[i],Z3 x / 2 ^ kk ≤ 65536:=by
   intro x hx
   unfold ZcS at hfar
   simp_all
  rw [Ui]
  refine hfin (Zd8 kk) (fun x hx => by have:=hq x hx; rw [Zbu]; omega) ?_
  intro L j hj a ha
  have hx:=hc cs[i][j] (Ha hj)
  have hxq:=hq cs[i][j] (Ha hj)
  simp only [YM]
  have hne:(((kk:Nat):Int) == ((QM m:Nat):Int)) = false:=by grind
  rw [Zb (QV hi),hgi,Zb (W9 hj),hne]
  simp only [cond_false]
  rw [Zb (QV hi),Zb (QV hj),Zs hj,Ztl k hx]
  simp only [VJ]
  have hf32:=Zkq hx
  simp only [Ui,Hs (show kk ≤ 64 by omega),ZcT]
  rw [Zb (by omega),Zti k _ hxq (by omega)]
  simp only [VJ]
  have hP:2 ^ kk ≤ 2 ^ 31:=He (by omega) (by omega)
  have hP0:0 < 2 ^ kk:=Hq (by omega)
  have e2:Jx.wrap ((1:Int) * (2:Int) ^ kk) = ((2 ^ kk:Nat):Int):=by
   rw [H9,QS]
   generalize 2 ^ kk = Q at hP ⊢
   rw [ZK (by omega)]
  have e3:(((Z3 cs[i][j]:Nat):Int)).tmod ((2 ^ kk:Nat):Int) = ((Z3 cs[i][j] % 2 ^ kk:Nat):Int):=by
   rfl
  have hmle:Z3 cs[i][j] % 2 ^ kk ≤ Z3 cs[i][j]:=Nat.mod_le _ _
  rw [Zb (by omega),e2,Zb (by omega),e3,Qi k _ kk (by omega) (by omega) (by omega)]
  simp only [VJ]
  have hl1:(Jd (Z3 cs[i][j] / 2 ^ kk) false ++ [true]).length ≤ 65537:=by simp; omega
  have hl2:(Za (Z3 cs[i][j] % 2 ^ kk) kk).length ≤ 31:=by rw [Zc]; omega
  have hj5:j < 512:=by omega
  rw [Zu,Zu,Zb (by rw [Zo,Zo]; omega),Zb (by rw [Zo,Zo,JP]; omega),ZL hj (by omega)]
  rfl
 ·simp only
  rw [if_pos trivial,Ui]
  refine hfin (fun n => Wu n (Z6 cs[i])) (fun x hx => by simp only [Yd]; omega) ?_
  intro L j hj a ha
  have hx:=ZuE hc cs[i][j] (Ha hj)
  have hne:(((QM m:Nat):Int) == ((QM m:Nat):Int)) = true:=by rw [ZC,decide_eq_true rfl]
  simp only [YM]
  rw [Zb (QV hi),hgi,Zb (W9 hj),hne]
  simp only [cond_true]
  rw [Zb (QV hi),Zb (QV hj),Zs hj,Zs1 k (by omega) hx (by omega)]
  simp only [VJ]
  have hl2:(Wu cs[i][j] (Z6 cs[i])).length ≤ 31:=by rw [Yd]; omega
  have hj5:j < 512:=by omega
  rw [Zu,Zb (by rw [Zo,Zo]; omega),ZL hj (by omega)]
theorem ZIc (k:Nat) {l:List Int} {o:Nat} (hk:70100 < k) (h:W1 l o = 0):Zvp k (l,(o:Int),()) = some ((Xz (YC l o),0,()),()):=by
 show Zgy k (ZnI k) _ = _
 have ⟨h1,h2⟩:=ZbD.1 h
 have hl:=Y4 h2
 obtain ⟨hsz,q,hg⟩:=XA hl (o:=o) (by omega) (by omega)
 simp only [Zgy]
 rw [ZIK k l o (by omega) (by omega),h]
 simp only [VJ]
 rw [show ((0:Int) != 0) = false from rfl]
 simp only [cond_false]
 rw [ZIP k hl (by omega) (by omega)]
 simp only [VJ]
 unfold YC Zc2
 generalize Ql l o = R at hg hsz
 have hys:=hg.ys
 have hall:=ZrC (m:=R.1) (WF l o q) [] 6 (by rw [hg.parts])
 obtain ⟨ys',hy1,hy2,hy3⟩:=ZbB (m:=R.1) (WF l o q) [] 6 (by rw [hg.parts])
 rw [hg.parts] at hy1
 simp only [VS] at hy1
 rw [← hy1] at hy3
 obtain ⟨m,p,sz,ys⟩:=R
 obtain ⟨hp,p4,hfit,hm,hparts⟩:=hg
 simp only at hp hm hparts hys hall hy3
 subst hp
 subst hy3
 simp only [Ui]
 have hmn:m = ((m.toNat:Nat):Int):=by rcases hm with rfl | rfl <;> rfl
 have e1:=Qi k m.toNat 2 (by omega) (by omega) (by rcases hm with rfl | rfl <;> decide)
 rw [← hmn] at e1
 have e2:=Qi k q 4 (by omega) (by omega) (by omega)
 refine (Zl e1 _).trans ?_
 refine (Zl e2 _).trans ?_
 simp only
 rw [Zu,Zb (by rw [Zo,Zo,Zc,Zc]; omega)]
 refine (Zl (Ztj k (by omega) (by omega) (by omega)) _).trans ?_
 simp only [hfit,if_true]
 rw [ZkR]
 have hcs:∀ c ∈ WF l o q,(∀ x ∈ c,ZD x) ∧ c.length ≤ 512:=fun c hc => ⟨fun x hx => hl x (Yp hc x hx),by have:=Zbd hc; omega⟩
 have hclen:(WF l o q).length ≤ 16:=by
  rw [Zb3]
  have:2 ^ q ≤ 2 ^ 4:=He (by omega) p4
  omega
 generalize WF l o q = cs at hcs hclen hall
 have hl2:(Za m.toNat 2 ++ Za q 4).length = 6:=by rfl
 have:=Zi (A:=List Bool) (R:=ZQ9) (step:=fun L1 => Zcf k (Zgx k L1) L1)
  (fun i a => (UD i,cs,m,Xz a)) cs
  (fun l' a => some ((Xz (a ++ l'.flatMap fun c => Xa m (c,(Qk c m).1)),0,()),()))
  (fun i a => a.length ≤ 1073741900 + i * 35900000)
  (fun L a _ => by
   grind [Zcf])
  (fun L i hi a ha hL => by
   obtain ⟨hc1,hc2⟩:=hcs cs[i] (Ha hi)
   have hb:=hall cs[i] (Ha hi)
   have hy:=Zab hb
   simp only [Zcf]
   have hbp:Zya cs[i] m = (Qk cs[i] m).1:=by unfold Zya; rw [if_pos hb]
   have hgi:cs.getD (UD i).toNat [] = cs[i]:=Zs hi
   have hf:=Ztk k hc1 hc2 (by omega) hm
   rw [hbp] at hf
   rw [Zb (W9 hi),Zb (QV hi),hgi]
   refine (Zl hf _).trans ?_
   generalize hyy:(Qk cs[i] m).1 = y at hy
   obtain ⟨b,w,hb1,hb2,hw1,hw2⟩:=ZrB hm hy
   have hll:=ZfT hc1 hc2 hy
   have e4:Jx.wrap ((4:Int) + m) = ((4 + m.toNat:Nat):Int):=by rcases hm with rfl | rfl <;> rfl
   have hm1:m.toNat ≤ 1:=by rcases hm with rfl | rfl <;> decide
   have h5:(2:Nat) ^ (4 + m.toNat) ≤ 2 ^ 5:=He (by omega) (by omega)
   have ey:Qy k (y.1,Jx.wrap ((4:Int) + m),()) = some (Xz (Za b (4 + m.toNat)),()):=by
    rw [e4,hb1]
    exact Qi k b (4 + m.toNat) (by omega) (by omega) (by
     omega)
   refine (Zl ey _).trans ?_
   simp only
   have hI:i ≤ 16:=by omega
   have hg15:[(15:Int),31].getD m.toNat 0 = ((QM m:Nat):Int):=by rcases hm with rfl | rfl <;> rfl
   have hla:(a ++ Za b (4 + m.toNat)).length = a.length + (4 + m.toNat):=by rw [JP,Zc]
   rw [Zu,Zb (by rw [Zo,Zo,Zc]; omega),Zb (by omega),Zb (by omega),hg15]
   have hout:Xa m (cs[i],(Qk cs[i] m).1) = Za b (4 + m.toNat) ++ ((if (b:Int) = (QM m:Int) then Za w 5 else []) ++ Xv m y cs[i]):=by
    unfold Xa
    simp only [hyy,hb1,hw1,Ui]
   rw [Hn,hout]
   by_cases hesc:(b:Int) = (QM m:Int)
   ·have hq:(y.1 == ((QM m:Nat):Int)) = true:=by rw [hb1,ZC,decide_eq_true hesc]
    have e5:Qy k (y.2.1,5,()) = some (Xz (Za w 5),()):=by
     rw [hw1]
     exact Qi k w 5 (by omega) (by omega) (by omega)
    have hlb:(a ++ Za b (4 + m.toNat) ++ Za w 5).length = a.length + (4 + m.toNat) + 5:=by rw [JP,hla,Zc]
    have hN:=Zs3 k L hi hclen hc1 hc2 hk hm hy (a ++ Za b (4 + m.toNat) ++ Za w 5) (by omega)
    rw [hq] at hN
    rw [hq,if_pos hesc]
    simp only [cond_true]
    refine (Zl e5 _).trans ?_
    simp only
    rw [Zu,Zb (by rw [Zo,Zo,Zc]; omega)]
    grind
   ·have hq:(y.1 == ((QM m:Nat):Int)) = false:=by rw [hb1,ZC,decide_eq_false hesc]
    have hN:=Zs3 k L hi hclen hc1 hc2 hk hm hy (a ++ Za b (4 + m.toNat)) (by omega)
    grind)
  k 0 (Za m.toNat 2 ++ Za q 4) (by omega) (by omega) (Ht _)
 rw [U5] at this
 exact this
end Go.Sh
