/-
  What the row needs, part 12.
-/
import Derived.Test.YtgbhjfacjekhcaaGreatDoorXStreamBack11
import Derived.Lib.ItoaNum
set_option linter.unusedSimpArgs false
set_option linter.unusedVariables false
set_option linter.unusedSectionVars false
namespace Go.Sh
open Go Go.Proofs
def Qf (n:Int):Nat:=if n < 0 then (-2 * n - 1).toNat else (2 * n).toNat
theorem ZC4 {a:Int} {n:Int} (ha : -1152921504606846976 ≤ a ∧ a ≤ 1152921504606846976) (hn:(a < 0 ↔ n < 0)) (hn' : -1152921504606846976 ≤ n ∧ n ≤ 1152921504606846976) :
  IntKind.i64.wrap (Int.ofNat (BitVec.ofInt 64 a ^^^ BitVec.ofInt 64 (n.fdiv 9223372036854775808)).toNat) = if n < 0 then -a - 1 else a:=by
 by_cases h:n < 0
 ·have e1:n.fdiv 9223372036854775808 = -1:=by grind
  rw [e1,if_pos h,show BitVec.ofInt 64 (-1) = BitVec.allOnes 64 from by decide,BitVec.xor_allOnes,BitVec.toNat_not,BitVec.toNat_ofInt]
  have:((a % ((2 ^ 64:Nat):Int)).toNat) = (a + 18446744073709551616).toNat:=by omega
  rw [this]
  have e2:Int.ofNat (2 ^ 64 - 1 - (a + 18446744073709551616).toNat) = -a - 1:=by simp only [QS]; omega
  rw [e2,Qe (by omega)]
 ·have e1:n.fdiv 9223372036854775808 = 0:=by grind
  rw [e1,if_neg h,show BitVec.ofInt 64 0 = 0#64 from rfl,BitVec.xor_zero,BitVec.toNat_ofInt]
  have:Int.ofNat ((a % ((2 ^ 64:Nat):Int)).toNat) = a:=by simp only [QS]; omega
  rw [this,Qe (by omega)]
theorem Zvb (k:Nat) {n:Int} (h:ZO n):ZfH k (n,()) = some ((((Qf n:Nat):Int),0,()),()):=by
 show Zhq k _ = _
 simp only [Zhq]
 unfold ZO at h
 rw [Zo (by omega),Zo (by omega),Qe (n:=n * 2) (by omega),ZC4 (by omega) (by omega) (by omega)]
 unfold Qf
 congr 3
 split <;> omega
theorem Zs4 {n:Int} (h:ZO n):Qf n < 4294967296:=by
 unfold ZO at h
 unfold Qf
 split <;> omega
def YX (n:Int):Nat:=Lib.bitLen (if n < 0 then (-n - 1).toNat else n.toNat) + 1
theorem ZqA {n:Int} (h:ZO n):YX n ≤ 32:=by
 unfold ZO at h
 unfold YX
 have:=Lib.bitLen_le (if n < 0 then (-n - 1).toNat else n.toNat) 31 (by omega) (by split <;> omega)
 omega
theorem ZH4 {n:Int} (h:ZO n) {w:Nat} (hw:YX n ≤ w):XG n w = true:=by
 unfold YX at hw
 unfold XG
 unfold ZO at h
 rw [if_neg (by omega),decide_eq_true_eq]
 generalize hm:(if n < 0 then (-n - 1).toNat else n.toNat) = m at hw
 have hm':m < 2 ^ 64:=by rw [← hm]; split <;> omega
 have hlt:m < 2 ^ (w - 1):=by
  by_cases h0:m = 0
  ·rw [h0]; exact Nat.pow_pos (by omega)
  ·have:=(Lib.bitLenAux_bounds 64 m hm' h0).2.2
   exact Nat.lt_of_lt_of_le this (Nat.pow_le_pow_right (by omega) (by unfold Lib.bitLen at hw; omega))
 grind
theorem ZJx (k:Nat) {n:Int} (h:ZO n):Zrz k (n,()) = some (((YX n:Nat):Int),()):=by
 show ZhX k _ = _
 simp only [ZhX]
 have hb:=ZqA h
 unfold ZO at h
 rw [ZC4 (by omega) (by omega) (by omega)]
 have e1:IntKind.u64.wrap (if n < 0 then -n - 1 else n) = (((if n < 0 then (-n - 1).toNat else n.toNat):Nat):Int):=by
  rw [IntKind.wrap_u64]; split <;> omega
 rw [e1]
 have e2:Zyc k ((((if n < 0 then (-n - 1).toNat else n.toNat):Nat):Int),()) = some (((Lib.bitLen (if n < 0 then (-n - 1).toNat else n.toNat):Nat):Int),()):=by
  show ZPE _ = _
  unfold ZPE
  grind
 rw [e2]
 simp only [Z3]
 unfold YX at hb ⊢
 rw [Qe (by omega)]
 push_cast
 rfl
theorem ZIO (k:Nat) {m:Int} (h:m = 0 ∨ m = 1):Zeh k (m,()) = some (if m = 0 then 15 else 31,()):=by
 rcases h with rfl | rfl <;> rfl
def XE (m:Int):Nat:=if m = 0 then 15 else 31
theorem Zc5 (k:Nat) {m:Int} (h:m = 0 ∨ m = 1):Zeh k (m,()) = some (((XE m:Nat):Int),()):=by
 rw [ZIO k h]; unfold XE; split <;> rfl
abbrev Prt:=Int × Int × Int × Unit
def Q3 (l:List Int):Nat:=l.foldl (fun w n => if n = 0 then w else max w (YX n)) 0
def ZjL:List Nat → Nat
 | [] => 0
 | x :: l => x + ZjL l
def ZgT (l:List Int) (kk:Nat):Nat:=(kk + 1) * l.length + ZjL (l.map fun n => Qf n / 2 ^ kk)
def ZoY (l:List Int) (kk:Nat):Bool:=l.any fun n => decide (65536 < Qf n / 2 ^ kk)
def ZiK (l:List Int) (B:Prt × Bool) (kk:Nat):Prt × Bool :=
 if ZoY l kk = false ∧ (B.2 = false ∨ ((ZgT l kk:Nat):Int) < B.1.2.2.1) then (((kk:Int),0,((ZgT l kk:Nat):Int),()),true) else B
def kF (l:List Int):Nat → Nat → Prt × Bool → Prt × Bool
 | 0,_,B => B
 | d + 1,kk,B => kF l d (kk + 1) (ZiK l B kk)
def Wh (l:List Int) (m:Int):Prt × Bool :=
 let B:=kF l (XE m) 0 ((0,0,0,()),false)
 if Q3 l ≤ 31 ∧ (B.2 = false ∨ ((5 + Q3 l * l.length:Nat):Int) < B.1.2.2.1) then (((XE m:Nat),((Q3 l:Nat):Int),((5 + Q3 l * l.length:Nat):Int),()),true) else B
theorem ZT8 {l:List Nat} {b:Nat} (h:∀ x ∈ l,x ≤ b):ZjL l ≤ l.length * b:=by
 induction l with
 | nil => simp [ZjL]
 | cons x l ih =>
  have h1:=h x (List.mem_cons_self ..)
  have h2:=ih fun y hy => h y (List.mem_cons_of_mem _ hy)
  simp only [ZjL,List.length_cons,Nat.add_mul,Nat.one_mul]
  omega
theorem ZjO:∀ (l:List Int) (w:Nat),(∀ x ∈ l,ZO x) → w ≤ 32 → w ≤ l.foldl (fun w n => if n = 0 then w else max w (YX n)) w ∧ l.foldl (fun w n => if n = 0 then w else max w (YX n)) w ≤ 32 ∧
   ∀ x ∈ l,x ≠ 0 → YX x ≤ l.foldl (fun w n => if n = 0 then w else max w (YX n)) w
 | [],w,_,hw => ⟨Nat.le_refl _,hw,by simp⟩
 | x :: l,w,hl,hw => by
  simp only [List.foldl_cons]
  have hx:=ZqA (hl x (List.mem_cons_self ..))
  have h1:(if x = 0 then w else max w (YX x)) ≤ 32:=by split <;> omega
  obtain ⟨a,b,c⟩:=ZjO l _ (fun y hy => hl y (List.mem_cons_of_mem _ hy)) h1
  grind
theorem Zw0 {l:List Int} (hl:∀ x ∈ l,ZO x):∀ x ∈ l,XG x (Q3 l) = true:=by
 intro x hx
 obtain ⟨_,_,h⟩:=ZjO l 0 hl (by omega)
 by_cases h0:x = 0
 ·subst h0
  unfold XG
  split
  ·rfl
  ·rw [decide_eq_true_eq]
   have hp:(0:Int) < 2 ^ (Q3 l - 1):=Int.pow_pos (by omega)
   omega
 ·exact ZH4 (hl x hx) (h x hx h0)
theorem Zwi {n:Int} (h:ZO n) (kk:Nat):Qf n / 2 ^ kk ≤ 4294967295:=by
 have:=Zs4 h
 have:=Nat.div_le_self (Qf n) (2 ^ kk)
 omega
theorem ZHX:ZaI = Zeh:=Zu7
theorem ZXS:Zjg = ZfH:=Zu9
theorem ZD6 (k:Nat) (L2:Int × Int × List Int × Bool × Int × Int × List Int × Int × Int × Int × Int × Int × Int → Option (((Int × Int × Int × Unit) × Bool × Unit) × Unit))
  {l:List Int} (hl:∀ x ∈ l,ZO x) (hn:l.length ≤ 512) (hk:l.length < k) {kk:Nat} (hkk:kk ≤ 31) (ok:Bool) (e w m b0 b1 b2 c0 c1 c2:Int) :
  Zkp k L2 (Int.ofNat l.length,(0:Int),((kk + 1) * l.length:Nat),(kk:Int),false,ok,(kk:Int),e,l,w,m,l.map fun n => ((Qf n:Nat):Int),b0,b1,b2,c0,c1,c2) =
   L2 (e,((kk + 1:Nat):Int),l,(ZiK l ((b0,b1,b2,()),ok) kk).2,w,m,l.map fun n => ((Qf n:Nat):Int),(ZiK l ((b0,b1,b2,()),ok) kk).1.1,(ZiK l ((b0,b1,b2,()),ok) kk).1.2.1,(ZiK l ((b0,b1,b2,()),ok) kk).1.2.2.1,c0,c1,c2):=by
 have hml:(l.map fun n => ((Qf n:Nat):Int)).length = l.length:=by simp
 have:=Zy (A:=Int × Bool) (R:=((Int × Int × Int × Unit) × Bool × Unit) × Unit) (step:=fun L3 => Zba k L2 L3) (fun i a => (Int.ofNat l.length,Int.ofNat i,a.1,(kk:Int),a.2,ok,(kk:Int),e,l,w,m,l.map (fun n => ((Qf n:Nat):Int)),b0,b1,b2,c0,c1,c2)) l
  (fun l' a => bif !(a.2 || ZoY l' kk) then bif !ok then L2 (e,((kk + 1:Nat):Int),l,true,w,m,l.map (fun n => ((Qf n:Nat):Int)),(kk:Int),0,a.1 + (ZjL (l'.map fun n => Qf n / 2 ^ kk):Nat),c0,c1,c2)
    else bif decide (a.1 + (ZjL (l'.map fun n => Qf n / 2 ^ kk):Nat) < b2) then L2 (e,((kk + 1:Nat):Int),l,true,w,m,l.map (fun n => ((Qf n:Nat):Int)),(kk:Int),0,a.1 + (ZjL (l'.map fun n => Qf n / 2 ^ kk):Nat),c0,c1,c2)
    else L2 (e,((kk + 1:Nat):Int),l,ok,w,m,l.map (fun n => ((Qf n:Nat):Int)),b0,b1,b2,c0,c1,c2)
   else L2 (e,((kk + 1:Nat):Int),l,ok,w,m,l.map (fun n => ((Qf n:Nat):Int)),b0,b1,b2,c0,c1,c2))
  (fun i a => 0 ≤ a.1 ∧ a.1 ≤ 16384 + (i:Int) * 4294967296)
  (fun L a _ => by
   simp only [Zba]
   rw [Zo (Yb _),Qe (n:=(kk:Int) + 1) (by omega)]
   simp_all [ZoY,List.any_nil,Bool.or_false,List.map_nil,ZjL,Int.natCast_zero,Int.add_zero])
  (fun L i hi a ha hL => by
   simp only [Zba]
   have hx:=hl l[i] (List.getElem_mem hi)
   have hp:=Zwi hx kk
   have hg:(l.map fun n => ((Qf n:Nat):Int)).getD (Int.toNat (Int.ofNat i)) 0 = ((Qf l[i]:Nat):Int):=by
    simp_all
   rw [Zc (ltR hi),Zc (by rw [hml]; exact YI hi),Zc (by rw [hml]; simpa using hi),Zc (by omega),hg]
   simp only [Xw,Nat.min_eq_left (show kk ≤ 64 by omega),Zgs]
   have hfar:ZoY (l[i] :: l.drop (i + 1)) kk = (decide (65536 < Qf l[i] / 2 ^ kk) || ZoY (l.drop (i + 1)) kk):=by unfold ZoY; rw [List.any_cons]
   have hsum:a.1 + ((ZjL ((l[i] :: l.drop (i + 1)).map fun n => Qf n / 2 ^ kk):Nat):Int) = a.1 + ((Qf l[i] / 2 ^ kk:Nat):Int) + ((ZjL ((l.drop (i + 1)).map fun n => Qf n / 2 ^ kk):Nat):Int):=by
    grind [ZjL]
   generalize Qf l[i] / 2 ^ kk = q at hp hfar hsum ⊢
   have hi5:(i:Int) ≤ 512:=by omega
   rw [Qe (n:=a.1 + ((q:Nat):Int)) (by omega),Qr hi (by omega)]
   rw [hfar,hsum]
   cases h4:a.2 with
   | true =>
    simp only [cond_true]
    rw [hL (a.1 + ((q:Nat):Int),true) ⟨by omega,by push_cast; omega⟩]
    simp
   | false =>
    simp only [cond_false]
    rw [Zc (by omega)]
    have hd:decide ((65536:Int) < ((q:Nat):Int)) = decide (65536 < q):=by
     grind
    rw [hd,hL (a.1 + ((q:Nat):Int),decide (65536 < q)) ⟨by omega,by push_cast; omega⟩]
    simp) k 0 ((((kk + 1) * l.length:Nat):Int),false) ⟨by omega,by
     have:(kk + 1) * l.length ≤ 32 * 512:=Nat.mul_le_mul (by omega) hn
     omega⟩ (by omega) (Nat.zero_le _)
 refine Eq.trans this ?_
 rw [List.drop_zero]
 unfold ZiK
 have hsz:(((kk + 1) * l.length:Nat):Int) + ((ZjL (l.map fun n => Qf n / 2 ^ kk):Nat):Int) = ((ZgT l kk:Nat):Int):=by unfold ZgT; push_cast; rfl
 grind
theorem ZMS (k:Nat) {l:List Int} (hl:∀ x ∈ l,ZO x) (hn:l.length ≤ 512) (hk:l.length < k) {m:Int} (hm:m = 0 ∨ m = 1) (c0 c1 c2:Int) (hw:Q3 l ≤ 32) :
  ∀ (d kk j:Nat) (B:Prt × Bool),kk + d = XE m → d < j →
  Zn (fun L2 => Zdi k (Zkp k L2) L2) j (((XE m:Nat):Int),(kk:Int),l,B.2,((Q3 l:Nat):Int),m,l.map (fun n => ((Qf n:Nat):Int)),B.1.1,B.1.2.1,B.1.2.2.1,c0,c1,c2) =
   some ((let B:=kF l d kk B; if Q3 l ≤ 31 ∧ (B.2 = false ∨ ((5 + Q3 l * l.length:Nat):Int) < B.1.2.2.1) then ((((XE m:Nat):Int),((Q3 l:Nat):Int),((5 + Q3 l * l.length:Nat):Int),()),true,()) else (B.1,B.2,())),()):=by
 have he:XE m ≤ 31:=by unfold XE; split <;> omega
 intro d
 induction d with
 | zero =>
  intro kk j B hkk hj
  obtain ⟨j,rfl⟩:=ZE hj
  rw [Ze]
  simp only [Zdi]
  rw [Zo (by omega)]
  have hwl:Q3 l * l.length ≤ 32 * 512:=Nat.mul_le_mul hw hn
  have e1:IntKind.i64.wrap ((5:Int) + IntKind.i64.wrap (((Q3 l:Nat):Int) * Int.ofNat l.length)) = ((5 + Q3 l * l.length:Nat):Int):=by
   have:((Q3 l:Nat):Int) * Int.ofNat l.length = ((Q3 l * l.length:Nat):Int):=by rfl
   rw [this,Qe (n:=((Q3 l * l.length:Nat):Int)) (by omega),Qe (by omega)]
   push_cast; rfl
  rw [e1,ZHX,Zc5 k hm]
  simp only [Z3]
  rw [show kF l 0 kk B = B from rfl]
  grind
 | succ d ih =>
  intro kk j B hkk hj
  obtain ⟨j,rfl⟩:=ZE (show 0 < j by omega)
  rw [Ze]
  simp only [Zdi]
  rw [Zc (by omega)]
  have hkl:(kk + 1) * l.length ≤ 32 * 512:=Nat.mul_le_mul (by omega) hn
  have e1:IntKind.i64.wrap (IntKind.i64.wrap ((kk:Int) + 1) * Int.ofNat l.length) = (((kk + 1) * l.length:Nat):Int):=by
   have h1:IntKind.i64.wrap ((kk:Int) + 1) = ((kk + 1:Nat):Int):=by rw [Qe (by omega)]; push_cast; rfl
   rw [h1]
   have:((kk + 1:Nat):Int) * Int.ofNat l.length = (((kk + 1) * l.length:Nat):Int):=by rfl
   rw [this,Qe (by omega)]
  rw [e1]
  have e2:Int.ofNat (l.map fun n => ((Qf n:Nat):Int)).length = Int.ofNat l.length:=by simp
  rw [e2,ZD6 k _ hl hn hk (by omega)]
  rw [ih (kk + 1) j (ZiK l B kk) (by omega) (by omega)]
  rfl
theorem ZJr (k:Nat) {l:List Int} (hl:∀ x ∈ l,ZO x) (hn:l.length ≤ 512) (hk:l.length + 40 < k) {m:Int} (hm:m = 0 ∨ m = 1) :
  Zru k (l,m,()) = some (((Wh l m).1,(Wh l m).2,()),()):=by
 show ZhQ k (ZpR k) _ = _
 simp only [ZhQ]
 rw [Zc (by simp only [QS]; omega)]
 have hwid:=(ZjO l 0 hl (by omega)).2.1
 have he:XE m ≤ 31:=by unfold XE; split <;> omega
 have:=Zy (A:=Nat × List Int) (step:=fun L1 => Zdh k (Zko k) L1) (fun i a => (Int.ofNat l.length,Int.ofNat i,l,((a.1:Nat):Int),m,l,false,a.2,0,0,0,0,0,0)) l
  (fun l' a => Zko k (((XE m:Nat):Int),0,l,false,((l'.foldl (fun w n => if n = 0 then w else max w (YX n)) a.1:Nat):Int),m,a.2.take (l.length - l'.length) ++ l'.map (fun n => ((Qf n:Nat):Int)),0,0,0,0,0,0))
  (fun i a => a.1 ≤ 32 ∧ a.2.length = l.length)
  (fun L a ha => by
   simp only [Zdh]
   rw [Zo (Yb _),ZHX,Zc5 k hm]
   simp only [Z3,List.foldl_nil,List.map_nil,List.append_nil,List.length_nil,Nat.sub_zero]
   rw [List.take_of_length_le (by omega)])
  (fun L i hi a ha hL => by
   simp only [Zdh]
   have hx:=hl l[i] (List.getElem_mem hi)
   have hb:=ZqA hx
   rw [Zc (ltR hi),Zc (YI hi),ZM hi,ZXS,Zvb k hx]
   simp only [Z3]
   rw [Zc (by rw [ha.2]; exact YI hi),Zc (by rw [ha.2]; simpa using hi),ZK,Qr hi (by omega)]
   have hdl:(l.drop (i + 1)).length = l.length - (i + 1):=by simp
   have hset:(a.2.set (Int.ofNat i).toNat ((Qf l[i]:Nat):Int)).take (l.length - (l.drop (i + 1)).length) ++ (l.drop (i + 1)).map (fun n => ((Qf n:Nat):Int)) =
     a.2.take (l.length - (l[i] :: l.drop (i + 1)).length) ++ (l[i] :: l.drop (i + 1)).map (fun n => ((Qf n:Nat):Int)):=by
    rw [hdl,List.length_cons,hdl,show l.length - (l.length - (i + 1)) = i + 1 by omega,show l.length - (l.length - (i + 1) + 1) = i by omega]
    rw [List.map_cons,List.take_add_one,List.take_set_of_le (by simp)]
    simp_all
   have hfold:(l[i] :: l.drop (i + 1)).foldl (fun w n => if n = 0 then w else max w (YX n)) a.1 = (l.drop (i + 1)).foldl (fun w n => if n = 0 then w else max w (YX n)) (if l[i] = 0 then a.1 else max a.1 (YX l[i])):=rfl
   by_cases h0:l[i] = 0
   ·simp_all
   ·rw [Zc h0,ZJx k hx]
    simp only [Z3]
    have e1:(if ((a.1:Nat):Int) < ((YX l[i]:Nat):Int) then ((YX l[i]:Nat):Int) else ((a.1:Nat):Int)) = ((max a.1 (YX l[i]):Nat):Int):=by split <;> omega
    rw [e1,hL (max a.1 (YX l[i]),a.2.set (Int.ofNat i).toNat ((Qf l[i]:Nat):Int)) ⟨by omega,by simpa using ha.2⟩,hset,hfold,if_neg h0])
  k 0 (0,List.replicate l.length 0) ⟨by omega,by simp⟩ (by omega) (Nat.zero_le _)
 rw [List.drop_zero] at this
 refine Eq.trans this ?_
 have:=ZMS k hl hn (by omega) hm 0 0 0 hwid (XE m) 0 k ((0,0,0,()),false) (by omega) (by omega)
 rw [Nat.sub_self,List.take_zero,List.nil_append]
 refine Eq.trans this ?_
 unfold Wh
 simp only
 split <;> rfl
end Go.Sh
namespace Go.Sh
open Go Go.Proofs
theorem ZUY:Zeg = Zef:=Zu5
theorem ZYT:Zrt = Zej:=Zvk
theorem Znc (k:Nat) {m:Int} (h:m = 0 ∨ m = 1):Zef k (m,()) = some (4 + m,()):=by
 rcases h with rfl | rfl <;> rfl
theorem ZJm (k:Nat) (x:Int):Zrs k (x,()) = some (QM x,()):=by
 show ZhM k _ = _
 simp only [ZhM]
 unfold QM
 grind
theorem ZAr (k:Nat) (c:List Int) (hk:c.length < k) (hn:c.length < 4294967296):ZfD k (c,(),()) = some (c.any QM,()):=by
 show Zcg k _ = _
 simp only [Zcg]
 have key:∃ i:Int,ZfN k (c,(),()) = some (i,()) ∧ (0 ≤ i ↔ c.any QM = true):=by
  have:=QK (A:=Unit) (R:=Int × Unit) (step:=fun L1 => Zal k L1) (fun i _ => (Int.ofNat c.length,Int.ofNat i,c)) c
   (fun l _ => some (if l.any QM then Int.ofNat (c.length - l.length + (l.takeWhile (fun x => !QM x)).length) else -1,()))
   (fun L _ => by grind [Zal])
   (fun L i hi _ hL => by
    simp only [Zal]
    rw [Zc (ltR hi),Zc (YI hi),ZM hi,ZJm]
    simp only [Z3]
    have hlen:(List.drop (i + 1) c).length = c.length - (i + 1):=by simp
    cases hc:QM c[i] with
    | false =>
     simp only [cond_false]
     rw [Qr hi (by omega),hL ()]
     simp only [List.any_cons,hc,Bool.false_or,List.takeWhile_cons,Bool.not_false,if_true,List.length_cons,hlen]
     grind
    | true =>
     simp only [cond_true,List.any_cons,hc,Bool.true_or,if_true,List.takeWhile_cons,Bool.not_true,Bool.false_eq_true,if_false,List.length_cons,hlen,List.length_nil]
     congr 3; omega) k 0 () (by omega) (Nat.zero_le _)
  rw [List.drop_zero] at this
  refine ⟨_,this,?_⟩
  cases c.any QM <;> simp
 grind
def ZcJ (n o:Int):Bool:=decide (1 ≤ n ∧ n ≤ 512 ∧ 0 ≤ o ∧ o ≤ 8 ∧ o ≤ n)
theorem Zvj (k:Nat) (n o:Int):Zns k (n,o,()) = some (ZcJ n o,()):=by
 show ZhL k _ = _
 simp only [ZhL]
 unfold ZcJ
 by_cases h1:1 ≤ n
 ·rw [Zc h1]
  by_cases h2:n ≤ 512
  ·rw [Zc h2]
   by_cases h3:0 ≤ o
   ·rw [Zc h3]
    congr 2
    grind
   grind
  grind
 grind
def YJ (l:List Int) (o:Int):Int:=if o < 0 ∨ 8 < o then 1 else if ZcJ ((l.length:Int) + o) o = false then 1 else if l.any QM then 12 else 0
theorem Zu2 (k:Nat) (l:List Int) (o:Int) (hk:l.length < k) (hn:l.length < 4294967296):Zm8 k (l,o,()) = some (YJ l o,()):=by
 show Zhl k _ = _
 simp only [Zhl]
 unfold YJ
 by_cases h1:o < 0
 ·rw [Zc h1,if_pos (.inl h1)]
 ·rw [Zo h1]
  by_cases h2:8 < o
  ·rw [Zc h2,if_pos (.inr h2)]
  ·rw [Zo h2,if_neg (by omega),Qe (by simp only [QS]; omega),Zvj]
   simp only [Z3,QS]
   cases hb:ZcJ ((l.length:Int) + o) o with
   | false => rfl
   | true =>
    simp only [Bool.not_true,cond_false,Bool.true_eq_false,if_false]
    rw [ZAr k l hk hn]
    grind
theorem ZXo {p:Nat} (hp:p ≤ 31):IntKind.i64.wrap (IntKind.i64.wrap ((1:Int) * (2:Int) ^ min ((p:Int)).toNat 64) - 1) = ((2 ^ p - 1:Nat):Int):=by
 have h1:2 ^ p ≤ 2 ^ 31:=Nat.pow_le_pow_right (by omega) hp
 have h0:0 < 2 ^ p:=Nat.pow_pos (by omega)
 rw [Xw,Nat.min_eq_left (by omega),Int.one_mul,XU]
 rw [Qe (n:=((2 ^ p:Nat):Int)) (by omega),Qe (by omega)]
 omega
theorem Zqh {p:Nat} (hp:p ≤ 31):IntKind.i64.wrap ((1:Int) * (2:Int) ^ min ((p:Int)).toNat 64) = ((2 ^ p:Nat):Int):=by
 have h1:2 ^ p ≤ 2 ^ 31:=Nat.pow_le_pow_right (by omega) hp
 rw [Xw,Nat.min_eq_left (by omega),Int.one_mul,XU]
 generalize 2 ^ p = Q at h1 ⊢
 rw [Qe (by omega)]
theorem ZzZ {n p:Nat} (hn:n < 4294967296) (hp:p ≤ 31):IntKind.i64.wrap (Int.ofNat (BitVec.ofInt 64 (n:Int) &&& BitVec.ofInt 64 (IntKind.i64.wrap (IntKind.i64.wrap ((1:Int) * (2:Int) ^ min ((p:Int)).toNat 64) - 1))).toNat) = ((n % 2 ^ p:Nat):Int):=by
 have h1:2 ^ p ≤ 2 ^ 31:=Nat.pow_le_pow_right (by omega) hp
 rw [ZXo hp,ZHZ (by omega) (by omega),Nat.and_two_pow_sub_one_eq_mod]
 have:n % 2 ^ p ≤ n:=Nat.mod_le _ _
 rw [Qe (by omega)]
def Zfm (n o p:Nat):Bool:=decide (n % 2 ^ p = 0) && decide (o ≤ n / 2 ^ p)
theorem Zvl (k:Nat) {n o p:Nat} (hn:n < 4294967296) (hp:p ≤ 31):Zej k ((n:Int),(o:Int),(p:Int),()) = some (Zfm n o p,()):=by
 show ZhO k _ = _
 simp only [ZhO]
 rw [Zc (by omega),ZzZ hn hp,ZU,Xw,Nat.min_eq_left (by omega),Zgs]
 unfold Zfm
 by_cases h:n % 2 ^ p = 0
 ·rw [Zc (by omega),Zc (by omega),dTr h,Bool.true_and]
  congr 2
  grind
 grind
def KE (size:Nat):Nat → List Int → List (List Int)
 | 0,_ => []
 | d + 1,r => r.take size :: KE size d (r.drop size)
def YK (l:List Int) (o p:Nat):List (List Int):=l.take ((l.length + o) / 2 ^ p - o) :: KE ((l.length + o) / 2 ^ p) (2 ^ p - 1) (l.drop ((l.length + o) / 2 ^ p - o))
theorem ZqM (size:Nat):∀ (d:Nat) (r:List Int),(KE size d r).length = d
 | 0,_ => rfl
 | d + 1,r => by simp [KE,ZqM size d]
theorem Zj5 (l:List Int) (o p:Nat):(YK l o p).length = 2 ^ p:=by
 grind [YK,List.length_cons,ZqM]
theorem ZqN {size:Nat}:∀ {d:Nat} {r c:List Int},c ∈ KE size d r → ∀ x ∈ c,x ∈ r
 | d + 1,r,c,h,x,hx => by
  rcases List.mem_cons.1 h with rfl | h
  ·exact List.mem_of_mem_take hx
  ·exact List.mem_of_mem_drop (ZqN h x hx)
theorem Zbk {l:List Int} {o p:Nat} {c:List Int} (h:c ∈ YK l o p):∀ x ∈ c,x ∈ l:=by
 intro x hx
 rcases List.mem_cons.1 h with rfl | h
 ·exact List.mem_of_mem_take hx
 ·exact List.mem_of_mem_drop (ZqN h x hx)
theorem ZuL {size:Nat}:∀ {d:Nat} {r c:List Int},c ∈ KE size d r → c.length ≤ r.length
 | d + 1,r,c,h => by
  rcases List.mem_cons.1 h with rfl | h
  ·rw [List.length_take]; omega
  ·have:=ZuL h
   grind
theorem Zj4 {l:List Int} {o p:Nat} {c:List Int} (h:c ∈ YK l o p):c.length ≤ l.length:=by
 rcases List.mem_cons.1 h with rfl | h
 ·rw [List.length_take]; omega
 ·have:=ZuL h
  rw [List.length_drop] at this
  omega
theorem ZIN (k:Nat) {p size:Nat} (hp:p ≤ 15):∀ (d m:Nat) (r:List Int) (out:List (List Int)),d < m → out.length + d = 2 ^ p → r.length = d * size → r.length < 4294967296 →
  Zn (fun L1 => Zc4 k L1) m ((p:Int),r,(size:Int),out) = some (out ++ KE size d r,()):=by
 have h15:2 ^ p ≤ 2 ^ 15:=Nat.pow_le_pow_right (by omega) hp
 intro d
 induction d with
 | zero =>
  intro m r out hm ho hr hn
  obtain ⟨m,rfl⟩:=ZE hm
  rw [Ze]
  simp only [Zc4]
  rw [Zc (by omega),Zqh (by omega),Zo (by simp only [QS]; omega)]
  simp [KE]
 | succ d ih =>
  intro m r out hm ho hr hn
  obtain ⟨m,rfl⟩:=ZE (show 0 < m by omega)
  rw [Ze]
  simp only [Zc4]
  have hs:(d + 1) * size = d * size + size:=by rw [Nat.add_mul,Nat.one_mul]
  have hle:size ≤ r.length:=by omega
  rw [Zc (by omega),Zqh (by omega),Zc (by simp only [QS]; omega),Zc (by simp only [QS]; omega),
   Zc (by grind),Zc (by simp only [QS]; omega)]
  rw [Xw,show (Int.ofNat r.length).toNat = r.length from rfl,List.take_length,List.drop_zero]
  grind [KE]
theorem Zu4 (k:Nat) {l:List Int} {o p:Nat} (hp:p ≤ 15) (hn:l.length + o < 4294967296) (hk:32768 < k) (hf:Zfm (l.length + o) o p = true) :
  Zna k (l,(o:Int),(p:Int),()) = some (YK l o p,()):=by
 show Zhp k (Zpp k) _ = _
 have h15:2 ^ p ≤ 2 ^ 15:=Nat.pow_le_pow_right (by omega) hp
 have h0:0 < 2 ^ p:=Nat.pow_pos (by omega)
 unfold Zfm at hf
 simp only [Bool.and_eq_true,decide_eq_true_eq] at hf
 obtain ⟨hm,ho⟩:=hf
 simp only [Zhp]
 have e1:IntKind.i64.wrap (Int.ofNat l.length + (o:Int)) = ((l.length + o:Nat):Int):=by rw [Qe (by simp only [QS]; omega)]; rfl
 have hd:(l.length + o) / 2 ^ p ≤ l.length + o:=Nat.div_le_self _ _
 have hmul:2 ^ p * ((l.length + o) / 2 ^ p) = l.length + o:=by have:=Nat.div_add_mod (l.length + o) (2 ^ p); omega
 unfold YK
 rw [e1]
 simp only [Xw,Nat.min_eq_left (show p ≤ 64 by omega),Zgs]
 generalize hsz:(l.length + o) / 2 ^ p = size at ho hd hmul
 have e2:IntKind.i64.wrap ((size:Int) - (o:Int)) = ((size - o:Nat):Int):=by rw [Qe (by omega)]; omega
 have hle:size ≤ l.length + o:=hd
 have e3:(2 ^ p - 1) * size = 2 ^ p * size - size:=by rw [Nat.sub_mul,Nat.one_mul]
 rw [e2,Zc (by omega),Zc (by simp only [QS]; omega),Zc (by simp only [QS]; omega)]
 rw [Xw,show (Int.ofNat l.length).toNat = l.length from rfl,List.take_length,List.drop_zero]
 have hps:size ≤ 2 ^ p * size:=Nat.le_mul_of_pos_left _ h0
 refine Eq.trans (ZIN k hp (2 ^ p - 1) k _ _ (by omega) (by rw [List.length_singleton]; omega) (by rw [List.length_drop,e3]; omega) (by rw [List.length_drop]; omega)) ?_
 rfl
end Go.Sh
namespace Go.Sh
open Go Go.Proofs
def ZaG (c:List Int) (m:Int) (y:Prt):Prop :=
 (∃ kk:Nat,kk < XE m ∧ ZoY c kk = false ∧ y = ((kk:Int),0,((ZgT c kk:Nat):Int),())) ∨
 (Q3 c ≤ 31 ∧ y = (((XE m:Nat):Int),((Q3 c:Nat):Int),((5 + Q3 c * c.length:Nat):Int),()))
theorem ZUR {c:List Int} {m:Int}:∀ (d kk:Nat) (B:Prt × Bool),kk + d = XE m → (B.2 = true → ZaG c m B.1) → ((kF c d kk B).2 = true → ZaG c m (kF c d kk B).1)
 | 0,_,B,_,hB => hB
 | d + 1,kk,B,hk,hB => by
  refine ZUR d (kk + 1) _ (by omega) fun h => ?_
  unfold ZiK at h ⊢
  split
  ·rename_i hc
   exact .inl ⟨kk,by omega,hc.1,rfl⟩
  simp_all
theorem Zfv {c:List Int} {m:Int} (h:(Wh c m).2 = true):ZaG c m (Wh c m).1:=by
 unfold Wh at h ⊢
 simp only at h ⊢
 split
 ·rename_i hc
  exact .inr ⟨hc.1,rfl⟩
 ·rename_i hc
  rw [if_neg hc] at h
  exact ZUR _ _ _ (by omega) (fun h => by cases h) h
theorem ZHx {c:List Int}:∀ (d kk:Nat) (B:Prt × Bool),B.2 = true → (kF c d kk B).2 = true
 | 0,_,B,hB => hB
 | d + 1,kk,B,hB => by
  refine ZHx d (kk + 1) _ ?_
  unfold ZiK
  split
  ·rfl
  ·exact hB
theorem ZHy {c:List Int} {j:Nat} (hj:ZoY c j = false):∀ (d kk:Nat) (B:Prt × Bool),kk ≤ j → j < kk + d → (kF c d kk B).2 = true
 | 0,_,B,h1,h2 => by omega
 | d + 1,kk,B,h1,h2 => by
  by_cases he:kk = j
  ·subst he
   refine ZHx d _ _ ?_
   unfold ZiK
   grind
  ·exact ZHy hj d (kk + 1) _ (by omega) (by omega)
theorem ZYB {c:List Int} (hc:∀ x ∈ c,ZO x):ZoY c 16 = false:=by
 unfold ZoY
 rw [List.any_eq_false]
 intro x hx
 have h1:=Zs4 (hc x hx)
 grind
theorem ZDp {c:List Int} (hc:∀ x ∈ c,ZO x):(Wh c 1).2 = true:=by
 unfold Wh
 simp only
 split
 ·rfl
 ·exact ZHy (ZYB hc) _ _ _ (by omega) (by decide)
theorem ZaG.size {c:List Int} {m:Int} {y:Prt} (h:ZaG c m y) (hc:∀ x ∈ c,ZO x) (hn:c.length ≤ 512):0 ≤ y.2.2.1 ∧ y.2.2.1 ≤ 4398046511104:=by
 have he:XE m ≤ 31:=by unfold XE; split <;> omega
 rcases h with ⟨kk,hk,_,rfl⟩ | ⟨hw,rfl⟩
 ·simp only
  have h1:(kk + 1) * c.length ≤ 32 * 512:=Nat.mul_le_mul (by omega) hn
  have h2:ZjL (c.map fun n => Qf n / 2 ^ kk) ≤ (c.map fun n => Qf n / 2 ^ kk).length * 4294967295:=ZT8 fun x hx => by
   obtain ⟨n,hn,rfl⟩:=List.mem_map.1 hx
   exact Zwi (hc n hn) kk
  rw [List.length_map] at h2
  unfold ZgT
  omega
 ·simp only
  have h1:Q3 c * c.length ≤ 31 * 512:=Nat.mul_le_mul hw hn
  omega
def QO (m:Int):List (List Int) → List Prt → Int → List Prt × Int × Bool
 | [],ps,sz => (ps,sz,true)
 | c :: cs,ps,sz => if (Wh c m).2 = true then QO m cs (ps ++ [(Wh c m).1]) (sz + (4 + m + (Wh c m).1.2.2.1)) else (ps,sz,false)
theorem ZjA {m:Int} {c:List Int} (cs:List (List Int)) (ps:List Prt) (sz:Int) (h:(Wh c m).2 = true):QO m (c :: cs) ps sz = QO m cs (ps ++ [(Wh c m).1]) (sz + (4 + m + (Wh c m).1.2.2.1)):=by
 show (if (Wh c m).2 = true then _ else _) = _
 rw [if_pos h]
theorem ZnZ {m:Int} {c:List Int} (cs:List (List Int)) (ps:List Prt) (sz:Int) (h:(Wh c m).2 = false):QO m (c :: cs) ps sz = (ps,sz,false):=by
 show (if (Wh c m).2 = true then _ else _) = _
 rw [if_neg (by rw [h]; simp)]
abbrev Ym:=Int × Int × Int × List Prt
def Ye (l:List Int) (o p:Nat) (m:Int) (B:Ym):Ym :=
 if (QO m (YK l o p) [] 6).2.2 = true ∧ (B.2.2.1 < 0 ∨ (QO m (YK l o p) [] 6).2.1 < B.2.2.1) then (m,(p:Int),(QO m (YK l o p) [] 6).2.1,(QO m (YK l o p) [] 6).1) else B
def ZmC (l:List Int) (o:Nat) (B:Ym) (p:Nat):Ym:=if Zfm (l.length + o) o p = true then Ye l o p 1 (Ye l o p 0 B) else B
def YF (l:List Int) (o:Nat):Nat → Nat → Ym → Ym
 | 0,_,B => B
 | d + 1,p,B => YF l o d (p + 1) (ZmC l o B p)
def W1 (l:List Int) (o:Nat):Ym:=YF l o 5 0 (0,0,-1,[])
theorem ZDM (k:Nat) (L1:Int × List Int × Int × Int × Int × Int × List (Int × Int × Int × Unit) × Int × Int × Int → Option ((Int × Int × List (Int × Int × Int × Unit) × Int × Unit) × Unit))
  (L2:Int × Int × List Int × Int × Int × Int × Int × List (Int × Int × Int × Unit) × Int × Int × Int → Option ((Int × Int × List (Int × Int × Int × Unit) × Int × Unit) × Unit))
  {cs:List (List Int)} (hcs:∀ c ∈ cs,(∀ x ∈ c,ZO x) ∧ c.length ≤ 512) (hn:cs.length ≤ 16) (hk:600 < k) {m:Int} (hm:m = 0 ∨ m = 1) (p:Int) (l:List Int) (o:Int) (B:Ym) :
  Zck k L1 L2 (Int.ofNat cs.length,(0:Int),cs,m,p,l,o,true,B.1,B.2.1,B.2.2.1,B.2.2.2,m,p,(6:Int),[],0,0,0) =
   L2 (m + 1,p,l,o,if (QO m cs [] 6).2.2 = true ∧ (B.2.2.1 < 0 ∨ (QO m cs [] 6).2.1 < B.2.2.1) then (m,p,(QO m cs [] 6).2.1,(QO m cs [] 6).1,0,0,0) else (B.1,B.2.1,B.2.2.1,B.2.2.2,0,0,0)):=by
 have hm1:IntKind.i64.wrap (m + 1) = m + 1:=by rcases hm with rfl | rfl <;> rfl
 have:=Zy (A:=Int × List Prt) (R:=(Int × Int × List (Int × Int × Int × Unit) × Int × Unit) × Unit) (step:=fun L3 => Za8 k L1 L2 L3)
  (fun i a => (Int.ofNat cs.length,Int.ofNat i,cs,m,p,l,o,true,B.1,B.2.1,B.2.2.1,B.2.2.2,m,p,a.1,a.2,0,0,0)) cs
  (fun cs' a => L2 (m + 1,p,l,o,if (QO m cs' a.2 a.1).2.2 = true ∧ (B.2.2.1 < 0 ∨ (QO m cs' a.2 a.1).2.1 < B.2.2.1) then (m,p,(QO m cs' a.2 a.1).2.1,(QO m cs' a.2 a.1).1,0,0,0) else (B.1,B.2.1,B.2.2.1,B.2.2.2,0,0,0)))
  (fun i a => 0 ≤ a.1 ∧ a.1 ≤ 6 + (i:Int) * 8796093022208 ∧ a.2.length = i)
  (fun L a _ => by
   simp only [Za8]
   rw [Zo (Yb _),hm1]
   simp only [cond_true,QO,true_and]
   grind)
  (fun L i hi a ha hL => by
   simp only [Za8]
   obtain ⟨hc1,hc2⟩:=hcs cs[i] (List.getElem_mem hi)
   rw [Zc (ltR hi),Zc (YI hi),ZM hi,ZJr k hc1 hc2 (by omega) hm]
   simp only [Z3]
   cases hb:(Wh cs[i] m).2 with
   | false =>
    rw [ZnZ _ _ _ hb]
    simp_all
   | true =>
    rw [ZjA _ _ _ hb]
    simp only [Bool.not_true,cond_false]
    have hs:=(Zfv hb).size hc1 hc2
    have hi16:(i:Int) < 16:=by omega
    have hm01:0 ≤ m ∧ m ≤ 1:=by rcases hm with rfl | rfl <;> omega
    rw [Zc (by grind),ZUY,Znc k hm]
    simp only [Z3]
    rw [Qr hi (by omega),Qe (n:=4 + m + (Wh cs[i] m).1.2.2.1) (by omega),Qe (by omega)]
    exact hL (a.1 + (4 + m + (Wh cs[i] m).1.2.2.1),a.2 ++ [(Wh cs[i] m).1]) ⟨by omega,by push_cast; omega,by simp; omega⟩)
  k 0 ((6:Int),[]) ⟨by omega,by simp,rfl⟩ (by omega) (Nat.zero_le _)
 rw [List.drop_zero] at this
 exact this
theorem ZII (k:Nat) (L1:Int × List Int × Int × Int × Int × Int × List (Int × Int × Int × Unit) × Int × Int × Int → Option ((Int × Int × List (Int × Int × Int × Unit) × Int × Unit) × Unit))
  {l:List Int} (hl:∀ x ∈ l,ZO x) {o p:Nat} (hn:l.length + o ≤ 512) (hp:p ≤ 4) (hk:40000 < k) (hf:Zfm (l.length + o) o p = true) (B:Ym) :
  Zkh k L1 ((0:Int),(p:Int),l,(o:Int),B.1,B.2.1,B.2.2.1,B.2.2.2,0,0,0) =
   L1 (((p + 1:Nat):Int),l,(o:Int),(Ye l o p 1 (Ye l o p 0 B)).1,(Ye l o p 1 (Ye l o p 0 B)).2.1,(Ye l o p 1 (Ye l o p 0 B)).2.2.1,(Ye l o p 1 (Ye l o p 0 B)).2.2.2,0,0,0):=by
 have hcs:∀ c ∈ YK l o p,(∀ x ∈ c,ZO x) ∧ c.length ≤ 512:=fun c hc => ⟨fun x hx => hl x (Zbk hc x hx),by have:=Zj4 hc; omega⟩
 have hlen:(YK l o p).length ≤ 16:=by
  rw [Zj5]
  have:2 ^ p ≤ 2 ^ 4:=Nat.pow_le_pow_right (by omega) hp
  omega
 have hcut:=Zu4 k (l:=l) (o:=o) (p:=p) (by omega) (by omega) (by omega) hf
 have one:∀ (j:Nat) (m:Int) (B:Ym),m = 0 ∨ m = 1 → Zn (fun L2 => Y1 k (Zck k L1 L2) L1 L2) (j + 1) (m,(p:Int),l,(o:Int),B.1,B.2.1,B.2.2.1,B.2.2.2,0,0,0) =
   Zn (fun L2 => Y1 k (Zck k L1 L2) L1 L2) j (m + 1,(p:Int),l,(o:Int),(Ye l o p m B).1,(Ye l o p m B).2.1,(Ye l o p m B).2.2.1,(Ye l o p m B).2.2.2,0,0,0):=by
  intro j m B hm
  rw [Ze]
  simp only [Y1]
  rw [Zc (by rcases hm with rfl | rfl <;> omega),hcut]
  simp only [Z3]
  refine (ZDM k L1 _ hcs hlen (by omega) hm (p:Int) l (o:Int) B).trans ?_
  unfold Ye
  split <;> rfl
 obtain ⟨j,rfl⟩:∃ j,k = j + 3:=⟨k - 3,by omega⟩
 show Zn (fun L2 => Y1 (j + 3) (Zck (j + 3) L1 L2) L1 L2) (j + 3) _ = _
 rw [one (j + 2) 0 B (.inl rfl),show (0:Int) + 1 = 1 from rfl,one (j + 1) 1 _ (.inr rfl),Ze]
 simp only [Y1]
 rw [Zo (by omega),Qe (by omega)]
 rfl
theorem Zu3 (k:Nat) {l:List Int} (hl:∀ x ∈ l,ZO x) {o:Nat} (hn:l.length + o ≤ 512) (hk:40000 < k) :
  Zm9 k (l,(o:Int),()) = some (((W1 l o).1,(W1 l o).2.1,(W1 l o).2.2.2,(W1 l o).2.2.1,()),()):=by
 show Zhn k (Zpn k) _ = _
 simp only [Zhn]
 suffices H:∀ (d p m:Nat) (B:Ym),d < m → p + d = 5 → Zn (fun L1 => Zc3 k (Zkh k L1) L1) m ((p:Int),l,(o:Int),B.1,B.2.1,B.2.2.1,B.2.2.2,0,0,0) =
   some (((YF l o d p B).1,(YF l o d p B).2.1,(YF l o d p B).2.2.2,(YF l o d p B).2.2.1,()),()) from H 5 0 k (0,0,-1,[]) (by omega) rfl
 intro d
 induction d with
 | zero =>
  intro p m B hm hp
  obtain ⟨m,rfl⟩:=ZE hm
  rw [Ze]
  simp only [Zc3]
  rw [Zo (by omega)]
  rfl
 | succ d ih =>
  intro p m B hm hp
  obtain ⟨m,rfl⟩:=ZE (show 0 < m by omega)
  rw [Ze]
  simp only [Zc3]
  have e1:IntKind.i64.wrap (Int.ofNat l.length + (o:Int)) = ((l.length + o:Nat):Int):=by rw [Qe (by simp only [QS]; omega)]; rfl
  rw [Zc (by omega),e1,ZYT,Zvl k (by omega) (by omega)]
  simp only [Z3]
  have e2:IntKind.i64.wrap ((p:Int) + 1) = ((p + 1:Nat):Int):=by rw [Qe (by omega)]; rfl
  cases hf:Zfm (l.length + o) o p with
  | false =>
   simp only [Bool.not_false,cond_true]
   rw [e2,ih (p + 1) m B (by omega) (by omega)]
   simp only [YF,ZmC,hf,Bool.false_eq_true,if_false]
  | true =>
   simp only [Bool.not_true,cond_false]
   rw [ZII k _ hl hn (by omega) hk hf,ih (p + 1) m _ (by omega) (by omega)]
   simp only [YF,ZmC,hf,if_true]
structure RGood (l:List Int) (o:Nat) (R:Ym) (p:Nat):Prop where
 hp:R.2.1 = (p:Int)
 p4:p ≤ 4
 fit:Zfm (l.length + o) o p = true
 hm:R.1 = 0 ∨ R.1 = 1
 parts:QO R.1 (YK l o p) [] 6 = (R.2.2.2,R.2.2.1,true)
theorem Zn0 {m:Int} (hm:0 ≤ m):∀ (cs:List (List Int)) (ps:List Prt) (sz:Int),(∀ c ∈ cs,(∀ x ∈ c,ZO x) ∧ c.length ≤ 512) → sz ≤ (QO m cs ps sz).2.1
 | [],_,_,_ => Int.le_refl _
 | c :: cs,ps,sz,h => by
  unfold QO
  split
  ·rename_i hb
   have h1:=h c (List.mem_cons_self ..)
   have h2:=(Zfv hb).size h1.1 h1.2
   have:=Zn0 hm cs (ps ++ [(Wh c m).1]) (sz + (4 + m + (Wh c m).1.2.2.1)) fun c hc => h c (List.mem_cons_of_mem _ hc)
   omega
  ·exact Int.le_refl _
theorem ZtD {l:List Int} {o p:Nat} {m:Int} {B:Ym} (hm:m = 0 ∨ m = 1) (hp:p ≤ 4) (hf:Zfm (l.length + o) o p = true) (hB:B.2.2.1 < 0 ∨ ∃ q,RGood l o B q) :
  (Ye l o p m B).2.2.1 < 0 ∨ ∃ q,RGood l o (Ye l o p m B) q:=by
 unfold Ye
 split
 ·rename_i hc
  right
  refine ⟨p,rfl,hp,hf,hm,?_⟩
  simp only
  rw [← hc.1]
 ·exact hB
theorem ZFS {l:List Int} {o p:Nat} {B:Ym} (hp:p ≤ 4) (hB:B.2.2.1 < 0 ∨ ∃ q,RGood l o B q):(ZmC l o B p).2.2.1 < 0 ∨ ∃ q,RGood l o (ZmC l o B p) q:=by
 unfold ZmC
 split
 ·rename_i hf
  exact ZtD (.inr rfl) hp hf (ZtD (.inl rfl) hp hf hB)
 ·exact hB
theorem ZjV {l:List Int} {o:Nat}:∀ (d p:Nat) (B:Ym),p + d ≤ 5 → (B.2.2.1 < 0 ∨ ∃ q,RGood l o B q) → (YF l o d p B).2.2.1 < 0 ∨ ∃ q,RGood l o (YF l o d p B) q
 | 0,_,B,_,hB => hB
 | d + 1,p,B,h,hB => ZjV d (p + 1) _ (by omega) (ZFS (by omega) hB)
theorem ZtE {l:List Int} {o p:Nat} {m:Int} {B:Ym} (hl:∀ x ∈ l,ZO x) (hn:l.length ≤ 512) (hm:0 ≤ m) (hB:0 ≤ B.2.2.1):0 ≤ (Ye l o p m B).2.2.1:=by
 unfold Ye
 split
 ·have:=Zn0 hm (YK l o p) [] 6 fun c hc => ⟨fun x hx => hl x (Zbk hc x hx),by have:=Zj4 hc; omega⟩
  simp only
  omega
 ·exact hB
theorem ZqL {l:List Int} {o:Nat} (hl:∀ x ∈ l,ZO x) (hn:l.length ≤ 512):∀ (d p:Nat) (B:Ym),0 ≤ B.2.2.1 → 0 ≤ (YF l o d p B).2.2.1
 | 0,_,B,hB => hB
 | d + 1,p,B,hB => ZqL hl hn d (p + 1) _ (by
  unfold ZmC
  split
  ·exact ZtE hl hn (by omega) (ZtE hl hn (by omega) hB)
  ·exact hB)
theorem ZwD {m:Int}:∀ (cs:List (List Int)) (ps:List Prt) (sz:Int),(∀ c ∈ cs,(Wh c m).2 = true) → (QO m cs ps sz).2.2 = true
 | [],_,_,_ => rfl
 | c :: cs,ps,sz,h => by
  unfold QO
  rw [if_pos (h c (List.mem_cons_self ..))]
  exact ZwD cs _ _ fun c hc => h c (List.mem_cons_of_mem _ hc)
theorem ZaR {l:List Int} {o:Nat} (hl:∀ x ∈ l,ZO x) (hn:l.length + o ≤ 512) (ho:o ≤ l.length + o):0 ≤ (W1 l o).2.2.1 ∧ ∃ q,RGood l o (W1 l o) q:=by
 have hnn:0 ≤ (W1 l o).2.2.1:=by
  show 0 ≤ (YF l o 4 1 (ZmC l o (0,0,-1,[]) 0)).2.2.1
  refine ZqL hl (by omega) 4 1 _ ?_
  unfold ZmC
  have hf:Zfm (l.length + o) o 0 = true:=by unfold Zfm; simp [Nat.mod_one]
  rw [if_pos hf]
  generalize Ye l o 0 0 (0,0,-1,[]) = B
  by_cases hB:0 ≤ B.2.2.1
  ·exact ZtE hl (by omega) (by omega) hB
  ·unfold Ye
   have hok:=ZwD (m:=1) (YK l o 0) [] 6 fun c hc => ZDp fun x hx => hl x (Zbk hc x hx)
   rw [if_pos ⟨hok,.inl (by omega)⟩]
   have:=Zn0 (m:=1) (by omega) (YK l o 0) [] 6 fun c hc => ⟨fun x hx => hl x (Zbk hc x hx),by have:=Zj4 hc; omega⟩
   simp only
   omega
 refine ⟨hnn,?_⟩
 rcases ZjV (l:=l) (o:=o) 5 0 (0,0,-1,[]) (by omega) (.inl (by show (-1:Int) < 0; omega)) with h | h
 ·exact absurd h (by unfold W1 at hnn; omega)
 ·exact h
end Go.Sh
namespace Go.Sh
open Go Go.Proofs
theorem ZJi (k:Nat) {l:List Int} (hl:l.length ≤ 512) {o:Nat} (hk:40000 < k) :
  Zro k (l,(o:Int),()) = some ((if YJ l o = 0 then ((W1 l o).2.2.1,0,()) else (0,YJ l o,())),()):=by
 show ZhI k _ = _
 simp only [ZhI]
 rw [Zu2 k l o (by omega) (by omega)]
 simp only [Z3]
 rw [ZK]
 by_cases h:YJ l o = 0
 ·rw [Zo (by simpa using h),if_pos h]
  have hc:ZcJ ((l.length:Int) + o) o = true ∧ l.any QM = false:=by
   unfold YJ at h
   grind
  have hb:=of_decide_eq_true hc.1
  rw [Zu3 k (KV hc.2) (by omega) hk]
  rfl
 ·rw [Zc h,if_neg h]
theorem ZgQ {l:List Int} {o:Nat}:YJ l o = 0 ↔ (1 ≤ l.length + o ∧ l.length + o ≤ 512 ∧ o ≤ 8) ∧ l.any QM = false:=by
 unfold YJ
 constructor
 ·intro h
  split at h
  ·omega
  ·split at h
   ·omega
   ·rename_i h1 h2
    split at h
    ·omega
    ·rename_i hw
     have:=of_decide_eq_true (by simpa using h2:ZcJ ((l.length:Int) + o) o = true)
     exact ⟨by omega,by simpa using hw⟩
 ·rintro ⟨h1,h2⟩
  rw [if_neg (by omega),if_neg,if_neg (by simp [h2])]
  unfold ZcJ
  rw [dTr (by omega)]
  simp
def K8 (kk:Nat) (n:Int):List Bool:=(List.replicate (Qf n / 2 ^ kk) false ++ [true]) ++ Zb (Qf n % 2 ^ kk) kk
def Ko (m:Int) (y:Prt) (c:List Int):List Bool:=if y.1 = (XE m:Int) then c.flatMap (fun n => WN n y.2.1.toNat) else c.flatMap (K8 y.1.toNat)
def XT (m:Int) (x:List Int × Prt):List Bool:=Zb x.2.1.toNat (4 + m.toNat) ++ ((if x.2.1 = (XE m:Int) then Zb x.2.2.1.toNat 5 else []) ++ Ko m x.2 x.1)
def ZgM (l:List Int) (o:Nat) (R:Ym):List Bool:=(Zb R.1.toNat 2 ++ Zb R.2.1.toNat 4) ++ ((YK l o R.2.1.toNat).zip R.2.2.2).flatMap (XT R.1)
def Xv (l:List Int) (o:Nat):List Bool:=ZgM l o (W1 l o)
theorem ZgK (kk:Nat) (n:Int):(K8 kk n).length = Qf n / 2 ^ kk + 1 + kk:=by
 simp [K8,Zi]
 omega
theorem ZBK (k:Nat) (L1:Int × Int × List (List Int) × Int × List Int × Int × Int × List (Int × Int × Int × Unit) × Int → Option (Int × (List Int × Int × Unit) × Unit))
  {c:List Int} (hc:∀ x ∈ c,ZO x) (hn:c.length ≤ 512) (hk:70000 < k) {m:Int} (hm:m = 0 ∨ m = 1) {y:Prt} (hy:ZaG c m y) (v3 v4:Int) (v5:List (List Int)) (v12:Int) (v13:List Prt) (v14:Int)
  (hv3:0 ≤ v3 ∧ v3 ≤ 65536) (bs:List Bool) (hb:bs.length ≤ 2147483648) :
  ZnI k L1 (Int.ofNat c.length,(0:Int),c,v3,v4,v5,(bs.length:Int),ZJ bs,y.1,y.2.1,y.2.2.1,m,v12,v13,v14) =
   L1 (v4,v3 + 1,v5,((bs ++ Ko m y c).length:Int),ZJ (bs ++ Ko m y c),m,v12,v13,v14):=by
 have he:XE m ≤ 31:=by unfold XE; split <;> omega
 have hfin:∀ (g:Int → List Bool),(∀ x ∈ c,(g x).length ≤ 70000) →
   (∀ (L:Int × Int × List Int × Int × Int × List (List Int) × Int × List Int × Int × Int × Int × Int × Int × List (Int × Int × Int × Unit) × Int → Option (Int × (List Int × Int × Unit) × Unit)) (i:Nat) (hi:i < c.length) (a:List Bool),a.length ≤ 2147483648 + i * 70000 →
    Zav k L1 L (Int.ofNat c.length,Int.ofNat i,c,v3,v4,v5,(a.length:Int),ZJ a,y.1,y.2.1,y.2.2.1,m,v12,v13,v14) =
    L (Int.ofNat c.length,Int.ofNat (i + 1),c,v3,v4,v5,((a ++ g c[i]).length:Int),ZJ (a ++ g c[i]),y.1,y.2.1,y.2.2.1,m,v12,v13,v14)) →
   ZnI k L1 (Int.ofNat c.length,(0:Int),c,v3,v4,v5,(bs.length:Int),ZJ bs,y.1,y.2.1,y.2.2.1,m,v12,v13,v14) =
   L1 (v4,v3 + 1,v5,((bs ++ c.flatMap g).length:Int),ZJ (bs ++ c.flatMap g),m,v12,v13,v14):=by
  intro g hg hstep
  have:=Zy (A:=List Bool) (R:=Int × (List Int × Int × Unit) × Unit) (step:=fun L2 => Zav k L1 L2)
   (fun i a => (Int.ofNat c.length,Int.ofNat i,c,v3,v4,v5,(a.length:Int),ZJ a,y.1,y.2.1,y.2.2.1,m,v12,v13,v14)) c
   (fun c' a => L1 (v4,v3 + 1,v5,((a ++ c'.flatMap g).length:Int),ZJ (a ++ c'.flatMap g),m,v12,v13,v14))
   (fun i a => a.length ≤ 2147483648 + i * 70000)
   (fun L a _ => by
    simp only [Zav]
    rw [Zo (Yb _),Qe (by omega)]
    simp)
   (fun L i hi a ha hL => by
    grind)
   k 0 bs (by omega) (by omega) (Nat.zero_le _)
  rw [List.drop_zero] at this
  exact this
 unfold Ko
 rcases hy with ⟨kk,hkk,hfar,rfl⟩ | ⟨hw,rfl⟩
 ·simp only
  rw [if_neg (by omega)]
  have hq:∀ x ∈ c,Qf x / 2 ^ kk ≤ 65536:=by
   intro x hx
   unfold ZoY at hfar
   simp_all
  rw [Xw]
  refine hfin (K8 kk) (fun x hx => by have:=hq x hx; rw [ZgK]; omega) ?_
  intro L i hi a ha
  have hx:=hc c[i] (List.getElem_mem hi)
  have hxq:=hq c[i] (List.getElem_mem hi)
  simp only [Zav]
  rw [Zc (ltR hi),Zc (YI hi),ZHX,Zc5 k hm]
  simp only [Z3]
  rw [ZU,Zo (by omega),ZM hi,ZXS,Zvb k hx]
  simp only [Z3]
  have hf32:=Zs4 hx
  rw [Zc (by omega),ZzZ (by omega) (by omega)]
  simp only [Xw,Nat.min_eq_left (show kk ≤ 64 by omega),Zgs]
  rw [show ((ZJ a,((a.length:Nat):Int),()):List Int × Int × Unit) = K0 a from rfl,ZBI k a _ (by omega) hxq (by omega)]
  simp only [Z3]
  rw [Zc (by omega)]
  have hlen:(a ++ (List.replicate (Qf c[i] / 2 ^ kk) false ++ [true])).length = a.length + (Qf c[i] / 2 ^ kk + 1):=by simp
  rw [QV k (a ++ (List.replicate (Qf c[i] / 2 ^ kk) false ++ [true])) _ kk (by omega) (by omega) (Nat.mod_lt _ (Nat.pow_pos (by omega))) (by rw [hlen]; omega)]
  simp only [Z3]
  rw [Qr hi (by omega)]
  unfold K8
  simp only [List.append_assoc]
 ·simp only
  rw [if_pos trivial,Xw]
  refine hfin (fun n => WN n (Q3 c)) (fun x hx => by simp only [Zbc]; omega) ?_
  intro L i hi a ha
  have hx:=Zw0 hc c[i] (List.getElem_mem hi)
  simp only [Zav]
  rw [Zc (ltR hi),Zc (YI hi),ZHX,Zc5 k hm]
  simp only [Z3]
  rw [ZU,Zc rfl,ZM hi]
  rw [show ((ZJ a,((a.length:Nat):Int),()):List Int × Int × Unit) = K0 a from rfl,Zu1 k a _ (Q3 c) (by omega) (by omega) hx (by omega)]
  simp only [Z3]
  rw [Qr hi (by omega)]
theorem ZCj {c:List Int} (hc:∀ x ∈ c,ZO x) (hn:c.length ≤ 512) {m:Int} {y:Prt} (hy:ZaG c m y):(Ko m y c).length ≤ c.length * 70000:=by
 have he:XE m ≤ 31:=by unfold XE; split <;> omega
 have key:∀ (g:Int → List Bool) (l:List Int),(∀ x ∈ l,(g x).length ≤ 70000) → (l.flatMap g).length ≤ l.length * 70000:=by
  intro g l
  induction l with
  | nil => intro _; simp
  | cons a l ih =>
   grind
 unfold Ko
 rcases hy with ⟨kk,hkk,hfar,rfl⟩ | ⟨hw,rfl⟩
 ·simp only
  rw [if_neg (by omega)]
  refine key _ c fun x hx => ?_
  unfold ZoY at hfar
  rw [List.any_eq_false] at hfar
  have:=hfar x hx
  simp only [decide_eq_true_eq] at this
  rw [ZgK,Xw]
  omega
 ·simp only
  rw [if_pos trivial]
  refine key _ c fun x hx => ?_
  rw [Zbc,Xw]
  omega
def K1 (m:Int):List (List Int) → List Prt → Prop
 | [],[] => True
 | c :: cs,y :: ys => ZaG c m y ∧ K1 m cs ys
 | _,_ => False
theorem ZgL {m:Int}:∀ (cs:List (List Int)) (ps:List Prt) (sz:Int),(QO m cs ps sz).2.2 = true → ∃ ys,(QO m cs ps sz).1 = ps ++ ys ∧ K1 m cs ys ∧ ys = cs.map fun c => (Wh c m).1
 | [],ps,sz,_ => ⟨[],by simp [QO],trivial,rfl⟩
 | c :: cs,ps,sz,h => by
  unfold QO at h ⊢
  split at h
  ·rename_i hb
   rw [if_pos hb]
   obtain ⟨ys,h1,h2,h3⟩:=ZgL cs _ _ h
   refine ⟨(Wh c m).1 :: ys,by rw [h1]; simp,⟨Zfv hb,h2⟩,by rw [h3]; rfl⟩
  ·cases h
theorem K1.len {m:Int}:∀ {cs:List (List Int)} {ys:List Prt},K1 m cs ys → ys.length = cs.length
 | [],[],_ => rfl
 | c :: cs,y :: ys,h => by simp [K1.len h.2]
theorem K1.get {m:Int}:∀ {cs:List (List Int)} {ys:List Prt},K1 m cs ys → ∀ (i:Nat) (h1:i < cs.length) (h2:i < ys.length),ZaG cs[i] m ys[i]
 | c :: cs,y :: ys,h,0,_,_ => h.1
 | c :: cs,y :: ys,h,i + 1,h1,h2 => by
  simp only [List.getElem_cons_succ]
  exact K1.get h.2 i (by simpa using h1) (by simpa using h2)
theorem RGood.ys {l:List Int} {o p:Nat} {R:Ym} (h:RGood l o R p):K1 R.1 (YK l o p) R.2.2.2:=by
 obtain ⟨ys,h1,h2,_⟩:=ZgL (m:=R.1) (YK l o p) [] 6 (by rw [h.parts])
 rw [h.parts] at h1
 simp_all
theorem ZtB {c:List Int} {m:Int} (hm:m = 0 ∨ m = 1) {y:Prt} (hy:ZaG c m y):∃ a w:Nat,y.1 = (a:Int) ∧ a < 2 ^ (4 + m.toNat) ∧ y.2.1 = (w:Int) ∧ w ≤ 31:=by
 rcases hy with ⟨kk,hkk,hfar,rfl⟩ | ⟨hw,rfl⟩
 ·refine ⟨kk,0,rfl,?_,rfl,by omega⟩
  rcases hm with rfl | rfl
  ·have:XE 0 = 15:=rfl
   grind
  ·have:XE 1 = 31:=rfl
   grind
 ·refine ⟨XE m,Q3 c,rfl,?_,rfl,hw⟩
  rcases hm with rfl | rfl <;> decide
theorem ZBL (k:Nat) {l:List Int} {o:Nat} (hk:70000 < k) (h:YJ l o = 0) (bs:List Bool) (hb:bs.length ≤ 1073741824) :
  ZiG k (K0 bs,l,(o:Int),()) = some (0,K0 (bs ++ Xv l o),()):=by
 show ZlY k (Zy5 k) _ = _
 have ⟨h1,h2⟩:=ZgQ.1 h
 have hl:=KV h2
 obtain ⟨hsz,q,hg⟩:=ZaR hl (o:=o) (by omega) (by omega)
 simp only [ZlY]
 rw [Zu2 k l o (by omega) (by omega),h]
 simp only [Z3]
 rw [show ((0:Int) != 0) = false from rfl]
 simp only [cond_false]
 rw [Zu3 k hl (by omega) (by omega)]
 simp only [Z3]
 unfold Xv ZgM
 generalize W1 l o = R at hg hsz
 have hys:=hg.ys
 obtain ⟨m,p,sz,ys⟩:=R
 obtain ⟨hp,p4,hfit,hm,hparts⟩:=hg
 simp only at hp hm hparts hys
 subst hp
 simp only [Xw]
 have hmn:m = ((m.toNat:Nat):Int):=by rcases hm with rfl | rfl <;> rfl
 have hm2:m.toNat < 2 ^ 2:=by rcases hm with rfl | rfl <;> decide
 have e1:=QV k bs m.toNat 2 (by omega) (by omega) hm2 (by omega)
 rw [← hmn] at e1
 rw [show ((ZJ bs,((bs.length:Nat):Int),()):List Int × Int × Unit) = K0 bs from rfl,show (2:Int) = ((2:Nat):Int) from rfl,e1]
 simp only [Z3]
 have hl1:(bs ++ Zb m.toNat 2).length = bs.length + 2:=by rw [Q4,Zi]
 have e2:=QV k (bs ++ Zb m.toNat 2) q 4 (by omega) (by omega) (by omega) (by rw [hl1]; omega)
 rw [show (4:Int) = ((4:Nat):Int) from rfl,e2]
 simp only [Z3]
 rw [Zu4 k (by omega) (by omega) (by omega) hfit]
 simp only [Z3]
 have hcs:∀ c ∈ YK l o q,(∀ x ∈ c,ZO x) ∧ c.length ≤ 512:=fun c hc => ⟨fun x hx => hl x (Zbk hc x hx),by have:=Zj4 hc; omega⟩
 have hclen:(YK l o q).length ≤ 16:=by
  rw [Zj5]
  have:2 ^ q ≤ 2 ^ 4:=Nat.pow_le_pow_right (by omega) p4
  omega
 have hyl:=hys.len
 generalize YK l o q = cs at hcs hclen hys hyl
 have hzl:(cs.zip ys).length = cs.length:=by rw [List.length_zip]; omega
 have hl2:(bs ++ Zb m.toNat 2 ++ Zb q 4).length = bs.length + 6:=by rw [Q4,hl1,Zi]
 have:=Zy (A:=List Bool) (R:=Int × (List Int × Int × Unit) × Unit) (step:=fun L1 => Zgp k (ZnI k L1) L1)
  (fun i a => (Int.ofNat cs.length,Int.ofNat i,cs,(a.length:Int),ZJ a,m,(q:Int),ys,sz)) (cs.zip ys)
  (fun l' a => some (0,K0 (a ++ l'.flatMap (XT m)),()))
  (fun i a => a.length ≤ 1073741900 + i * 35900000)
  (fun L a _ => by
   grind [Zgp])
  (fun L i hi a ha hL => by
   have hi1:i < cs.length:=by omega
   have hi2:i < ys.length:=by omega
   obtain ⟨hc1,hc2⟩:=hcs cs[i] (List.getElem_mem hi1)
   have hy:=hys.get i hi1 hi2
   have hzi:(cs.zip ys)[i] = (cs[i],ys[i]):=by rw [List.getElem_zip]
   simp only [Zgp]
   rw [Zc (ltR hi1),Zc (YI hi1),Zc (YI hi2),ZUY,Znc k hm]
   simp only [Z3]
   rw [ZM hi1,ZM hi2]
   obtain ⟨b,w,hb1,hb2,hw1,hw2⟩:=ZtB hm hy
   have hll:=ZCj hc1 hc2 hy
   have e4:(4:Int) + m = ((4 + m.toNat:Nat):Int):=by rcases hm with rfl | rfl <;> rfl
   have hm1:m.toNat ≤ 1:=by rcases hm with rfl | rfl <;> decide
   rw [hb1,hw1,e4,show ((ZJ a,((a.length:Nat):Int),()):List Int × Int × Unit) = K0 a from rfl,QV k a b (4 + m.toNat) (by omega) (by omega) hb2 (by omega)]
   simp only [Z3]
   rw [ZHX,Zc5 k hm]
   simp only [Z3]
   have hla:(a ++ Zb b (4 + m.toNat)).length = a.length + (4 + m.toNat):=by rw [Q4,Zi]
   have hI:((i:Nat):Int) ≤ 16:=by omega
   have hout:XT m (cs[i],ys[i]) = Zb b (4 + m.toNat) ++ ((if (b:Int) = (XE m:Int) then Zb w 5 else []) ++ Ko m ys[i] cs[i]):=by
    unfold XT
    simp only [hb1,hw1,Xw]
   rw [hzi,List.flatMap_cons,hout,ZU]
   have hnext:Int.ofNat i + 1 = Int.ofNat (i + 1):=rfl
   by_cases hesc:(b:Int) = (XE m:Int)
   ·rw [Zc hesc,if_pos hesc]
    have h5:w < 2 ^ 5:=by omega
    rw [show ((5:Int)) = ((5:Nat):Int) from rfl,QV k (a ++ Zb b (4 + m.toNat)) w 5 (by omega) (by omega) h5 (by omega)]
    simp only [Z3]
    have hlb:(a ++ Zb b (4 + m.toNat) ++ Zb w 5).length = a.length + (4 + m.toNat) + 5:=by rw [Q4,hla,Zi]
    have:=ZBK k L hc1 hc2 (by omega) hm hy (Int.ofNat i) (Int.ofNat cs.length) cs (q:Int) ys sz (by simp only [QS]; omega) (a ++ Zb b (4 + m.toNat) ++ Zb w 5) (by omega)
    grind
   ·rw [Zo hesc,if_neg hesc]
    have:=ZBK k L hc1 hc2 (by omega) hm hy (Int.ofNat i) (Int.ofNat cs.length) cs (q:Int) ys sz (by simp only [QS]; omega) (a ++ Zb b (4 + m.toNat)) (by omega)
    grind)
  k 0 (bs ++ Zb m.toNat 2 ++ Zb q 4) (by omega) (by omega) (Nat.zero_le _)
 rw [List.drop_zero] at this
 refine Eq.trans this ?_
 simp
end Go.Sh
namespace Go.Sh
open Go Go.Proofs
theorem ZBM (k:Nat) (n d:Int):Zv9 k (n,d,()) = some (decide (1 ≤ n ∧ n ≤ 512 ∧ 4 ≤ d ∧ d ≤ 25),()):=by
 show Zl4 k _ = _
 grind [Zl4]
theorem ZBP (k:Nat) (x:Int) {d:Nat} (h1:1 ≤ d) (h2:d ≤ 64):Zwa k (x,(d:Int),()) = some (XG x d,()):=by
 show Zl7 k _ = _
 simp only [Zl7]
 have e1:IntKind.i64.wrap ((d:Int) - 1) = ((d - 1:Nat):Int):=by rw [Qe (by omega)]; omega
 rw [e1,ZCC x (by omega)]
 grind
theorem ZIw (k:Nat) (x:Int) {d:Nat} (h1:1 ≤ d) (h2:d ≤ 64):Zq3 k (x,((d:Int),()),()) = some (!XG x d,((d:Int),()),()):=by
 show Zhb k _ = _
 simp only [Zhb]
 rw [ZBP k x h1 h2]
 rfl
theorem ZAp (k:Nat) (c:List Int) {d:Nat} (h1:1 ≤ d) (h2:d ≤ 64) (hk:c.length < k) (hn:c.length < 4294967296) :
  ZfB k (c,(((d:Int),()),()),()) = some (!c.all (XG · d),((d:Int),()),()):=by
 show Zcc k _ = _
 simp only [Zcc]
 have key:∃ i:Int,ZfK k (c,(((d:Int),()),()),()) = some (i,((d:Int),()),()) ∧ (0 ≤ i ↔ c.all (XG · d) = false):=by
  have:=QK (A:=Unit) (R:=Int × (Int × Unit) × Unit) (step:=fun L1 => Zai k L1) (fun i _ => (Int.ofNat c.length,Int.ofNat i,c,(d:Int))) c
   (fun l _ => some (if l.all (XG · d) then -1 else Int.ofNat (c.length - l.length + (l.takeWhile (fun x => XG x d)).length),((d:Int),()),()))
   (fun L _ => by grind [Zai])
   (fun L i hi _ hL => by
    simp only [Zai]
    rw [Zc (ltR hi),Zc (YI hi),ZM hi,ZIw k _ h1 h2]
    simp only [Z3]
    have hlen:(List.drop (i + 1) c).length = c.length - (i + 1):=by simp
    cases hc:XG c[i] d with
    | true =>
     simp only [Bool.not_true,cond_false]
     rw [Qr hi (by omega),hL ()]
     simp only [List.all_cons,hc,Bool.true_and,List.takeWhile_cons,if_true,List.length_cons,hlen]
     grind
    | false =>
     simp only [Bool.not_false,cond_true,List.all_cons,hc,Bool.false_and,Bool.false_eq_true,if_false,List.takeWhile_cons,List.length_cons,hlen,List.length_nil]
     congr 3; omega) k 0 () (by omega) (Nat.zero_le _)
  rw [List.drop_zero] at this
  refine ⟨_,this,?_⟩
  cases c.all (XG · d) <;> simp
 grind
def Zip (s:List Int) (d:Int):Int:=if 1 ≤ s.length ∧ s.length ≤ 512 ∧ 4 ≤ d ∧ d ≤ 25 then (if s.all (XG · d.toNat) = true then 0 else 12) else 1
theorem ZO3 (k:Nat) (s:List Int) (d:Int) (hk:1000 < k):Zv7 k (s,d,()) = some (Zip s d,()):=by
 show ZlT k _ = _
 simp only [ZlT]
 rw [ZBM]
 simp only [Z3]
 unfold Zip
 by_cases h:1 ≤ s.length ∧ s.length ≤ 512 ∧ 4 ≤ d ∧ d ≤ 25
 ·rw [if_pos h,dTr (by simp only [QS]; omega)]
  simp only [Bool.not_true,cond_false]
  obtain ⟨e,rfl⟩:=Int.eq_ofNat_of_zero_le (show 0 ≤ d by omega)
  rw [ZAp k s (by omega) (by omega) (by omega) (by omega),Xw]
  grind
 grind
def Za0 (x:Int):Nat:=(x % 18446744073709551616).toNat
def Zxb (s:List Int):Nat:=s.foldl (fun v x => v ||| Za0 x) 0
def ZL (s:List Int):Nat:=if Zxb s = 0 then 0 else Lib.ctz 64 (Zxb s)
theorem ZHA (x:Int):Za0 x < 2 ^ 64:=by unfold Za0; omega
theorem ZaA (x:Int):(BitVec.ofInt 64 x).toNat = Za0 x:=by rw [BitVec.toNat_ofInt]; rfl
theorem Zwu {n:Nat} (h:n < 2 ^ 64):Za0 (IntKind.i64.wrap (n:Int)) = n:=by
 unfold Za0
 rw [IntKind.wrap_i64]
 omega
theorem Zty:∀ (s:List Int) (v:Nat),v < 2 ^ 64 → s.foldl (fun v x => v ||| Za0 x) v < 2 ^ 64
 | [],_,h => h
 | x :: s,v,h => Zty s _ (Nat.or_lt_two_pow h (ZHA x))
theorem ZQG (s:List Int):Zxb s < 2 ^ 64:=Zty s 0 (by decide)
theorem ZIy (k:Nat) (s:List Int) (hk:s.length < k) (hn:s.length < 4294967296):Zq4 k (s,()) = some (((ZL s:Nat):Int),()):=by
 show Zhc k (Zpe k) _ = _
 simp only [Zhc]
 have:=Zy (A:=Nat) (R:=Int × Unit) (step:=fun L1 => Zc1 k L1) (fun i v => (Int.ofNat s.length,Int.ofNat i,s,IntKind.i64.wrap (v:Int))) s
  (fun s' v => some ((((if s'.foldl (fun v x => v ||| Za0 x) v = 0 then 0 else Lib.ctz 64 (s'.foldl (fun v x => v ||| Za0 x) v)):Nat):Int),()))
  (fun i v => v < 2 ^ 64)
  (fun L v hv => by
   simp only [Zc1]
   rw [Zo (Yb _),ZU,List.foldl_nil]
   by_cases h0:v = 0
   ·subst h0; rfl
   ·have hne:¬ IntKind.i64.wrap (v:Int) = 0:=by
     intro h
     have:=Zwu hv
     rw [h] at this
     exact h0 this.symm
    rw [Zo hne,if_neg h0]
    have hu:IntKind.u64.wrap (IntKind.i64.wrap (v:Int)) = (v:Int):=by
     rw [IntKind.wrap_u64,IntKind.wrap_i64]; omega
    rw [hu]
    show (tzF _).bind _ = _
    unfold tzF
    grind)
  (fun L i hi v hv hL => by
   simp only [Zc1]
   rw [Zc (ltR hi),Zc (YI hi),ZM hi,BitVec.toNat_or,ZaA,ZaA,Zwu hv,Qr hi (by omega),List.foldl_cons]
   exact hL (v ||| Za0 s[i]) (Nat.or_lt_two_pow hv (ZHA _)))
  k 0 0 (by decide) (by omega) (Nat.zero_le _)
 rw [List.drop_zero] at this
 exact this
theorem ZCo {a b k:Nat} (h:(a ||| b) % 2 ^ k = 0):a % 2 ^ k = 0 ∧ b % 2 ^ k = 0:=by
 rw [Nat.or_mod_two_pow] at h
 simp_all
theorem Zmm {k:Nat}:∀ (s:List Int) (v:Nat),(s.foldl (fun v x => v ||| Za0 x) v) % 2 ^ k = 0 → v % 2 ^ k = 0 ∧ ∀ x ∈ s,Za0 x % 2 ^ k = 0
 | [],v,h => ⟨h,by simp⟩
 | x :: s,v,h => by
  obtain ⟨h1,h2⟩:=Zmm s _ h
  obtain ⟨h3,h4⟩:=ZCo h1
  simp_all
theorem ZTG {x:Int} {k:Nat} (hk:k ≤ 64) (h:Za0 x % 2 ^ k = 0):((2:Int) ^ k) ∣ x:=by
 have:=ZoK x k 64 hk
 unfold Za0 at h
 simp_all <;> omega
theorem ZCY {s:List Int} (h:Zxb s ≠ 0):∃ m,Zxb s = 2 ^ ZL s * (2 * m + 1) ∧ ZL s < 64:=by
 unfold ZL Lib.ctz
 rw [if_neg h,if_neg h]
 exact Lib.ctzFrom_spec 64 (Zxb s) (by omega) (ZQG s)
theorem ZjN {s:List Int}:∀ x ∈ s,((2:Int) ^ ZL s) ∣ x:=by
 intro x hx
 by_cases h:Zxb s = 0
 ·unfold ZL
  rw [if_pos h]
  exact Int.one_dvd _
 ·obtain ⟨m,hm,hlt⟩:=ZCY h
  have:Zxb s % 2 ^ ZL s = 0:=by rw [hm]; exact Nat.mul_mod_right _ _
  exact ZTG (by omega) ((Zmm s 0 this).2 x hx)
theorem Zz0:∀ (s:List Int) (v:Nat),v = 0 → (∀ x ∈ s,x = 0) → s.foldl (fun v x => v ||| Za0 x) v = 0
 | [],v,h,_ => h
 | x :: s,v,h,hx => by
  refine Zz0 s _ ?_ fun y hy => hx y (List.mem_cons_of_mem _ hy)
  rw [h,hx x (List.mem_cons_self ..)]
  rfl
theorem Zd4 {s:List Int} {d:Nat} (hd:1 ≤ d) (hs:∀ x ∈ s,XG x d = true):ZL s < d:=by
 by_cases h:Zxb s = 0
 ·unfold ZL
  rw [if_pos h]
  omega
 ·have:∃ x ∈ s,x ≠ 0:=by
   apply Classical.byContradiction
   intro hc
   refine h (Zz0 s 0 rfl fun x hx => ?_)
   grind
  obtain ⟨x,hx,hne⟩:=this
  have h1:=hs x hx
  unfold XG at h1
  rw [if_neg (by omega),decide_eq_true_eq] at h1
  have h2:=Int.natAbs_dvd_natAbs.2 (ZjN x hx)
  rw [Int.natAbs_pow] at h2
  have h3:=Nat.le_of_dvd (by omega) h2
  have h4:x.natAbs ≤ 2 ^ (d - 1):=by
   grind
  have h5:2 ^ ZL s ≤ 2 ^ (d - 1):=Nat.le_trans h3 h4
  have:=(Nat.pow_le_pow_iff_right (by omega:1 < 2)).1 h5
  omega
def Wc (s:List Int):List Int:=s.map fun x => x.fdiv (2 ^ ZL s)
theorem Zbd (s:List Int):(Wc s).length = s.length:=by simp [Wc]
theorem ZBU {x:Int} {k:Nat} (h:((2:Int) ^ k) ∣ x):x.fdiv (2 ^ k) * 2 ^ k = x:=by
 rw [Int.fdiv_eq_ediv_of_nonneg _ (Int.pow_nonneg (by omega))]
 exact Int.ediv_mul_cancel h
theorem ZKT {x:Int} {d k:Nat} (hk:k < d) (h:((2:Int) ^ k) ∣ x) (hx:XG x d = true):XG (x.fdiv (2 ^ k)) (d - k) = true:=by
 have he:=ZBU h
 generalize x.fdiv (2 ^ k) = y at he
 unfold XG at hx ⊢
 rw [if_neg (by omega),decide_eq_true_eq] at hx
 rw [if_neg (by omega),decide_eq_true_eq]
 have hp:(0:Int) < 2 ^ k:=Int.pow_pos (by omega)
 have e:(2:Int) ^ (d - 1) = 2 ^ (d - k - 1) * 2 ^ k:=by rw [← Int.pow_add]; congr 1; omega
 rw [e,← he,← Int.neg_mul] at hx
 exact ⟨Int.le_of_mul_le_mul_right hx.1 hp,Int.lt_of_mul_lt_mul_right hx.2 (by omega)⟩
theorem ZjJ {s:List Int} {d:Nat} (hd:1 ≤ d) (hs:∀ x ∈ s,XG x d = true):∀ x ∈ Wc s,XG x (d - ZL s) = true:=by
 intro y hy
 obtain ⟨x,hx,rfl⟩:=List.mem_map.1 hy
 exact ZKT (Zd4 hd hs) (ZjN x hx) (hs x hx)
theorem ZFR {x:Int} {d:Nat} (hd:d ≤ 31) (h:XG x d = true):ZO x:=by
 unfold XG at h
 unfold ZO
 split at h
 ·simp_all
 ·rw [decide_eq_true_eq,XU] at h
  have:2 ^ (d - 1) ≤ 2 ^ 30:=Nat.pow_le_pow_right (by omega) (by omega)
  omega
end Go.Sh
namespace Go.Sh
open Go Go.Proofs
abbrev XD:=Int × List Int × Int × List Int × Int
def Ztp (s:List Int) (d:Nat) (kind:Int) (c:List Int) (sh head:Int):Option XD :=
 if (Q0 c sh s).2 = 0 then some (kind,c,sh,(Q0 c sh s).1,head + (c.length:Int) * (d:Int) + (W1 (Q0 c sh s).1 c.length).2.2.1) else none
def Wj (b:Option XD) (x:Option XD):Option XD :=
 match x with
 | none => b
 | some x => match b with
  | none => some x
  | some b => if x.2.2.2.2 < b.2.2.2.2 then some x else some b
abbrev FPl:=Int × Int × Int × List Int × List Int × Int × List Int × Int × Unit
abbrev SPl:=Int × Int × Int × List Int × (List Int × Int × Unit) × List Int × Int × Unit
def QE (kk d:Int) (s:List Int):Option XD → FPl
 | none => (0,0,0,[],[],0,[],-1,())
 | some (kind,c,sh,r,sz) => (kind,kk,d,s,c,sh,r,sz,())
abbrev ZXv (kk d:Int) (s:List Int) (x:XD):SPl:=(x.1,kk,d,s,(x.2.1,x.2.2.1,()),x.2.2.2.1,x.2.2.2.2,())
def nnC (b:Option XD):Prop := ∀ c,b = some c → 0 ≤ c.2.2.2.2
theorem ZdZ {b x:Option XD} (hb:nnC b) (hx:nnC x):nnC (Wj b x):=by
 intro c hc
 unfold Wj at hc
 match x,b,hc with
 | none,b,hc => exact hb c hc
 | some x,none,hc => exact hx c hc
 | some x,some b,hc =>
  simp only at hc
  split at hc
  ·exact hx c hc
  ·exact hb c hc
theorem ZAu (k:Nat) (kk d:Int) (s:List Int) (x:XD) (b:Option XD) (hb:nnC b) :
  ZcL k (ZXv kk d s x,true,QE kk d s b,()) = some ((),QE kk d s (Wj b (some x)),()):=by
 match b with
 | none => rfl
 | some b =>
  have h0:=hb b rfl
  show (bif decide (b.2.2.2.2 < 0) then _ else bif decide (x.2.2.2.2 < b.2.2.2.2) then _ else _) = _
  rw [Zo (by omega)]
  unfold Wj
  simp only
  by_cases h:x.2.2.2.2 < b.2.2.2.2
  ·rw [Zc h,if_pos h]; rfl
  ·rw [Zo h,if_neg h]; rfl
theorem ZjW {l:List Int} {o:Nat} (hl:∀ x ∈ l,ZO x) (hn:l.length + o ≤ 512):0 ≤ (W1 l o).2.2.1 ∧ (W1 l o).2.2.1 ≤ 281474976710656:=by
 obtain ⟨h1,q,hg⟩:=ZaR hl hn (by omega)
 refine ⟨h1,?_⟩
 have key:∀ (cs:List (List Int)) (ps:List Prt) (sz m:Int),(m = 0 ∨ m = 1) → (∀ c ∈ cs,(∀ x ∈ c,ZO x) ∧ c.length ≤ 512) → (QO m cs ps sz).2.1 ≤ sz + (cs.length:Int) * 8796093022208:=by
  intro cs
  induction cs with
  | nil => intro ps sz m _ _; simp [QO]
  | cons c cs ih =>
   intro ps sz m hm h
   cases hb:(Wh c m).2 with
   | false => rw [ZnZ _ _ _ hb]; simp only [List.length_cons]; omega
   | true =>
    rw [ZjA _ _ _ hb]
    have h1:=h c (List.mem_cons_self ..)
    have h2:=(Zfv hb).size h1.1 h1.2
    have:=ih (ps ++ [(Wh c m).1]) (sz + (4 + m + (Wh c m).1.2.2.1)) m hm fun c hc => h c (List.mem_cons_of_mem _ hc)
    grind
 have:=key (YK l o q) [] 6 _ hg.hm fun c hc => ⟨fun x hx => hl x (Zbk hc x hx),by have:=Zj4 hc; omega⟩
 rw [hg.parts,Zj5] at this
 have h16:2 ^ q ≤ 2 ^ 4:=Nat.pow_le_pow_right (by omega) hg.p4
 grind
theorem ZgS {c s:List Int} {sh:Int} (h:(Q0 c sh s).2 = 0):(Q0 c sh s).1 = Yl c sh s ∧ c.length ≤ s.length ∧ ZbQ c sh = true:=by
 unfold Q0 at h ⊢
 grind
theorem K9 {c s:List Int} {sh:Int} (h:(Q0 c sh s).2 = 0) (h1:1 ≤ s.length) (h2:s.length ≤ 512):(Q0 c sh s).1.length + c.length = s.length ∧ c.length ≤ 8 ∧ YJ (Q0 c sh s).1 (c.length:Nat) = 0:=by
 have hz:=ZgS h
 have hlen:(Q0 c sh s).1.length + c.length = s.length:=by rw [hz.1,Yl,ZtO]; omega
 have h8:=(ZgG hz.2.2).1
 refine ⟨hlen,h8,ZgQ.2 ⟨⟨by omega,by omega,h8⟩,?_⟩⟩
 rw [List.any_eq_false]
 intro x hx
 have:=YC c sh s x hx
 unfold ZO at this
 unfold QM
 simp only [decide_eq_true_eq]
 omega
def ZXp (p:SPl) (kk d:Int) (s:List Int):Option XD → SPl × Bool × Unit
 | none => (p,false,())
 | some x => (ZXv kk d s x,true,())
theorem ZIC (k:Nat) (hk:40000 < k) {s:List Int} (h1:1 ≤ s.length) (h2:s.length ≤ 512) {d:Nat} (hd:d ≤ 25) {head:Int} (hh:0 ≤ head ∧ head ≤ 1000) (kind:Int) (c:List Int) (sh a0 a1 a5:Int) (a4 a6:List Int) (a7:Int) :
  Zjd k ((a0,a1,(d:Int),s,(a4,a5,()),a6,a7,()),kind,(c,sh,()),head,()) = some (ZXp (a0,a1,(d:Int),s,(a4,a5,()),a6,a7,()) a1 d s (Ztp s d kind c sh head),()):=by
 show Zhg k _ = _
 simp only [Zhg]
 rw [Zve k c sh s (by omega) (by omega)]
 simp only [Z3]
 rw [ZK]
 unfold Ztp
 by_cases h:(Q0 c sh s).2 = 0
 ·rw [Zo (by simpa using h),if_pos h]
  obtain ⟨hl,h8,hr⟩:=K9 h h1 h2
  have hc:=ZJi k (l:=(Q0 c sh s).1) (o:=c.length) (by omega) hk
  rw [if_pos hr] at hc
  rw [show Int.ofNat c.length = ((c.length:Nat):Int) from rfl,hc]
  simp only [Z3]
  rw [show ((0:Int) != 0) = false from rfl]
  simp only [cond_false]
  have hsz:=ZjW (YC c sh s) (o:=c.length) (by omega)
  have hcd:c.length * d ≤ 8 * 25:=Nat.mul_le_mul h8 hd
  have e1:((c.length:Nat):Int) * (d:Int) = ((c.length * d:Nat):Int):=by push_cast; rfl
  rw [e1,Qe (n:=((c.length * d:Nat):Int)) (by omega),Qe (n:=head + ((c.length * d:Nat):Int)) (by omega),Qe (by omega)]
  rfl
 ·rw [Zc h,if_neg h]
  rfl
theorem ZAq (k:Nat) {s:List Int} (h1:1 ≤ s.length) (h2:s.length ≤ 512) (hk:1000 < k) (a0 a1 a2 a5 a7:Int) (a4 a6:List Int) :
  ZfC k (s,((a0,a1,a2,s,a4,a5,a6,a7,()),()),()) = some (!s.all (fun x => decide (x = s.headD 0)),(a0,a1,a2,s,a4,a5,a6,a7,()),()):=by
 show Zcd k _ = _
 simp only [Zcd]
 have hhd:s.getD 0 0 = s.headD 0:=by cases s <;> rfl
 have key:∃ i:Int,ZfL k (s,((a0,a1,a2,s,a4,a5,a6,a7,()),()),()) = some (i,(a0,a1,a2,s,a4,a5,a6,a7,()),()) ∧ (0 ≤ i ↔ s.all (fun x => decide (x = s.headD 0)) = false):=by
  have:=QK (A:=Unit) (R:=Int × FPl × Unit) (step:=fun L1 => Zaj k L1) (fun i _ => (Int.ofNat s.length,Int.ofNat i,s,a0,a1,a2,s,a4,a5,a6,a7)) s
   (fun l _ => some (if l.all (fun x => decide (x = s.headD 0)) then -1 else Int.ofNat (s.length - l.length + (l.takeWhile (fun x => decide (x = s.headD 0))).length),(a0,a1,a2,s,a4,a5,a6,a7,()),()))
   (fun L _ => by grind [Zaj])
   (fun L i hi _ hL => by
    simp only [Zaj]
    have e:Zq5 k (s[i],(a0,a1,a2,s,a4,a5,a6,a7,()),()) = some (s[i] != s.headD 0,(a0,a1,a2,s,a4,a5,a6,a7,()),()):=by
     show Zhd k _ = _
     grind [Zhd,QS]
    rw [Zc (ltR hi),Zc (YI hi),ZM hi,e]
    simp only [Z3]
    have hlen:(List.drop (i + 1) s).length = s.length - (i + 1):=by simp
    rw [ZK]
    by_cases hc:s[i] = s.headD 0
    ·rw [Zo (by simpa using hc),Qr hi (by omega),hL ()]
     simp only [List.all_cons,hc,decide_true,Bool.true_and,List.takeWhile_cons,if_true,List.length_cons,hlen]
     grind
    ·rw [Zc hc]
     simp only [List.all_cons,hc,decide_false,Bool.false_and,Bool.false_eq_true,if_false,List.takeWhile_cons,List.length_cons,hlen,List.length_nil]
     congr 3; omega) k 0 () (by omega) (Nat.zero_le _)
  rw [List.drop_zero] at this
  refine ⟨_,this,?_⟩
  grind
 grind
def Zgw (s:List Int) (d:Nat):Option XD:=if s.all (fun x => decide (x = s.headD 0)) = true then some (0,[],0,[],(d:Int)) else none
def ZTz (s:List Int) (d:Nat) (o:Nat):Option XD:=Ztp s d (8 + (o:Int)) (XQ o) 0 0
def Zfn (s:List Int) (d:Nat) (o:Nat):Option XD:=if o < s.length then Ztp s d (31 + (o:Int)) (ZcD s o) 4 (9 + 12 * (o:Int)) else none
def ZQw (s:List Int) (d:Nat):Option XD:=some (1,[],0,[],(s.length:Int) * (d:Int))
def ZKj (s:List Int) (d:Nat):Nat → Nat → Option XD → Option XD
 | 0,_,b => b
 | e + 1,o,b => ZKj s d e (o + 1) (Wj b (ZTz s d o))
def Zo7 (s:List Int) (d:Nat):Option XD :=
 Wj (Wj (Wj (Wj (ZKj s d (min 4 s.length + 1) 0 (Wj none (Zgw s d))) (Zfn s d 2)) (Zfn s d 4)) (Zfn s d 8)) (ZQw s d)
theorem ZHC {s:List Int} {d:Nat} {kind:Int} {c:List Int} {sh head:Int} (h1:1 ≤ s.length) (h2:s.length ≤ 512) (hh:0 ≤ head):nnC (Ztp s d kind c sh head):=by
 intro x hx
 unfold Ztp at hx
 split at hx
 ·rename_i h
  obtain rfl:=(Option.some.inj hx).symm
  obtain ⟨hl,h8,_⟩:=K9 h h1 h2
  have:=(ZjW (YC c sh s) (o:=c.length) (by omega)).1
  grind
 ·cases hx
theorem ZHE:nnC none:=fun _ h => by cases h
theorem ZKi (s:List Int) (d:Nat):nnC (Zgw s d):=by
 intro x hx
 unfold Zgw at hx
 grind
theorem ZHr {s:List Int} {d o:Nat} (h1:1 ≤ s.length) (h2:s.length ≤ 512):nnC (ZTz s d o):=ZHC h1 h2 (Int.le_refl _)
theorem Zzo {s:List Int} {d o:Nat} (h1:1 ≤ s.length) (h2:s.length ≤ 512):nnC (Zfn s d o):=by
 unfold Zfn
 split
 ·exact ZHC h1 h2 (by omega)
 ·exact ZHE
theorem ZHs {s:List Int} {d:Nat} (h1:1 ≤ s.length) (h2:s.length ≤ 512):∀ (e o:Nat) (b:Option XD),nnC b → nnC (ZKj s d e o b)
 | 0,_,b,h => h
 | e + 1,o,b,h => ZHs h1 h2 e (o + 1) _ (ZdZ h (ZHr h1 h2))
theorem ZwZ (k:Nat) (hk:40000 < k) {s:List Int} (h1:1 ≤ s.length) (h2:s.length ≤ 512) {d:Nat} (hd:d ≤ 25) {head:Int} (hh:0 ≤ head ∧ head ≤ 1000) (kind:Int) (c:List Int) (sh a0 a1 a5:Int) (a4 a6:List Int) (a7:Int) {b:Option XD} (hb:nnC b)
  {R:Type} (K:Unit × FPl × Unit → Option R) :
  ((Zjd k ((a0,a1,(d:Int),s,(a4,a5,()),a6,a7,()),kind,(c,sh,()),head,())).bind fun y =>
   (ZcL k ((y.1.1.1,y.1.1.2.1,y.1.1.2.2.1,y.1.1.2.2.2.1,(y.1.1.2.2.2.2.1.1,y.1.1.2.2.2.2.1.2.1,()),y.1.1.2.2.2.2.2.1,y.1.1.2.2.2.2.2.2.1,()),y.1.2.1,((QE a1 d s b).1,(QE a1 d s b).2.1,(QE a1 d s b).2.2.1,(QE a1 d s b).2.2.2.1,(QE a1 d s b).2.2.2.2.1,(QE a1 d s b).2.2.2.2.2.1,(QE a1 d s b).2.2.2.2.2.2.1,(QE a1 d s b).2.2.2.2.2.2.2.1,()),())).bind K) =
  K ((),QE a1 d s (Wj b (Ztp s d kind c sh head)),()):=by
 rw [ZIC k hk h1 h2 hd hh]
 simp only [Z3]
 cases hm:Ztp s d kind c sh head with
 | none => rfl
 | some x =>
  have:=ZAu k a1 d s x b hb
  exact (congrArg (fun z => z.bind K) this).trans rfl
end Go.Sh
namespace Go.Sh
open Go Go.Proofs
theorem Zm {α β:Type} {x:Option α} {a:α} (h:x = some a) (K:α → Option β):x.bind K = K a:=by rw [h]; rfl
theorem ZTp (k:Nat) (hk:40000 < k) {s:List Int} (h1:1 ≤ s.length) (h2:s.length ≤ 512) {d:Nat} (hd:d ≤ 25) (kk:Int) :
  ∀ (e o j:Nat) (b:Option XD),e < j → o + e ≤ 5 → nnC b →
  Zn (fun L2 => Zgk k (ZnF k) L2) j (((o + e:Nat):Int),(o:Int),Int.ofNat s.length,(QE kk d s b).1,(QE kk d s b).2.1,(QE kk d s b).2.2.1,(QE kk d s b).2.2.2.1,(QE kk d s b).2.2.2.2.1,(QE kk d s b).2.2.2.2.2.1,(QE kk d s b).2.2.2.2.2.2.1,(QE kk d s b).2.2.2.2.2.2.2.1,
    0,kk,(d:Int),s,[],0,[],0,0,kk,(d:Int),0,(d:Int),s,0,0,0,0,0) =
   (fun b => ZnF k ((0:Int),(2:Int),(4:Int),(8:Int),Int.ofNat s.length,0,kk,(d:Int),s,[],0,[],0,(QE kk d s b).1,(QE kk d s b).2.1,(QE kk d s b).2.2.1,(QE kk d s b).2.2.2.1,(QE kk d s b).2.2.2.2.1,(QE kk d s b).2.2.2.2.2.1,(QE kk d s b).2.2.2.2.2.2.1,(QE kk d s b).2.2.2.2.2.2.2.1,
    0,kk,(d:Int),0,(d:Int),s,0,0,0,0,0)) (ZKj s d e o b):=by
 intro e
 induction e with
 | zero =>
  intro o j b hj ho hb
  obtain ⟨j,rfl⟩:=ZE hj
  rw [Ze]
  simp only [Zgk]
  rw [Zo (by omega)]
  rfl
 | succ e ih =>
  intro o j b hj ho hb
  obtain ⟨j,rfl⟩:=ZE (show 0 < j by omega)
  rw [Ze]
  simp only [Zgk]
  rw [Zc (by omega),Zm6 k o (by omega) (by omega)]
  simp only [Z3]
  have e1:IntKind.i64.wrap ((8:Int) + (o:Int)) = 8 + (o:Int):=by rw [Qe (by omega)]
  have e2:IntKind.i64.wrap ((o:Int) + 1) = ((o + 1:Nat):Int):=by rw [Qe (by omega)]; rfl
  rw [e1,e2]
  refine (ZwZ k hk h1 h2 hd (show (0:Int) ≤ 0 ∧ (0:Int) ≤ 1000 by omega) (8 + (o:Int)) (XQ o) 0 0 kk 0 [] [] 0 hb _).trans ?_
  have:=ih (o + 1) j (Wj b (ZTz s d o)) (by omega) (by omega) (ZdZ hb (ZHr h1 h2))
  rw [show o + 1 + e = o + (e + 1) by omega] at this
  exact this
theorem ZTq (k:Nat) (hk:40000 < k) {s:List Int} (h1:1 ≤ s.length) (h2:s.length ≤ 512) (hs:∀ x ∈ s,ZO x) {d:Nat} (hd:d ≤ 25) (kk:Int) (b:Option XD) (hb:nnC b) :
  ZnF k ((0:Int),(2:Int),(4:Int),(8:Int),Int.ofNat s.length,0,kk,(d:Int),s,[],0,[],0,(QE kk d s b).1,(QE kk d s b).2.1,(QE kk d s b).2.2.1,(QE kk d s b).2.2.2.1,(QE kk d s b).2.2.2.2.1,(QE kk d s b).2.2.2.2.2.1,(QE kk d s b).2.2.2.2.2.2.1,(QE kk d s b).2.2.2.2.2.2.2.1,
    0,kk,(d:Int),0,(d:Int),s,0,0,0,0,0) =
   (fun b => some (((QE kk d s b).1,(QE kk d s b).2.1,(QE kk d s b).2.2.1,(QE kk d s b).2.2.2.1,((QE kk d s b).2.2.2.2.1,(QE kk d s b).2.2.2.2.2.1,()),(QE kk d s b).2.2.2.2.2.2.1,(QE kk d s b).2.2.2.2.2.2.2.1,()),()))
    (Wj (Wj (Wj (Wj b (Zfn s d 2)) (Zfn s d 4)) (Zfn s d 8)) (ZQw s d)):=by
 have one:∀ (j i o:Nat) (b:Option XD),(i = 0 ∧ o = 2 ∨ i = 1 ∧ o = 4 ∨ i = 2 ∧ o = 8) → nnC b →
   Zn (fun L3 => ZdG k L3) (j + 1) ((i:Int),(2:Int),(4:Int),(8:Int),Int.ofNat s.length,0,kk,(d:Int),s,[],0,[],0,(QE kk d s b).1,(QE kk d s b).2.1,(QE kk d s b).2.2.1,(QE kk d s b).2.2.2.1,(QE kk d s b).2.2.2.2.1,(QE kk d s b).2.2.2.2.2.1,(QE kk d s b).2.2.2.2.2.2.1,(QE kk d s b).2.2.2.2.2.2.2.1,
    0,kk,(d:Int),0,(d:Int),s,0,0,0,0,0) =
   (fun b => Zn (fun L3 => ZdG k L3) j (((i + 1:Nat):Int),(2:Int),(4:Int),(8:Int),Int.ofNat s.length,0,kk,(d:Int),s,[],0,[],0,(QE kk d s b).1,(QE kk d s b).2.1,(QE kk d s b).2.2.1,(QE kk d s b).2.2.2.1,(QE kk d s b).2.2.2.2.1,(QE kk d s b).2.2.2.2.2.1,(QE kk d s b).2.2.2.2.2.2.1,(QE kk d s b).2.2.2.2.2.2.2.1,
    0,kk,(d:Int),0,(d:Int),s,0,0,0,0,0)) (Wj b (Zfn s d o)):=by
  intro j i o b hio hb
  rw [Ze]
  simp only [ZdG]
  have ho:o = 2 ∨ o = 4 ∨ o = 8:=by omega
  have hg:[(2:Int),4,8].getD ((i:Int)).toNat 0 = (o:Int):=by
   grind
  have e2:IntKind.i64.wrap ((i:Int) + 1) = ((i + 1:Nat):Int):=by rw [Qe (by omega)]; rfl
  rw [Zc (by omega),Zc (by omega),hg,e2]
  unfold Zfn
  by_cases hlt:o < s.length
  ·rw [Zc (by simp only [QS]; omega),if_pos hlt,ZIH k s o ho (by omega) hs (by omega) (by omega)]
   simp only [Z3]
   have e1:IntKind.i64.wrap ((31:Int) + (o:Int)) = 31 + (o:Int):=by rw [Qe (by omega)]
   have e3:IntKind.i64.wrap ((9:Int) + IntKind.i64.wrap ((12:Int) * (o:Int))) = 9 + 12 * (o:Int):=by rw [Qe (n:=12 * (o:Int)) (by omega),Qe (by omega)]
   rw [e1,e3]
   exact ZwZ k hk h1 h2 hd (show (0:Int) ≤ 9 + 12 * (o:Int) ∧ 9 + 12 * (o:Int) ≤ 1000 by omega) (31 + (o:Int)) (ZcD s o) 4 0 kk 0 [] [] 0 hb _
  ·rw [Zo (by simp only [QS]; omega),if_neg hlt]
   rfl
 obtain ⟨j,rfl⟩:∃ j,k = j + 4:=⟨k - 4,by omega⟩
 have nn1:=ZdZ hb (Zzo (o:=2) (d:=d) h1 h2)
 have nn2:=ZdZ nn1 (Zzo (o:=4) (d:=d) h1 h2)
 have nn3:=ZdZ nn2 (Zzo (o:=8) (d:=d) h1 h2)
 refine (one (j + 3) 0 2 b (by omega) hb).trans ((one (j + 2) 1 4 _ (by omega) nn1).trans ((one (j + 1) 2 8 _ (by omega) nn2).trans ?_))
 generalize Wj (Wj (Wj b (Zfn s d 2)) (Zfn s d 4)) (Zfn s d 8) = b3 at nn3
 simp only
 rw [Ze]
 simp only [ZdG]
 rw [Zo (by omega)]
 have hmul:s.length * d ≤ 512 * 25:=Nat.mul_le_mul h2 hd
 have e1:IntKind.i64.wrap (Int.ofNat s.length * (d:Int)) = (s.length:Int) * (d:Int):=by
  have:Int.ofNat s.length * (d:Int) = ((s.length * d:Nat):Int):=by rfl
  rw [this,Qe (by omega)]; push_cast; rfl
 rw [e1]
 have:=ZAu (j + 4) kk d s (1,[],0,[],(s.length:Int) * (d:Int)) b3 nn3
 exact Zm this _
theorem ZO7 (k:Nat) (hk:40000 < k) {s:List Int} (h1:1 ≤ s.length) (h2:s.length ≤ 512) {d:Nat} (hd1:1 ≤ d) (hd:d ≤ 25) (hs:∀ x ∈ s,XG x d = true) :
  Zv8 k (s,(d:Int),()) = (fun b => some (((QE (ZL s:Nat) ((d - ZL s:Nat):Int) (Wc s) b).1,(QE (ZL s:Nat) ((d - ZL s:Nat):Int) (Wc s) b).2.1,(QE (ZL s:Nat) ((d - ZL s:Nat):Int) (Wc s) b).2.2.1,(QE (ZL s:Nat) ((d - ZL s:Nat):Int) (Wc s) b).2.2.2.1,((QE (ZL s:Nat) ((d - ZL s:Nat):Int) (Wc s) b).2.2.2.2.1,(QE (ZL s:Nat) ((d - ZL s:Nat):Int) (Wc s) b).2.2.2.2.2.1,()),(QE (ZL s:Nat) ((d - ZL s:Nat):Int) (Wc s) b).2.2.2.2.2.2.1,(QE (ZL s:Nat) ((d - ZL s:Nat):Int) (Wc s) b).2.2.2.2.2.2.2.1,()),()))
   (Zo7 (Wc s) (d - ZL s)):=by
 show ZlU k (ZyZ k) _ = _
 simp only [ZlU]
 rw [ZIy k s (by omega) (by omega)]
 simp only [Z3]
 have hw:=Zd4 hd1 hs
 have hsg:=ZjJ hd1 hs
 have hsl:=Zbd s
 have e1:IntKind.i64.wrap ((d:Int) - ((ZL s:Nat):Int)) = ((d - ZL s:Nat):Int):=by rw [Qe (by omega)]; omega
 rw [e1]
 generalize hkk:ZL s = kk at hw hsg
 generalize hdd:d - kk = dd at hsg
 have:=Zy (A:=List Int) (R:=SPl × Unit) (step:=fun L1 => Zau k (ZnE k) L1)
  (fun i a => (Int.ofNat s.length,Int.ofNat i,s,(kk:Int),(0:Int),(kk:Int),(dd:Int),(0:Int),(0:Int),a,(0:Int),(0:Int),(0:Int),(0:Int),(0:Int))) s
  (fun s' a => Zau k (ZnE k) (fun _ => none) (Int.ofNat s.length,Int.ofNat s.length,s,(kk:Int),(0:Int),(kk:Int),(dd:Int),(0:Int),(0:Int),a ++ s'.map (fun x => x.fdiv (2 ^ kk)),(0:Int),(0:Int),(0:Int),(0:Int),(0:Int)))
  (fun i a => a.length = i)
  (fun L a _ => by
   grind [Zau])
  (fun L i hi a ha hL => by
   have key:Zau k (ZnE k) L (Int.ofNat s.length,Int.ofNat i,s,(kk:Int),(0:Int),(kk:Int),(dd:Int),(0:Int),(0:Int),a,(0:Int),(0:Int),(0:Int),(0:Int),(0:Int)) =
     L (Int.ofNat s.length,Int.ofNat (i + 1),s,(kk:Int),(0:Int),(kk:Int),(dd:Int),(0:Int),(0:Int),a ++ [s[i].fdiv (2 ^ kk)],(0:Int),(0:Int),(0:Int),(0:Int),(0:Int)):=by
    simp only [Zau]
    rw [Zc (ltR hi),Zc (YI hi),Zc (by omega),Zc (by grind),ZM hi,Xw,Nat.min_eq_left (by omega),Qr hi (by omega)]
   grind)
  k 0 [] rfl (by omega) (Nat.zero_le _)
 rw [List.drop_zero,List.nil_append] at this
 refine Eq.trans this ?_
 have hsh:s.map (fun x => x.fdiv (2 ^ kk)) = Wc s:=by unfold Wc; rw [hkk]
 rw [hsh]
 generalize Wc s = t at hsg hsl
 simp only [Zau]
 rw [Zo (Yb _),ZAq k (by omega) (by omega) (by omega)]
 simp only [Z3,Bool.not_not]
 have nar:∀ x ∈ t,ZO x:=fun x hx => ZFR (by omega) (hsg x hx)
 have hfirst:ZcL k (((0:Int),(kk:Int),(dd:Int),t,([],0,()),[],(dd:Int),()),t.all (fun x => decide (x = t.headD 0)),(0,0,0,[],[],0,[],(-1:Int),()),()) = some ((),QE kk dd t (Wj none (Zgw t dd)),()):=by
  unfold Zgw
  cases t.all (fun x => decide (x = t.headD 0)) with
  | false => rfl
  | true => rfl
 rw [hfirst]
 simp only [Z3]
 have e4:IntKind.i64.wrap ((if Int.ofNat t.length < (4:Int) then Int.ofNat t.length else (4:Int)) + (1:Int)) = ((0 + (min 4 t.length + 1):Nat):Int):=by
  have:(if Int.ofNat t.length < (4:Int) then Int.ofNat t.length else (4:Int)) = ((min 4 t.length:Nat):Int):=by
   grind
  rw [this,Qe (by omega)]
  omega
 rw [e4]
 have nn0:nnC (Wj none (Zgw t dd)):=ZdZ ZHE (ZKi t dd)
 refine (ZTp k hk (by omega) (by omega) (show dd ≤ 25 by omega) kk (min 4 t.length + 1) 0 k _ (by omega) (by omega) nn0).trans ?_
 exact ZTq k hk (by omega) (by omega) nar (by omega) kk _ (ZHs (by omega) (by omega) _ _ _ nn0)
end Go.Sh
namespace Go.Sh
open Go Go.Proofs
theorem W7 (w:Nat):∀ c:List Int,(c.flatMap fun n => WN n w).length = w * c.length
 | [] => rfl
 | a :: c => by rw [List.flatMap_cons,Q4,Zbc,W7 w c,List.length_cons,Nat.mul_add,Nat.mul_one]; omega
theorem Zma (kk:Nat):∀ c:List Int,(c.flatMap (K8 kk)).length = ZgT c kk
 | [] => rfl
 | a :: c => by
  rw [List.flatMap_cons,Q4,ZgK,Zma kk c]
  unfold ZgT
  simp only [List.length_cons,List.map_cons,ZjL,Nat.mul_add,Nat.mul_one]
  omega
theorem Zzw {c:List Int} {m:Int} (hm:m = 0 ∨ m = 1) {y:Prt} (hy:ZaG c m y):((XT m (c,y)).length:Int) = 4 + m + y.2.2.1:=by
 have hmn:((m.toNat:Nat):Int) = m:=by rcases hm with rfl | rfl <;> rfl
 unfold XT Ko
 rcases hy with ⟨kk,hkk,hfar,rfl⟩ | ⟨hw,rfl⟩
 ·grind [Q4,Zi,List.length_nil,Xw,Zma]
 ·simp only
  rw [if_pos trivial,if_pos trivial]
  simp only [Q4,Zi,Xw,W7]
  omega
theorem ZwE {m:Int} (hm:m = 0 ∨ m = 1):∀ (cs:List (List Int)) (ps:List Prt) (sz:Int),(QO m cs ps sz).2.2 = true →
  ((((cs.zip (cs.map fun c => (Wh c m).1)).flatMap (XT m)).length:Nat):Int) = (QO m cs ps sz).2.1 - sz
 | [],ps,sz,_ => by simp [QO]
 | c :: cs,ps,sz,h => by
  cases hb:(Wh c m).2 with
  | false => rw [ZnZ _ _ _ hb] at h; cases h
  | true =>
   rw [ZjA _ _ _ hb] at h ⊢
   have h1:=Zzw hm (Zfv hb)
   have h2:=ZwE hm cs _ _ h
   simp_all <;> omega
theorem RGood.map {l:List Int} {o p:Nat} {R:Ym} (h:RGood l o R p):R.2.2.2 = (YK l o p).map fun c => (Wh c R.1).1:=by
 obtain ⟨ys,h1,h2,h3⟩:=ZgL (m:=R.1) (YK l o p) [] 6 (by rw [h.parts])
 rw [h.parts] at h1
 simp_all
theorem RGood.len {l:List Int} {o p:Nat} {R:Ym} (h:RGood l o R p):((ZgM l o R).length:Int) = R.2.2.1:=by
 have h1:=ZwE h.hm (YK l o p) [] 6 (by rw [h.parts])
 rw [h.parts,← h.map] at h1
 unfold ZgM
 rw [h.hp,Xw]
 grind [Q4,Zi]
theorem ZzD {l:List Int} {o:Nat} (hl:∀ x ∈ l,ZO x) (hn:l.length + o ≤ 512):((Xv l o).length:Int) = (W1 l o).2.2.1:=by
 obtain ⟨_,q,hg⟩:=ZaR hl hn (by omega)
 exact hg.len
def Zfp (s:List Int) (d:Nat) (x:XD):Prop :=
 (x = (0,[],0,[],(d:Int)) ∧ s.all (fun x => decide (x = s.headD 0)) = true) ∨ x = (1,[],0,[],(s.length:Int) * (d:Int)) ∨
 (∃ o,o ≤ 4 ∧ o ≤ s.length ∧ ZTz s d o = some x) ∨ (∃ o,(o = 2 ∨ o = 4 ∨ o = 8) ∧ o < s.length ∧ Ztp s d (31 + (o:Int)) (ZcD s o) 4 (9 + 12 * (o:Int)) = some x)
def ZuG (s:List Int) (d:Nat) (b:Option XD):Prop := ∀ x,b = some x → Zfp s d x
theorem ZCO {b x:Option XD} {y:XD} (h:Wj b x = some y):b = some y ∨ x = some y:=by
 unfold Wj at h
 grind
theorem Zd0 {s:List Int} {d:Nat} {b x:Option XD} (hb:ZuG s d b) (hx:ZuG s d x):ZuG s d (Wj b x):=fun y hy => by
 rcases ZCO hy with h | h
 ·exact hb y h
 ·exact hx y h
theorem ZQk {b x:Option XD}:(∀ y,b = some y → ∃ z,Wj b x = some z ∧ z.2.2.2.2 ≤ y.2.2.2.2) ∧ (∀ y,x = some y → ∃ z,Wj b x = some z ∧ z.2.2.2.2 ≤ y.2.2.2.2):=by
 unfold Wj
 grind
theorem ZHt {s:List Int} {d:Nat}:∀ (e o:Nat) (b:Option XD),o + e ≤ min 4 s.length + 1 → ZuG s d b → ZuG s d (ZKj s d e o b)
 | 0,_,b,_,h => h
 | e + 1,o,b,he,h => ZHt e (o + 1) _ (by omega) (Zd0 h fun x hx => .inr (.inr (.inl ⟨o,by omega,by omega,hx⟩)))
theorem Zzp {s:List Int} {d o:Nat} (ho:o = 2 ∨ o = 4 ∨ o = 8):ZuG s d (Zfn s d o):=by
 intro x hx
 unfold Zfn at hx
 split at hx
 ·exact .inr (.inr (.inr ⟨o,ho,by omega,hx⟩))
 ·cases hx
theorem ZDB (s:List Int) (d:Nat):∃ x,Zo7 s d = some x ∧ Zfp s d x ∧ x.2.2.2.2 ≤ (s.length:Int) * (d:Int):=by
 obtain ⟨z,h1,h2⟩:=(ZQk (b:=Wj (Wj (Wj (ZKj s d (min 4 s.length + 1) 0 (Wj none (Zgw s d))) (Zfn s d 2)) (Zfn s d 4)) (Zfn s d 8)) (x:=ZQw s d)).2 _ rfl
 refine ⟨z,h1,?_,h2⟩
 refine Zd0 (Zd0 (Zd0 (Zd0 (ZHt _ _ _ (by omega) (Zd0 (fun x hx => by cases hx) ?_)) (Zzp (.inl rfl))) (Zzp (.inr (.inl rfl)))) (Zzp (.inr (.inr rfl)))) ?_ z h1
 ·intro x hx
  unfold Zgw at hx
  split at hx
  ·rename_i h
   exact .inl ⟨(Option.some.inj hx).symm,h⟩
  ·cases hx
 ·intro x hx
  exact .inr (.inl (Option.some.inj hx).symm)
def Yn (s:List Int) (d:Nat) (x:XD):List Bool :=
 if x.1 = 0 then (s.take 1).flatMap (fun n => WN n d) else if x.1 = 1 then s.flatMap (fun n => WN n d)
 else (s.take x.2.1.length).flatMap (fun n => WN n d) ++ ((if 31 < x.1 then Zb 11 4 ++ (Zb x.2.2.1.toNat 5 ++ x.2.1.flatMap (fun n => WN n 12)) else []) ++ Xv x.2.2.2.1 x.2.1.length)
def Yv (kind:Int) (kk:Nat):List Bool:=Zb kind.toNat 7 ++ (if 0 < kk then [true] ++ (List.replicate (kk - 1) false ++ [true]) else [false])
def Wx (s:List Int) (d:Nat):List Bool:=match Zo7 (Wc s) (d - ZL s) with
 | none => []
 | some x => Yv x.1 (ZL s) ++ Yn (Wc s) (d - ZL s) x
theorem Zzi (kind:Int) (kk:Nat):(Yv kind kk).length = 8 + kk:=by
 unfold Yv
 rw [Q4,Zi]
 split
 ·simp; omega
 ·simp; omega
theorem Y5 {s:List Int} {d:Nat} {kind:Int} {c:List Int} {sh head:Int} {x:XD} (h1:1 ≤ s.length) (h2:s.length ≤ 512) (h:Ztp s d kind c sh head = some x) :
  x.1 = kind ∧ x.2.1 = c ∧ x.2.2.1 = sh ∧ x.2.2.2.1 = Yl c sh s ∧ x.2.2.2.2 = head + (c.length:Int) * (d:Int) + ((Xv (Yl c sh s) c.length).length:Int) ∧ YJ (Yl c sh s) (c.length:Nat) = 0 ∧ c.length ≤ s.length ∧ c.length ≤ 8 ∧ ZbQ c sh = true ∧
   (Q0 c sh s).2 = 0:=by
 unfold Ztp at h
 split at h
 ·rename_i hz
  obtain rfl:=(Option.some.inj h).symm
  obtain ⟨hl,h8,hr⟩:=K9 hz h1 h2
  obtain ⟨e1,e2,e3⟩:=ZgS hz
  have:=ZzD (YC c sh s) (o:=c.length) (by omega)
  simp_all
 ·cases h
theorem YD (s:List Int) (d j:Nat) (h:j ≤ s.length):((s.take j).flatMap (fun n => WN n d)).length = d * j:=by
 rw [W7,List.length_take,Nat.min_eq_left h]
theorem Zs2 (o:Nat) (h:o ≤ 4):(XQ o).length = o:=by
 obtain rfl | rfl | rfl | rfl | rfl:o = 0 ∨ o = 1 ∨ o = 2 ∨ o = 3 ∨ o = 4:=by omega
 all_goals rfl
theorem Zxg {s:List Int} {d:Nat} {x:XD} (h1:1 ≤ s.length) (h2:s.length ≤ 512) (h:Zfp s d x):((Yn s d x).length:Int) = x.2.2.2.2:=by
 unfold Yn
 rcases h with ⟨rfl,_⟩ | rfl | ⟨o,ho,hos,hx⟩ | ⟨o,ho,hos,hx⟩
 ·simp only
  rw [if_pos trivial,YD _ _ _ h1]
  omega
 ·simp only
  rw [if_neg (by omega),if_pos trivial,W7]
  push_cast
  rw [Int.mul_comm]
 ·obtain ⟨e1,e2,e3,e4,e5,e6,e7,e8,e9,_⟩:=Y5 h1 h2 hx
  rw [e1,e2,e3,e4,e5,if_neg (by omega),if_neg (by omega),if_neg (by omega)]
  simp only [Q4,List.length_nil,YD _ _ _ e7]
  grind
 ·obtain ⟨e1,e2,e3,e4,e5,e6,e7,e8,e9,_⟩:=Y5 h1 h2 hx
  have hsl:=(ZjI s o ho).1
  rw [e1,e2,e3,e4,e5,if_neg (by omega),if_neg (by omega),if_pos (by omega)]
  simp only [Q4,YD _ _ _ e7,Zi,W7]
  grind
theorem Ze6 (s:List Int) (d:Nat) (h1:1 ≤ s.length) (h2:s.length ≤ 512):∃ x,Zo7 (Wc s) (d - ZL s) = some x ∧ Zfp (Wc s) (d - ZL s) x ∧ Wx s d = Yv x.1 (ZL s) ++ Yn (Wc s) (d - ZL s) x ∧
  ((Wx s d).length:Int) = 8 + (ZL s:Int) + x.2.2.2.2 ∧ x.2.2.2.2 ≤ (s.length:Int) * ((d - ZL s:Nat):Int):=by
 obtain ⟨x,h3,h4,h5⟩:=ZDB (Wc s) (d - ZL s)
 have hb:=Zxg (by rw [Zbd]; exact h1) (by rw [Zbd]; exact h2) h4
 rw [Zbd] at h5
 have e:Wx s d = Yv x.1 (ZL s) ++ Yn (Wc s) (d - ZL s) x:=by unfold Wx; rw [h3]
 refine ⟨x,h3,h4,e,?_,h5⟩
 rw [e,Q4,Zzi]
 omega
theorem ZCG {s:List Int} {d:Nat} (h1:1 ≤ s.length) (h2:s.length ≤ 512) (hw:ZL s < d):(Wx s d).length ≤ 8 + s.length * d:=by
 obtain ⟨x,_,_,_,h4,h5⟩:=Ze6 s d h1 h2
 have e:(s.length:Int) * ((d - ZL s:Nat):Int) = ((s.length * d - s.length * ZL s:Nat):Int):=by
  rw [← Nat.mul_sub]; push_cast; rfl
 have h6:ZL s ≤ s.length * ZL s:=Nat.le_mul_of_pos_left _ h1
 grind
end Go.Sh
namespace Go.Sh
open Go Go.Proofs
theorem Zgo (k:Nat) {l:List Int} {w:Nat} (hk:10000 < k) (hl:l.length ≤ 8192) (hw:w ≤ 32) (hs:∀ x ∈ l,XG x w = true) (bs:List Bool) (hb:bs.length ≤ 2147483648) :
  ZaM k (K0 bs,l,(w:Int),()) = some ((),K0 (bs ++ l.flatMap (fun n => WN n w)),()):=by
 show ZlW k (Zy3 k) _ = _
 simp only [ZlW]
 have:=Zy (A:=List Bool) (R:=Unit × (List Int × Int × Unit) × Unit) (step:=fun L1 => Zgn k L1)
  (fun i a => (Int.ofNat l.length,Int.ofNat i,l,(w:Int),(a.length:Int),ZJ a)) l
  (fun l' a => some ((),K0 (a ++ l'.flatMap (fun n => WN n w)),()))
  (fun i a => a.length ≤ 2147483648 + i * 32)
  (fun L a _ => by
   grind [Zgn])
  (fun L i hi a ha hL => by
   simp only [Zgn]
   rw [Zc (ltR hi),Zc (YI hi),ZM hi]
   rw [show ((ZJ a,((a.length:Nat):Int),()):List Int × Int × Unit) = K0 a from rfl,Zu1 k a _ w (by omega) hw (hs _ (List.getElem_mem hi)) (by omega)]
   simp only [Z3]
   rw [Qr hi (by omega),hL (a ++ WN l[i] w) (by rw [Q4,Zbc]; omega),List.flatMap_cons,List.append_assoc])
  k 0 bs (by omega) (by omega) (Nat.zero_le _)
 rw [List.drop_zero] at this
 exact this
noncomputable def ZlC (k:Nat) (p:SPl) (w:List Int × Int × Unit):Option (Int × (List Int × Int × Unit) × Unit) :=
 bif p.1 == (0:Int) then bif decide ((0:Int) ≤ (0:Int) ∧ (0:Int) ≤ (1:Int) ∧ (1:Int) ≤ Int.ofNat (List.length p.2.2.2.1)) then (ZaM k (w,List.drop (0:Nat) (List.take (1:Nat) p.2.2.2.1),p.2.2.1,())).bind fun y => some (0,(y.2.1.1,y.2.1.2.1,()),()) else none
 else bif p.1 == (1:Int) then (ZaM k (w,p.2.2.2.1,p.2.2.1,())).bind fun y => some (0,(y.2.1.1,y.2.1.2.1,()),())
 else bif decide ((0:Int) ≤ (0:Int) ∧ (0:Int) ≤ Int.ofNat (List.length p.2.2.2.2.1.1) ∧ Int.ofNat (List.length p.2.2.2.2.1.1) ≤ Int.ofNat (List.length p.2.2.2.1)) then
  (ZaM k (w,List.drop (0:Nat) (List.take (Int.ofNat (List.length p.2.2.2.2.1.1)).toNat p.2.2.2.1),p.2.2.1,())).bind fun y_4 =>
   bif decide ((31:Int) < p.1) then (ZQ k ((y_4.2.1.1,y_4.2.1.2.1,()),11,4,())).bind fun y_5 => (ZQ k ((y_5.2.1.1,y_5.2.1.2.1,()),p.2.2.2.2.1.2.1,5,())).bind fun y_6 => (ZaM k ((y_6.2.1.1,y_6.2.1.2.1,()),p.2.2.2.2.1.1,12,())).bind fun y_7 => (ZiG k ((y_7.2.1.1,y_7.2.1.2.1,()),p.2.2.2.2.2.1,Int.ofNat (List.length p.2.2.2.2.1.1),())).bind fun y => some (y.1,(y.2.1.1,y.2.1.2.1,()),())
   else (ZiG k ((y_4.2.1.1,y_4.2.1.2.1,()),p.2.2.2.2.2.1,Int.ofNat (List.length p.2.2.2.2.1.1),())).bind fun y => some (y.1,(y.2.1.1,y.2.1.2.1,()),())
 else none
theorem ZKc (k:Nat) (w:List Int × Int × Unit) (s:List Int) (d:Int):Zv2 k (w,s,d,()) =
  (Zv7 k (s,d,())).bind fun y => bif y.1 != (0:Int) then some (y.1,w,()) else (Zv8 k (s,d,())).bind fun y => (ZQ k (w,y.1.1,7,())).bind fun y_1 =>
   bif decide ((0:Int) < y.1.2.1) then (ZQ k ((y_1.2.1.1,y_1.2.1.2.1,()),1,1,())).bind fun y_2 => (ZoC k ((y_2.2.1.1,y_2.2.1.2.1,()),IntKind.i64.wrap (y.1.2.1 - (1:Int)),())).bind fun y_3 => ZlC k y.1 (y_3.2.1.1,y_3.2.1.2.1,())
   else (ZQ k ((y_1.2.1.1,y_1.2.1.2.1,()),0,1,())).bind fun y_2 => ZlC k y.1 (y_2.2.1.1,y_2.2.1.2.1,()):=rfl
theorem ZiC (k:Nat) (hk:70000 < k) {s:List Int} (h1:1 ≤ s.length) (h2:s.length ≤ 512) {d:Nat} (hd1:1 ≤ d) (hd:d ≤ 25) (hs:∀ x ∈ s,XG x d = true) {x:XD} (hx:Zfp s d x) (kk:Int) (bs:List Bool) (hb:bs.length ≤ 1000000000) :
  ZlC k (ZXv kk d s x) (K0 bs) = some (0,K0 (bs ++ Yn s d x),()):=by
 unfold ZlC Yn
 rcases hx with ⟨rfl,_⟩ | rfl | ⟨o,ho,hos,hx⟩ | ⟨o,ho,hos,hx⟩
 ·simp only
  rw [ZU,Zc rfl,Zc (by simp only [QS]; omega),if_pos trivial,List.drop_zero]
  rw [Zgo k (by omega) (by rw [List.length_take]; omega) (by omega) (fun y hy => hs y (List.mem_of_mem_take hy)) bs (by omega)]
  rfl
 ·simp only
  rw [ZU,Zo (by omega),ZU,Zc rfl,if_neg (by omega),if_pos trivial]
  rw [Zgo k (by omega) (by omega) (by omega) hs bs (by omega)]
  rfl
 ·obtain ⟨e1,e2,e3,e4,e5,e6,e7,e8,e9,_⟩:=Y5 h1 h2 hx
  obtain ⟨kind,c,sh,r,sz⟩:=x
  simp only at e1 e2 e3 e4 e5
  subst e1; subst e2; subst e3; subst e4
  simp only
  rw [ZU,Zo (by omega),ZU,Zo (by omega),Zc (by simp only [QS]; omega),if_neg (by omega),if_neg (by omega),if_neg (by omega),List.drop_zero]
  rw [show (Int.ofNat (XQ o).length).toNat = (XQ o).length from rfl]
  rw [Zgo k (by omega) (by rw [List.length_take]; omega) (by omega) (fun y hy => hs y (List.mem_of_mem_take hy)) bs (by omega)]
  simp only [Z3]
  rw [Zo (by omega),show Int.ofNat (XQ o).length = ((XQ o).length:Nat) from rfl]
  have hlen:=YD s d (XQ o).length e7
  have hmul:d * (XQ o).length ≤ 25 * 8:=Nat.mul_le_mul hd e8
  refine (Zm (ZBL k (by omega) e6 (bs ++ (s.take (XQ o).length).flatMap (fun n => WN n d)) (by rw [Q4]; omega)) _).trans ?_
  simp_all
 ·obtain ⟨e1,e2,e3,e4,e5,e6,e7,e8,e9,_⟩:=Y5 h1 h2 hx
  obtain ⟨hsl,hsr⟩:=ZjI s o ho
  obtain ⟨kind,c,sh,r,sz⟩:=x
  simp only at e1 e2 e3 e4 e5
  subst e1; subst e2; subst e3; subst e4
  simp only
  rw [ZU,Zo (by omega),ZU,Zo (by omega),Zc (by simp only [QS]; omega),if_neg (by omega),if_neg (by omega),if_pos (by omega),List.drop_zero]
  generalize ZcD s o = c at hsl hsr e6 e7 e8 e9
  rw [show (Int.ofNat c.length).toNat = c.length from rfl]
  rw [Zgo k (by omega) (by rw [List.length_take]; omega) (by omega) (fun y hy => hs y (List.mem_of_mem_take hy)) bs (by omega)]
  simp only [Z3]
  rw [Zc (by omega),show Int.ofNat c.length = (c.length:Nat) from rfl]
  have hlen:=YD s d c.length e7
  have hmul:d * c.length ≤ 25 * 8:=Nat.mul_le_mul hd e8
  generalize hW:(s.take c.length).flatMap (fun n => WN n d) = W at hlen
  have l1:(bs ++ W).length = bs.length + d * c.length:=by rw [Q4,hlen]
  refine (Zm (QV k (bs ++ W) 11 4 (by omega) (by omega) (by omega) (by omega)) _).trans ?_
  have l2:(bs ++ W ++ Zb 11 4).length = bs.length + d * c.length + 4:=by rw [Q4,l1,Zi]
  refine (Zm (QV k (bs ++ W ++ Zb 11 4) 4 5 (by omega) (by omega) (by omega) (by omega)) _).trans ?_
  have l3:(bs ++ W ++ Zb 11 4 ++ Zb 4 5).length = bs.length + d * c.length + 9:=by rw [Q4,l2,Zi]
  refine (Zm (Zgo k (l:=c) (w:=12) (by omega) (by omega) (by omega) (fun y hy => by
   have:=hsr y hy
   unfold XG
   grind) (bs ++ W ++ Zb 11 4 ++ Zb 4 5) (by omega)) _).trans ?_
  have l4:(bs ++ W ++ Zb 11 4 ++ Zb 4 5 ++ c.flatMap (fun n => WN n 12)).length = bs.length + d * c.length + 9 + 12 * c.length:=by rw [Q4,l3,W7]
  refine (Zm (ZBL k (by omega) e6 (bs ++ W ++ Zb 11 4 ++ Zb 4 5 ++ c.flatMap (fun n => WN n 12)) (by omega)) _).trans ?_
  simp_all
theorem Zfp.kind {s:List Int} {d:Nat} {x:XD} (h1:1 ≤ s.length) (h2:s.length ≤ 512) (h:Zfp s d x):∃ n:Nat,x.1 = (n:Int) ∧ n < 2 ^ 7:=by
 rcases h with ⟨rfl,_⟩ | rfl | ⟨o,ho,hos,hx⟩ | ⟨o,ho,hos,hx⟩
 ·exact ⟨0,rfl,by omega⟩
 ·exact ⟨1,rfl,by omega⟩
 ·exact ⟨8 + o,by rw [(Y5 h1 h2 hx).1]; omega,by omega⟩
 ·exact ⟨31 + o,by rw [(Y5 h1 h2 hx).1]; omega,by omega⟩
theorem ZoQ {s:List Int} {d:Nat}:Zip s (d:Int) = 0 ↔ (1 ≤ s.length ∧ s.length ≤ 512 ∧ 4 ≤ d ∧ d ≤ 25) ∧ ∀ x ∈ s,XG x d = true:=by
 unfold Zip
 grind
theorem ZOC (k:Nat) (hk:70000 < k) {s:List Int} {d:Nat} (h:Zip s (d:Int) = 0) (bs:List Bool) (hb:bs.length ≤ 900000000) :
  Zv2 k (K0 bs,s,(d:Int),()) = some (0,K0 (bs ++ Wx s d),()):=by
 obtain ⟨⟨h1,h2,h3,h4⟩,hs⟩:=ZoQ.1 h
 rw [ZKc,ZO3 k s d (by omega),h]
 simp only [Z3]
 rw [show ((0:Int) != 0) = false from rfl]
 simp only [cond_false]
 rw [ZO7 k (by omega) h1 h2 (by omega) h4 hs]
 obtain ⟨x,hx,hok,hsub,hlen,_⟩:=Ze6 s d h1 h2
 rw [hx,hsub]
 have hw:=Zd4 (by omega) hs
 have hsg:=ZjJ (by omega) hs
 have hsl:=Zbd s
 generalize ZL s = kk at hw hsg hok ⊢
 generalize Wc s = t at hsg hsl hok ⊢
 generalize hdd:d - kk = dd at hsg hok ⊢
 obtain ⟨kn,hk1,hk2⟩:=hok.kind (by omega) (by omega)
 show (ZQ k (K0 bs,x.1,7,())).bind _ = _
 unfold Yv
 rw [hk1,Xw]
 refine (Zm (QV k bs kn 7 (by omega) (by omega) hk2 (by omega)) _).trans ?_
 have l1:(bs ++ Zb kn 7).length = bs.length + 7:=by rw [Q4,Zi]
 show (bif decide ((0:Int) < (kk:Int)) then _ else _) = _
 by_cases h0:0 < kk
 ·rw [Zc (by omega),if_pos h0]
  refine (Zm (QV k (bs ++ Zb kn 7) 1 1 (by omega) (by omega) (by omega) (by omega)) _).trans ?_
  have l2:(bs ++ Zb kn 7 ++ Zb 1 1).length = bs.length + 8:=by rw [Q4,l1,Zi]
  show (ZoC k (K0 (bs ++ Zb kn 7 ++ Zb 1 1),IntKind.i64.wrap ((kk:Int) - 1),())).bind _ = _
  have e1:IntKind.i64.wrap ((kk:Int) - 1) = ((kk - 1:Nat):Int):=by rw [Qe (by omega)]; omega
  rw [e1]
  refine (Zm (ZBI k (bs ++ Zb kn 7 ++ Zb 1 1) (kk - 1) (by omega) (by omega) (by omega)) _).trans ?_
  have l3:(bs ++ Zb kn 7 ++ Zb 1 1 ++ (List.replicate (kk - 1) false ++ [true])).length = bs.length + 8 + kk:=by
   grind
  have:=ZiC k hk (by omega) (by omega) (d:=dd) (by omega) (by omega) hsg hok (kk:Int) (bs ++ Zb kn 7 ++ Zb 1 1 ++ (List.replicate (kk - 1) false ++ [true])) (by omega)
  refine Eq.trans this ?_
  rw [show Zb 1 1 = [true] from rfl]
  simp only [List.append_assoc]
 ·rw [Zo (by omega),if_neg h0]
  refine (Zm (QV k (bs ++ Zb kn 7) 0 1 (by omega) (by omega) (by omega) (by omega)) _).trans ?_
  have l2:(bs ++ Zb kn 7 ++ Zb 0 1).length = bs.length + 8:=by rw [Q4,l1,Zi]
  have:=ZiC k hk (by omega) (by omega) (d:=dd) (by omega) (by omega) hsg hok (kk:Int) (bs ++ Zb kn 7 ++ Zb 0 1) (by omega)
  refine Eq.trans this ?_
  rw [show Zb 0 1 = [false] from rfl]
  simp only [List.append_assoc]
end Go.Sh
namespace Go.Sh
open Go Go.Proofs
def Qp (n:Nat):Nat:=if 256 < n then 7 else 6
def Qn (mode num n:Nat):List Bool :=
 Zb 16382 14 ++ (Zb (Qp n) 6 ++ (Zb mode 8 ++ (Zb 0 4 ++ ((Z7 num).flatMap (fun x => Zb x 8) ++ Zb (n - 1) (8 * (Qp n - 5))))))
def Qa (mode num n:Nat):List Bool:=Qn mode num n ++ Zb (Zeb (ZJ (Qn mode num n))) 8
def Qd (ls:List (List Int)) (ds:List Int):List Bool:=(ls.zip ds).flatMap fun x => Wx x.1 x.2.toNat
def Yk (bs:List Bool):List Bool:=bs ++ List.replicate (Za2 bs.length) false
def Yh (bs:List Bool):List Bool:=Yk bs ++ Zb (Zca (ZJ (Yk bs))) 16
def Xq (c d r n:Int) (ch:List (List Int)):List Int × Int :=
 if XL c d r n ch = 0 then (ZJ (Yh (Qa (Kn ch).2.toNat n.toNat (ch.headD []).length ++ Qd (Kn ch).1 (Qm c d (Kn ch).2))),0) else ([],XL c d r n ch)
theorem KD {c d r n:Int} {ch:List (List Int)} (h:XL c d r n ch = 0):(1 ≤ c ∧ c ≤ 2 ∧ 4 ≤ d ∧ d ≤ 24 ∧ 1 ≤ r ∧ r ≤ 655350) ∧ (0 ≤ n ∧ n ≤ 2147483647) ∧ (ch.length:Int) = c ∧
  (∀ l ∈ ch,l.length = (ch.headD []).length ∧ 1 ≤ l.length ∧ l.length ≤ 512) ∧ (∀ l ∈ ch,∀ x ∈ l,XG x d.toNat = true):=by
 unfold XL at h
 split at h
 ·omega
 ·rename_i h1
  split at h
  ·omega
  ·rename_i h2
   split at h
   ·omega
   ·rename_i h3
    split at h
    ·omega
    ·rename_i h4
     refine ⟨of_decide_eq_true (by simpa [ZbY] using h1),by omega,by omega,?_,?_⟩
     ·intro l hl
      have h3:ch.all (ZnQ (ch.headD []).length) = true:=by simpa using h3
      have:=of_decide_eq_true (List.all_eq_true.1 h3 l hl)
      exact ⟨this.1,by omega,by omega⟩
     grind
theorem ZcF {x:Int} {d:Nat} (hd:d ≤ 24) (h:XG x d = true):Qt x:=by
 unfold XG at h
 unfold Qt
 split at h
 ·simp_all
 ·rw [decide_eq_true_eq,XU] at h
  have:2 ^ (d - 1) ≤ 2 ^ 23:=Nat.pow_le_pow_right (by omega) (by omega)
  omega
theorem Zmy {l r:Int} {d:Nat} (h1:1 ≤ d) (hl:XG l d = true) (hr:XG r d = true):XG (l - r) (d + 1) = true ∧ XG ((l + r) / 2) d = true:=by
 unfold XG at hl hr ⊢
 rw [if_neg (by omega),decide_eq_true_eq] at hl hr
 rw [if_neg (by omega),decide_eq_true_eq,if_neg (by omega),decide_eq_true_eq]
 have e:(2:Int) ^ (d + 1 - 1) = 2 * 2 ^ (d - 1):=by
  rw [show d + 1 - 1 = (d - 1) + 1 by omega,Int.pow_succ,Int.mul_comm]
 omega
structure LayOk (n d:Nat) (ls:List (List Int)) (ds:List Int):Prop where
 len:ls.length = ds.length
 two:ls.length = 1 ∨ ls.length = 2
 all:∀ (i:Nat) (h1:i < ls.length) (h2:i < ds.length),ls[i].length = n ∧ (ds[i] = (d:Int) ∨ ds[i] = (d:Int) + 1) ∧ ∀ x ∈ ls[i],XG x ds[i].toNat = true
theorem ZFv {c d r n:Int} {ch:List (List Int)} (h:XL c d r n ch = 0):LayOk (ch.headD []).length d.toNat (Kn ch).1 (Qm c d (Kn ch).2) ∧ (∃ m:Nat,(Kn ch).2 = (m:Int) ∧ (m = 0 ∧ c = 1 ∨ c = 2 ∧ (m = 1 ∨ m = 8 ∨ m = 9 ∨ m = 10))) ∧ ((Kn ch).1.headD []).length = (ch.headD []).length:=by
 obtain ⟨hs,hn,hc,hlen,hsg⟩:=KD h
 obtain ⟨dn,rfl⟩:=Int.eq_ofNat_of_zero_le (show 0 ≤ d by omega)
 simp only [Xw] at hsg ⊢
 match ch,hc,hlen,hsg with
 | [],hc,_,_ => simp at hc; omega
 | [l],hc,hlen,hsg =>
  have hc:c = 1:=by simp at hc; omega
  subst hc
  refine ⟨⟨rfl,.inl rfl,?_⟩,⟨0,rfl,.inl ⟨rfl,rfl⟩⟩,rfl⟩
  intro i h1 h2
  obtain rfl:i = 0:=by simp [Kn] at h1; omega
  exact ⟨rfl,.inl rfl,hsg l (by simp)⟩
 | [l,r'],hc,hlen,hsg =>
  have hc:c = 2:=by simp at hc; omega
  subst hc
  have hr:=(hlen r' (by simp)).1
  simp only [List.headD_cons] at hr
  have hsl:=hsg l (by simp)
  have hsr:=hsg r' (by simp)
  have hmd:=Zi3 l r'
  show LayOk _ _ [Xe (Qg l r') l r',Xf (Qg l r') l r'] (Qm 2 dn (if Qg l r' = 0 then 1 else Qg l r')) ∧ _ ∧ _
  refine ⟨?_,?_,(Zg3 hr.symm).1⟩
  ·have e:Qm 2 (dn:Int) (if Qg l r' = 0 then 1 else Qg l r') = Qm 2 dn (Qg l r'):=by
    rcases hmd with h | h | h | h <;> rw [h] <;> rfl
   rw [e]
   obtain ⟨la,lb⟩:=Zg3 (m:=Qg l r') hr.symm
   have hz:∀ x ∈ l.zip r',XG x.1 dn = true ∧ XG x.2 dn = true:=fun x hx => ⟨hsl _ (List.of_mem_zip hx).1,hsr _ (List.of_mem_zip hx).2⟩
   generalize Qg l r' = m at hmd la lb ⊢
   have hA:∀ y ∈ Xe m l r',∃ a b,y = apA m a b ∧ XG a dn = true ∧ XG b dn = true:=by
    intro y hy
    obtain ⟨x,hx,rfl⟩:=List.mem_map.1 hy
    grind
   have hB:∀ y ∈ Xf m l r',∃ a b,y = apB m a b ∧ XG a dn = true ∧ XG b dn = true:=by
    intro y hy
    obtain ⟨x,hx,rfl⟩:=List.mem_map.1 hy
    grind
   have hdn:1 ≤ dn:=by omega
   have eN:((dn:Int) + 1).toNat = dn + 1:=by omega
   rcases hmd with rfl | rfl | rfl | rfl
   ·refine ⟨rfl,.inr rfl,fun i h1 h2 => ?_⟩
    obtain rfl | rfl:i = 0 ∨ i = 1:=by simp at h1; omega
    ·simp_all [apA,Qm]
    simp_all [hr,apB,Qm]
   ·refine ⟨rfl,.inr rfl,fun i h1 h2 => ?_⟩
    obtain rfl | rfl:i = 0 ∨ i = 1:=by simp at h1; omega
    ·simp_all [apA,Qm]
    ·exact ⟨by simpa [hr] using lb,.inr rfl,fun y hy => by obtain ⟨a,b,rfl,ha,hb⟩:=hB y hy; simpa [apB,Qm,eN] using (Zmy hdn ha hb).1⟩
   ·refine ⟨rfl,.inr rfl,fun i h1 h2 => ?_⟩
    obtain rfl | rfl:i = 0 ∨ i = 1:=by simp at h1; omega
    ·exact ⟨la,.inr rfl,fun y hy => by obtain ⟨a,b,rfl,ha,hb⟩:=hA y hy; simpa [apA,Qm,eN] using (Zmy hdn ha hb).1⟩
    simp_all [hr,apB,Qm]
   ·refine ⟨rfl,.inr rfl,fun i h1 h2 => ?_⟩
    obtain rfl | rfl:i = 0 ∨ i = 1:=by simp at h1; omega
    ·exact ⟨la,.inl rfl,fun y hy => by obtain ⟨a,b,rfl,ha,hb⟩:=hA y hy; simpa [apA,Qm] using (Zmy hdn ha hb).2⟩
    ·exact ⟨by simpa [hr] using lb,.inr rfl,fun y hy => by obtain ⟨a,b,rfl,ha,hb⟩:=hB y hy; simpa [apB,Qm,eN] using (Zmy hdn ha hb).1⟩
  ·rcases hmd with h | h | h | h
   ·exact ⟨1,by simp [Kn,h],.inr ⟨rfl,by omega⟩⟩
   ·exact ⟨8,by simp [Kn,h],.inr ⟨rfl,by omega⟩⟩
   ·exact ⟨9,by simp [Kn,h],.inr ⟨rfl,by omega⟩⟩
   ·exact ⟨10,by simp [Kn,h],.inr ⟨rfl,by omega⟩⟩
 | _ :: _ :: _ :: _,hc,_,_ => simp at hc; omega
theorem Za5:∀ (i n:Nat),(Xa n i).length = i
 | 0,_ => rfl
 | i + 1,n => by simp [Xa,Za5 i]
theorem ZAg:∀ (i n:Nat),∀ x ∈ Xa n i,x < 256
 | 0,_,x,h => by simp [Xa] at h
 | i + 1,n,x,h => by
  rcases List.mem_append.1 h with h | h
  ·exact ZAg i _ x h
  ·simp at h; omega
theorem Zqe (n:Nat):1 ≤ ZbO n ∧ ZbO n ≤ 7:=by
 unfold ZbO
 repeat' split
 all_goals omega
theorem ZKh {k m:Nat} (hm:m < 64):ZcQ k m < 256:=by
 unfold ZcQ
 exact Nat.or_lt_two_pow (n:=8) (Nat.mod_lt _ (by omega)) (by omega)
theorem ZuO (n:Nat):1 ≤ (Z7 n).length ∧ (Z7 n).length ≤ 7:=by
 unfold Z7
 have:=Zqe n
 grind [List.length_cons,Za5]
theorem ZnP {n:Nat} (h:n < 2 ^ 36) (h2:128 ≤ n):2 ≤ ZbO n ∧ n < 2 ^ Y9 (ZbO n):=by
 obtain ⟨r2,r3,r4,r5,r6,r7⟩:=ZtS
 unfold ZbO
 grind
theorem ZjY {n:Nat} (h:n < 2 ^ 36):∀ x ∈ Z7 n,x < 256:=by
 intro x hx
 unfold Z7 at hx
 split at hx
 ·simp at hx; omega
 ·rcases List.mem_cons.1 hx with rfl | hx
  ·obtain ⟨h1,h2⟩:=ZnP h (by omega)
   exact ZKh (ZeW h1 (Zqe n).2 h2)
  ·exact ZAg _ _ x hx
theorem KP:∀ l:List Nat,(l.flatMap fun x => Zb x 8).length = 8 * l.length
 | [] => rfl
 | a :: l => by rw [List.flatMap_cons,Q4,Zi,KP l,List.length_cons]; omega
theorem Zcz (mode num n:Nat):(Qn mode num n).length = 32 + 8 * (Z7 num).length + 8 * (Qp n - 5):=by
 unfold Qn
 simp only [Q4,Zi,KP]
 omega
theorem ZdK (n:Nat):Qp n = 6 ∨ Qp n = 7:=by unfold Qp; split <;> omega
theorem ZKy {l:List Nat} {i:Nat} (h:i < (QC l).length):(QC l)[i] = ((l[i]'(by simpa [QC] using h):Nat):Int):=by simp [QC]
theorem ZdI (l:List Nat):(QC l).length = l.length:=by simp [QC]
end Go.Sh
namespace Go.Sh
open Go Go.Proofs
theorem ZqK {n d:Nat} {ls:List (List Int)} {ds:List Int} (h:LayOk n d ls ds) (hn:1 ≤ n) (hn2:n ≤ 512) (hd1:4 ≤ d) (hd2:d ≤ 24):(Qd ls ds).length ≤ 30000:=by
 have one:∀ (i:Nat) (h1:i < ls.length) (h2:i < ds.length),(Wx ls[i] ds[i].toNat).length ≤ 13000:=by
  intro i h1 h2
  obtain ⟨a,b,c⟩:=h.all i h1 h2
  have hw:=Zd4 (d:=ds[i].toNat) (by omega) c
  have:=ZCG (s:=ls[i]) (by omega) (by omega) hw
  have hm:ls[i].length * ds[i].toNat ≤ 512 * 25:=Nat.mul_le_mul (by omega) (by omega)
  omega
 unfold Qd
 have hl:=h.len
 rcases h.two with h2 | h2
 ·match ls,ds,h2,hl,one with
  | [a],[x],_,_,one =>
   have:=one 0 (by simp) (by simp)
   simp at this ⊢
   omega
 ·match ls,ds,h2,hl,one with
  | [a,b],[x,y],_,_,one =>
   have h1:=one 0 (by simp) (by simp)
   have h2:=one 1 (by simp) (by simp)
   simp at h1 h2 ⊢
   omega
theorem ZAZ (k:Nat) (hk:100000 < k) {n d:Nat} {ls:List (List Int)} {ds:List Int} (h:LayOk n d ls ds) (hn:1 ≤ n) (hn2:n ≤ 512) (hd1:4 ≤ d) (hd2:d ≤ 24) (bs:List Bool) (hb:bs.length ≤ 200) :
  Zji k (Int.ofNat ds.length,(0:Int),ds,ls,(bs.length:Int),ZJ bs) = some ((ZJ (Yh (bs ++ Qd ls ds)),0,()),()):=by
 have hdl:ds.length ≤ 2:=by have:=h.len; have:=h.two; omega
 have hall:(bs ++ Qd ls ds).length ≤ 30200:=by have:=ZqK h hn hn2 hd1 hd2; rw [Q4]; omega
 have hpart:∀ i,(bs ++ ((ls.zip ds).take i).flatMap (fun x => Wx x.1 x.2.toNat)).length ≤ 30200:=by
  intro i
  refine Nat.le_trans ?_ hall
  unfold Qd
  conv => rhs; rw [← List.take_append_drop i (ls.zip ds),List.flatMap_append]
  simp_all
 have hzl:(ls.zip ds).length = ds.length:=by rw [List.length_zip]; have:=h.len; omega
 have hend:∀ L,Zdf k L (Int.ofNat ds.length,Int.ofNat ds.length,ds,ls,(((bs ++ Qd ls ds).length:Nat):Int),ZJ (bs ++ Qd ls ds)) = some ((ZJ (Yh (bs ++ Qd ls ds)),0,()),()):=by
  intro L
  generalize bs ++ Qd ls ds = B at hall
  simp only [Zdf]
  rw [Zo (Yb _)]
  have hp:Za2 B.length < 8:=by unfold Za2; omega
  have hpl:(Yk B).length ≤ 30210:=by unfold Yk; grind
  refine (Zm (ZOD k B (by omega)) _).trans ?_
  refine (Zm (ZlA k (Yk B) (by omega)) _).trans ?_
  have hb16:=WW (Yk B)
  have hpk:(ZJ (Yk B)).length ≤ 4000:=by rw [Z5]; omega
  refine (Zm (ZBu k (ZJ (Yk B)) hb16 (by omega) (by omega)) _).trans ?_
  refine (Zm (QV k (Yk B) (Zca (ZJ (Yk B))) 16 (by omega) (by omega) (ZAi hb16) (by omega)) _).trans ?_
  have hcl:(Yh B).length ≤ 30300:=by unfold Yh; rw [Q4,Zi]; omega
  refine (Zm (ZlA k (Yh B) (by omega)) _).trans ?_
  rfl
 have:=Zy (A:=List Bool) (R:=(List Int × Int × Unit) × Unit) (step:=fun L2 => Zdf k L2)
  (fun i a => (Int.ofNat ds.length,Int.ofNat i,ds,ls,(a.length:Int),ZJ a)) (ls.zip ds)
  (fun l' a => some ((ZJ (Yh (a ++ l'.flatMap fun x => Wx x.1 x.2.toNat)),0,()),()))
  (fun i a => a = bs ++ ((ls.zip ds).take i).flatMap (fun x => Wx x.1 x.2.toNat))
  (fun L a ha => by
   rw [List.take_length] at ha
   have:=hend L
   unfold Qd at this
   simp_all)
  (fun L i hi a ha hL => by
   have h1:i < ls.length:=by have:=h.len; omega
   have h2:i < ds.length:=by omega
   obtain ⟨o1,o2,o3⟩:=h.all i h1 h2
   have hal:a.length ≤ 30200:=by rw [ha]; exact hpart i
   simp only [Zdf]
   rw [Zc (ltR h2),Zc (YI h2),Zc (YI h1),ZM h1,ZM h2]
   have hds:ds[i] = ((ds[i].toNat:Nat):Int):=by omega
   have hsc:Zip ls[i] ((ds[i].toNat:Nat):Int) = 0:=ZoQ.2 ⟨by omega,o3⟩
   have e:=ZOC k (by omega) hsc a (by omega)
   rw [← hds] at e
   refine (Zm e _).trans ?_
   have hzi:(ls.zip ds)[i] = (ls[i],ds[i]):=by rw [List.getElem_zip]
   have hnext:a ++ Wx ls[i] ds[i].toNat = bs ++ ((ls.zip ds).take (i + 1)).flatMap (fun x => Wx x.1 x.2.toNat):=by
    rw [ha,List.take_add_one,List.getElem?_eq_getElem hi,hzi,List.flatMap_append]
    simp
   have:=hL (a ++ Wx ls[i] ds[i].toNat) hnext
   show L (Int.ofNat ds.length,IntKind.i64.wrap (Int.ofNat i + 1),ds,ls,(((a ++ Wx ls[i] ds[i].toNat).length:Nat):Int),ZJ (a ++ Wx ls[i] ds[i].toNat)) = _
   rw [Qr h2 (by omega),this,hzi,List.flatMap_cons,List.append_assoc])
  k 0 bs (by simp) (by omega) (Nat.zero_le _)
 rw [List.drop_zero] at this
 exact this
theorem ZAY (k:Nat) (hk:100000 < k) {c d r:Int} {mode num n dn:Nat} (hnum:num < 2 ^ 31) (hd:d = (dn:Int)) {ls:List (List Int)} (hc:c = 1 ∧ mode = 0 ∨ c = 2) (hn:1 ≤ n) (hn2:n ≤ 512) (hd1:4 ≤ dn) (hd2:dn ≤ 24)
  (h:LayOk n dn ls (Qm c d (mode:Int))) (bs:List Bool) (hb:bs = Zb 16382 14 ++ (Zb (Qp n) 6 ++ (Zb mode 8 ++ Zb 0 4))) :
  Znn k (Int.ofNat (QC (Z7 num)).length,(0:Int),QC (Z7 num),(n:Int),((Qp n:Nat):Int),(mode:Int),ls,(bs.length:Int),ZJ bs,c,d,r) =
   some ((ZJ (Yh (Qa mode num n ++ Qd ls (Qm c d (mode:Int)))),0,()),()):=by
 have hbl:bs.length = 32:=by grind [Q4,Zi]
 have hcl:=ZuO num
 have hlt:=ZjY (n:=num) (by omega)
 have hkn:=ZdK n
 have:=Zy (A:=List Bool) (R:=(List Int × Int × Unit) × Unit) (step:=fun L1 => Zan k (Zji k) L1)
  (fun i a => (Int.ofNat (QC (Z7 num)).length,Int.ofNat i,QC (Z7 num),(n:Int),((Qp n:Nat):Int),(mode:Int),ls,(a.length:Int),ZJ a,c,d,r)) (Z7 num)
  (fun l' a => Zan k (Zji k) (fun _ => none) (Int.ofNat (Z7 num).length,Int.ofNat (Z7 num).length,QC (Z7 num),(n:Int),((Qp n:Nat):Int),(mode:Int),ls,(((a ++ l'.flatMap fun x => Zb x 8).length:Nat):Int),ZJ (a ++ l'.flatMap fun x => Zb x 8),c,d,r))
  (fun i a => a.length ≤ 32 + 8 * i)
  (fun L a ha => by
   rw [ZdI]
   grind [Zan])
  (fun L i hi a ha hL => by
   have hi2:i < (QC (Z7 num)).length:=by rw [ZdI]; exact hi
   have key:Zan k (Zji k) L (Int.ofNat (QC (Z7 num)).length,Int.ofNat i,QC (Z7 num),(n:Int),((Qp n:Nat):Int),(mode:Int),ls,(a.length:Int),ZJ a,c,d,r) =
     L (Int.ofNat (QC (Z7 num)).length,Int.ofNat (i + 1),QC (Z7 num),(n:Int),((Qp n:Nat):Int),(mode:Int),ls,(((a ++ Zb (Z7 num)[i] 8).length:Nat):Int),ZJ (a ++ Zb (Z7 num)[i] 8),c,d,r):=by
    simp only [Zan]
    rw [Zc (ltR hi2),Zc (YI hi2),ZM hi2,ZKy hi2]
    have hx:=hlt _ (List.getElem_mem hi)
    have hil:=ZdI (Z7 num)
    rw [Qe (by omega)]
    refine (Zm (QV k a (Z7 num)[i] 8 (by omega) (by omega) (by omega) (by omega)) _).trans ?_
    rw [Qr hi2 (by omega)]
   rw [key,hL _ (by rw [Q4,Zi]; omega),List.flatMap_cons,List.append_assoc])
  k 0 bs (by omega) (by omega) (Nat.zero_le _)
 rw [List.drop_zero] at this
 refine Eq.trans this ?_
 have hpre:bs ++ (Z7 num).flatMap (fun x => Zb x 8) ++ Zb (n - 1) (8 * (Qp n - 5)) = Qn mode num n:=by
  rw [hb]
  rfl
 have hprel:=Zcz mode num n
 have hB:(bs ++ (Z7 num).flatMap (fun x => Zb x 8)).length ≤ 100:=by rw [Q4,KP]; omega
 generalize bs ++ (Z7 num).flatMap (fun x => Zb x 8) = B at hpre hB
 simp only [Zan]
 rw [Zo (Yb _)]
 have e1:IntKind.i64.wrap ((n:Int) - 1) = ((n - 1:Nat):Int):=by rw [Qe (by omega)]; omega
 have e2:IntKind.i64.wrap ((8:Int) * IntKind.i64.wrap (IntKind.i64.wrap (((Qp n:Nat):Int) - (6:Int)) + (1:Int))) = ((8 * (Qp n - 5):Nat):Int):=by
  rcases hkn with h | h <;> rw [h] <;> rfl
 have hw:n - 1 < 2 ^ (8 * (Qp n - 5)):=by
  unfold Qp
  grind
 rw [e1,e2]
 refine (Zm (QV k B (n - 1) (8 * (Qp n - 5)) (by omega) (by omega) hw (by omega)) _).trans ?_
 rw [hpre]
 refine (Zm (ZlA k (Qn mode num n) (by omega)) _).trans ?_
 have hb8:=WW (Qn mode num n)
 refine (Zm (ZBq k (ZJ (Qn mode num n)) hb8 (by rw [Z5]; omega) (by rw [Z5]; omega)) _).trans ?_
 refine (Zm (QV k (Qn mode num n) (Zeb (ZJ (Qn mode num n))) 8 (by omega) (by omega) (Zxm hb8) (by omega)) _).trans ?_
 refine (Zm (ZBr k (c:=c) (d:=d) (r:=r) (m:=(mode:Int)) (by omega) (by omega)) _).trans ?_
 exact ZAZ k hk h hn hn2 hd1 hd2 (Qa mode num n) (by unfold Qa; rw [Q4,Zi]; omega)
theorem ZMJ (k:Nat) (hk:100000 < k) (c d r n:Int) (ch:List (List Int)):Zvf k ((c,d,r,()),(n,ch,()),()) = some (((Xq c d r n ch).1,(Xq c d r n ch).2,()),()):=by
 show Zkn k (Znn k) _ = _
 simp only [Zkn]
 rw [ZBk k c d r n ch (by omega)]
 simp only [Z3]
 unfold Xq
 rw [ZK]
 by_cases h:XL c d r n ch = 0
 ·rw [Zo (by simpa using h),if_pos h]
  obtain ⟨hs,hn,hc,hlen,hsg⟩:=KD h
  obtain ⟨hlay,⟨mode,hm,hmc⟩,hn0⟩:=ZFv h
  have hch:ch.length = 1 ∨ (∃ L R,ch = [L,R] ∧ L.length = R.length ∧ L.length ≤ 8192 ∧ (∀ x ∈ L,Qt x) ∧ ∀ x ∈ R,Qt x):=by
   match ch,hc,hlen,hsg with
   | [],hc,_,_ => simp at hc; omega
   | [_],_,_,_ => exact .inl rfl
   | [l,r'],_,hlen,hsg =>
    refine .inr ⟨l,r',rfl,?_,?_,?_,?_⟩
    ·simp_all
    ·have:=(hlen l (by simp)).2.2; omega
    ·exact fun x hx => ZcF (by omega) (hsg l (by simp) x hx)
    ·exact fun x hx => ZcF (by omega) (hsg r' (by simp) x hx)
   | _ :: _ :: _ :: _,hc,_,_ => simp at hc; omega
  refine (Zm (ZOw k n ch (by omega) hch) _).trans ?_
  rw [show ((0:Int) != 0) = false from rfl]
  simp only [cond_false]
  have hbig:∃ l0,(Kn ch).1.getD 0 [] = l0 ∧ l0.length = (ch.headD []).length ∧ 0 < (Kn ch).1.length:=by
   have:=hlay.two
   match hh:(Kn ch).1,this with
   | [],h => simp at h
   | l :: ls,_ => simp_all
  obtain ⟨l0,hl0,hl0n,hpos⟩:=hbig
  rw [Zc (by simp only [QS]; omega),hl0,hl0n]
  have hn1:1 ≤ (ch.headD []).length ∧ (ch.headD []).length ≤ 512:=by
   obtain ⟨a,b,c⟩:=hlay.all 0 hpos (by rw [← hlay.len]; exact hpos)
   have:0 < ch.length:=by omega
   match ch,this with
   | l :: _,_ => exact (hlen l (by simp)).2
  rw [hm] at hlay ⊢
  obtain ⟨num,hnum⟩:=Int.eq_ofNat_of_zero_le hn.1
  obtain ⟨dn,hdn⟩:=Int.eq_ofNat_of_zero_le (show 0 ≤ d by omega)
  subst hnum
  rw [Xw,Xw]
  have hdt:d.toNat = dn:=by omega
  rw [hdt] at hlay
  have hmode:mode < 2 ^ 8:=by omega
  have e14:(16382:Int) = ((16382:Nat):Int):=rfl
  generalize hN:(ch.headD []).length = N at hn1 hlay
  have l1:(([]:List Bool) ++ Zb 16382 14).length = 14:=by rfl
  have fin:∀ kd:Nat,kd = Qp N → ((ZoA k ()).bind fun y_1 => (ZQ k ((y_1.1.1,y_1.1.2.1,()),16382,14,())).bind fun y_2 => (ZQ k ((y_2.2.1.1,y_2.2.1.2.1,()),(kd:Int),6,())).bind fun y_3 => (ZQ k ((y_3.2.1.1,y_3.2.1.2.1,()),(mode:Int),8,())).bind fun y_4 => (ZQ k ((y_4.2.1.1,y_4.2.1.2.1,()),0,4,())).bind fun y_5 => (ZsH k ((num:Int),())).bind fun y_6 => bif y_6.1.2.1 != (0:Int) then some (([],y_6.1.2.1,()),()) else Znn k (Int.ofNat (List.length y_6.1.1),(0:Int),y_6.1.1,(N:Int),(kd:Int),(mode:Int),(Kn ch).1,y_5.2.1.2.1,y_5.2.1.1,c,d,r)) =
    some ((ZJ (Yh (Qa mode num N ++ Qd (Kn ch).1 (Qm c d (mode:Int)))),0,()),()):=by
   rintro kd rfl
   have hkn:=ZdK N
   refine (Zm (ZBn k) _).trans ?_
   refine (Zm (QV k [] 16382 14 (by omega) (by omega) (by omega) (by simp)) _).trans ?_
   refine (Zm (QV k ([] ++ Zb 16382 14) (Qp N) 6 (by omega) (by omega) (by omega) (by omega)) _).trans ?_
   have l2:([] ++ Zb 16382 14 ++ Zb (Qp N) 6).length = 20:=by rw [Q4,l1,Zi]
   refine (Zm (QV k ([] ++ Zb 16382 14 ++ Zb (Qp N) 6) mode 8 (by omega) (by omega) hmode (by omega)) _).trans ?_
   have l3:([] ++ Zb 16382 14 ++ Zb (Qp N) 6 ++ Zb mode 8).length = 28:=by rw [Q4,l2,Zi]
   refine (Zm (QV k ([] ++ Zb 16382 14 ++ Zb (Qp N) 6 ++ Zb mode 8) 0 4 (by omega) (by omega) (by omega) (by omega)) _).trans ?_
   refine (Zm (ZOB k (by omega) (n:=num) (by omega)) _).trans ?_
   exact ZAY k hk (by omega) hdn (hmc.elim (fun h => .inl ⟨h.2,h.1⟩) (fun h => .inr h.1)) hn1.1 hn1.2 (by omega) (by omega) hlay _ (by rfl)
  by_cases h256:256 < N
  ·rw [Zc (by simp only [QS]; omega)]
   exact fin 7 (by unfold Qp; rw [if_pos h256])
  ·rw [Zo (by simp only [QS]; omega)]
   exact fin 6 (by unfold Qp; rw [if_neg h256])
 ·rw [Zc h,if_neg h]
end Go.Sh
namespace Go.Sh
open Go Go.Proofs
def XK (l:List Nat):List Bool:=l.flatMap fun x => Zb x 8
theorem QU (l:List Nat):(XK l).length = 8 * l.length:=by
 unfold XK
 rw [Zgy (B:=8) fun x _ => Zi x 8]; omega
theorem ZDw (a b:List Nat):XK (a ++ b) = XK a ++ XK b:=by simp [XK]
theorem Xn {k:Nat} {bs:List Bool} {n w:Nat} (hk:64 < k) (hw:w ≤ 32) (hn:n < 2 ^ w) (hb:bs.length + w < 4294967296) {α:Type} (K:Int × (List Int × Int × Unit) × Unit → Option α) :
  (ZQ k (K0 bs,(n:Int),(w:Int),())).bind K = K (0,K0 (bs ++ Zb n w),()):=by
 rw [QV k bs n w hk hw hn hb]; rfl
section prog
variable {k:Nat}
theorem ZeJ (hk:100 ≤ k) (bs:List Bool) (s:ByteArray) (hs:s.size < k) (hb:bs.length + 8 * s.size < 4000000000):K7 k (K0 bs,s,()) = some ((),K0 (bs ++ XK (ZbR s)),()):=by
 have hl:=YU s
 have key:=Zy (A:=List Bool) (step:=fun L1 => ZbE k L1) (fun i a => (Int.ofNat s.size,Int.ofNat i,s,(a.length:Int),ZJ a)) s.data.toList
  (fun rest a => some ((),K0 (a ++ XK (rest.map UInt8.toNat)),())) (fun i a => a.length = bs.length + 8 * i)
  (fun L a _ => by
   simp only [ZbE]
   rw [hl,Zo (Yb _)]
   simp [XK,K0])
  (fun L i hi a hI hL => by
   rw [hl] at hi
   simp only [ZbE]
   rw [Zc (ltR hi),Zc (YI hi),ZM (by omega)]
   have h256:=(s.data.toList[i]'(by omega)).toNat_lt
   rw [show IntKind.i64.wrap (Int.ofNat (s.data.toList[i]'(by omega)).toNat) = (((s.data.toList[i]'(by omega)).toNat:Nat):Int) from Qe (by simp only [QS]; omega)]
   refine Eq.trans (Xn (k:=k) (bs:=a) (w:=8) (by omega) (by omega) h256 (by omega) _) ?_
   rw [Qr hi (by omega)]
   refine Eq.trans (hL _ (by rw [Q4,Zi,hI]; omega)) ?_
   simp [XK])
  k 0 bs (by simp) (by omega) (by omega)
 rw [List.drop_zero] at key
 exact key
theorem Zjo (hk:100 ≤ k) (bs:List Bool) {a b n:Nat} (ha:a < 2) (hb:b < 128) (hn:n < 16777216) (hl:bs.length < 4000000000):ZaU k (K0 bs,(a:Int),(b:Int),(n:Int),()) = some ((),K0 (bs ++ (Zb a 1 ++ Zb b 7 ++ Zb n 24)),()):=by
 show ZeK k _ = _
 simp only [ZeK]
 refine Eq.trans (Xn (k:=k) (bs:=bs) (w:=1) (by omega) (by omega) ha (by omega) _) ?_
 refine Eq.trans (Xn (k:=k) (bs:=bs ++ Zb a 1) (w:=7) (by omega) (by omega) hb (by rw [Q4,Zi]; omega) _) ?_
 refine Eq.trans (Xn (k:=k) (bs:=bs ++ Zb a 1 ++ Zb b 7) (w:=24) (by omega) (by omega) hn (by simp only [Q4,Zi]; omega) _) ?_
 simp [K0]
theorem ZU1 {n i:Nat} (hn:n < 4294967296) (hi:i < 4):IntKind.i64.wrap (Int.ofNat (BitVec.ofInt 64 (Int.fdiv (n:Int) ((2:Int) ^ min (((8 * i:Nat):Int)).toNat 64)) &&& BitVec.ofInt 64 (255:Int)).toNat) = ((n / 2 ^ (8 * i) % 256:Nat):Int):=by
 have e1:min (((8 * i:Nat):Int)).toNat 64 = 8 * i:=by omega
 have hd:n / 2 ^ (8 * i) ≤ n:=Nat.div_le_self _ _
 have e:(n / 2 ^ (8 * i)) &&& 255 = n / 2 ^ (8 * i) % 256:=Nat.and_two_pow_sub_one_eq_mod _ 8
 rw [e1,show ((2:Int) ^ (8 * i)) = ((2 ^ (8 * i):Nat):Int) by simp,ZBT,BitVec.toNat_and,ZLw (by omega),show (BitVec.ofInt 64 (255:Int)).toNat = 255 from rfl,e]
 rw [show Int.ofNat (n / 2 ^ (8 * i) % 256) = ((n / 2 ^ (8 * i) % 256:Nat):Int) from rfl,ZCb (by omega)]
theorem ZPD (N i:Nat):XK (leN N (i + 1)) = XK (leN N i) ++ Zb (N / 2 ^ (8 * i) % 256) 8:=by
 rw [ZCg,ZDw]; simp [XK]
theorem ZGI (hk:100 ≤ k) (bs:List Bool) {N:Nat} (hN:N < 4294967296) (hl:bs.length < 4000000000):∀ (n i fuel:Nat),i + n = 4 → n < fuel →
  Zn (fun L1 => ZbH k L1) fuel (((8 * i:Nat):Int),(N:Int),(((bs ++ XK (leN N i)).length:Nat):Int),ZJ (bs ++ XK (leN N i))) = some ((),K0 (bs ++ XK (leN N 4)),())
 | 0,i,fuel + 1,h1,h2 => by
  obtain rfl:i = 4:=by omega
  rw [Ze]
  simp only [ZbH]
  rw [Zo (by omega)]
 | n + 1,i,fuel + 1,h1,h2 => by
  rw [Ze]
  simp only [ZbH]
  rw [Zc (by omega),Zc (by omega)]
  simp only [ZU1 hN (show i < 4 by omega)]
  refine Eq.trans (Xn (k:=k) (bs:=bs ++ XK (leN N i)) (w:=8) (by omega) (by omega) (Nat.mod_lt _ (by omega)) (by rw [Q4,QU,Ww]; omega) _) ?_
  rw [show IntKind.i64.wrap (((8 * i:Nat):Int) + 8) = ((8 * (i + 1):Nat):Int) by rw [Qe (by omega)]; omega,List.append_assoc,← ZPD]
  exact ZGI hk bs hN hl n (i + 1) fuel (by omega) (by omega)
 | 0,_,0,_,h2 => absurd h2 (Nat.lt_irrefl _)
 | n + 1,_,0,_,h2 => absurd h2 (Nat.not_lt_zero _)
theorem Zjp (hk:100 ≤ k) (bs:List Bool) {N:Nat} (hN:N < 4294967296) (hl:bs.length < 4000000000):ZeN k (K0 bs,(N:Int),()) = some ((),K0 (bs ++ XK (leN N 4)),()):=by
 have:=ZGI hk bs hN hl 4 0 k rfl (by omega)
 rw [show leN N 0 = [] from rfl,show XK [] = [] from rfl,List.append_nil] at this
 exact this
def Zto:List Nat → Nat
 | [] => 0
 | x :: l => l.foldl min x
def Ztm:List Nat → Nat
 | [] => 0
 | x :: l => l.foldl max x
theorem ZEV {l:List Nat} (h:l ≠ []) (hk:l.length < k) (hl:l.length < 4294967296):Zlk k (Zv l,()) = some ((Zto l:Int),()):=by
 match l,h with
 | x :: l,_ =>
  show ZeL k (Zll k) _ = _
  simp only [ZeL]
  rw [Z1,Zo (by simp only [QS,List.length_cons]; omega),Zc (by simp only [QS,List.length_cons]; omega)]
  have hc:(Zv (x :: l)).length = l.length + 1:=by rw [Z1]; rfl
  have key:=QK (A:=Nat) (step:=fun L1 => ZbF k L1) (fun i a => (Int.ofNat i,Zv (x :: l),(a:Int))) (x :: l) (fun rest a => some (((rest.foldl min a:Nat):Int),()))
   (fun L a => by
    simp only [ZbF]
    rw [hc,show (x :: l).length = l.length + 1 from rfl,Zo (Yb _)]
    rfl)
   (fun L i hi a hL => by
    simp only [ZbF]
    rw [Z1,Zc (ltR hi),Zc (YI hi)]
    have e:(Zv (x :: l)).getD (Int.ofNat i).toNat 0 = (((x :: l)[i]:Nat):Int):=by
     rw [show (Int.ofNat i).toNat = i from rfl,We,Wv hi]
    rw [e,Qr hi (by omega)]
    have e2:(if (((x :: l)[i]:Nat):Int) < (a:Int) then (((x :: l)[i]:Nat):Int) else (a:Int)) = ((min a (x :: l)[i]:Nat):Int):=by
     split <;> omega
    rw [e2]
    exact hL _) k 1 x (by simp at hk ⊢; omega) (by simp)
  exact key
theorem ZEX {l:List Nat} (h:l ≠ []) (hk:l.length < k) (hl:l.length < 4294967296):Zlm k (Zv l,()) = some ((Ztm l:Int),()):=by
 match l,h with
 | x :: l,_ =>
  show ZeM k (Zln k) _ = _
  simp only [ZeM]
  rw [Z1,Zo (by simp only [QS,List.length_cons]; omega),Zc (by simp only [QS,List.length_cons]; omega)]
  have hc:(Zv (x :: l)).length = l.length + 1:=by rw [Z1]; rfl
  have key:=QK (A:=Nat) (step:=fun L1 => ZbG k L1) (fun i a => (Int.ofNat i,Zv (x :: l),(a:Int))) (x :: l) (fun rest a => some (((rest.foldl max a:Nat):Int),()))
   (fun L a => by
    simp only [ZbG]
    rw [hc,show (x :: l).length = l.length + 1 from rfl,Zo (Yb _)]
    rfl)
   (fun L i hi a hL => by
    simp only [ZbG]
    rw [Z1,Zc (ltR hi),Zc (YI hi)]
    have e:(Zv (x :: l)).getD (Int.ofNat i).toNat 0 = (((x :: l)[i]:Nat):Int):=by
     rw [show (Int.ofNat i).toNat = i from rfl,We,Wv hi]
    rw [e,Qr hi (by omega)]
    have e2:(if (a:Int) < (((x :: l)[i]:Nat):Int) then (((x :: l)[i]:Nat):Int) else (a:Int)) = ((max a (x :: l)[i]:Nat):Int):=by
     split <;> omega
    rw [e2]
    exact hL _) k 1 x (by simp at hk ⊢; omega) (by simp)
  exact key
end prog
end Go.Sh
namespace Go.Sh
open Go Go.Proofs
def ZeZ:List Nat:=[102,76,97,67]
def Zd3:List Nat:=[115,104,101,108,108,97,99]
def KB (a b n:Nat):List Bool:=Zb a 1 ++ Zb b 7 ++ Zb n 24
def Zn1 (size n i at_:Nat):List Bool:=Zb 0 32 ++ Zb (i * size) 32 ++ Zb 0 32 ++ Zb at_ 32 ++ Zb (min size (n - i * size)) 16
def ZCL (size n:Nat):Nat → Nat → List Nat → List Bool
 | _,_,[] => []
 | i,at_,x :: l => Zn1 size n i at_ ++ ZCL size n (i + 1) (at_ + x) l
def ZaE (tags:List ByteArray):List Bool:=tags.flatMap fun t => XK (leN t.size 4) ++ XK (ZbR t)
def Zt6 (tags:List ByteArray):Nat:=(tags.map fun t => 4 + t.size).sum
def ZoH (c d r size n small great:Nat):List Bool:=XK ZeZ ++ KB 0 0 34 ++ Zb size 16 ++ Zb size 16 ++ Zb small 24 ++ Zb great 24 ++ Zb r 20 ++ Zb (c - 1) 3 ++ Zb (d - 1) 5 ++ Zb 0 4 ++ Zb n 32
def Zae (tags:List ByteArray):List Bool:=KB 1 4 (15 + Zt6 tags) ++ XK (leN 7 4) ++ XK Zd3 ++ XK (leN tags.length 4) ++ ZaE tags
def YS (size n:Nat) (lens:List Nat):List Bool:=if 1 < lens.length then KB 0 3 (18 * lens.length) ++ ZCL size n 0 0 lens else []
noncomputable def Zt4 (d:Nat) (ch:List (List Int)):List Nat:=ZFA (ZiN (nbD d) ch (ch.getD 0 []).length)
noncomputable def ZaH (d r:Nat) (tags:List ByteArray) (ch:List (List Int)) (size:Nat) (lens:List Nat):List Bool :=
 ZoH ch.length d r size (ch.getD 0 []).length (Zto lens) (Ztm lens) ++ XK (Zt4 d ch) ++ YS size (ch.getD 0 []).length lens ++ Zae tags
theorem Wl (a b n:Nat):(KB a b n).length = 32:=by simp [KB,Zi]
theorem ZtF (size n i a:Nat):(Zn1 size n i a).length = 144:=by simp [Zn1,Zi]
theorem ZXr (s:S4):Yf (ZPW s):=by
 intro x hx
 simp only [ZPW,le4,List.mem_append,List.mem_cons,List.not_mem_nil,or_false] at hx
 omega
theorem ZbZ (d:Nat) (ch:List (List Int)):(Zt4 d ch).length = 16:=by simp [Zt4,ZFA,ZPW,le4]
theorem Zmd:∀ (l:List Nat) (a:Nat),l.foldl min a ≤ a
 | [],a => Nat.le_refl a
 | x :: l,a => Nat.le_trans (Zmd l (min a x)) (Nat.min_le_left a x)
theorem ZTN {l:List Nat} {B:Nat} (hB:0 < B) (h:∀ x ∈ l,x < B):Zto l < B:=by
 match l,h with
 | [],_ => exact hB
 | x :: l,h => exact Nat.lt_of_le_of_lt (Zmd l x) (h x (List.mem_cons_self ..))
theorem Zmc {B:Nat}:∀ (l:List Nat) (a:Nat),a < B → (∀ x ∈ l,x < B) → l.foldl max a < B
 | [],a,h,_ => h
 | x :: l,a,h,h2 => Zmc l (max a x) (by have:=h2 x (List.mem_cons_self ..); omega) fun y hy => h2 y (List.mem_cons_of_mem _ hy)
theorem ZTI {l:List Nat} {B:Nat} (hB:0 < B) (h:∀ x ∈ l,x < B):Ztm l < B:=by
 match l,h with
 | [],_ => exact hB
 | x :: l,h => exact Zmc l x (h x (List.mem_cons_self ..)) fun y hy => h y (List.mem_cons_of_mem _ hy)
section prog
variable {k:Nat} {c d r:Int} {tags:List ByteArray} {ch:List (List Int)}
def Tg (tags:List ByteArray):Prop:=tags.length ≤ 8 ∧ ∀ t ∈ tags,t.size ≤ 12
theorem ZSP (hk:100 ≤ k) (hT:Tg tags) (bs:List Bool) (hb:bs.length < 1000000000):Zf1 k (Int.ofNat tags.length,(0:Int),tags,(bs.length:Int),ZJ bs) = some (ZJ (bs ++ ZaE tags),()):=by
 have key:=Zy (A:=List Bool) (step:=fun L3 => ZbB k L3) (fun i a => (Int.ofNat tags.length,Int.ofNat i,tags,(a.length:Int),ZJ a)) tags
  (fun rest a => some (ZJ (a ++ ZaE rest),())) (fun i a => a.length ≤ bs.length + 200 * i)
  (fun L a hI => by
   simp only [ZbB]
   rw [Zo (Yb _)]
   refine Eq.trans (congrArg (fun x => Option.bind x _) (ZlA k a (by have:=hT.1; omega))) ?_
   simp [ZaE])
  (fun L i hi a hI hL => by
   have ht:=hT.2 _ (List.getElem_mem hi)
   have ht8:=hT.1
   simp only [ZbB]
   rw [Zc (ltR hi),Zc (YI hi),ZM hi]
   refine Eq.trans (congrArg (fun x => Option.bind x _) (Zjp hk a (N:=tags[i].size) (by omega) (by omega))) ?_
   simp only [Z3]
   refine Eq.trans (congrArg (fun x => Option.bind x _) (ZeJ hk (a ++ XK (leN tags[i].size 4)) tags[i] (by omega) (by rw [Q4,QU,Ww]; omega))) ?_
   simp only [Z3]
   rw [Qr hi (by omega)]
   refine Eq.trans (hL _ (by simp only [Q4,QU,Ww,ZdO]; omega)) ?_
   simp only [ZaE,List.flatMap_cons,List.append_assoc])
  k 0 bs (by simp) (by have:=hT.1; omega) (by omega)
 rw [List.drop_zero] at key
 exact key
theorem ZGA (hk:100 ≤ k) (hT:Tg tags) (bs:List Bool) (hb:bs.length < 900000000):Kf k (Int.ofNat tags.length,(0:Int),tags,(15:Int),(bs.length:Int),ZJ bs,c,d,r,tags,ch) = some (ZJ (bs ++ Zae tags),()):=by
 have h8:=hT.1
 have key:=Zy (A:=Nat) (step:=fun L2 => ZbA k (Zf1 k) L2) (fun i a => (Int.ofNat tags.length,Int.ofNat i,tags,(a:Int),(bs.length:Int),ZJ bs,c,d,r,tags,ch)) tags
  (fun rest a => some (ZJ (bs ++ (KB 1 4 (a + Zt6 rest) ++ XK (leN 7 4) ++ XK Zd3 ++ XK (leN tags.length 4) ++ ZaE tags)),())) (fun i a => a ≤ 15 + 16 * i)
  (fun L a hI => by
   simp only [ZbA]
   rw [Zo (Yb _)]
   refine Eq.trans (congrArg (fun x => Option.bind x _) (Zjo hk bs (a:=1) (b:=4) (n:=a) (by omega) (by omega) (by omega) (by omega))) ?_
   simp only [Z3]
   refine Eq.trans (congrArg (fun x => Option.bind x _) (Zjp hk (bs ++ KB 1 4 a) (N:=7) (by omega) (by rw [Q4,Wl]; omega))) ?_
   simp only [Z3]
   have hv:(ByteArray.mk #[115,104,101,108,108,97,99]).size = 7:=rfl
   have hn:ZbR (ByteArray.mk #[115,104,101,108,108,97,99]) = Zd3:=rfl
   refine Eq.trans (congrArg (fun x => Option.bind x _) (ZeJ hk (bs ++ KB 1 4 a ++ XK (leN 7 4)) (ByteArray.mk #[115,104,101,108,108,97,99]) (by rw [hv]; omega) (by simp only [Q4,Wl,QU,Ww,hv]; omega))) ?_
   rw [hn]
   simp only [Z3]
   refine Eq.trans (congrArg (fun x => Option.bind x _) (Zjp hk (bs ++ KB 1 4 a ++ XK (leN 7 4) ++ XK Zd3) (N:=tags.length) (by omega) (by simp only [Q4,Wl,QU,Ww,Zd3,List.length_cons,List.length_nil]; omega))) ?_
   simp only [Z3]
   refine Eq.trans (ZSP hk hT (bs ++ KB 1 4 a ++ XK (leN 7 4) ++ XK Zd3 ++ XK (leN tags.length 4)) (by simp only [Q4,Wl,QU,Ww,Zd3,List.length_cons,List.length_nil]; omega)) ?_
   simp [Zt6,List.append_assoc])
  (fun L i hi a hI hL => by
   have ht:=hT.2 _ (List.getElem_mem hi)
   simp only [ZbA]
   rw [Zc (ltR hi),Zc (YI hi),ZM hi,Qr hi (by omega)]
   have e:IntKind.i64.wrap ((a:Int) + IntKind.i64.wrap ((4:Int) + Int.ofNat tags[i].size)) = ((a + (4 + tags[i].size):Nat):Int):=by
    simp only [QS]
    rw [Qe (n:=(4:Int) + (tags[i].size:Int)) (by omega),Qe (by omega)]; omega
   rw [e]
   refine Eq.trans (hL _ (by omega)) ?_
   simp only [Zt6,List.map_cons,List.sum_cons,Nat.add_assoc])
  k 0 15 (by omega) (by omega) (by omega)
 rw [List.drop_zero] at key
 exact key
theorem ZSO (hk:1000 ≤ k) (hT:Tg tags) {size n:Nat} (hs:16 ≤ size ∧ size ≤ 512) (hn:(ch.getD 0 []).length = n) (hn4:n ≤ 4096) {lens:List Nat} (hl:lens.length ≤ 300) (hB:∀ x ∈ lens,x < 65536) (hi:∀ i,i < lens.length → i * size ≤ n) (bs:List Bool) (hb:bs.length < 100000000) :
  Zf0 k (Int.ofNat lens.length,(0:Int),Zv lens,(size:Int),(0:Int),(bs.length:Int),ZJ bs,c,d,r,tags,ch) = some (ZJ (bs ++ ZCL size n 0 0 lens ++ Zae tags),()):=by
 have key:=Zy (A:=List Bool × Nat) (step:=fun L1 => Zbz k (Kf k) L1) (fun i a => (Int.ofNat lens.length,Int.ofNat i,Zv lens,(size:Int),(a.2:Int),(a.1.length:Int),ZJ a.1,c,d,r,tags,ch)) lens
  (fun rest a => some (ZJ (a.1 ++ ZCL size n (lens.length - rest.length) a.2 rest ++ Zae tags),())) (fun i a => a.1.length ≤ bs.length + 144 * i ∧ a.2 ≤ 65536 * i)
  (fun L a hI => by
   simp only [Zbz]
   rw [Zo (Yb _)]
   refine Eq.trans (ZGA (by omega) hT a.1 (by omega)) ?_
   simp [ZCL])
  (fun L i hlt a hI hL => by
   obtain ⟨B,at_⟩:=a
   simp only at hI hL ⊢
   have hx:=hB _ (List.getElem_mem hlt)
   have hin:=hi i hlt
   have him:i * size < 4294967296:=by omega
   simp only [Zbz]
   rw [Z1,Zc (ltR hlt),Zc (YI hlt)]
   refine Eq.trans (Xn (k:=k) (bs:=B) (n:=0) (w:=32) (by omega) (by omega) (by omega) (by omega) _) ?_
   have e1:IntKind.i64.wrap (Int.ofNat i * (size:Int)) = ((i * size:Nat):Int):=by
    rw [show Int.ofNat i * (size:Int) = ((i * size:Nat):Int) by simp,ZCb (by omega)]
   rw [e1]
   refine Eq.trans (Xn (k:=k) (bs:=B ++ Zb 0 32) (w:=32) (by omega) (by omega) him (by simp only [Q4,Zi]; omega) _) ?_
   refine Eq.trans (Xn (k:=k) (bs:=B ++ Zb 0 32 ++ Zb (i * size) 32) (n:=0) (w:=32) (by omega) (by omega) (by omega) (by simp only [Q4,Zi]; omega) _) ?_
   refine Eq.trans (Xn (k:=k) (bs:=B ++ Zb 0 32 ++ Zb (i * size) 32 ++ Zb 0 32) (n:=at_) (w:=32) (by omega) (by omega) (by omega) (by simp only [Q4,Zi]; omega) _) ?_
   rw [YL,hn]
   simp only [Z3]
   have e2:(if IntKind.i64.wrap (Int.ofNat n - ((i * size:Nat):Int)) < (size:Int) then IntKind.i64.wrap (Int.ofNat n - ((i * size:Nat):Int)) else (size:Int)) = ((min size (n - i * size):Nat):Int):=by
    simp only [QS]
    generalize i * size = q at *
    rw [Qe (by omega)]
    split <;> omega
   rw [e2]
   refine Eq.trans (Xn (k:=k) (bs:=B ++ Zb 0 32 ++ Zb (i * size) 32 ++ Zb 0 32 ++ Zb at_ 32) (w:=16) (by omega) (by omega) (by omega) (by simp only [Q4,Zi]; omega) _) ?_
   have e3:(Zv lens).getD (Int.ofNat i).toNat 0 = ((lens[i]:Nat):Int):=by
    rw [show (Int.ofNat i).toNat = i from rfl,We,Wv hlt]
   have e4:IntKind.i64.wrap ((at_:Int) + ((lens[i]:Nat):Int)) = ((at_ + lens[i]:Nat):Int):=by rw [Qe (by omega)]; omega
   rw [e3,e4,Qr hlt (by omega)]
   refine Eq.trans (hL (B ++ Zn1 size n i at_,at_ + lens[i]) ⟨by rw [Q4,ZtF]; omega,by simp only; omega⟩ |> fun h => by
    simp only [Zn1,← List.append_assoc] at h ⊢
    exact h) ?_
   have e5:lens.length - (lens[i] :: lens.drop (i + 1)).length = i:=by rw [List.length_cons,List.length_drop]; omega
   have e6:lens.length - (lens.drop (i + 1)).length = i + 1:=by rw [List.length_drop]; omega
   simp only [e5,e6,ZCL,Zn1,List.append_assoc])
  k 0 (bs,0) ⟨by simp,by simp⟩ (by omega) (by omega)
 rw [List.drop_zero] at key
 simp only [Nat.sub_self] at key
 exact key
end prog
end Go.Sh
namespace Go.Sh
open Go Go.Proofs
theorem Zt5 (size n:Nat):∀ (l:List Nat) (i a:Nat),(ZCL size n i a l).length = 144 * l.length
 | [],_,_ => rfl
 | x :: l,i,a => by simp only [ZCL,Q4,ZtF,Zt5 size n l,List.length_cons]; omega
theorem Good0.tg {tags:List ByteArray} (h:tags.all Zof = true) (h8:tags.length ≤ 8):Tg tags :=
 ⟨h8,fun t ht => by
  have:=List.all_eq_true.1 h t ht
  unfold Zof at this
  simp only [Bool.and_eq_true] at this
  exact Nat.le_of_ble_eq_true this.2.1⟩
structure Lens (size n:Nat) (lens:List Nat):Prop where
 sz:16 ≤ size ∧ size ≤ 512
 len:lens.length ≤ 300
 small:∀ x ∈ lens,x < 65536
 in_:∀ i,i < lens.length → i * size ≤ n
theorem ZUQ {k:Nat} (hk:1000 ≤ k) {size small great r c1 d1:Nat} (hs:size < 65536) (h1:small < 16777216) (h2:great < 16777216) (h3:r < 1048576) (h4:c1 < 8) (h5:d1 < 32) (B:List Bool) (hB:B.length ≤ 1000) {α:Type} (K:Int × (List Int × Int × Unit) × Unit → Option α) :
  ((ZQ k (K0 B,(size:Int),16,())).bind fun y => (ZQ k ((y.2.1.1,y.2.1.2.1,()),(size:Int),16,())).bind fun y => (ZQ k ((y.2.1.1,y.2.1.2.1,()),(small:Int),24,())).bind fun y => (ZQ k ((y.2.1.1,y.2.1.2.1,()),(great:Int),24,())).bind fun y => (ZQ k ((y.2.1.1,y.2.1.2.1,()),(r:Int),20,())).bind fun y => (ZQ k ((y.2.1.1,y.2.1.2.1,()),(c1:Int),3,())).bind fun y => (ZQ k ((y.2.1.1,y.2.1.2.1,()),(d1:Int),5,())).bind fun y => (ZQ k ((y.2.1.1,y.2.1.2.1,()),0,4,())).bind K) =
   K (0,K0 (B ++ Zb size 16 ++ Zb size 16 ++ Zb small 24 ++ Zb great 24 ++ Zb r 20 ++ Zb c1 3 ++ Zb d1 5 ++ Zb 0 4),()):=by
 refine Eq.trans (Xn (k:=k) (bs:=B) (w:=16) (by omega) (by omega) hs (by omega) _) ?_
 refine Eq.trans (Xn (k:=k) (bs:=B ++ Zb size 16) (w:=16) (by omega) (by omega) hs (by simp only [Q4,Zi]; omega) _) ?_
 refine Eq.trans (Xn (k:=k) (bs:=B ++ Zb size 16 ++ Zb size 16) (w:=24) (by omega) (by omega) h1 (by simp only [Q4,Zi]; omega) _) ?_
 refine Eq.trans (Xn (k:=k) (bs:=B ++ Zb size 16 ++ Zb size 16 ++ Zb small 24) (w:=24) (by omega) (by omega) h2 (by simp only [Q4,Zi]; omega) _) ?_
 refine Eq.trans (Xn (k:=k) (bs:=B ++ Zb size 16 ++ Zb size 16 ++ Zb small 24 ++ Zb great 24) (w:=20) (by omega) (by omega) h3 (by simp only [Q4,Zi]; omega) _) ?_
 refine Eq.trans (Xn (k:=k) (bs:=B ++ Zb size 16 ++ Zb size 16 ++ Zb small 24 ++ Zb great 24 ++ Zb r 20) (w:=3) (by omega) (by omega) h4 (by simp only [Q4,Zi]; omega) _) ?_
 refine Eq.trans (Xn (k:=k) (bs:=B ++ Zb size 16 ++ Zb size 16 ++ Zb small 24 ++ Zb great 24 ++ Zb r 20 ++ Zb c1 3) (w:=5) (by omega) (by omega) h5 (by simp only [Q4,Zi]; omega) _) ?_
 exact Xn (k:=k) (bs:=B ++ Zb size 16 ++ Zb size 16 ++ Zb small 24 ++ Zb great 24 ++ Zb r 20 ++ Zb c1 3 ++ Zb d1 5) (n:=0) (w:=4) (by omega) (by omega) (by omega) (by simp only [Q4,Zi]; omega) K
theorem Zsf {k:Nat} (hk:16777216 ≤ k) {d r:Nat} {tags:List ByteArray} {ch:List (List Int)} (h0:chk (ch.length:Int) (d:Int) (r:Int) tags ch = 0) (hS:Small tags ch) {size:Nat} {lens:List Nat} (hL:Lens size (ch.getD 0 []).length lens) :
  Zie k ((((ch.length:Int),(d:Int),(r:Int),()),tags,ch,()),(size:Int),Zv lens,()) = some (ZJ (ZaH d r tags ch size lens),()):=by
 obtain ⟨hg,hshape,-,htv,ht8⟩:=Wa h0
 have hT:=Good0.tg htv ht8
 have hsh:=of_decide_eq_true hshape
 have hs:=hL.sz
 have hn4:=hg.n4
 generalize hn:(ch.getD 0 []).length = n at *
 have hmin:Zto lens < 65536:=ZTN (by omega) hL.small
 have hmax:Ztm lens < 65536:=ZTI (by omega) hL.small
 show ZeE k _ _ _ = _
 simp only [ZeE]
 refine Eq.trans (congrArg (fun x => Option.bind x _) (ZBn k)) ?_
 simp only [Z3]
 have hmg:ZbR (ByteArray.mk #[102,76,97,67]) = ZeZ:=rfl
 refine Eq.trans (congrArg (fun x => Option.bind x _) (ZeJ (by omega) [] (ByteArray.mk #[102,76,97,67]) (by rw [show (ByteArray.mk #[102,76,97,67]).size = 4 from rfl]; omega) (by rw [show (ByteArray.mk #[102,76,97,67]).size = 4 from rfl]; simp))) ?_
 rw [hmg,List.nil_append]
 simp only [Z3]
 refine Eq.trans (congrArg (fun x => Option.bind x _) (Zjo (by omega) (XK ZeZ) (a:=0) (b:=0) (n:=34) (by omega) (by omega) (by omega) (by rw [QU]; simp [ZeZ]))) ?_
 simp only [Z3]
 rw [show (Zb 0 1 ++ Zb 0 7 ++ Zb 34 24) = KB 0 0 34 from rfl]
 have hA:(XK ZeZ ++ KB 0 0 34).length = 64:=by rw [Q4,QU,Wl]; rfl
 generalize hAe:XK ZeZ ++ KB 0 0 34 = A at hA
 have e1:IntKind.i64.wrap ((ch.length:Int) - 1) = ((ch.length - 1:Nat):Int):=by rw [Qe (by omega)]; omega
 have e2:IntKind.i64.wrap ((d:Int) - 1) = ((d - 1:Nat):Int):=by rw [Qe (by omega)]; omega
 have e3:IntKind.i64.wrap ((18:Int) * Int.ofNat (Zv lens).length) = ((18 * lens.length:Nat):Int):=by
  have:=hL.len
  rw [Z1,Qe (by simp only [QS]; omega)]; simp
 rw [Z1] at e3
 have nl:=hL.len
 have tail:∀ (C:List Bool),C.length ≤ 1000 →
   ((ZQ k (K0 C,(n:Int),32,())).bind fun y => (Zen k ((((ch.length:Int),(d:Int),(r:Int),()),tags,ch,()),())).bind fun y_4 => (K7 k ((y.2.1.1,y.2.1.2.1,()),y_4.1.1,())).bind fun y => bif decide ((1:Int) < Int.ofNat lens.length) then (ZaU k ((y.2.1.1,y.2.1.2.1,()),0,3,IntKind.i64.wrap ((18:Int) * Int.ofNat lens.length),())).bind fun y => Zf0 k (Int.ofNat lens.length,(0:Int),Zv lens,(size:Int),(0:Int),y.2.1.2.1,y.2.1.1,(ch.length:Int),(d:Int),(r:Int),tags,ch) else Kf k (Int.ofNat tags.length,(0:Int),tags,(15:Int),y.2.1.2.1,y.2.1.1,(ch.length:Int),(d:Int),(r:Int),tags,ch)) =
    some (ZJ (C ++ Zb n 32 ++ XK (Zt4 d ch) ++ YS size n lens ++ Zae tags),()):=by
  intro C hC
  refine Eq.trans (Xn (k:=k) (bs:=C) (w:=32) (by omega) (by omega) (by omega) (by omega) _) ?_
  rw [ZEg hk hS,if_pos h0]
  simp only [Z3]
  have hst:(ZbR (Ziu (ZFA (ZiN (nbD d) ch (ch.getD 0 []).length)))) = Zt4 d ch:=ZFB (ZXr _)
  have hsz:(Ziu (ZFA (ZiN (nbD d) ch (ch.getD 0 []).length))).size = 16:=by rw [← ZdO,hst,ZbZ]
  refine Eq.trans (congrArg (fun x => Option.bind x _) (ZeJ (by omega) (C ++ Zb n 32) (Ziu (ZFA (ZiN (nbD d) ch (ch.getD 0 []).length))) (by omega) (by simp only [Q4,Zi]; omega))) ?_
  simp only [Z3]
  rw [hst,e3]
  by_cases h1:1 < lens.length
  ·rw [Zc (by simp only [QS]; omega)]
   refine Eq.trans (congrArg (fun x => Option.bind x _) (Zjo (by omega) (C ++ Zb n 32 ++ XK (Zt4 d ch)) (a:=0) (b:=3) (n:=18 * lens.length) (by omega) (by omega) (by omega) (by simp only [Q4,Zi,QU,ZbZ]; omega))) ?_
   simp only [Z3]
   refine Eq.trans (ZSO (by omega) hT hs hn hn4 nl hL.small hL.in_ (C ++ Zb n 32 ++ XK (Zt4 d ch) ++ (Zb 0 1 ++ Zb 3 7 ++ Zb (18 * lens.length) 24)) (by simp only [Q4,Zi,QU,ZbZ]; omega)) ?_
   simp only [YS,if_pos h1,KB,List.append_assoc]
  ·rw [Zo (by simp only [QS]; omega)]
   refine Eq.trans (ZGA (by omega) hT (C ++ Zb n 32 ++ XK (Zt4 d ch)) (by simp only [Q4,Zi,QU,ZbZ]; omega)) ?_
   simp only [YS,if_neg h1,List.append_nil]
 have fin:A ++ Zb size 16 ++ Zb size 16 ++ Zb (Zto lens) 24 ++ Zb (Ztm lens) 24 ++ Zb r 20 ++ Zb (ch.length - 1) 3 ++ Zb (d - 1) 5 ++ Zb 0 4 ++ Zb n 32 ++ XK (Zt4 d ch) ++ YS size n lens ++ Zae tags = ZaH d r tags ch size lens:=by
  unfold ZaH ZoH
  rw [hn,hAe]
 have hC:(A ++ Zb size 16 ++ Zb size 16 ++ Zb (Zto lens) 24 ++ Zb (Ztm lens) 24 ++ Zb r 20 ++ Zb (ch.length - 1) 3 ++ Zb (d - 1) 5 ++ Zb 0 4).length ≤ 1000:=by
  simp only [Q4,Zi,hA]; omega
 rw [Z1,e1,e2]
 by_cases hl0:0 < lens.length
 ·have hne:lens ≠ []:=by intro h; rw [h] at hl0; simp at hl0
  rw [Zc (by simp only [QS]; omega),ZEV hne (by omega) (by omega)]
  simp only [Z3]
  rw [ZEX hne (by omega) (by omega)]
  simp only [Z3]
  refine Eq.trans (ZUQ (by omega) (by omega) (by omega) (by omega) (by omega) (by omega) (by omega) A (by omega) _) ?_
  rw [YL,hn]
  simp only [Z3]
  refine Eq.trans (tail _ hC) ?_
  rw [fin]
 ·have hne:lens = []:=List.length_eq_zero_iff.1 (by omega)
  rw [Zo (by simp only [QS]; omega)]
  have hm0:Zto lens = 0:=by rw [hne]; rfl
  have hx0:Ztm lens = 0:=by rw [hne]; rfl
  rw [hm0,hx0] at fin hC
  refine Eq.trans (ZUQ (small:=0) (great:=0) (by omega) (by omega) (by omega) (by omega) (by omega) (by omega) (by omega) A (by omega) _) ?_
  rw [YL,hn]
  simp only [Z3]
  refine Eq.trans (tail _ hC) ?_
  rw [fin]
end Go.Sh
namespace Go.Sh
open Go Go.Proofs
def ZN (b:List Int):List Bool:=b.flatMap fun x => Zb x.toNat 8
theorem Z4:∀ b:List Int,(ZN b).length = 8 * b.length
 | [] => rfl
 | a :: b => by
  have:=Z4 b
  unfold ZN at this ⊢
  rw [List.flatMap_cons,Q4,Zi,this,List.length_cons]; omega
theorem Zqz (a:Int) (b:List Int):ZN (a :: b) = Zb a.toNat 8 ++ ZN b:=by unfold ZN; rw [List.flatMap_cons]
theorem Zd8 (a b:List Int):ZN (a ++ b) = ZN a ++ ZN b:=by unfold ZN; rw [List.flatMap_append]
theorem ZiW:∀ (b:List Int) (i:Nat),(ZN b).drop (8 * i) = ZN (b.drop i)
 | b,0 => rfl
 | [],i + 1 => by simp [ZN]
 | a :: b,i + 1 => by
  rw [List.drop_succ_cons,Zqz,List.drop_append,Zi,List.drop_eq_nil_of_le (by rw [Zi]; omega),List.nil_append,show 8 * (i + 1) - 8 = 8 * i by omega]
  exact ZiW b i
theorem ZqB (n:Nat):∀ (w i:Nat) (h:i < (Zb n w).length),(Zb n w)[i] = n.testBit (w - 1 - i)
 | w + 1,0,_ => by simp [Zb]
 | w + 1,i + 1,h => by
  simp only [Zb,List.getElem_cons_succ]
  rw [ZqB n w i (by simpa [Zb] using h)]
  congr 1
  omega
theorem ZmR {b:List Int} {i:Nat} (h:i < 8 * b.length):(ZN b)[i]'(by rw [Z4]; exact h) = (b[i / 8]'(by omega)).toNat.testBit (7 - i % 8):=by
 have h1:i / 8 < b.length:=by omega
 have h2:(ZN b)[i]'(by rw [Z4]; exact h) = (ZN (b.drop (i / 8)))[i % 8]'(by rw [Z4,List.length_drop]; omega):=by
  simp only [← ZiW,List.getElem_drop]
  congr 1
  omega
 rw [h2]
 have h3:b.drop (i / 8) = b[i / 8] :: b.drop (i / 8 + 1):=List.drop_eq_getElem_cons h1
 simp only [h3,Zqz]
 rw [List.getElem_append_left (by rw [Zi]; omega),ZqB]
def ZR (b:List Int) (r:List Bool):Nat:=8 * b.length - r.length
abbrev Ku (b:List Int) (r:List Bool):List Int × Int × Unit:=(b,((ZR b r:Nat):Int),())
def Zl (b:List Int) (r:List Bool):Prop:=r <:+ ZN b
theorem Zl.len {b:List Int} {r:List Bool} (h:Zl b r):r.length ≤ 8 * b.length:=by
 have:=h.length_le
 rwa [Z4] at this
theorem Zl.eq {b:List Int} {r:List Bool} (h:Zl b r):r = (ZN b).drop (ZR b r):=by
 have:=List.suffix_iff_eq_drop.1 h
 unfold ZR
 rwa [Z4] at this
theorem Zl.drop {b:List Int} {r:List Bool} (h:Zl b r) (i:Nat):Zl b (r.drop i):=(List.drop_suffix i r).trans h
theorem Zl.get {b:List Int} {r:List Bool} (h:Zl b r) {i:Nat} (hi:i < r.length):(ZN b)[ZR b r + i]'(by have:=h.len; rw [Z4]; unfold ZR; omega) = r[i]:=by
 have:=h.eq
 grind
theorem Zim {b:List Int} {r:List Bool} (h:Zl b r) {i:Nat} (hi:i ≤ r.length):ZR b (r.drop i) = ZR b r + i:=by
 have:=h.len
 unfold ZR
 rw [List.length_drop]
 omega
theorem ZCv (b:List Int):Zl b (ZN b):=List.suffix_refl _
theorem ZXW (v:Fin 256) (r:Fin 8):IntKind.i64.wrap (Int.ofNat (BitVec.ofInt 64 (IntKind.i64.wrap (Int.fdiv (v.val:Int) ((2:Int) ^ min (7 - r.val) 8))) &&& BitVec.ofInt 64 1).toNat) = if v.val.testBit (7 - r.val) then 1 else 0:=by
 revert v r
 decide +kernel
theorem Zs0 (k:Nat) {b:List Int} (hb:Zz b = true) (hn:b.length < 536870912) (at_:Int) {i:Nat} (hi:i < 8 * b.length) :
  ZsZ k ((b,at_,()),(i:Int),()) = some (if (ZN b)[i]'(by rw [Z4]; exact hi) then 1 else 0,(b,at_,()),()):=by
 show Zl8 k _ = _
 simp only [Zl8]
 rw [ZwX,ZUW,Qe (n:=((i / 8:Nat):Int)) (by omega)]
 have h1:i / 8 < b.length:=by omega
 rw [Zc (by simp only [QS]; omega)]
 have e1:IntKind.i64.wrap ((7:Int) - ((i % 8:Nat):Int)) = ((7 - i % 8:Nat):Int):=by rw [Qe (by omega)]; omega
 rw [e1,Zc (by omega),ZmR hi]
 obtain ⟨x,hx,hxe⟩:=Zbh hb h1
 have hg:b.getD (((i / 8:Nat):Int)).toNat 0 = (x:Int):=by rw [Xw,Wv h1,hxe]
 rw [hg,hxe,Xw,Xw]
 have:=ZXW ⟨x,hx⟩ ⟨i % 8,Nat.mod_lt _ (by omega)⟩
 simp only at this
 rw [this]
def XI (l:List Bool):Nat:=l.foldl (fun a b => 2 * a + b.toNat) 0
theorem Zb5:∀ (l:List Bool) (a:Nat),l.foldl (fun a b => 2 * a + b.toNat) a = a * 2 ^ l.length + XI l
 | [],a => by simp [XI]
 | x :: l,a => by
  unfold XI
  rw [List.foldl_cons,List.foldl_cons,Zb5 l (2 * a + x.toNat),Zb5 l (2 * 0 + x.toNat),List.length_cons,Nat.pow_succ]
  grind
theorem ZmQ:∀ (l:List Bool),XI l < 2 ^ l.length
 | [] => by simp [XI]
 | x :: l => by
  have:=ZmQ l
  unfold XI
  rw [List.foldl_cons,Zb5,List.length_cons,Nat.pow_succ]
  cases x <;> simp <;> omega
theorem Zun (l m:List Bool):XI (l ++ m) = XI l * 2 ^ m.length + XI m:=by
 unfold XI
 rw [List.foldl_append,Zb5]
 rfl
theorem ZcI (n:Nat):∀ w,XI (Zb n w) = n % 2 ^ w
 | 0 => by simp [Zb,XI,Nat.mod_one]
 | w + 1 => by
  have:=ZcI n w
  rw [show Zb n (w + 1) = [n.testBit w] ++ Zb n w from rfl,Zun,Zi,this,Nat.mod_pow_succ,Nat.testBit_eq_decide_div_mod_eq]
  have h2:n / 2 ^ w % 2 < 2:=Nat.mod_lt _ (by omega)
  generalize n / 2 ^ w % 2 = m at h2
  match m,h2 with
  | 0,_ => simp [XI]
  | 1,_ => simp [XI]; omega
def ZT (w:Nat) (r:List Bool):Nat × Int × List Bool:=if w ≤ r.length then (XI (r.take w),0,r.drop w) else (0,10,r)
theorem Qk {b:List Int} {r:List Bool} (h:Zl b r) (w:Nat):Zl b (ZT w r).2.2:=by
 unfold ZT
 split
 ·exact h.drop w
 ·exact h
theorem ZaX (w:Nat) (r:List Bool):(ZT w r).1 < 2 ^ w:=by
 unfold ZT
 split
 ·rename_i h
  have:=ZmQ (r.take w)
  simp_all
 ·exact Nat.pow_pos (by omega)
theorem ZIR (k:Nat) {b:List Int} (hb:Zz b = true) (hn:b.length < 536870912):∀ (w m i v:Nat) (r:List Bool),Zl b r → w ≤ r.length → w < m → i + w ≤ 32 → v < 2 ^ i →
  Zn (fun L1 => Zc7 k L1) m (((i + w:Nat):Int),(i:Int),(v:Int),b,((ZR b r:Nat):Int)) = some (((((r.take w).foldl (fun a b => 2 * a + b.toNat) v:Nat):Int),0,()),Ku b (r.drop w),()):=by
 intro w
 induction w with
 | zero =>
  intro m i v r hr hw hm hi hv
  obtain ⟨m,rfl⟩:=ZE hm
  rw [Ze]
  grind [Zc7]
 | succ w ih =>
  intro m i v r hr hw hm hi hv
  obtain ⟨m,rfl⟩:=ZE (show 0 < m by omega)
  rw [Ze]
  simp only [Zc7]
  have hl:=hr.len
  have hp:ZR b r < 8 * b.length:=by unfold ZR; omega
  rw [Zc (by omega),Zs0 k hb hn _ hp]
  simp only [Z3]
  have hg:=hr.get (i:=0) (by omega)
  simp only [Nat.add_zero] at hg
  rw [hg]
  have hv2:v < 2 ^ 32:=Nat.lt_of_lt_of_le hv (Nat.pow_le_pow_right (by omega) (by omega))
  have hcons:r = r[0] :: r.drop 1:=by
   have:=List.drop_eq_getElem_cons (l:=r) (i:=0) (by omega)
   rwa [List.drop_zero] at this
  have e1:IntKind.i64.wrap (Int.ofNat (BitVec.ofInt 64 (IntKind.i64.wrap ((v:Int) * 2)) ||| BitVec.ofInt 64 (if r[0] = true then 1 else 0)).toNat) = ((2 * v + r[0].toNat:Nat):Int):=by
   have h1:IntKind.i64.wrap ((v:Int) * 2) = ((v * 2:Nat):Int):=by rw [Qe (by omega)]; omega
   have h2:(if r[0] = true then (1:Int) else 0) = ((r[0].toNat:Nat):Int):=by cases r[0] <;> rfl
   have hb1:r[0].toNat < 2 ^ 1:=by cases r[0] <;> decide
   rw [h1,h2,orN (by omega) (by omega)]
   have:=Nat.shiftLeft_add_eq_or_of_lt hb1 v
   rw [Nat.shiftLeft_eq] at this
   rw [show v * 2 = v * 2 ^ 1 from rfl,← this,Qe (by omega)]
   omega
  rw [e1]
  have e2:IntKind.i64.wrap ((i:Int) + 1) = ((i + 1:Nat):Int):=by rw [Qe (by omega)]; rfl
  have e3:IntKind.i64.wrap (((ZR b r:Nat):Int) + 1) = ((ZR b (r.drop 1):Nat):Int):=by
   rw [Zim hr (by omega),Qe (by omega)]; rfl
  rw [e2,e3]
  have hp2:2 * v + r[0].toNat < 2 ^ (i + 1):=by
   grind
  have:=ih m (i + 1) (2 * v + r[0].toNat) (r.drop 1) (hr.drop 1) (by rw [List.length_drop]; omega) (by omega) (by omega) hp2
  grind
theorem X1 (k:Nat) {b:List Int} (hb:Zz b = true) (hn:b.length < 536870912) {r:List Bool} (hr:Zl b r) {w:Nat} (hw:w ≤ 32) (hk:100 < k) :
  Yj k (Ku b r,(w:Int),()) = some (((((ZT w r).1:Nat):Int),(ZT w r).2.1,()),Ku b (ZT w r).2.2,()):=by
 show Zhr k (Zpt k) _ = _
 simp only [Zhr]
 rw [ZsT k w hw]
 simp only [Z3,cond_false]
 have hl:=hr.len
 have e1:Zrv k ((b,((ZR b r:Nat):Int),()),()) = some ((r.length:Int),(b,((ZR b r:Nat):Int),()),()):=by
  show ZhS k _ = _
  simp only [ZhS]
  have:IntKind.i64.wrap (IntKind.i64.wrap ((8:Int) * Int.ofNat b.length) - ((ZR b r:Nat):Int)) = (r.length:Int):=by
   unfold ZR
   simp only [QS]
   rw [Qe (n:=(8:Int) * (b.length:Int)) (by omega),Qe (by omega)]
   omega
  rw [this]
 rw [e1]
 simp only [Z3]
 unfold ZT
 by_cases h:w ≤ r.length
 ·rw [Zo (by omega),if_pos h]
  have:=ZIR k hb hn w k 0 0 r hr h (by omega) (by omega) (by simp)
  rw [Nat.zero_add] at this
  exact this
 grind
def ZT6 (w v:Nat):Int:=if 0 < w ∧ 2 ^ (w - 1) ≤ v then (v:Int) - 2 ^ w else v
def WZ (w:Nat) (r:List Bool):Int × Int × List Bool:=if w ≤ r.length then (ZT6 w (XI (r.take w)),0,r.drop w) else (0,10,r)
theorem ZeV {b:List Int} {r:List Bool} (h:Zl b r) (w:Nat):Zl b (WZ w r).2.2:=by
 unfold WZ
 split
 ·exact h.drop w
 ·exact h
theorem Zvo (k:Nat) {b:List Int} (hb:Zz b = true) (hn:b.length < 536870912) {r:List Bool} (hr:Zl b r) {w:Nat} (hw:w ≤ 32) (hk:100 < k) :
  Znu k (Ku b r,(w:Int),()) = some (((WZ w r).1,(WZ w r).2.1,()),Ku b (WZ w r).2.2,()):=by
 show ZhT k _ = _
 simp only [ZhT]
 rw [X1 k hb hn hr hw hk]
 simp only [Z3]
 unfold ZT WZ
 by_cases h:w ≤ r.length
 ·rw [if_pos h,if_pos h]
  simp only
  rw [show ((0:Int) == 0) = true from rfl]
  simp only [cond_true]
  have hlt:=ZmQ (r.take w)
  rw [List.length_take,Nat.min_eq_left h] at hlt
  generalize XI (r.take w) = v at hlt
  unfold ZT6
  by_cases h0:0 < w
  ·have e1:IntKind.i64.wrap ((w:Int) - 1) = ((w - 1:Nat):Int):=by rw [Qe (by omega)]; omega
   rw [Zc (by omega),e1,Zc (by omega),Xw,Nat.min_eq_left (by omega),Zgs,ZU]
   have hpw:2 ^ w = 2 * 2 ^ (w - 1):=by rw [show w = (w - 1) + 1 by omega,Nat.pow_succ,Nat.add_sub_cancel]; omega
   have hq:v / 2 ^ (w - 1) = if 2 ^ (w - 1) ≤ v then 1 else 0:=by
    split
    ·rename_i hle
     rw [Nat.div_eq_iff (Nat.pow_pos (by omega))]
     omega
    simp_all
   rw [hq]
   have h32:2 ^ w ≤ 2 ^ 32:=Nat.pow_le_pow_right (by omega) hw
   by_cases hle:2 ^ (w - 1) ≤ v
   ·rw [if_pos hle,Zc (show ((1:Nat):Int) = 1 from rfl),if_pos ⟨h0,hle⟩,Zc (by omega),Nat.min_eq_left (by omega:((w:Int)).toNat ≤ 64),Xw,Int.one_mul,XU]
    generalize 2 ^ w = Q at h32 hlt ⊢
    rw [Qe (n:=(Q:Int)) (by omega),Qe (by omega)]
   grind
  simp_all
 ·rw [if_neg h,if_neg h]
  rfl
end Go.Sh
namespace Go.Sh
open Go Go.Proofs
def ZiS:Nat → List Bool → Option (Nat × List Bool)
 | _,[] => none
 | n,true :: r => some (n,r)
 | n,false :: r => ZiS (n + 1) r
def unS (r:List Bool):Nat × Int × List Bool:=match ZiS 0 r with
 | some (n,r') => (n,0,r')
 | none => (0,10,r)
theorem Ze9:∀ (r:List Bool) (n m:Nat) (r':List Bool),ZiS n r = some (m,r') → r' <:+ r ∧ m + 1 + r'.length = n + r.length
 | true :: r,n,m,r',h => by
  grind [ZiS,Option.some.injEq,Prod.mk.injEq]
 | false :: r,n,m,r',h => by
  obtain ⟨h1,h2⟩:=Ze9 r (n + 1) m r' h
  grind
theorem Zd2 {b:List Int} {r:List Bool} (h:Zl b r):Zl b (unS r).2.2:=by
 unfold unS
 split
 ·rename_i n r' hu
  exact (Ze9 r 0 n r' hu).1.trans h
 ·exact h
theorem ZQs {r:List Bool}:(unS r).1 ≤ r.length:=by
 unfold unS
 split
 ·rename_i n r' hu
  have:=(Ze9 r 0 n r' hu).2
  simp only
  omega
 ·exact Nat.zero_le _
theorem ZIX (k:Nat) {b:List Int} (hb:Zz b = true) (hn:b.length < 536870912) {r0:List Bool} (hr0:Zl b r0):∀ (r:List Bool) (m n:Nat),Zl b r → r.length < m → n + r.length = r0.length →
  Zn (fun L1 => Zda k L1) m (((ZR b r:Nat):Int),b,((ZR b r0:Nat):Int)) = some (((match ZiS n r with | some (n,r') => (n:Int) | none => 0),(match ZiS n r with | some (n,r') => 0 | none => 10),()),Ku b (match ZiS n r with | some (n,r') => r' | none => r0),()):=by
 intro r
 induction r with
 | nil =>
  intro m n hr hm hl
  obtain ⟨m,rfl⟩:=ZE hm
  rw [Ze]
  simp only [Zda]
  have e1:IntKind.i64.wrap ((8:Int) * Int.ofNat b.length) = ((8 * b.length:Nat):Int):=by simp only [QS]; rw [Qe (by omega)]; omega
  rw [e1,Zo (by unfold ZR; simp)]
  rfl
 | cons x r ih =>
  intro m n hr hm hl
  obtain ⟨m,rfl⟩:=ZE (show 0 < m by omega)
  rw [Ze]
  simp only [Zda]
  have e1:IntKind.i64.wrap ((8:Int) * Int.ofNat b.length) = ((8 * b.length:Nat):Int):=by simp only [QS]; rw [Qe (by omega)]; omega
  have hlen:=hr.len
  have hlen0:=hr0.len
  simp only [List.length_cons] at hlen hl hm
  have hp:ZR b (x :: r) < 8 * b.length:=by unfold ZR; simp only [List.length_cons]; omega
  rw [e1,Zc (by omega),Zs0 k hb hn _ hp]
  simp only [Z3]
  have hg:=hr.get (i:=0) (by simp)
  simp only [Nat.add_zero,List.getElem_cons_zero] at hg
  rw [hg]
  have e2:IntKind.i64.wrap (((ZR b (x :: r):Nat):Int) + 1) = ((ZR b r:Nat):Int):=by
   have:=Zim hr (i:=1) (by simp)
   rw [List.drop_one,List.tail_cons] at this
   rw [this,Qe (by omega)]; rfl
  have hr':Zl b r:=by have:=hr.drop 1; simp_all
  rw [e2,ZU]
  cases x with
  | true =>
   rw [if_pos rfl,Zc rfl]
   have e3:IntKind.i64.wrap (((ZR b (true :: r):Nat):Int) - ((ZR b r0:Nat):Int)) = (n:Int):=by
    unfold ZR at hp ⊢
    simp only [List.length_cons] at hp ⊢
    rw [Qe (by omega)]
    omega
   rw [e3]
   rfl
  | false =>
   rw [if_neg (by simp),Zo (by omega)]
   exact ih m (n + 1) hr' (by omega) (by omega)
theorem Zvc (k:Nat) {b:List Int} (hb:Zz b = true) (hn:b.length < 536870912) {r:List Bool} (hr:Zl b r) (hk:8 * b.length < k) :
  Zjh k (Ku b r,()) = some (((((unS r).1:Nat):Int),(unS r).2.1,()),Ku b (unS r).2.2,()):=by
 show Zhw k (Zpy k) _ = _
 simp only [Zhw]
 have hl:=hr.len
 refine (ZIX k hb hn hr r k 0 hr (by omega) (by omega)).trans ?_
 unfold unS
 grind
def alS (r:List Bool):Int × List Bool:=if (r.take (r.length % 8)).all (fun x => !x) then (0,r.drop (r.length % 8)) else (2,r)
theorem ZLh {b:List Int} {r:List Bool} (h:Zl b r):Zl b (alS r).2:=by
 unfold alS
 split
 ·exact h.drop _
 ·exact h
theorem up8 {n:Nat} (h:n < 4294967296):IntKind.i64.wrap (Int.ofNat (BitVec.ofInt 64 (IntKind.i64.wrap ((n:Int) + 7)) &&& ~~~BitVec.ofInt 64 7).toNat) = (((n + 7) / 8 * 8:Nat):Int):=by
 rw [Qe (n:=(n:Int) + 7) (by omega),show (n:Int) + 7 = ((n + 7:Nat):Int) from rfl]
 have e:(BitVec.ofInt 64 ((n + 7:Nat):Int) &&& ~~~BitVec.ofInt 64 7).toNat = (n + 7) / 8 * 8:=by
  have h1:BitVec.ofInt 64 ((n + 7:Nat):Int) &&& ~~~BitVec.ofInt 64 7 = ((BitVec.ofNat 64 (n + 7)) >>> 3) <<< 3:=by
   rw [BitVec.ofInt_natCast,show ~~~BitVec.ofInt 64 7 = BitVec.ofNat 64 18446744073709551608 from by decide]
   apply BitVec.eq_of_getLsbD_eq
   intro i hi
   simp only [BitVec.getLsbD_and,BitVec.getLsbD_shiftLeft,BitVec.getLsbD_ushiftRight]
   have hm:=(by decide +kernel:∀ j:Fin 64,(BitVec.ofNat 64 18446744073709551608).getLsbD j.val = decide (3 ≤ j.val)) ⟨i,hi⟩
   grind
  simp_all <;> omega
 rw [e,Qe (by simp only [QS]; omega)]
 rfl
theorem ZOJ (k:Nat) {b:List Int} (hb:Zz b = true) (hn:b.length < 536870912) {r0:List Bool}:∀ (p m:Nat) (r:List Bool),Zl b r → p ≤ r.length → p < m →
  Zn (fun L1 => Zgd k L1) m (((ZR b r:Nat):Int),((ZR b r + p:Nat):Int),b,((ZR b r0:Nat):Int)) = some (if (r.take p).all (fun x => !x) then (0,Ku b (r.drop p),()) else (2,Ku b r0,())):=by
 intro p
 induction p with
 | zero =>
  intro m r hr hp hm
  obtain ⟨m,rfl⟩:=ZE hm
  rw [Ze]
  grind [Zgd]
 | succ p ih =>
  intro m r hr hp hm
  obtain ⟨m,rfl⟩:=ZE (show 0 < m by omega)
  rw [Ze]
  simp only [Zgd]
  have hlen:=hr.len
  have hpos:ZR b r < 8 * b.length:=by unfold ZR; omega
  rw [Zc (by omega),Zs0 k hb hn _ hpos]
  simp only [Z3]
  have hg:=hr.get (i:=0) (by omega)
  simp only [Nat.add_zero] at hg
  rw [hg,ZU]
  have hcons:r = r[0] :: r.drop 1:=by
   have:=List.drop_eq_getElem_cons (l:=r) (i:=0) (by omega)
   rwa [List.drop_zero] at this
  have e5:r.take (p + 1) = r[0] :: (r.drop 1).take p:=by
   conv => lhs; rw [hcons]
   rfl
  rw [e5,List.all_cons]
  cases hx:r[0] with
  | true =>
   rw [if_pos rfl,Zc rfl]
   simp
  | false =>
   rw [if_neg (by simp),Zo (by omega)]
   have e3:IntKind.i64.wrap (((ZR b r:Nat):Int) + 1) = ((ZR b (r.drop 1):Nat):Int):=by
    rw [Zim hr (by omega),Qe (by omega)]; rfl
   have e4:ZR b r + (p + 1) = ZR b (r.drop 1) + p:=by rw [Zim hr (by omega)]; omega
   rw [e3,e4,ih m (r.drop 1) (hr.drop 1) (by rw [List.length_drop]; omega) (by omega)]
   grind
theorem ZOK (k:Nat) {b:List Int} (hb:Zz b = true) (hn:b.length < 536870912) {r:List Bool} (hr:Zl b r) (hk:10 < k) :
  ZBz k (Ku b r,()) = some ((alS r).1,Ku b (alS r).2,()):=by
 show ZlG k (ZyE k) _ = _
 simp only [ZlG]
 have hlen:=hr.len
 have hp:ZR b r ≤ 8 * b.length:=by unfold ZR; omega
 rw [up8 (by omega)]
 have e:(ZR b r + 7) / 8 * 8 = ZR b r + r.length % 8:=by unfold ZR; omega
 rw [e]
 refine (ZOJ k hb hn (r.length % 8) k r hr (Nat.mod_le _ _) (by omega)).trans ?_
 unfold alS
 split <;> rfl
def ZmH (f:Nat):Int:=if f % 2 = 1 then -((f:Int) + 1) / 2 else (f:Int) / 2
theorem ZJA (k:Nat) {f:Nat} (h:f < 4294967296):ZrG k ((f:Int),()) = some ((ZmH f,0,()),()):=by
 show Zh4 k _ = _
 simp only [Zh4]
 rw [Zo (by omega),Zo (by omega),show (1:Int) = ((1:Nat):Int) from rfl,ZHZ (by omega) (by omega),Nat.and_one_is_mod,Qe (n:=((f % 2:Nat):Int)) (by omega)]
 have hd:((f:Nat):Int).fdiv 2 = ((f / 2:Nat):Int):=by grind
 rw [hd]
 unfold ZmH
 by_cases h1:f % 2 = 1
 ·rw [if_pos h1,h1,show IntKind.i64.wrap ((0:Int) - ((1:Nat):Int)) = -1 from rfl,show BitVec.ofInt 64 (-1) = BitVec.allOnes 64 from by decide,BitVec.xor_allOnes,BitVec.toNat_not,ZXX (by omega)]
  have e2:IntKind.i64.wrap (Int.ofNat (2 ^ 64 - 1 - f / 2)) = -((f:Int) + 1) / 2:=by
   simp only [QS]
   rw [IntKind.wrap_i64]
   omega
  rw [e2]
 ·rw [if_neg h1,show f % 2 = 0 by omega,show IntKind.i64.wrap ((0:Int) - ((0:Nat):Int)) = 0 from rfl,show BitVec.ofInt 64 0 = 0#64 from rfl,BitVec.xor_zero,ZXX (by omega)]
  rw [Qe (by simp only [QS]; omega)]
  rfl
theorem ZCW {n:Int} (h:ZO n):ZmH (Qf n) = n:=by
 unfold ZO at h
 unfold ZmH Qf
 grind
def Zb2 (kk:Nat) (r:List Bool):Int × Int × List Bool :=
 if (unS r).2.1 ≠ 0 then (0,(unS r).2.1,(unS r).2.2)
 else if (ZT kk (unS r).2.2).2.1 ≠ 0 then (0,(ZT kk (unS r).2.2).2.1,(ZT kk (unS r).2.2).2.2)
 else if 4294967295 ≤ (unS r).1 * 2 ^ kk + (ZT kk (unS r).2.2).1 then (0,12,(ZT kk (unS r).2.2).2.2)
 else (ZmH ((unS r).1 * 2 ^ kk + (ZT kk (unS r).2.2).1),0,(ZT kk (unS r).2.2).2.2)
theorem ZwA {b:List Int} {r:List Bool} (h:Zl b r) (kk:Nat):Zl b (Zb2 kk r).2.2:=by
 unfold Zb2
 split
 ·exact Zd2 h
 ·split
  ·exact Qk (Zd2 h) kk
  ·split
   ·exact Qk (Zd2 h) kk
   ·exact Qk (Zd2 h) kk
theorem ZXB {q d kk:Nat} (hq:q < 4294967296) (hk:kk ≤ 30) (hd:d < 2 ^ kk):IntKind.i64.wrap (Int.ofNat (BitVec.ofInt 64 (IntKind.i64.wrap ((q:Int) * (2:Int) ^ min ((kk:Int)).toNat 64)) ||| BitVec.ofInt 64 (d:Int)).toNat) = ((q * 2 ^ kk + d:Nat):Int):=by
 have h1:2 ^ kk ≤ 2 ^ 30:=Nat.pow_le_pow_right (by omega) hk
 have h2:q * 2 ^ kk ≤ 4294967295 * 1073741824:=Nat.mul_le_mul (by omega) (by omega)
 rw [Xw,Nat.min_eq_left (by omega),XU,← Int.natCast_mul]
 have h3:=Nat.shiftLeft_add_eq_or_of_lt hd q
 rw [Nat.shiftLeft_eq] at h3
 rw [Qe (n:=((q * 2 ^ kk:Nat):Int)) (by generalize q * 2 ^ kk = X at h2; omega),orN (by generalize q * 2 ^ kk = X at h2; omega) (by omega),← h3]
 generalize q * 2 ^ kk = X at h2 ⊢
 rw [Qe (by omega)]
theorem ZJy (k:Nat) {b:List Int} (hb:Zz b = true) (hn:b.length < 268435456) {r:List Bool} (hr:Zl b r) {kk:Nat} (hkk:kk ≤ 30) (hk:8 * b.length + 100 < k) :
  ZrC k (Ku b r,(kk:Int),()) = some (((Zb2 kk r).1,(Zb2 kk r).2.1,()),Ku b (Zb2 kk r).2.2,()):=by
 show Zh1 k _ = _
 simp only [Zh1]
 rw [Zvc k hb (by omega) hr (by omega)]
 simp only [Z3]
 unfold Zb2
 have hu:=ZQs (r:=r)
 have hl:=hr.len
 rw [ZK]
 by_cases h1:(unS r).2.1 = 0
 ·rw [Zo (by simpa using h1),if_neg (by simpa using h1),X1 k hb (by omega) (Zd2 hr) (by omega) (by omega)]
  simp only [Z3]
  rw [ZK]
  by_cases h2:(ZT kk (unS r).2.2).2.1 = 0
  ·rw [Zo (by simpa using h2),if_neg (by simpa using h2),Zc (by omega),ZXB (by omega) hkk (ZaX kk _)]
   by_cases h3:4294967295 ≤ (unS r).1 * 2 ^ kk + (ZT kk (unS r).2.2).1
   ·rw [Zc (by omega),if_pos h3]
   ·rw [Zo (by omega),if_neg h3,ZJA k (by omega)]
    rfl
  ·rw [Zc h2,if_pos h2]
 ·rw [Zc h1,if_pos h1]
end Go.Sh
namespace Go.Sh
open Go Go.Proofs
abbrev ZF6:=List Bool → Int × Int × List Bool
def Yy (one:ZF6):Nat → List Bool → List Int → List Int × Int × List Bool
 | 0,r,acc => (acc,0,r)
 | n + 1,r,acc => if (one r).2.1 ≠ 0 then ([],(one r).2.1,(one r).2.2) else Yy one n (one r).2.2 (acc ++ [(one r).1])
theorem Zju {b:List Int} {one:ZF6} (h1:∀ r,Zl b r → Zl b (one r).2.2):∀ (n:Nat) (r:List Bool) (acc:List Int),Zl b r → Zl b (Yy one n r acc).2.2
 | 0,r,acc,h => h
 | n + 1,r,acc,h => by
  unfold Yy
  split
  ·exact h1 r h
  ·exact Zju h1 n _ _ (h1 r h)
theorem ZnS {one:ZF6}:∀ (n:Nat) (r:List Bool) (acc:List Int),(Yy one n r acc).1.length ≤ acc.length + n
 | 0,r,acc => Nat.le_refl _
 | n + 1,r,acc => by
  unfold Yy
  split
  ·simp
  ·have:=ZnS (one:=one) n (one r).2.2 (acc ++ [(one r).1])
   grind
theorem ZR6 (k:Nat) (L2:Int × Int × List Int × Int × Int × List Int → Option ((List Int × Int × Unit) × (List Int × Int × Unit) × Unit)) {b:List Int} (hb:Zz b = true) (hn:b.length < 268435456) (hk:8 * b.length + 100 < k) {w:Nat} (hw:w ≤ 32) :
  ∀ (d m i:Nat) (r:List Bool) (acc:List Int),Zl b r → d < m → i + d ≤ 4096 → acc.length ≤ i →
  Zn (fun L1 => Zdj k L1) m (((i + d:Nat):Int),(i:Int),b,((ZR b r:Nat):Int),(w:Int),acc) = some (((Yy (WZ w) d r acc).1,(Yy (WZ w) d r acc).2.1,()),Ku b (Yy (WZ w) d r acc).2.2,()):=by
 intro d
 induction d with
 | zero =>
  intro m i r acc hr hm hi ha
  obtain ⟨m,rfl⟩:=ZE hm
  rw [Ze]
  simp only [Zdj]
  rw [Zo (by omega)]
  rfl
 | succ d ih =>
  intro m i r acc hr hm hi ha
  obtain ⟨m,rfl⟩:=ZE (show 0 < m by omega)
  rw [Ze]
  simp only [Zdj]
  have e:ZrD k (((b,((ZR b r:Nat):Int),()),()),((w:Int),()),()) = some (((WZ w r).1,(WZ w r).2.1,()),((Ku b (WZ w r).2.2),()),((w:Int),()),()):=by
   show Zh2 k _ = _
   simp only [Zh2]
   rw [Zvo k hb (by omega) hr hw (by omega)]
   rfl
  rw [Zc (by omega),e]
  simp only [Z3]
  unfold Yy
  rw [ZK]
  by_cases h:(WZ w r).2.1 = 0
  ·rw [Zo (by simpa using h),Zc (by grind),if_neg (by simpa using h)]
   have e2:IntKind.i64.wrap ((i:Int) + 1) = ((i + 1:Nat):Int):=by rw [Qe (by omega)]; rfl
   rw [e2]
   have:=ih m (i + 1) (WZ w r).2.2 (acc ++ [(WZ w r).1]) (ZeV hr w) (by omega) (by omega) (by simp; omega)
   grind
  ·rw [Zc h,if_pos h]
theorem ZMY (k:Nat) {b:List Int} (hb:Zz b = true) (hn:b.length < 268435456) (hk:8 * b.length + 100 < k) {w:Nat} (hw:w ≤ 30) :
  ∀ (d m i:Nat) (r:List Bool) (acc:List Int),Zl b r → d < m → i + d ≤ 4096 → acc.length ≤ i →
  Zn (fun L2 => Zdk k L2) m (((i + d:Nat):Int),(i:Int),b,((ZR b r:Nat):Int),(w:Int),acc) = some (((Yy (Zb2 w) d r acc).1,(Yy (Zb2 w) d r acc).2.1,()),Ku b (Yy (Zb2 w) d r acc).2.2,()):=by
 intro d
 induction d with
 | zero =>
  intro m i r acc hr hm hi ha
  obtain ⟨m,rfl⟩:=ZE hm
  rw [Ze]
  simp only [Zdk]
  rw [Zo (by omega)]
  rfl
 | succ d ih =>
  intro m i r acc hr hm hi ha
  obtain ⟨m,rfl⟩:=ZE (show 0 < m by omega)
  rw [Ze]
  simp only [Zdk]
  have e:ZrA k (((b,((ZR b r:Nat):Int),()),()),((w:Int),()),()) = some (((Zb2 w r).1,(Zb2 w r).2.1,()),((Ku b (Zb2 w r).2.2),()),((w:Int),()),()):=by
   show Zh0 k _ = _
   simp only [Zh0]
   rw [ZJy k hb (by omega) hr hw (by omega)]
   rfl
  rw [Zc (by omega),e]
  simp only [Z3]
  unfold Yy
  rw [ZK]
  by_cases h:(Zb2 w r).2.1 = 0
  ·rw [Zo (by simpa using h),Zc (by grind),if_neg (by simpa using h)]
   have e2:IntKind.i64.wrap ((i:Int) + 1) = ((i + 1:Nat):Int):=by rw [Qe (by omega)]; rfl
   rw [e2]
   have:=ih m (i + 1) (Zb2 w r).2.2 (acc ++ [(Zb2 w r).1]) (ZwA hr w) (by omega) (by omega) (by simp; omega)
   grind
  ·rw [Zc h,if_pos h]
def YB (m count : Nat) (r : List Bool) : List Int × Int × List Bool :=
  if (ZT (4 + m) r).2.1 ≠ 0 then ([], (ZT (4 + m) r).2.1, (ZT (4 + m) r).2.2)
  else if (ZT (4 + m) r).1 = XE m then
    (if (ZT 5 (ZT (4 + m) r).2.2).2.1 ≠ 0 then ([], (ZT 5 (ZT (4 + m) r).2.2).2.1, (ZT 5 (ZT (4 + m) r).2.2).2.2)
     else Yy (WZ (ZT 5 (ZT (4 + m) r).2.2).1) count (ZT 5 (ZT (4 + m) r).2.2).2.2 [])
  else Yy (Zb2 (ZT (4 + m) r).1) count (ZT (4 + m) r).2.2 []
theorem Zjz {b:List Int} {r:List Bool} (h:Zl b r) (m count:Nat):Zl b (YB m count r).2.2:=by
 unfold YB
 split
 ·exact Qk h _
 ·split
  ·split
   ·exact Qk (Qk h _) _
   ·exact Zju (fun r h => ZeV h _) _ _ _ (Qk (Qk h _) _)
  ·exact Zju (fun r h => ZwA h _) _ _ _ (Qk h _)
theorem ZwC (m count:Nat) (r:List Bool):(YB m count r).1.length ≤ count:=by
 unfold YB
 split
 ·simp
 ·split
  ·split
   ·simp
   ·have:=ZnS (one:=WZ (ZT 5 (ZT (4 + m) r).2.2).1) count (ZT 5 (ZT (4 + m) r).2.2).2.2 []
    simpa using this
  ·have:=ZnS (one:=Zb2 (ZT (4 + m) r).1) count (ZT (4 + m) r).2.2 []
   simpa using this
theorem ZJv (k:Nat) {b:List Int} (hb:Zz b = true) (hn:b.length < 268435456) {r:List Bool} (hr:Zl b r) (hk:8 * b.length + 5000 < k) {m count:Nat} (hm:m = 0 ∨ m = 1) (hc:count ≤ 4096) :
  Zjl k (Ku b r,(m:Int),(count:Int),()) = some (((YB m count r).1,(YB m count r).2.1,()),Ku b (YB m count r).2.2,()):=by
 show ZhU k (ZpS k) (Zkr k) _ = _
 simp only [ZhU]
 have hmi:(m:Int) = 0 ∨ (m:Int) = 1:=by omega
 rw [ZUY,Znc k hmi]
 simp only [Z3]
 have e4:(4:Int) + (m:Int) = ((4 + m:Nat):Int):=rfl
 rw [e4,X1 k hb (by omega) hr (by omega) (by omega)]
 simp only [Z3]
 unfold YB
 have hlt:=ZaX (4 + m) r
 rw [ZK]
 by_cases h1:(ZT (4 + m) r).2.1 = 0
 ·rw [Zo (by simpa using h1),if_neg (by simpa using h1),ZHX,Zc5 k hmi]
  simp only [Z3]
  rw [ZU]
  by_cases h2:(ZT (4 + m) r).1 = XE m
  ·rw [Zc (by omega),if_pos h2,show (5:Int) = ((5:Nat):Int) from rfl,X1 k hb (by omega) (Qk hr _) (by omega) (by omega)]
   simp only [Z3]
   rw [ZK]
   by_cases h3:(ZT 5 (ZT (4 + m) r).2.2).2.1 = 0
   ·rw [Zo (by simpa using h3),if_neg (by simpa using h3)]
    have hlt5:=ZaX 5 (ZT (4 + m) r).2.2
    have:=ZR6 k (Zkr k) hb hn (by omega) (w:=(ZT 5 (ZT (4 + m) r).2.2).1) (by omega) count k 0 (ZT 5 (ZT (4 + m) r).2.2).2.2 [] (Qk (Qk hr _) _) (by omega) (by omega) (by simp)
    rw [Nat.zero_add] at this
    exact this
   ·rw [Zc h3,if_pos h3]
  ·rw [Zo (by omega),if_neg h2]
   have h30:(ZT (4 + m) r).1 ≤ 30:=by
    rcases hm with rfl | rfl
    ·omega
    ·have h32:(ZT (4 + 1) r).1 < 32:=hlt
     have:XE (1:Nat) = 31:=rfl
     omega
   have:=ZMY k hb hn (by omega) h30 count k 0 (ZT (4 + m) r).2.2 [] (Qk hr _) (by omega) (by omega) (by simp)
   rw [Nat.zero_add] at this
   exact this
 ·rw [Zc h1,if_pos h1]
def Wt (m n o p:Nat):Nat → Nat → List Bool → List Int → List Int × Int × List Bool
 | 0,_,r,acc => (acc,0,r)
 | d + 1,i,r,acc => if (YB m (n / 2 ^ p - if i = 0 then o else 0) r).2.1 ≠ 0 then ([],(YB m (n / 2 ^ p - if i = 0 then o else 0) r).2.1,(YB m (n / 2 ^ p - if i = 0 then o else 0) r).2.2)
  else Wt m n o p d (i + 1) (YB m (n / 2 ^ p - if i = 0 then o else 0) r).2.2 (acc ++ (YB m (n / 2 ^ p - if i = 0 then o else 0) r).1)
theorem ZjS {b:List Int} {m n o p:Nat}:∀ (d i:Nat) (r:List Bool) (acc:List Int),Zl b r → Zl b (Wt m n o p d i r acc).2.2
 | 0,_,r,acc,h => h
 | d + 1,i,r,acc,h => by
  unfold Wt
  generalize (n / 2 ^ p - if i = 0 then o else 0) = cnt
  split
  ·exact Zjz h _ _
  ·exact ZjS d (i + 1) _ _ (Zjz h _ _)
theorem ZI3 (k:Nat) {b:List Int} (hb:Zz b = true) (hn:b.length < 268435456) (hk:8 * b.length + 5000 < k) {m n o p:Nat} (hm:m = 0 ∨ m = 1) (hnn:n ≤ 512) (hp:p ≤ 15) (ho:o ≤ n / 2 ^ p) :
  ∀ (d j i:Nat) (r:List Bool) (acc:List Int),Zl b r → d < j → i + d ≤ 32768 → acc.length ≤ i * 512 →
  Zn (fun L1 => Za9 k L1) j (((i + d:Nat):Int),(i:Int),(n:Int),(p:Int),(o:Int),(m:Int),b,((ZR b r:Nat):Int),acc) = some (((Wt m n o p d i r acc).1,(Wt m n o p d i r acc).2.1,()),Ku b (Wt m n o p d i r acc).2.2,()):=by
 intro d
 have hdiv:n / 2 ^ p ≤ n:=Nat.div_le_self _ _
 induction d with
 | zero =>
  intro j i r acc hr hj hi ha
  obtain ⟨j,rfl⟩:=ZE hj
  rw [Ze]
  simp only [Za9]
  rw [Zo (by omega)]
  rfl
 | succ d ih =>
  intro j i r acc hr hj hi ha
  obtain ⟨j,rfl⟩:=ZE (show 0 < j by omega)
  rw [Ze]
  simp only [Za9,Xw,Nat.min_eq_left (show p ≤ 64 by omega),Zgs]
  have e2:IntKind.i64.wrap ((i:Int) + 1) = ((i + 1:Nat):Int):=by rw [Qe (by omega)]; rfl
  have e3:IntKind.i64.wrap (((n / 2 ^ p:Nat):Int) - (o:Int)) = ((n / 2 ^ p - o:Nat):Int):=by generalize n / 2 ^ p = q at hdiv ho ⊢; rw [Qe (by omega)]; omega
  have fin:∀ cnt:Nat,cnt = (n / 2 ^ p - if i = 0 then o else 0) → ((Zjl k ((b,((ZR b r:Nat):Int),()),(m:Int),(cnt:Int),())).bind fun y => bif y.1.2.1 != (0:Int) then some (([],y.1.2.1,()),(y.2.1.1,y.2.1.2.1,()),()) else bif decide (acc.length + List.length y.1.1 < (2147483648:Nat)) then Zn (fun L1 => Za9 k L1) j (((i + (d + 1):Nat):Int),IntKind.i64.wrap ((i:Int) + 1),(n:Int),(p:Int),(o:Int),(m:Int),y.2.1.1,y.2.1.2.1,acc ++ y.1.1) else none) =
    some (((Wt m n o p (d + 1) i r acc).1,(Wt m n o p (d + 1) i r acc).2.1,()),Ku b (Wt m n o p (d + 1) i r acc).2.2,()):=by
   intro cnt hcnt
   have hcl:cnt ≤ 512:=by omega
   refine (Zm (ZJv k hb hn hr hk hm (by omega)) _).trans ?_
   simp only
   unfold Wt
   rw [← hcnt,ZK]
   have hlen:=ZwC m cnt r
   by_cases h:(YB m cnt r).2.1 = 0
   ·rw [Zo (by simpa using h),Zc (by omega),if_neg (by simpa using h),e2]
    have:=ih j (i + 1) (YB m cnt r).2.2 (acc ++ (YB m cnt r).1) (Zjz hr _ _) (by omega) (by omega) (by rw [Q4]; omega)
    grind
   ·rw [Zc h,if_pos h]
  grind
def Kt (n o:Nat) (r:List Bool):List Int × Int × List Bool :=
 if ZcJ n o = false then ([],1,r)
 else if (ZT 2 r).2.1 ≠ 0 then ([],(ZT 2 r).2.1,(ZT 2 r).2.2)
 else if 1 < (ZT 2 r).1 then ([],2,(ZT 2 r).2.2)
 else if (ZT 4 (ZT 2 r).2.2).2.1 ≠ 0 then ([],(ZT 4 (ZT 2 r).2.2).2.1,(ZT 4 (ZT 2 r).2.2).2.2)
 else if Zfm n o (ZT 4 (ZT 2 r).2.2).1 = false then ([],2,(ZT 4 (ZT 2 r).2.2).2.2)
 else Wt (ZT 2 r).1 n o (ZT 4 (ZT 2 r).2.2).1 (2 ^ (ZT 4 (ZT 2 r).2.2).1) 0 (ZT 4 (ZT 2 r).2.2).2.2 []
theorem ZtR {b:List Int} {r:List Bool} (h:Zl b r) (n o:Nat):Zl b (Kt n o r).2.2:=by
 unfold Kt
 repeat' split
 all_goals first | exact h | exact Qk h _ | exact Qk (Qk h _) _ | exact ZjS _ _ _ _ (Qk (Qk h _) _)
theorem ZI4 (k:Nat) {b:List Int} (hb:Zz b = true) (hn:b.length < 268435456) {r:List Bool} (hr:Zl b r) (hk:8 * b.length + 50000 < k) (n o:Nat) :
  ZcM k (Ku b r,(n:Int),(o:Int),()) = some (((Kt n o r).1,(Kt n o r).2.1,()),Ku b (Kt n o r).2.2,()):=by
 show ZhA k (ZpE k) _ = _
 simp only [ZhA]
 rw [Zvj]
 simp only [Z3]
 unfold Kt
 cases hbl:ZcJ n o with
 | false => rfl
 | true =>
  have hbb:=of_decide_eq_true hbl
  simp only [Bool.not_true,cond_false,Bool.true_eq_false,if_false]
  have g2:Yj k (Ku b r,2,()) = _:=X1 k hb (by omega) hr (w:=2) (by omega) (by omega)
  rw [g2]
  simp only [Z3]
  rw [ZK]
  have hlt2:=ZaX 2 r
  by_cases h1:(ZT 2 r).2.1 = 0
  ·rw [Zo (by simpa using h1),if_neg (by simpa using h1)]
   by_cases h2:1 < (ZT 2 r).1
   ·rw [Zc (by omega),if_pos h2]
   ·have g4:Yj k (Ku b (ZT 2 r).2.2,4,()) = _:=X1 k hb (by omega) (Qk hr _) (w:=4) (by omega) (by omega)
    rw [Zo (by omega),if_neg h2,g4]
    simp only [Z3]
    rw [ZK]
    have hlt4:=ZaX 4 (ZT 2 r).2.2
    by_cases h3:(ZT 4 (ZT 2 r).2.2).2.1 = 0
    ·rw [Zo (by simpa using h3),if_neg (by simpa using h3),Zvl k (by omega) (by omega)]
     simp only [Z3]
     cases hf:Zfm n o (ZT 4 (ZT 2 r).2.2).1 with
     | false => rfl
     | true =>
      simp only [Bool.not_true,cond_false,Bool.true_eq_false,if_false]
      have hfit:=hf
      unfold Zfm at hfit
      simp only [Bool.and_eq_true,decide_eq_true_eq] at hfit
      rw [Zc (by omega),Zqh (by omega)]
      have h15:2 ^ (ZT 4 (ZT 2 r).2.2).1 ≤ 2 ^ 15:=Nat.pow_le_pow_right (by omega) (by omega)
      have:=ZI3 k hb hn (by omega) (m:=(ZT 2 r).1) (n:=n) (o:=o) (p:=(ZT 4 (ZT 2 r).2.2).1) (by omega) (by omega) (by omega) hfit.2 (2 ^ (ZT 4 (ZT 2 r).2.2).1) k 0 (ZT 4 (ZT 2 r).2.2).2.2 [] (Qk (Qk hr _) _) (by omega) (by omega) (by simp)
      rw [Nat.zero_add] at this
      exact this
    ·rw [Zc h3,if_pos h3]
  ·rw [Zc h1,if_pos h1]
theorem ZY1:∀ n:Fin 513,ZhY 0 (1,(n.val:Int),()) = some ((0,(n.val:Int),()),()):=by decide +kernel
theorem ZMW (k:Nat) {n:Nat} (hn:n ≤ 512):Zrw k (1,(n:Int),()) = some ((0,(n:Int),()),()):=by
 have:=ZY1 ⟨n,by omega⟩
 simp only at this
 show (ZhY 0 (1,(n:Int),())).bind _ = _
 rw [this]
 rfl
theorem ZIZ (k:Nat) (x:Int) {n:Nat} (hn:n ≤ 512):∀ (d m i:Nat),i + d = n → d < m → 1 ≤ i →
  Zn (fun L1 => Zhy k L1) m ((i:Int),List.replicate i x ++ List.replicate d 0) = some (List.replicate n x,()):=by
 intro d
 induction d using Nat.strongRecOn with
 | ind d ih =>
  intro m i hi hm h1
  obtain ⟨m,rfl⟩:=ZE (show 0 < m by omega)
  rw [Ze]
  simp only [Zhy]
  have hlen:(List.replicate i x ++ List.replicate d (0:Int)).length = n:=by simp; omega
  rw [hlen]
  by_cases h0:d = 0
  ·simp_all
  ·rw [Zc (by simp only [QS]; omega),Zc (by simp only [QS]; omega),Zc (by simp only [QS]; omega)]
   simp only [Xw,show (Int.ofNat n).toNat = n from rfl]
   rw [Zc (by omega),Zc (by omega),List.drop_zero]
   have ht:(List.replicate i x ++ List.replicate d (0:Int)).take i = List.replicate i x:=by
    simp_all
   rw [ht,List.length_replicate]
   have e1:IntKind.i64.wrap ((i:Int) + Int.ofNat (min i (n - i))) = ((i + min i (n - i):Nat):Int):=by simp only [QS]; rw [Qe (by omega)]; omega
   have e2:List.replicate i x ++ List.take (n - i) (List.replicate i x) ++ List.drop (i + min i (n - i)) (List.replicate i x ++ List.replicate d (0:Int)) = List.replicate (i + min i (n - i)) x ++ List.replicate (d - min i (n - i)) 0:=by
    rw [List.take_replicate,List.replicate_append_replicate,List.drop_append]
    simp
    omega
   rw [e1,e2]
   exact ih (d - min i (n - i)) (by omega) m _ (by omega) (by omega) (by omega)
theorem ZI0 (k:Nat) (x:Int) {n:Nat} (h1:1 ≤ n) (hn:n ≤ 512) (hk:1000 < k):Zrb k ([x],(n:Int),()) = some (List.replicate n x,()):=by
 show Zhx k (ZpA k) _ = _
 simp only [Zhx]
 have e1:IntKind.u64.wrap (Int.ofNat [x].length) = 1:=rfl
 have e2:IntKind.u64.wrap (n:Int) = (n:Int):=by rw [IntKind.wrap_u64]; omega
 rw [Zo (by omega),e1,e2,ZMW k hn]
 simp only [Z3]
 have e3:IntKind.i64.wrap (n:Int) = (n:Int):=by rw [Qe (by omega)]
 rw [Zo (by omega),Zo (by omega),e3,Zc (by omega)]
 simp only [Xw,List.length_replicate,List.length_singleton,Nat.sub_zero,List.take_zero,List.nil_append,Nat.zero_add]
 rw [Nat.min_eq_left h1,List.take_of_length_le (by simp; omega),List.drop_replicate]
 exact ZIZ k x hn (n - 1) k 1 (by omega) (by omega) (by omega)
end Go.Sh
namespace Go.Sh
open Go Go.Proofs
def Zmu (c:List Int) (sh:Int):List Int → List Int → List Int × Int
 | [],out => (out,0)
 | x :: xs,out => if QM (x + Zfg c sh out) = true then ([],12) else Zmu c sh xs (out ++ [x + Zfg c sh out])
def ZaC (c:List Int) (sh:Int) (warm res:List Int):List Int × Int :=
 if ZbQ c sh = false then ([],2) else if warm.length ≠ c.length then ([],1) else if warm.any QM = true then ([],12) else if res.any QM = true then ([],12) else Zmu c sh res warm
theorem ZwL {c:List Int} {sh:Int}:∀ (xs out:List Int),(Zmu c sh xs out).1.length ≤ out.length + xs.length
 | [],out => Nat.le_refl _
 | x :: xs,out => by
  unfold Zmu
  split
  ·simp
  ·have:=ZwL (c:=c) (sh:=sh) xs (out ++ [x + Zfg c sh out])
   grind
theorem ZC0 {x:Int} (h:QM x = false):ZO x:=by
 unfold QM at h
 rw [decide_eq_false_iff_not] at h
 unfold ZO
 omega
theorem ZI6 (k:Nat) {c warm res:List Int} {sh:Int} (hk:1000 < k) (hc:c.length ≤ 8192) (hw:warm.length ≤ 900) (hr:res.length ≤ 900) :
  ZcN k ((c,sh,()),warm,res,()) = some (((ZaC c sh warm res).1,(ZaC c sh warm res).2,()),()):=by
 show ZhB k (ZpG k) _ = _
 simp only [ZhB]
 rw [Zvp k c sh (by omega)]
 simp only [Z3]
 unfold ZaC
 cases hm:ZbQ c sh with
 | false => rfl
 | true =>
  simp only [if_true,Bool.true_eq_false,if_false]
  rw [show ((0:Int) != 0) = false from rfl]
  simp only [cond_false]
  rw [ZK]
  by_cases hl:warm.length = c.length
  ·rw [Zo (by simp [hl]),if_neg (by simpa using hl),Zcf k warm (by omega) (by omega)]
   simp only [Z3]
   cases hw1:warm.any QM with
   | true => rfl
   | false =>
    simp only [cond_false,Bool.false_eq_true,if_false]
    rw [Zcf k res (by omega) (by omega)]
    simp only [Z3]
    cases hr1:res.any QM with
    | true => rfl
    | false =>
     simp only [cond_false,Bool.false_eq_true,if_false]
     have ecl:Znr k (warm,()) = some (warm,()):=by show Yg _ = _; unfold Yg; rw [Zc (by simp only; omega)]
     rw [ecl]
     simp only [Z3]
     obtain ⟨h8,hsh,hco⟩:=ZgG hm
     have:=Zy (A:=List Int) (R:=(List Int × Int × Unit) × Unit) (step:=fun L1 => Zdd k L1)
      (fun i out => (Int.ofNat res.length,Int.ofNat i,res,c,sh,out)) res
      (fun l' out => some (((Zmu c sh l' out).1,(Zmu c sh l' out).2,()),()))
      (fun i out => c.length ≤ out.length ∧ out.length = warm.length + i ∧ ∀ x ∈ out,ZO x)
      (fun L out _ => by simp only [Zdd]; rw [Zo (Yb _)]; rfl)
      (fun L i hi out ho hL => by
       simp only [Zdd]
       rw [Zc (ltR hi),Zc (YI hi),Zvq k (by omega) h8 ho.1 (by omega) hsh hco ho.2.2,ZM hi]
       simp only [Z3]
       have hx:=KV hr1 res[i] (List.getElem_mem hi)
       have hp:=ZoP (sh:=sh) hco ho.2.2 h8
       unfold ZO at hx
       rw [Qe (n:=res[i] + Zfg c sh out) (by omega),Znp]
       simp only [Z3]
       unfold Zmu
       cases hwi:QM (res[i] + Zfg c sh out) with
       | true => rfl
       | false =>
        simp only [cond_false,Bool.false_eq_true,if_false]
        rw [Zc (by grind),Qr hi (by omega)]
        exact hL _ ⟨by simp; omega,by simp; omega,fun x hx => by
         rcases List.mem_append.1 hx with h | h
         ·exact ho.2.2 x h
         ·rw [List.mem_singleton.1 h]; exact ZC0 hwi⟩)
      k 0 warm ⟨by omega,by omega,KV hw1⟩ (by omega) (Nat.zero_le _)
     rw [List.drop_zero] at this
     exact this
  grind
abbrev IS:=List Bool × Int
def gI (w:Nat) (s:IS):Nat × IS:=if s.2 = 0 then ((ZT w s.1).1,(ZT w s.1).2.2,(ZT w s.1).2.1) else (0,s)
def mI (ok:Bool) (s:IS) (code:Int):IS:=if s.2 = 0 ∧ ok = false then (s.1,code) else s
theorem QN {b:List Int} {s:IS} (h:Zl b s.1) (w:Nat):Zl b (gI w s).2.1:=by
 unfold gI
 split
 ·exact Qk h w
 ·exact h
theorem QI {b:List Int} {s:IS} (h:Zl b s.1) (ok:Bool) (code:Int):Zl b (mI ok s code).1:=by
 unfold mI
 split
 ·exact h
 ·exact h
theorem ZYC (w:Nat) (s:IS):(gI w s).1 < 2 ^ w:=by
 unfold gI
 split
 ·exact ZaX w _
 ·exact Nat.pow_pos (by omega)
theorem Zc9 (k:Nat) {b:List Int} (hb:Zz b = true) (hn:b.length < 268435456) (hk:100 < k) {s:IS} (hs:Zl b s.1) {w:Nat} (hw:w ≤ 32) :
  Kc k ((Ku b s.1,s.2,()),(w:Int),()) = some ((((gI w s).1:Nat):Int),(Ku b (gI w s).2.1,(gI w s).2.2,()),()):=by
 show Zhu k _ = _
 simp only [Zhu]
 unfold gI
 rw [ZU]
 by_cases h:s.2 = 0
 ·rw [Zc h,if_pos h,X1 k hb (by omega) hs hw hk]
  rfl
 ·rw [Zo h,if_neg h]
  rfl
theorem Y2 (k:Nat) {b:List Int} {s:IS} (ok:Bool):Xi k ((Ku b s.1,s.2,()),ok,()) = some ((),(Ku b (mI ok s 2).1,(mI ok s 2).2,()),()):=by
 show Zht k _ = _
 simp only [Zht]
 unfold mI
 grind
def ZdJ (n:Nat):Bool:=n = 0 ∨ n = 1 ∨ 8 ≤ n ∧ n ≤ 12 ∨ 32 ≤ n ∧ n ≤ 39
theorem ZIV (k n:Nat):Zra k ((n:Int),()) = some (ZdJ n,()):=by
 show Zhv k _ = _
 simp only [Zhv]
 unfold ZdJ
 rw [ZU,ZU]
 by_cases h0:n = 0
 ·simp_all
 ·rw [Zo (by omega)]
  by_cases h1:n = 1
  ·simp_all
  ·rw [Zo (by omega)]
   by_cases h8:8 ≤ n
   ·rw [Zc (by omega)]
    by_cases h12:n ≤ 12
    ·grind
    ·rw [Zo (by omega)]
     by_cases h31:31 < n
     ·rw [Zc (by omega)]
      by_cases h39:n ≤ 39
      ·grind
      grind
     grind
   grind
def X8 (w:Nat):Nat → IS → List Int → List Int × IS
 | 0,s,acc => (acc,s)
 | n + 1,s,acc => if s.2 = 0 then X8 w n ((WZ w s.1).2.2,(WZ w s.1).2.1) (acc ++ [(WZ w s.1).1]) else X8 w n s (acc ++ [0])
theorem X9 {b:List Int} {w:Nat}:∀ (n:Nat) (s:IS) (acc:List Int),Zl b s.1 → Zl b (X8 w n s acc).2.1
 | 0,s,acc,h => h
 | n + 1,s,acc,h => by
  unfold X8
  split
  ·exact X9 n _ _ (ZeV h w)
  ·exact X9 n _ _ h
theorem Zay {w:Nat}:∀ (n:Nat) (s:IS) (acc:List Int),(X8 w n s acc).1.length = acc.length + n
 | 0,s,acc => rfl
 | n + 1,s,acc => by
  unfold X8
  split
  ·rw [Zay n,Q4,List.length_singleton]; omega
  ·rw [Zay n,Q4,List.length_singleton]; omega
theorem Zdc (k:Nat) {b:List Int} (hb:Zz b = true) (hn:b.length < 268435456) (hk:1000 < k) {s:IS} (hs:Zl b s.1) {w n:Nat} (hw:w ≤ 32) (hnn:n ≤ 512) :
  Zbm k ((Ku b s.1,s.2,()),(n:Int),(w:Int),()) = some ((X8 w n s []).1,(Ku b (X8 w n s []).2.1,(X8 w n s []).2.2,()),()):=by
 show Zhz k (ZpC k) _ = _
 simp only [Zhz]
 suffices H:∀ (d m i:Nat) (s:IS) (acc:List Int),Zl b s.1 → d < m → i + d ≤ 512 → acc.length = i →
   Zn (fun L1 => Zdb k L1) m (((i + d:Nat):Int),(i:Int),(w:Int),s.2,b,((ZR b s.1:Nat):Int),acc) = some ((X8 w d s acc).1,(Ku b (X8 w d s acc).2.1,(X8 w d s acc).2.2,()),()) by
  have:=H n k 0 s [] hs (by omega) (by omega) rfl
  rw [Nat.zero_add] at this
  exact this
 intro d
 induction d with
 | zero =>
  intro m i s acc hs hm hi ha
  obtain ⟨m,rfl⟩:=ZE hm
  rw [Ze]
  simp only [Zdb]
  rw [Zo (by omega)]
  rfl
 | succ d ih =>
  intro m i s acc hs hm hi ha
  obtain ⟨m,rfl⟩:=ZE (show 0 < m by omega)
  rw [Ze]
  simp only [Zdb]
  have e2:IntKind.i64.wrap ((i:Int) + 1) = ((i + 1:Nat):Int):=by rw [Qe (by omega)]; rfl
  rw [Zc (by omega),ZU]
  unfold X8
  by_cases h:s.2 = 0
  ·rw [Zc h,if_pos h,Zvo k hb (by omega) hs hw (by omega)]
   simp only [Z3]
   rw [Zc (by grind),e2]
   have:=ih m (i + 1) ((WZ w s.1).2.2,(WZ w s.1).2.1) (acc ++ [(WZ w s.1).1]) (ZeV hs w) (by omega) (by omega) (by simp; omega)
   grind
  ·rw [Zo h,if_neg h,Zc (by omega),e2]
   have:=ih m (i + 1) s (acc ++ [0]) hs (by omega) (by omega) (by simp; omega)
   grind
def ZcG (s:IS):IS:=mI ((gI 1 s).1 == 0) (gI 1 s).2 2
def Y8 (s:IS):Nat × IS:=((gI 6 s).1,mI (ZdJ (gI 6 s).1) (gI 6 s).2 2)
def ZdY (kind depth:Nat) (s:IS):Nat × Nat × IS :=
 if (gI 1 s).1 = 1 ∧ (gI 1 s).2.2 = 0 then (kind,(unS (gI 1 s).2.1).1 + 1,mI (decide ((unS (gI 1 s).2.1).1 + 1 < depth)) ((unS (gI 1 s).2.1).2.2,(unS (gI 1 s).2.1).2.1) 2)
 else (kind,0,mI (decide (0 < depth)) (gI 1 s).2 2)
def ZY (depth:Nat) (s:IS):Nat × Nat × IS:=ZdY (Y8 (ZcG s)).1 depth (Y8 (ZcG s)).2
theorem WB (a b:Nat):((a:Int) == (b:Int)) = (a == b):=by
 grind
theorem ZFX {b:List Int} {s:IS} (h:Zl b s.1) (kind d:Nat):Zl b (ZdY kind d s).2.2.1:=by
 unfold ZdY
 split
 ·exact QI (s:=(_,_)) (Zd2 (QN h _)) _ _
 ·exact QI (QN h _) _ _
theorem Zt0 {b:List Int} {s:IS} (h:Zl b s.1):Zl b (ZcG s).1:=QI (QN h _) _ _
theorem Zt1 {b:List Int} {s:IS} (h:Zl b s.1):Zl b (Y8 s).2.1:=QI (QN h _) _ _
theorem ZmD {b:List Int} {s:IS} (h:Zl b s.1) (d:Nat):Zl b (ZY d s).2.2.1:=ZFX (Zt1 (Zt0 h)) _ _
theorem ZPj (k:Nat) {b:List Int} (hb:Zz b = true) (hn:b.length < 268435456) (hk:8 * b.length + 1000 < k) {s:IS} (hs:Zl b s.1) (d:Nat) :
  ZBN k ((Ku b s.1,s.2,()),(d:Int),()) = some (((((ZY d s).1:Nat):Int),(((ZY d s).2.1:Nat):Int),()),(Ku b (ZY d s).2.2.1,(ZY d s).2.2.2,()),()):=by
 show Zl5 k _ = _
 simp only [Zl5]
 refine (Zm (Zc9 k hb hn (by omega) hs (w:=1) (by omega)) _).trans ?_
 refine (Zm (Y2 k (s:=(gI 1 s).2) _) _).trans ?_
 rw [show ((((gI 1 s).1:Nat):Int) == (0:Int)) = ((gI 1 s).1 == 0) from WB _ 0]
 have r2:=Zt0 hs
 unfold ZY
 change ((Kc k ((Ku b (ZcG s).1,(ZcG s).2,()),6,())).bind _) = _
 generalize ZcG s = s1 at r2 ⊢
 refine (Zm (Zc9 k hb hn (by omega) r2 (w:=6) (by omega)) _).trans ?_
 refine (Zm (ZIV k (gI 6 s1).1) _).trans ?_
 refine (Zm (Y2 k (s:=(gI 6 s1).2) _) _).trans ?_
 have r4:=Zt1 r2
 change ((Kc k ((Ku b (Y8 s1).2.1,(Y8 s1).2.2,()),1,())).bind fun y_3 => bif y_3.1 == (1:Int) then bif y_3.2.1.2.1 == (0:Int) then (Zjh k ((y_3.2.1.1.1,y_3.2.1.1.2.1,()),())).bind fun y_4 => (Xi k (((y_4.2.1.1,y_4.2.1.2.1,()),y_4.1.2.1,()),decide (IntKind.i64.wrap (y_4.1.1 + (1:Int)) < d),())).bind fun y_5 => some (((((Y8 s1).1:Nat):Int),IntKind.i64.wrap (y_4.1.1 + (1:Int)),()),((y_5.2.1.1.1,y_5.2.1.1.2.1,()),y_5.2.1.2.1,()),())
  else (Xi k (((y_3.2.1.1.1,y_3.2.1.1.2.1,()),y_3.2.1.2.1,()),decide ((0:Int) < d),())).bind fun y_4 => some (((((Y8 s1).1:Nat):Int),0,()),((y_4.2.1.1.1,y_4.2.1.1.2.1,()),y_4.2.1.2.1,()),())
  else (Xi k (((y_3.2.1.1.1,y_3.2.1.1.2.1,()),y_3.2.1.2.1,()),decide ((0:Int) < d),())).bind fun y_4 => some (((((Y8 s1).1:Nat):Int),0,()),((y_4.2.1.1.1,y_4.2.1.1.2.1,()),y_4.2.1.2.1,()),())) = _
 generalize (Y8 s1).1 = kind
 generalize (Y8 s1).2 = s2 at r4 ⊢
 unfold ZdY
 have r5:=QN r4 1
 refine (Zm (Zc9 k hb hn (by omega) r4 (w:=1) (by omega)) _).trans ?_
 simp only
 rw [show ((((gI 1 s2).1:Nat):Int) == (1:Int)) = ((gI 1 s2).1 == 1) from WB _ 1]
 have fin0:((Xi k ((Ku b (gI 1 s2).2.1,(gI 1 s2).2.2,()),decide ((0:Int) < (d:Int)),())).bind fun y_4 => some ((((kind:Nat):Int),0,()),((y_4.2.1.1.1,y_4.2.1.1.2.1,()),y_4.2.1.2.1,()),())) =
   some ((((kind:Nat):Int),(((0:Nat):Int)),()),(Ku b (mI (decide (0 < d)) (gI 1 s2).2 2).1,(mI (decide (0 < d)) (gI 1 s2).2 2).2,()),()):=by
  refine (Zm (Y2 k (s:=(gI 1 s2).2) _) _).trans ?_
  simp_all
 by_cases h1:(gI 1 s2).1 = 1
 ·rw [show ((gI 1 s2).1 == 1) = true from by simp [h1]]
  simp only [cond_true]
  rw [ZU]
  by_cases h2:(gI 1 s2).2.2 = 0
  ·rw [Zc h2,if_pos ⟨h1,h2⟩]
   refine (Zm (Zvc k hb (by omega) r5 (by omega)) _).trans ?_
   have hu:=ZQs (r:=(gI 1 s2).2.1)
   have hl:=r5.len
   have e1:IntKind.i64.wrap ((((unS (gI 1 s2).2.1).1:Nat):Int) + 1) = (((unS (gI 1 s2).2.1).1 + 1:Nat):Int):=by rw [Qe (by omega)]; rfl
   simp only
   rw [e1]
   refine (Zm (Y2 k (b:=b) (s:=((unS (gI 1 s2).2.1).2.2,(unS (gI 1 s2).2.1).2.1)) _) _).trans ?_
   have:decide ((((unS (gI 1 s2).2.1).1 + 1:Nat):Int) < (d:Int)) = decide ((unS (gI 1 s2).2.1).1 + 1 < d):=by
    grind
   rw [this]
  simp_all
 grind
end Go.Sh
namespace Go.Sh
open Go Go.Proofs
def ZcX (coefs:List Int) (sh:Int) (c n:Nat) (warm:List Int) (s:IS):List Int × IS :=
 if (Kt n c s.1).2.1 ≠ 0 then ([],((Kt n c s.1).2.2,(Kt n c s.1).2.1))
 else ((ZaC coefs sh warm (Kt n c s.1).1).1,((Kt n c s.1).2.2,(ZaC coefs sh warm (Kt n c s.1).1).2))
def Zbi (s:IS):IS:=mI ((gI 4 s).1 == 11) (gI 4 s).2 2
def WQ (s:IS):Nat × IS:=((gI 5 s).1,mI (decide ((gI 5 s).1 ≤ 15)) (gI 5 s).2 2)
def Zfc (c n:Nat) (warm:List Int) (sh:Nat) (x:List Int × IS):List Int × IS :=
 if x.2.2 ≠ 0 then ([],x.2) else ZcX x.1 sh c n warm x.2
def Zb6 (num:Bool) (c n:Nat) (w:List Int × IS):List Int × IS :=
 if num = true then Zfc c n w.1 (WQ (Zbi w.2)).1 (X8 12 c (WQ (Zbi w.2)).2 [])
 else if w.2.2 ≠ 0 then ([],w.2) else ZcX (XQ (min 4 c)) 0 c n w.1 w.2
def Zix (num:Bool) (c n depth:Nat) (s:IS):List Int × IS :=
 if (mI (decide (c ≤ n)) s 2).2 ≠ 0 then ([],mI (decide (c ≤ n)) s 2) else Zb6 num c n (X8 depth c (mI (decide (c ≤ n)) s 2) [])
def W5 (kind n depth:Nat) (s:IS):List Int × IS :=
 if kind = 0 then (List.replicate n ((X8 depth 1 s []).1.headD 0),(X8 depth 1 s []).2)
 else if kind = 1 then X8 depth n s []
 else if 31 < kind then Zix true (kind - 31) n depth s else Zix false (kind - 8) n depth s
theorem Zok {m n o p:Nat}:∀ (d i:Nat) (r:List Bool) (acc:List Int),(Wt m n o p d i r acc).1.length ≤ acc.length + d * (n / 2 ^ p)
 | 0,_,r,acc => by simp [Wt]
 | d + 1,i,r,acc => by
  unfold Wt
  have hle:(n / 2 ^ p - if i = 0 then o else 0) ≤ n / 2 ^ p:=Nat.sub_le _ _
  generalize (n / 2 ^ p - if i = 0 then o else 0) = cnt at hle ⊢
  have h1:=ZwC m cnt r
  rw [Nat.add_mul,Nat.one_mul]
  split
  ·simp
  ·have:=Zok (m:=m) (n:=n) (o:=o) (p:=p) d (i + 1) (YB m cnt r).2.2 (acc ++ (YB m cnt r).1)
   grind
theorem ZwM {n o:Nat} (r:List Bool):(Kt n o r).1.length ≤ n:=by
 unfold Kt
 repeat' split
 all_goals try simp
 rename_i hf
 have hf:Zfm n o (ZT 4 (ZT 2 r).2.2).1 = true:=by simpa using hf
 unfold Zfm at hf
 simp only [Bool.and_eq_true,decide_eq_true_eq] at hf
 have:=Zok (m:=(ZT 2 r).1) (n:=n) (o:=o) (p:=(ZT 4 (ZT 2 r).2.2).1) (2 ^ (ZT 4 (ZT 2 r).2.2).1) 0 (ZT 4 (ZT 2 r).2.2).2.2 []
 rw [List.length_nil,Nat.zero_add] at this
 refine Nat.le_trans this ?_
 rw [Nat.mul_comm]
 exact Nat.div_mul_le_self _ _
theorem Zcv {ok:Bool} {s:IS} {code:Int} (hc:code ≠ 0):(mI ok s code).2 = 0 ↔ s.2 = 0 ∧ ok = true:=by
 unfold mI
 grind
theorem ZmE {d:Nat} {s:IS} (h:(ZY d s).2.2.2 = 0):(ZY d s).2.1 < d ∧ ZdJ (ZY d s).1 = true:=by
 unfold ZY at h ⊢
 have hk:(Y8 (ZcG s)).2.2 = 0 → ZdJ (Y8 (ZcG s)).1 = true:=fun h => ((Zcv (by decide)).1 h).2
 generalize (Y8 (ZcG s)).1 = kind at h hk ⊢
 generalize (Y8 (ZcG s)).2 = s2 at h hk ⊢
 have g0:(gI 1 s2).2.2 = 0 → s2.2 = 0:=by
  unfold gI
  grind
 unfold ZdY at h ⊢
 split
 ·rename_i hc
  rw [if_pos hc] at h
  have:=(Zcv (by decide)).1 h
  simp_all
 ·rename_i hc
  rw [if_neg hc] at h
  have:=(Zcv (by decide)).1 h
  simp_all
theorem ZqE {b:List Int} {coefs warm:List Int} {sh:Int} {c n:Nat} {s:IS} (h:Zl b s.1):Zl b (ZcX coefs sh c n warm s).2.1:=by
 unfold ZcX
 split
 ·exact ZtR h _ _
 ·exact ZtR h _ _
theorem ZuK {coefs warm:List Int} {sh:Int} {c n:Nat} {s:IS}:(ZcX coefs sh c n warm s).1.length ≤ warm.length + n:=by
 unfold ZcX
 split
 ·simp
 ·have h1:=ZwM (n:=n) (o:=c) s.1
  simp only
  unfold ZaC
  repeat' split
  all_goals try simp
  have:=ZwL (c:=coefs) (sh:=sh) (Kt n c s.1).1 warm
  omega
theorem ZqO {b:List Int} {s:IS} (h:Zl b s.1):Zl b (Zbi s).1:=QI (QN h _) _ _
theorem ZqP {b:List Int} {s:IS} (h:Zl b s.1):Zl b (WQ s).2.1:=QI (QN h _) _ _
theorem ZDs {b:List Int} {c n:Nat} {warm:List Int} {sh:Nat} {x:List Int × IS} (h:Zl b x.2.1):Zl b (Zfc c n warm sh x).2.1:=by
 unfold Zfc
 split
 ·exact h
 ·exact ZqE h
theorem ZDt {b:List Int} {num:Bool} {c n:Nat} {w:List Int × IS} (h:Zl b w.2.1):Zl b (Zb6 num c n w).2.1:=by
 unfold Zb6
 split
 ·exact ZDs (X9 _ _ _ (ZqP (ZqO h)))
 ·split
  ·exact h
  ·exact ZqE h
theorem ZqD {b:List Int} {num:Bool} {c n d:Nat} {s:IS} (h:Zl b s.1):Zl b (Zix num c n d s).2.1:=by
 unfold Zix
 split
 ·exact QI h _ _
 ·exact ZDt (X9 _ _ _ (QI h _ _))
theorem ZDr {b:List Int} {kind n d:Nat} {s:IS} (h:Zl b s.1):Zl b (W5 kind n d s).2.1:=by
 unfold W5
 split
 ·exact X9 _ _ _ h
 ·split
  ·exact X9 _ _ _ h
  ·split
   ·exact ZqD h
   ·exact ZqD h
theorem ZuI {num:Bool} {c n d:Nat} {s:IS} (hc:c ≤ 8):(Zix num c n d s).1.length ≤ 8 + n:=by
 unfold Zix
 split
 ·simp
 ·have hl:=Zay (w:=d) c (mI (decide (c ≤ n)) s 2) []
  generalize X8 d c (mI (decide (c ≤ n)) s 2) [] = w at hl
  simp only [List.length_nil,Nat.zero_add] at hl
  unfold Zb6 Zfc
  repeat' split
  all_goals try simp
  ·have:=ZuK (coefs:=(X8 12 c (WQ (Zbi w.2)).2 []).1) (warm:=w.1) (sh:=((WQ (Zbi w.2)).1:Nat)) (c:=c) (n:=n) (s:=(X8 12 c (WQ (Zbi w.2)).2 []).2)
   omega
  ·have:=ZuK (coefs:=XQ (min 4 c)) (warm:=w.1) (sh:=0) (c:=c) (n:=n) (s:=w.2)
   omega
theorem ZuH {kind n d:Nat} {s:IS} (hk:ZdJ kind = true):(W5 kind n d s).1.length ≤ 8 + n:=by
 have hk:=of_decide_eq_true hk
 unfold W5
 split
 ·simp
 ·split
  ·rw [Zay]; simp
  ·split
   ·exact ZuI (by omega)
   ·exact ZuI (by omega)
abbrev BT:=List Int × ((List Int × Int × Unit) × Int × Unit) × Unit
theorem ZUK (k:Nat) {b:List Int} (hb:Zz b = true) (hn:b.length < 268435456) (hk:8 * b.length + 50000 < k) {s:IS} (hs:Zl b s.1) {coefs warm:List Int} (hco:coefs.length ≤ 8192) (hw:warm.length ≤ 8) {sh:Int} {n c:Nat} (hnn:n ≤ 512) :
  ((ZcM k (Ku b s.1,(n:Int),(c:Int),())).bind fun y_2 => bif y_2.1.2.1 != (0:Int) then some (([],((y_2.2.1.1,y_2.2.1.2.1,()),y_2.1.2.1,()),()):BT) else (ZcN k ((coefs,sh,()),warm,y_2.1.1,())).bind fun y => some (y.1.1,((y_2.2.1.1,y_2.2.1.2.1,()),y.1.2.1,()),())) =
   some ((ZcX coefs sh c n warm s).1,(Ku b (ZcX coefs sh c n warm s).2.1,(ZcX coefs sh c n warm s).2.2,()),()):=by
 refine (Zm (ZI4 k hb hn hs hk n c) _).trans ?_
 unfold ZcX
 simp only
 rw [ZK]
 by_cases h:(Kt n c s.1).2.1 = 0
 ·rw [Zo (by simpa using h),if_neg (by simpa using h)]
  have hl:=ZwM (n:=n) (o:=c) s.1
  exact Zm (ZI6 k (by omega) hco (by omega) (by omega)) _
 ·rw [Zc h,if_pos h]
theorem ZPk (k:Nat) {b:List Int} (hb:Zz b = true) (hn:b.length < 268435456) (hk:8 * b.length + 50000 < k) {s:IS} (hs:Zl b s.1) {kind n d:Nat} (hkd:ZdJ kind = true) (h1:1 ≤ n) (hnn:n ≤ 512) (hd:d ≤ 32) :
  ZBO k ((Ku b s.1,s.2,()),(kind:Int),(n:Int),(d:Int),()) = some ((W5 kind n d s).1,(Ku b (W5 kind n d s).2.1,(W5 kind n d s).2.2,()),()):=by
 show Zl6 k _ = _
 simp only [Zl6]
 have hkd:=of_decide_eq_true hkd
 unfold W5
 rw [ZU,ZU]
 by_cases h0:kind = 0
 ·rw [Zc (by omega),if_pos h0]
  refine (Zm (Zdc k hb hn (by omega) hs (w:=d) (n:=1) hd (by omega)) _).trans ?_
  have hl:=Zay (w:=d) 1 s []
  generalize X8 d 1 s [] = w at hl
  obtain ⟨w1,w2⟩:=w
  match w1,hl with
  | [x],_ =>
   refine (Zm (ZI0 k x h1 hnn (by omega)) _).trans ?_
   rfl
 ·rw [Zo (by omega),if_neg h0]
  by_cases hk1:kind = 1
  ·rw [Zc (by omega),if_pos hk1]
   exact Zm (Zdc k hb hn (by omega) hs (w:=d) (n:=n) hd hnn) _
  ·rw [Zo (by omega),if_neg hk1]
   by_cases h31:31 < kind
   ·simp only [Zc (show (31:Int) < (kind:Int) by omega)]
    rw [if_pos h31]
    have ec:IntKind.i64.wrap ((kind:Int) - 31) = ((kind - 31:Nat):Int):=by rw [Qe (by omega)]; omega
    simp only [ec]
    have hc8:kind - 31 ≤ 8:=by omega
    generalize kind - 31 = c at hc8
    have edn:decide ((c:Int) ≤ (n:Int)) = decide (c ≤ n):=by
     simp_all
    rw [edn]
    refine (Zm (Y2 k (s:=s) _) _).trans ?_
    unfold Zix
    have r1:=QI hs (decide (c ≤ n)) 2
    generalize mI (decide (c ≤ n)) s 2 = s1 at r1 ⊢
    simp only
    rw [ZK]
    by_cases he:s1.2 = 0
    ·rw [Zo (by simpa using he),if_neg (show ¬ s1.2 ≠ 0 by simpa using he)]
     refine (Zm (Zdc k hb hn (by omega) r1 (w:=d) (n:=c) hd (by omega)) _).trans ?_
     have r2:=X9 (w:=d) c s1 [] r1
     have hl:=Zay (w:=d) c s1 []
     generalize X8 d c s1 [] = w at r2 hl ⊢
     simp only [List.length_nil,Nat.zero_add] at hl
     have e4:(if (4:Int) < (c:Int) then (4:Int) else (c:Int)) = ((min 4 c:Nat):Int):=by split <;> omega
     simp only
     rw [e4]
     refine (Zm (Zm6 k (min 4 c) (by omega) (by omega)) _).trans ?_
     unfold Zb6
     rw [if_pos rfl]
     refine (Zm (Zc9 k hb hn (by omega) r2 (w:=4) (by omega)) _).trans ?_
     refine (Zm (Y2 k (s:=(gI 4 w.2).2) _) _).trans ?_
     rw [show ((((gI 4 w.2).1:Nat):Int) == (11:Int)) = ((gI 4 w.2).1 == 11) from WB _ 11]
     have r3:=ZqO r2
     change ((Kc k ((Ku b (Zbi w.2).1,(Zbi w.2).2,()),5,())).bind _) = _
     generalize Zbi w.2 = s3 at r3 ⊢
     refine (Zm (Zc9 k hb hn (by omega) r3 (w:=5) (by omega)) _).trans ?_
     refine (Zm (Y2 k (s:=(gI 5 s3).2) _) _).trans ?_
     have e15:decide ((((gI 5 s3).1:Nat):Int) ≤ 15) = decide ((gI 5 s3).1 ≤ 15):=by
      grind
     rw [e15]
     have r4:=ZqP r3
     change ((Zbm k ((Ku b (WQ s3).2.1,(WQ s3).2.2,()),(c:Int),12,())).bind fun y_6 => bif y_6.2.1.2.1 != (0:Int) then some (([],((y_6.2.1.1.1,y_6.2.1.1.2.1,()),y_6.2.1.2.1,()),()):BT) else (ZcM k ((y_6.2.1.1.1,y_6.2.1.1.2.1,()),(n:Int),(c:Int),())).bind fun y_7 => bif y_7.1.2.1 != (0:Int) then some ([],((y_7.2.1.1,y_7.2.1.2.1,()),y_7.1.2.1,()),()) else (ZcN k ((y_6.1,(((WQ s3).1:Nat):Int),()),w.1,y_7.1.1,())).bind fun y => some (y.1.1,((y_7.2.1.1,y_7.2.1.2.1,()),y.1.2.1,()),())) = _
     generalize (WQ s3).1 = sh
     generalize (WQ s3).2 = s4 at r4 ⊢
     refine (Zm (Zdc k hb hn (by omega) r4 (w:=12) (n:=c) (by omega) (by omega)) _).trans ?_
     have r5:=X9 (w:=12) c s4 [] r4
     have hl5:=Zay (w:=12) c s4 []
     generalize X8 12 c s4 [] = x at r5 hl5 ⊢
     simp only [List.length_nil,Nat.zero_add] at hl5
     unfold Zfc
     simp only
     rw [ZK]
     by_cases hx:x.2.2 = 0
     ·rw [Zo (by simpa using hx),if_neg (by simpa using hx)]
      exact ZUK k hb hn hk r5 (by omega) (by omega) hnn
     ·rw [Zc hx,if_pos hx]
    ·rw [Zc he,if_pos he]
   ·simp only [Zo (show ¬ (31:Int) < (kind:Int) by omega)]
    rw [if_neg h31]
    have ec:IntKind.i64.wrap ((kind:Int) - 8) = ((kind - 8:Nat):Int):=by rw [Qe (by omega)]; omega
    simp only [ec]
    have hc8:kind - 8 ≤ 4:=by omega
    generalize kind - 8 = c at hc8
    have edn:decide ((c:Int) ≤ (n:Int)) = decide (c ≤ n):=by
     simp_all
    rw [edn]
    refine (Zm (Y2 k (s:=s) _) _).trans ?_
    unfold Zix
    have r1:=QI hs (decide (c ≤ n)) 2
    generalize mI (decide (c ≤ n)) s 2 = s1 at r1 ⊢
    simp only
    rw [ZK]
    by_cases he:s1.2 = 0
    ·rw [Zo (by simpa using he),if_neg (show ¬ s1.2 ≠ 0 by simpa using he)]
     refine (Zm (Zdc k hb hn (by omega) r1 (w:=d) (n:=c) hd (by omega)) _).trans ?_
     have r2:=X9 (w:=d) c s1 [] r1
     have hl:=Zay (w:=d) c s1 []
     generalize X8 d c s1 [] = w at r2 hl ⊢
     simp only [List.length_nil,Nat.zero_add] at hl
     have e4:(if (4:Int) < (c:Int) then (4:Int) else (c:Int)) = ((min 4 c:Nat):Int):=by split <;> omega
     simp only
     rw [e4]
     refine (Zm (Zm6 k (min 4 c) (by omega) (by omega)) _).trans ?_
     unfold Zb6
     rw [if_neg (by simp)]
     simp only
     rw [ZK]
     by_cases hx:w.2.2 = 0
     ·rw [Zo (by simpa using hx),if_neg (by simpa using hx)]
      exact ZUK k hb hn hk r2 (by rw [Zs2 _ (by omega)]; omega) (by omega) hnn
     ·rw [Zc hx,if_pos hx]
    ·rw [Zc he,if_pos he]
def QX (n d:Nat) (r:List Bool):List Int × Int × List Bool :=
 if ¬ (1 ≤ n ∧ n ≤ 512 ∧ 4 ≤ d ∧ d ≤ 25) then ([],1,r)
 else if (ZY d (r,0)).2.2.2 ≠ 0 then ([],(ZY d (r,0)).2.2.2,(ZY d (r,0)).2.2.1)
 else if (W5 (ZY d (r,0)).1 n (d - (ZY d (r,0)).2.1) (ZY d (r,0)).2.2).2.2 ≠ 0 then ([],(W5 (ZY d (r,0)).1 n (d - (ZY d (r,0)).2.1) (ZY d (r,0)).2.2).2.2,(W5 (ZY d (r,0)).1 n (d - (ZY d (r,0)).2.1) (ZY d (r,0)).2.2).2.1)
 else if (W5 (ZY d (r,0)).1 n (d - (ZY d (r,0)).2.1) (ZY d (r,0)).2.2).1.all (XG · (d - (ZY d (r,0)).2.1)) = true then
  ((W5 (ZY d (r,0)).1 n (d - (ZY d (r,0)).2.1) (ZY d (r,0)).2.2).1.map (fun x => x * 2 ^ (ZY d (r,0)).2.1),0,(W5 (ZY d (r,0)).1 n (d - (ZY d (r,0)).2.1) (ZY d (r,0)).2.2).2.1)
 else ([],12,(W5 (ZY d (r,0)).1 n (d - (ZY d (r,0)).2.1) (ZY d (r,0)).2.2).2.1)
theorem ZuE {b:List Int} {r:List Bool} (h:Zl b r) (n d:Nat):Zl b (QX n d r).2.2:=by
 unfold QX
 have h1:=ZmD (s:=(r,0)) h d
 repeat' split
 all_goals first | exact h | exact h1 | exact ZDr h1
theorem ZHQ {x:Int} {d k:Nat} (hk:k < d) (hd:d ≤ 32) (h:XG x (d - k) = true):XG (x * 2 ^ k) d = true ∧ -9223372036854775808 ≤ x * 2 ^ k ∧ x * 2 ^ k ≤ 9223372036854775807:=by
 unfold XG at h ⊢
 rw [if_neg (by omega),decide_eq_true_eq] at h
 rw [if_neg (by omega),decide_eq_true_eq]
 have hp:(0:Int) < 2 ^ k:=Int.pow_pos (by omega)
 have e:(2:Int) ^ (d - 1) = 2 ^ (d - k - 1) * 2 ^ k:=by rw [← Int.pow_add]; congr 1; omega
 have h1 : -(2 ^ (d - 1):Int) ≤ x * 2 ^ k:=by rw [e,← Int.neg_mul]; simp_all
 have h2:x * 2 ^ k < 2 ^ (d - 1):=by simp_all
 refine ⟨⟨h1,h2⟩,?_⟩
 rw [XU (d - 1)] at h1 h2
 have:2 ^ (d - 1) ≤ 2 ^ 31:=Nat.pow_le_pow_right (by omega) (by omega)
 omega
theorem ZOH (k:Nat) {b:List Int} (hb:Zz b = true) (hn:b.length < 268435456) (hk:8 * b.length + 50000 < k) {r:List Bool} (hr:Zl b r) (n d:Nat) :
  ZBy k (Ku b r,(n:Int),(d:Int),()) = some (((QX n d r).1,(QX n d r).2.1,()),Ku b (QX n d r).2.2,()):=by
 show ZlF k (ZyC k) _ = _
 simp only [ZlF]
 rw [ZBM]
 simp only [Z3]
 unfold QX
 by_cases h:1 ≤ n ∧ n ≤ 512 ∧ 4 ≤ d ∧ d ≤ 25
 ·rw [if_neg (by simpa using h),dTr (by omega)]
  simp only [Bool.not_true,cond_false]
  refine (Zm (ZPj k hb hn (by omega) (s:=(r,0)) hr d) _).trans ?_
  have hz:=ZmE (d:=d) (s:=(r,0))
  have r1:=ZmD (s:=(r,0)) hr d
  generalize ZY d (r,0) = hd at hz r1 ⊢
  obtain ⟨kind,kk,s1⟩:=hd
  simp only at hz r1 ⊢
  rw [ZK]
  by_cases he:s1.2 = 0
  ·rw [Zo (by simpa using he),if_neg (by simpa using he)]
   obtain ⟨hkd,hkind⟩:=hz he
   have e1:IntKind.i64.wrap ((d:Int) - (kk:Int)) = ((d - kk:Nat):Int):=by rw [Qe (by omega)]; omega
   rw [e1]
   refine (Zm (ZPk k hb hn hk r1 hkind h.1 h.2.1 (d:=d - kk) (by omega)) _).trans ?_
   have hl:=ZuH (kind:=kind) (n:=n) (d:=d - kk) (s:=s1) hkind
   generalize W5 kind n (d - kk) s1 = y at hl ⊢
   simp only
   rw [ZK]
   by_cases hy:y.2.2 = 0
   ·rw [Zo (by simpa using hy),if_neg (by simpa using hy)]
    have:=Zy (A:=List Int) (R:=(List Int × Int × Unit) × (List Int × Int × Unit) × Unit) (step:=fun L1 => Zgc k L1)
     (fun i out => (Int.ofNat y.1.length,Int.ofNat i,y.1,(d:Int),(kk:Int),b,((ZR b y.2.1:Nat):Int),out)) y.1
     (fun l' out => some (if l'.all (XG · (d - kk)) = true then ((out ++ l'.map (fun x => x * 2 ^ kk),0,()),Ku b y.2.1,()) else (([],12,()),Ku b y.2.1,())))
     (fun i out => out.length = i)
     (fun L out _ => by grind [Zgc])
     (fun L i hi out ho hL => by
      simp only [Zgc]
      rw [Zc (ltR hi),Zc (YI hi),ZM hi,e1,ZBP k _ (by omega) (by omega)]
      simp only [Z3]
      rw [List.all_cons]
      cases hs:XG y.1[i] (d - kk) with
      | false => simp
      | true =>
       simp only [Bool.not_true,cond_false,Bool.true_and]
       have hsh:=(ZHQ hkd (by omega) hs).2
       rw [Zc (by omega),Xw,Nat.min_eq_left (by omega),Qe hsh,Zc (by grind),Qr hi (by omega),hL _ (by simp; omega)]
       grind)
     k 0 [] rfl (by omega) (Nat.zero_le _)
    rw [List.drop_zero] at this
    refine Eq.trans this ?_
    split <;> simp
   ·rw [Zc hy,if_pos hy]
  ·rw [Zc he,if_pos he]
 grind
end Go.Sh
namespace Go.Sh
open Go Go.Proofs
def Zb3 (x:Nat):Nat:=if x < 128 then 0 else if x < 192 then 1 else if x < 224 then 2 else if x < 240 then 3 else if x < 248 then 4 else if x < 252 then 5 else if x < 254 then 6 else if x < 255 then 7 else 8
theorem ZPT:∀ x:Fin 256,Znt 0 (IntKind.u8.wrap (Int.ofNat (BitVec.ofInt 8 255 ^^^ BitVec.ofInt 8 (x.val:Int)).toNat),()) = some (((Zb3 x.val:Nat):Int),()):=by decide +kernel
theorem ZJs (k:Nat) {x:Nat} (h:x < 256):Znt k (IntKind.u8.wrap (Int.ofNat (BitVec.ofInt 8 255 ^^^ BitVec.ofInt 8 (x:Int)).toNat),()) = some (((Zb3 x:Nat):Int),()):=ZPT ⟨x,h⟩
theorem ZTT (x:Nat):Zb3 x ≤ 8:=by
 unfold Zb3
 repeat' split
 all_goals omega
theorem ZPG:∀ (x:Fin 256) (k:Fin 8),IntKind.i64.wrap (Int.ofNat (BitVec.ofInt 64 (IntKind.i64.wrap (x.val:Int)) &&& BitVec.ofInt 64 (Int.fdiv (127:Int) ((2:Int) ^ min k.val 64))).toNat) = ((x.val % 2 ^ (7 - k.val):Nat):Int):=by decide +kernel
def cgL:Nat → List Int → Nat → Nat → Option (Nat × Nat)
 | 0,_,a,g => some (a,g)
 | n + 1,[],a,g => cgL n [] (a * 64) (g * 64 + 63)
 | n + 1,x :: xs,a,g => if x.toNat / 64 = 2 then cgL n xs (a * 64 + x.toNat % 64) (g * 64 + x.toNat % 64) else none
def Zb1 (b:List Int):Nat × Nat × Int:=match b with
 | [] => (0,0,10)
 | x :: xs => if Zb3 x.toNat = 0 then (x.toNat,1,0) else if Zb3 x.toNat = 1 then (0,0,2) else if 7 < Zb3 x.toNat then (0,0,2)
  else match cgL (Zb3 x.toNat - 1) xs (x.toNat % 2 ^ (7 - Zb3 x.toNat)) (x.toNat % 2 ^ (7 - Zb3 x.toNat)) with
   | none => (0,0,2)
   | some (a,g) => if g < 2 ^ Y9 (Zb3 x.toNat - 1) then (0,0,2) else if xs.length + 1 < Zb3 x.toNat then (0,0,10) else (a,Zb3 x.toNat,0)
theorem ZTX {a m:Nat} (ha:a < 1125899906842624) (hm:m < 64):IntKind.i64.wrap (Int.ofNat (BitVec.ofInt 64 (IntKind.i64.wrap ((a:Int) * 64)) ||| BitVec.ofInt 64 (m:Int)).toNat) = ((a * 64 + m:Nat):Int):=by
 have h1:IntKind.i64.wrap ((a:Int) * 64) = ((a * 64:Nat):Int):=by rw [Qe (by omega)]; omega
 rw [h1,orN (by omega) (by omega)]
 have:=Nat.shiftLeft_add_eq_or_of_lt (i:=6) (show m < 2 ^ 6 from hm) a
 rw [Nat.shiftLeft_eq] at this
 rw [show a * 64 = a * 2 ^ 6 from rfl,← this,Qe (by omega)]
theorem ZXU {x:Nat} (hx:x < 256):IntKind.i64.wrap (Int.ofNat (BitVec.ofInt 64 (IntKind.i64.wrap (x:Int)) &&& BitVec.ofInt 64 63).toNat) = ((x % 64:Nat):Int):=by
 rw [Qe (n:=(x:Int)) (by omega),show (63:Int) = ((63:Nat):Int) from rfl,ZHZ (by omega) (by omega),show (63:Nat) = 2 ^ 6 - 1 from rfl,Nat.and_two_pow_sub_one_eq_mod,Qe (by omega)]
theorem ZIT (k:Nat) {b:List Int} (hb:Zz b = true) {kk:Nat} (h2:2 ≤ kk) (h7:kk ≤ 7):∀ (d m i a g:Nat),i + d = kk → 1 ≤ i → d < m → a < 2 ^ (6 * i + 6) → g < 2 ^ (6 * i + 6) →
  Zn (fun L1 => Zc8 k L1) m ((i:Int),(kk:Int),b,(a:Int),(g:Int)) = some (match cgL d (b.drop i) a g with
   | none => (0,0,2,())
   | some (a,g) => if g < 2 ^ Y9 (kk - 1) then (0,0,2,()) else if b.length < kk then (0,0,10,()) else ((a:Int),(kk:Int),0,()),()):=by
 intro d
 induction d with
 | zero =>
  intro m i a g hi h1 hm ha hg
  obtain ⟨m,rfl⟩:=ZE hm
  rw [Ze]
  simp only [Zc8]
  have e1:IntKind.i64.wrap ((kk:Int) - 1) = ((kk - 1:Nat):Int):=by rw [Qe (by omega)]; omega
  rw [Zo (by omega),e1,ZsV k (kk - 1) (by omega)]
  simp only [Z3,cgL]
  have hr:Y9 (kk - 1) ≤ 31:=by unfold Y9; split <;> omega
  rw [Zc (by omega),Zqh hr]
  grind
 | succ d ih =>
  intro m i a g hi h1 hm ha hg
  obtain ⟨m,rfl⟩:=ZE (show 0 < m by omega)
  rw [Ze]
  simp only [Zc8]
  have hpow:2 ^ (6 * i + 6) ≤ 2 ^ 42:=Nat.pow_le_pow_right (by omega) (by omega)
  have hnext:2 ^ (6 * (i + 1) + 6) = 64 * 2 ^ (6 * i + 6):=by grind
  have e2:IntKind.i64.wrap ((i:Int) + 1) = ((i + 1:Nat):Int):=by rw [Qe (by omega)]; rfl
  rw [Zc (by omega)]
  by_cases hlt:i < b.length
  ·obtain ⟨x,hx,hxe⟩:=Zbh hb hlt
   rw [Zc (by simp only [QS]; omega),Zc (by simp only [QS]; omega),Xw,Wv hlt,hxe,List.drop_eq_getElem_cons hlt,hxe]
   have hd:((x:Nat):Int).fdiv 64 = ((x / 64:Nat):Int):=by grind
   rw [hd,ZK]
   simp only [cgL,Xw]
   by_cases h64:x / 64 = 2
   ·rw [Zo (by omega),if_pos h64,Zc (by simp only [QS]; omega),ZXU hx,ZTX (by omega) (by omega),ZTX (by omega) (by omega),e2]
    exact ih m (i + 1) _ _ (by omega) (by omega) (by omega) (by omega) (by omega)
   ·rw [Zc (by omega),if_neg h64]
  ·rw [Zo (by simp only [QS]; omega),show (0:Int) = ((0:Nat):Int) from rfl,show (63:Int) = ((63:Nat):Int) from rfl,ZTX (by omega) (by omega),ZTX (by omega) (by omega),e2]
   have hd0:b.drop i = []:=List.drop_eq_nil_of_le (by omega)
   have hd1:b.drop (i + 1) = []:=List.drop_eq_nil_of_le (by omega)
   have:=ih m (i + 1) (a * 64 + 0) (g * 64 + 63) (by omega) (by omega) (by omega) (by omega) (by omega)
   rw [hd1] at this
   rw [hd0]
   exact this
theorem ZIU (k:Nat) {b:List Int} (hb:Zz b = true) (hk:20 < k):Zq9 k (b,()) = some (((((Zb1 b).1:Nat):Int),(((Zb1 b).2.1:Nat):Int),(Zb1 b).2.2,()),()):=by
 show Zhs k (Zpv k) _ = _
 simp only [Zhs]
 match b,hb with
 | [],_ => rfl
 | x :: xs,hb =>
  obtain ⟨y,hy,hye⟩:=Zbh hb (i:=0) (by simp)
  simp only [List.getElem_cons_zero] at hye
  subst hye
  rw [show (Int.ofNat ((y:Int) :: xs).length == (0:Int)) = false from by rfl]
  simp only [cond_false]
  have hpos:(0:Int) ≤ 0 ∧ (0:Int) < Int.ofNat ((y:Int) :: xs).length:=by simp_all
  rw [Zc hpos,show ((y:Int) :: xs).getD 0 0 = (y:Int) from rfl,ZJs k hy]
  simp only [Z3]
  unfold Zb1
  simp only [Xw]
  have h8:=ZTT y
  rw [ZU]
  by_cases h0:Zb3 y = 0
  ·rw [Zc (by omega),Zc hpos,if_pos h0,Qe (by omega)]
   rfl
  ·rw [Zo (by omega),if_neg h0,ZU]
   by_cases h1:Zb3 y = 1
   ·simp_all
   ·rw [Zo (by omega),if_neg h1]
    by_cases h7:7 < Zb3 y
    ·grind
    ·rw [Zo (by omega),if_neg h7,Zc hpos,Zc (by omega),Zc hpos,Zc (by omega)]
     have hm:=ZPG ⟨y,hy⟩ ⟨Zb3 y,by omega⟩
     simp only at hm
     rw [hm]
     have hlt:y % 2 ^ (7 - Zb3 y) < 2 ^ (6 * 1 + 6):=Nat.lt_of_le_of_lt (Nat.mod_le _ _) (by omega)
     refine (ZIT k hb (kk:=Zb3 y) (by omega) (by omega) (Zb3 y - 1) k 1 _ _ (by omega) (by omega) (by omega) hlt hlt).trans ?_
     grind
def tgL (m x y:Int):Int:=if m = 9 then x + y else if m = 10 then (2 * x + y % 2 + y) / 2 else x
def tgR (m x y:Int):Int:=if m = 8 then x - y else if m = 10 then (2 * x + y % 2 - y) / 2 else y
theorem ZXq {x y:Int} (hx:QD x) (hy:QD y):IntKind.i64.wrap (Int.ofNat (BitVec.ofInt 64 (IntKind.i64.wrap (x * 2)) ||| BitVec.ofInt 64 (IntKind.i64.wrap (Int.ofNat (BitVec.ofInt 64 y &&& BitVec.ofInt 64 1).toNat))).toNat) = 2 * x + y % 2:=by
 unfold QD at hx hy
 have e1:IntKind.i64.wrap (Int.ofNat (BitVec.ofInt 64 y &&& BitVec.ofInt 64 1).toNat) = (((y % 2).toNat:Nat):Int):=by
  rw [BitVec.toNat_and,ZaA,show (BitVec.ofInt 64 1).toNat = 1 from rfl,Nat.and_one_is_mod]
  have:Za0 y % 2 = (y % 2).toNat:=by unfold Za0; omega
  rw [this,Qe (by simp only [QS]; omega)]
  rfl
 rw [e1,Qe (n:=x * 2) (by omega),BitVec.toNat_or,ZaA,ZaA]
 have e2:Za0 (((y % 2).toNat:Nat):Int) = (y % 2).toNat:=by unfold Za0; omega
 obtain ⟨q,hq⟩:∃ q,Za0 (x * 2) = q * 2:=⟨Za0 (x * 2) / 2,by unfold Za0; omega⟩
 have hb:(y % 2).toNat < 2 ^ 1:=by omega
 have:=Nat.shiftLeft_add_eq_or_of_lt hb q
 rw [Nat.shiftLeft_eq] at this
 rw [e2,hq,show q * 2 = q * 2 ^ 1 from rfl,← this]
 have h3:q * 2 = Za0 (x * 2):=hq.symm
 unfold Za0 at h3
 rw [IntKind.wrap_i64]
 grind
def Ziv (m:Int) (A B:List Int):List Int:=(A.zip B).map fun x => tgL m x.1 x.2
def Ziw (m:Int) (A B:List Int):List Int:=(A.zip B).map fun x => tgR m x.1 x.2
def ZbK (x:Int):Bool:=decide (-16777216 ≤ x ∧ x ≤ 16777216)
theorem ZTl (k:Nat) {L R:List Int} (hk:L.length < k) (h:L.length = R.length) (hn:L.length ≤ 8192) :
  ZsN k (L,R,()) = some (if (L.zip R).all (fun x => ZbK x.1 && ZbK x.2) = true then (ZgD L R,0,()) else ([],12,()),()):=by
 show ZdE k (ZsO k) _ = _
 simp only [ZdE]
 rw [show (Int.ofNat L.length != Int.ofNat R.length) = false from by rw [h]; simp]
 simp only [cond_false]
 rw [Zo (by simp only [QS]; omega)]
 have:=Zy (A:=List (Nat × Nat)) (step:=fun L1 => Zat k L1) (fun i acc => (Int.ofNat L.length,Int.ofNat i,L,R,acc)) (L.zip R)
  (fun l acc => some (if l.all (fun x => ZbK x.1 && ZbK x.2) = true then (acc ++ l.map (fun x => (FloatKind.f64.nearest x.1,FloatKind.f64.nearest x.2)),0,()) else ([],12,()),())) (fun i acc => acc.length = i)
  (fun L1 acc ha => by
   grind [Zat])
  (fun L1 i hi acc ha hL1 => by
   have hi2:i < L.length:=by simp at hi; omega
   have hi3:i < R.length:=by omega
   simp only [Zat]
   rw [Zc (ltR hi2),Zc (YI hi2),Zc (YI hi3),ZM hi2,ZM hi3,List.all_cons,List.getElem_zip]
   have hok:∀ x:Int,ZbK x = true ↔ (¬ x < -16777216 ∧ ¬ 16777216 < x):=by intro x; unfold ZbK; rw [decide_eq_true_eq]; omega
   by_cases h1:L[i] < -16777216
   ·grind
   ·rw [Zo h1]
    by_cases h2:16777216 < L[i]
    ·grind
    ·have hl:ZbK L[i] = true:=(hok _).2 ⟨h1,h2⟩
     rw [Zo h2]
     by_cases h3:R[i] < -16777216
     ·grind
     ·rw [Zo h3]
      by_cases h4:16777216 < R[i]
      ·grind
      ·have hr:ZbK R[i] = true:=(hok _).2 ⟨h3,h4⟩
       rw [Zo h4,Zc (by simp; omega),Qr hi2 (by omega),hL1 _ (by simp [ha]),hl,hr]
       grind) k 0 [] rfl (by simp; omega) (Nat.zero_le _)
 exact Eq.trans this (by rw [List.drop_zero]; rfl)
theorem ZQo {m x y:Int} (hm:Zmg m) (hx:QD x) (hy:QD y) : -300000000 ≤ tgL m x y ∧ tgL m x y ≤ 300000000 ∧ -300000000 ≤ tgR m x y ∧ tgR m x y ≤ 300000000:=by
 unfold QD at hx hy
 unfold tgL tgR
 omega
def Wd (m:Int) (A B:List Int):List (Nat × Nat) × Int :=
 if A.length ≠ B.length then ([],1) else if ((Ziv m A B).zip (Ziw m A B)).all (fun x => ZbK x.1 && ZbK x.2) = true then (ZgD (Ziv m A B) (Ziw m A B),0) else ([],12)
theorem ZCB {xs:List Int} {g:List Int} {i:Nat} {v:Int} (h:i < xs.length) (hx:∀ j (h:j < i),xs[j]? = g[j]?) (hv:g[i]? = some v):∀ j,j < i + 1 → (xs.set i v)[j]? = g[j]? := by
 grind
theorem ZON (k:Nat) {A B:List Int} {m:Int} (hm:Zmg m) (hn:A.length ≤ 600) (hk:1000 < k) (hA:∀ x ∈ A,QD x) (hB:∀ x ∈ B,QD x) :
  ZsK k (A,B,m,()) = some (((Wd m A B).1,(Wd m A B).2,()),()):=by
 show ZlI k (ZyH k) _ = _
 simp only [ZlI]
 rw [ZBR k hm]
 simp only [Z3,Bool.not_true,cond_false]
 by_cases hl:A.length = B.length
 case neg =>
  rw [ZK,Zc (by simp only [QS]; omega)]
  unfold Wd
  rw [if_pos hl]
 rw [show (Int.ofNat A.length != Int.ofNat B.length) = false from by rw [hl]; simp]
 simp only [cond_false]
 rw [Zo (by simp only [QS]; omega),Zc (by simp only [QS]; omega),Zc (by simp only [QS]; omega)]
 have hzl:(A.zip B).length = A.length:=by rw [List.length_zip]; omega
 have hLl:(Ziv m A B).length = A.length:=by unfold Ziv; rw [List.length_map,hzl]
 have hRl:(Ziw m A B).length = A.length:=by unfold Ziw; rw [List.length_map,hzl]
 have hgL:∀ (i:Nat) (h:i < A.length),(Ziv m A B)[i]? = some (tgL m A[i] (B[i]'(by omega))):=by
  intro i h
  rw [List.getElem?_eq_getElem (by omega)]
  unfold Ziv
  rw [List.getElem_map,List.getElem_zip]
 have hgR:∀ (i:Nat) (h:i < A.length),(Ziw m A B)[i]? = some (tgR m A[i] (B[i]'(by omega))):=by
  intro i h
  rw [List.getElem?_eq_getElem (by omega)]
  unfold Ziw
  rw [List.getElem_map,List.getElem_zip]
 have:=Zy (A:=List Int × List Int) (R:=(List (Nat × Nat) × Int × Unit) × Unit) (step:=fun L1 => ZdD k L1)
  (fun i a => (Int.ofNat A.length,Int.ofNat i,A,B,m,a.1,a.2)) A
  (fun l' a => some (((Wd m A B).1,(Wd m A B).2,()),()))
  (fun i a => a.1.length = A.length ∧ a.2.length = A.length ∧ (∀ j,j < i → a.1[j]? = (Ziv m A B)[j]?) ∧ (∀ j,j < i → a.2[j]? = (Ziw m A B)[j]?))
  (fun L a ha => by
   simp only [ZdD]
   rw [Zo (Yb _)]
   have e1:a.1 = Ziv m A B:=by
    apply List.ext_getElem?
    grind
   have e2:a.2 = Ziw m A B:=by
    apply List.ext_getElem?
    grind
   rw [e1,e2,ZTl k (by omega) (by omega) (by omega)]
   simp only [Z3]
   unfold Wd
   grind)
  (fun L i hi a ha hL => by
   have hi2:i < B.length:=by omega
   have hx:=hA A[i] (List.getElem_mem hi)
   have hy:=hB B[i] (List.getElem_mem hi2)
   have hbd:=ZQo hm hx hy
   have key:ZdD k L (Int.ofNat A.length,Int.ofNat i,A,B,m,a.1,a.2) = L (Int.ofNat A.length,Int.ofNat (i + 1),A,B,m,a.1.set i (tgL m A[i] B[i]),a.2.set i (tgR m A[i] B[i])):=by
    have hor:=ZXq hx hy
    unfold QD at hx hy
    simp only [ZdD]
    rw [Zc (ltR hi),Zc (YI hi),Zc (YI hi2),ZM hi,ZM hi2,Zo (by split <;> omega),Zo (by split <;> omega)]
    have c1:(0:Int) ≤ Int.ofNat i ∧ Int.ofNat i < Int.ofNat a.1.length:=by rw [ha.1]; exact YI hi
    have c2:(0:Int) ≤ Int.ofNat i ∧ Int.ofNat i < Int.ofNat a.2.length:=by rw [ha.2.1]; exact YI hi
    have c3:(Int.ofNat i).toNat < a.1.length:=by rw [ha.1]; simpa using hi
    have c4:(Int.ofNat i).toNat < a.2.length:=by rw [ha.2.1]; simpa using hi
    rw [ZU,ZU,ZU,ZU]
    simp only [dTr c1,dTr c2,dTr c3,dTr c4,cond_true]
    rw [hor,Qr hi (by omega)]
    unfold tgL tgR
    rcases hm with rfl | rfl | rfl | rfl
    ·rfl
    ·rw [Qe (n:=A[i] - B[i]) (by omega)]; rfl
    ·rw [Qe (n:=A[i] + B[i]) (by omega)]; rfl
    ·rw [Qe (n:=2 * A[i] + B[i] % 2 + B[i]) (by omega),Qe (n:=2 * A[i] + B[i] % 2 - B[i]) (by omega),Int.fdiv_eq_ediv_of_nonneg _ (by omega),Int.fdiv_eq_ediv_of_nonneg _ (by omega)]
     rfl
   rw [key]
   exact hL (a.1.set i (tgL m A[i] B[i]),a.2.set i (tgR m A[i] B[i])) ⟨by simp [ha.1],by simp [ha.2.1],ZCB (by omega) ha.2.2.1 (hgL i hi),ZCB (by omega) ha.2.2.2 (hgR i hi)⟩)
  k 0 (List.replicate A.length 0,List.replicate A.length 0) ⟨by simp,by simp,fun j hj => by omega,fun j hj => by omega⟩ (by omega) (Nat.zero_le _)
 exact this
theorem ZOO (k:Nat) {p:List (Nat × Nat)} {L R:List Int} (hp:PP p L R) (hk:p.length + 4 < k) (hn:p.length ≤ 8192):ZsM k (p,()) = some ((L,R,0,()),()):=by
 show ZlJ k _ = _
 simp only [ZlJ]
 rw [ZsR k hp hk hn (.inl rfl)]
 have hlr:L.length = R.length:=by rw [← hp.hl,hp.hr]
 have e1:Xe 0 L R = L:=by
  unfold Xe
  show (L.zip R).map (fun x => x.1) = L
  exact List.map_fst_zip (by omega)
 have e2:Xf 0 L R = R:=by
  unfold Xf
  show (L.zip R).map (fun x => x.2) = R
  exact List.map_snd_zip (by omega)
 rw [e1,e2]
 rfl
end Go.Sh
namespace Go.Sh
open Go Go.Proofs
abbrev InT:=List Int × (List Int × Int × Unit) × Int × Unit
abbrev inp (b:List Int) (s:IS):InT:=(b,Ku b s.1,s.2,())
theorem Yt (k:Nat) {b:List Int} (hb:Zz b = true) (hn:b.length < 268435456) (hk:100 < k) {s:IS} (hs:Zl b s.1) {w:Nat} (hw:w ≤ 32) :
  WH k (inp b s,(w:Int),()) = some ((((gI w s).1:Nat):Int),inp b (gI w s).2,()):=by
 show Zl0 k _ = _
 simp only [Zl0]
 unfold gI
 rw [ZU]
 by_cases h:s.2 = 0
 ·rw [Zc h,if_pos h,X1 k hb (by omega) hs hw hk]
  rfl
 ·rw [Zo h,if_neg h]
  rfl
theorem WG (k:Nat) {b:List Int} {s:IS} (ok:Bool) (code:Int):Wf k (inp b s,ok,code,()) = some ((),inp b (mI ok s code),()):=by
 show ZlZ k _ = _
 simp only [ZlZ]
 unfold mI
 grind
def ZdN (c:Int) (m:Nat):Bool:=if c = 1 then m == 0 else m == 1 || (decide (8 ≤ m) && decide (m ≤ 10))
theorem ZPf (k:Nat) (c d r:Int) (m:Nat):ZsX k ((c,d,r,()),(m:Int),()) = some (ZdN c m,()):=by
 show Zl1 k _ = _
 simp only [Zl1]
 unfold ZdN
 rw [ZU,show ((m:Int) == (0:Int)) = (m == 0) from WB m 0,show ((m:Int) == (1:Int)) = (m == 1) from WB m 1]
 by_cases h:c = 1
 ·rw [Zc h,if_pos h]
 ·rw [Zo h,if_neg h]
  cases m == 1 with
  | true => rfl
  | false =>
   simp only [cond_false,Bool.false_or]
   by_cases h8:8 ≤ m
   ·rw [Zc (by omega),dTr h8,Bool.true_and]
    simp_all <;> omega
   grind
def ZwR:Nat → IS → IS
 | 0,s => s
 | n + 1,s => ZwR n (gI 8 s).2
theorem ZtW {b:List Int}:∀ (n:Nat) (s:IS),Zl b s.1 → Zl b (ZwR n s).1
 | 0,s,h => h
 | n + 1,s,h => ZtW n _ (QN h 8)
def ZdP (b:List Int) (s:IS):Nat × IS :=
 if s.2 ≠ 0 then (0,s) else ((Zb1 (b.drop (ZR b s.1 / 8))).1,mI (decide ((Zb1 (b.drop (ZR b s.1 / 8))).1 ≤ 2147483647)) (ZwR (Zb1 (b.drop (ZR b s.1 / 8))).2.1 (s.1,(Zb1 (b.drop (ZR b s.1 / 8))).2.2)) 2)
theorem Zwy {b:List Int} {s:IS} (h:Zl b s.1):Zl b (ZdP b s).2.1:=by
 unfold ZdP
 split
 ·exact h
 ·exact QI (ZtW (Zb1 (b.drop (ZR b s.1 / 8))).2.1 (s.1,(Zb1 (b.drop (ZR b s.1 / 8))).2.2) h) _ _
theorem Zoq {b:List Int} (h:Zz b = true) (i:Nat):Zz (b.drop i) = true :=
 List.all_eq_true.2 fun x hx => List.all_eq_true.1 h x (List.mem_of_mem_drop hx)
theorem Zad {b:List Int} (h:Zz b = true) (i:Nat):Zz (b.take i) = true :=
 List.all_eq_true.2 fun x hx => List.all_eq_true.1 h x (List.mem_of_mem_take hx)
theorem ZKp (b:List Int):(Zb1 b).2.1 ≤ 8:=by
 unfold Zb1
 grind
theorem ZPi (k:Nat) {b:List Int} (hb:Zz b = true) (hn:b.length < 268435456) (hk:1000 < k) {s:IS} (hs:Zl b s.1) :
  Zl2 k (inp b s,()) = some ((((ZdP b s).1:Nat):Int),inp b (ZdP b s).2,()):=by
 show Zl3 k (Zy9 k) _ = _
 simp only [Zl3]
 unfold ZdP
 rw [ZK]
 by_cases h:s.2 = 0
 ·rw [Zo (by simpa using h),if_neg (by simpa using h)]
  have e51:Kz k ((b,((ZR b s.1:Nat):Int),()),()) = some (((ZR b s.1:Nat):Int),Ku b s.1,()):=rfl
  rw [e51]
  simp only [Z3]
  have hp:ZR b s.1 ≤ 8 * b.length:=by unfold ZR; omega
  rw [ZwX,Qe (n:=((ZR b s.1 / 8:Nat):Int)) (by omega),Zc (by simp only [QS]; omega),Xw,show (Int.ofNat b.length).toNat = b.length from rfl,List.take_length]
  rw [ZIU k (Zoq hb _) (by omega)]
  simp only [Z3]
  have hu:=ZKp (b.drop (ZR b s.1 / 8))
  generalize Zb1 (b.drop (ZR b s.1 / 8)) = c at hu
  have H:∀ (d m i:Nat) (t:IS),Zl b t.1 → d < m → i + d ≤ 8 →
    Zn (fun L1 => Zgq k L1) m (((i + d:Nat):Int),(i:Int),((c.1:Nat):Int),b,t.2,b,((ZR b t.1:Nat):Int)) = some (((c.1:Nat):Int),inp b (mI (decide (c.1 ≤ 2147483647)) (ZwR d t) 2),()):=by
   intro d
   induction d with
   | zero =>
    intro m i t ht hm hi
    obtain ⟨m,rfl⟩:=ZE hm
    rw [Ze]
    simp only [Zgq]
    rw [Zo (by omega)]
    refine (Zm (WG k (b:=b) (s:=t) _ _) _).trans ?_
    have:decide (((c.1:Nat):Int) ≤ 2147483647) = decide (c.1 ≤ 2147483647):=by
     grind
    rw [this]
    rfl
   | succ d ih =>
    intro m i t ht hm hi
    obtain ⟨m,rfl⟩:=ZE (show 0 < m by omega)
    rw [Ze]
    simp only [Zgq]
    rw [Zc (by omega)]
    refine (Zm (Yt k hb hn (by omega) ht (w:=8) (by omega)) _).trans ?_
    have e2:IntKind.i64.wrap ((i:Int) + 1) = ((i + 1:Nat):Int):=by rw [Qe (by omega)]; rfl
    rw [e2]
    have:=ih m (i + 1) (gI 8 t).2 (QN ht 8) (by omega) (by omega)
    rw [show i + 1 + d = i + (d + 1) by omega] at this
    exact this
  have:=H c.2.1 k 0 (s.1,c.2.2) hs (by omega) (by omega)
  rw [Nat.zero_add] at this
  exact this
 ·rw [Zc h,if_pos h]
  rfl
def ZcV (of:List Int → Nat) (b:List Int) (w:Nat) (s:IS):IS:=if (gI w s).2.2 ≠ 0 then (gI w s).2 else mI ((gI w s).1 == of (b.take (ZR b s.1 / 8))) (gI w s).2 16
theorem ZKV {of:List Int → Nat} {b:List Int} {s:IS} (h:Zl b s.1) (w:Nat):Zl b (ZcV of b w s).1:=by
 unfold ZcV
 split
 ·exact QN h _
 ·exact QI (QN h _) _ _
theorem Xl (s:IS) (code:Int):mI true s code = s:=by unfold mI; rw [if_neg (by simp)]
theorem ZBA (k:Nat) {b:List Int} (hb:Zz b = true) (hn:b.length < 268435456) (hk:b.length + 1000 < k) {s:IS} (hs:Zl b s.1) {w:Nat} (hw:w ≤ 32) :
  ZiD k (inp b s,(w:Int),(),()) = some ((),inp b (ZcV Zeb b w s),()):=by
 show ZlH k _ = _
 simp only [ZlH]
 have e51:Kz k ((b,((ZR b s.1:Nat):Int),()),()) = some (((ZR b s.1:Nat):Int),Ku b s.1,()):=rfl
 rw [e51]
 simp only [Z3]
 refine (Zm (Yt k hb hn (by omega) hs hw) _).trans ?_
 unfold ZcV
 simp only
 rw [ZK]
 by_cases h:(gI w s).2.2 = 0
 ·rw [Zo (by simpa using h),if_neg (by simpa using h)]
  have hp:ZR b s.1 ≤ 8 * b.length:=by unfold ZR; omega
  rw [ZwX,Qe (n:=((ZR b s.1 / 8:Nat):Int)) (by omega),Zc (by simp only [QS]; omega),Xw,List.drop_zero]
  have htl:(b.take (ZR b s.1 / 8)).length ≤ b.length:=by rw [List.length_take]; omega
  refine (Zm (ZBq k (b.take (ZR b s.1 / 8)) (Zad hb _) (by omega) (by omega)) _).trans ?_
  simp only
  rw [WB]
  exact Zm (WG k (b:=b) (s:=(gI w s).2) _ _) _
 ·rw [Zc h,if_pos h]
  refine (Zm (WG k (b:=b) (s:=(gI w s).2) _ _) _).trans ?_
  rw [Xl]
theorem ZDJ (k:Nat) {b:List Int} (hb:Zz b = true) (hn:b.length < 268435456) (hk:b.length + 1000 < k) {s:IS} (hs:Zl b s.1) {w:Nat} (hw:w ≤ 32) :
  Zkc k (inp b s,(w:Int),(),()) = some ((),inp b (ZcV Zca b w s),()):=by
 show Zee k _ = _
 simp only [Zee]
 have e51:Kz k ((b,((ZR b s.1:Nat):Int),()),()) = some (((ZR b s.1:Nat):Int),Ku b s.1,()):=rfl
 rw [e51]
 simp only [Z3]
 refine (Zm (Yt k hb hn (by omega) hs hw) _).trans ?_
 unfold ZcV
 simp only
 rw [ZK]
 by_cases h:(gI w s).2.2 = 0
 ·rw [Zo (by simpa using h),if_neg (by simpa using h)]
  have hp:ZR b s.1 ≤ 8 * b.length:=by unfold ZR; omega
  rw [ZwX,Qe (n:=((ZR b s.1 / 8:Nat):Int)) (by omega),Zc (by simp only [QS]; omega),Xw,List.drop_zero]
  have htl:(b.take (ZR b s.1 / 8)).length ≤ b.length:=by rw [List.length_take]; omega
  refine (Zm (ZBu k (b.take (ZR b s.1 / 8)) (Zad hb _) (by omega) (by omega)) _).trans ?_
  simp only
  rw [WB]
  exact Zm (WG k (b:=b) (s:=(gI w s).2) _ _) _
 ·rw [Zc h,if_pos h]
  refine (Zm (WG k (b:=b) (s:=(gI w s).2) _ _) _).trans ?_
  rw [Xl]
def hd1 (s:IS):IS:=mI ((gI 15 s).1 == 32764) (gI 15 s).2 11
def hd2 (s:IS):IS:=mI ((gI 1 s).1 == 0) (gI 1 s).2 2
def hd3 (s:IS):Nat × IS:=((gI 4 s).1,mI ((gI 4 s).1 == 6 || (gI 4 s).1 == 7) (gI 4 s).2 2)
def hd4 (s:IS):IS:=mI ((gI 4 s).1 == 0) (gI 4 s).2 2
def hd5 (c:Int) (s:IS):Nat × IS:=((gI 4 s).1,mI (ZdN c (gI 4 s).1) (gI 4 s).2 2)
def hd6 (kind:Nat) (s:IS):Nat × IS:=if s.2 = 0 then ((gI (8 * (kind - 5)) s).1 + 1,mI (decide ((gI (8 * (kind - 5)) s).1 + 1 ≤ 512)) (gI (8 * (kind - 5)) s).2 1) else (0,s)
abbrev HdT:=Nat × Nat × Nat × IS
def Zo1 (b:List Int) (kind mode num:Nat) (s:IS):HdT:=(mode,num,(hd6 kind s).1,ZcV Zeb b 8 (hd6 kind s).2)
def ZB8 (b:List Int) (kind mode:Nat) (s:IS):HdT:=Zo1 b kind mode (ZdP b s).1 (ZdP b s).2
def ZB7 (c:Int) (b:List Int) (kind:Nat) (s:IS):HdT:=ZB8 b kind (hd5 c s).1 (hd4 (hd5 c s).2)
def Zo0 (c:Int) (b:List Int) (kind:Nat) (s:IS):HdT:=ZB7 c b kind (hd4 s)
def ZaN (c:Int) (b:List Int) (s:IS):HdT:=Zo0 c b (hd3 (hd2 (hd1 s))).1 (hd3 (hd2 (hd1 s))).2
abbrev ZXQ:=(Int × Int × Int × Unit) × InT × Unit
def ZyA (k:Nat) (kind mode num:Int) (w:InT):Option ZXQ :=
 bif w.2.2.1 == (0:Int) then (WH k (w,IntKind.i64.wrap ((8:Int) * IntKind.i64.wrap (IntKind.i64.wrap (kind - (6:Int)) + (1:Int))),())).bind fun y => (Wf k (y.2.1,decide (IntKind.i64.wrap (y.1 + (1:Int)) ≤ (512:Int)),1,())).bind fun y_10 => (ZiD k (y_10.2.1,8,(),())).bind fun y_11 => some ((mode,num,IntKind.i64.wrap (y.1 + (1:Int)),()),y_11.2.1,())
 else (Wf k (w,decide ((0:Int) ≤ (512:Int)),1,())).bind fun y => (ZiD k (y.2.1,8,(),())).bind fun y => some ((mode,num,0,()),y.2.1,())
def Zyz (k:Nat) (sh:Int × Int × Int × Unit) (kind:Int) (w:InT):Option ZXQ :=
 (WH k (w,4,())).bind fun y_2 => (Wf k (y_2.2.1,y_2.1 == (0:Int),2,())).bind fun y_3 => (WH k (y_3.2.1,4,())).bind fun y_4 => (ZsX k (sh,y_4.1,())).bind fun y_5 => (Wf k (y_4.2.1,y_5.1,2,())).bind fun y_6 => (WH k (y_6.2.1,4,())).bind fun y_7 => (Wf k (y_7.2.1,y_7.1 == (0:Int),2,())).bind fun y_8 => (Zl2 k (y_8.2.1,())).bind fun y_9 => ZyA k kind y_4.1 y_9.1 y_9.2.1
theorem ZKd (k:Nat) (w:InT) (sh:Int × Int × Int × Unit):Zv4 k (w,sh,()) =
  (WH k (w,15,())).bind fun y => (Wf k (y.2.1,y.1 == (32764:Int),11,())).bind fun y => (WH k (y.2.1,1,())).bind fun y => (Wf k (y.2.1,y.1 == (0:Int),2,())).bind fun y => (WH k (y.2.1,4,())).bind fun y =>
   bif y.1 == (6:Int) then (Wf k (y.2.1,true,2,())).bind fun y_1 => Zyz k sh y.1 y_1.2.1 else (Wf k (y.2.1,y.1 == (7:Int),2,())).bind fun y_1 => Zyz k sh y.1 y_1.2.1:=rfl
theorem Zzg {w:Nat} {s:IS} (h:(gI w s).2.2 = 0):s.2 = 0:=by
 unfold gI at h
 grind
theorem Zwz {b:List Int} {s:IS} (h:(ZdP b s).2.2 = 0):s.2 = 0:=by
 unfold ZdP at h
 grind
theorem Zs9 {s:IS} (h:(hd4 s).2 = 0):s.2 = 0:=Zzg ((Zcv (by decide)).1 h).1
theorem ZB6 {c:Int} {s:IS} (h:(hd5 c s).2.2 = 0):s.2 = 0 ∧ ZdN c (hd5 c s).1 = true:=⟨Zzg ((Zcv (by decide)).1 h).1,((Zcv (by decide)).1 h).2⟩
theorem ZPx {s:IS} (h:(hd3 s).2.2 = 0):(hd3 s).1 = 6 ∨ (hd3 s).1 = 7:=by
 have:=((Zcv (by decide)).1 h).2
 show (gI 4 s).1 = 6 ∨ (gI 4 s).1 = 7
 simpa using this
theorem ZPz {b:List Int} {s:IS} (h:Zl b s.1) (kind:Nat):Zl b (hd6 kind s).2.1:=by
 unfold hd6
 split
 ·exact QI (QN h _) _ _
 ·exact h
theorem ZBx (k:Nat) {b:List Int} (hb:Zz b = true) (hn:b.length < 268435456) (hk:b.length + 1000 < k) {s:IS} (hs:Zl b s.1) {kind:Nat} (hkind:s.2 = 0 → kind = 6 ∨ kind = 7) (mode num:Nat) :
  ZyA k (kind:Int) (mode:Int) (num:Int) (inp b s) = some (((((Zo1 b kind mode num s).1:Nat):Int),(((Zo1 b kind mode num s).2.1:Nat):Int),(((Zo1 b kind mode num s).2.2.1:Nat):Int),()),inp b (Zo1 b kind mode num s).2.2.2,()):=by
 unfold ZyA Zo1 hd6
 rw [ZU]
 by_cases h:s.2 = 0
 ·rw [Zc h]
  simp only [if_pos h]
  have e1:IntKind.i64.wrap ((8:Int) * IntKind.i64.wrap (IntKind.i64.wrap ((kind:Int) - (6:Int)) + (1:Int))) = ((8 * (kind - 5):Nat):Int):=by
   rcases hkind h with rfl | rfl <;> rfl
  have hw:8 * (kind - 5) ≤ 32:=by rcases hkind h with rfl | rfl <;> omega
  rw [e1]
  refine (Zm (Yt k hb hn (by omega) hs hw) _).trans ?_
  have hlt:=ZYC (8 * (kind - 5)) s
  have r1:=QN hs (8 * (kind - 5))
  have h32:2 ^ (8 * (kind - 5)) ≤ 2 ^ 32:=Nat.pow_le_pow_right (by omega) hw
  generalize gI (8 * (kind - 5)) s = x at hlt r1 ⊢
  have e2:IntKind.i64.wrap (((x.1:Nat):Int) + 1) = ((x.1 + 1:Nat):Int):=by rw [Qe (by omega)]; rfl
  have e3:decide (((x.1 + 1:Nat):Int) ≤ 512) = decide (x.1 + 1 ≤ 512):=by
   grind
  simp only
  rw [e2,e3]
  refine (Zm (WG k (b:=b) (s:=x.2) _ _) _).trans ?_
  refine (Zm (ZBA k hb hn hk (QI r1 _ _) (w:=8) (by omega)) _).trans ?_
  rfl
 ·rw [Zo h]
  simp only [if_neg h]
  refine (Zm (WG k (b:=b) (s:=s) _ _) _).trans ?_
  rw [show decide ((0:Int) ≤ 512) = true from rfl,Xl]
  refine (Zm (ZBA k hb hn hk hs (w:=8) (by omega)) _).trans ?_
  rfl
theorem ZBw (k:Nat) {b:List Int} (hb:Zz b = true) (hn:b.length < 268435456) (hk:b.length + 1000 < k) {s:IS} (hs:Zl b s.1) {kind:Nat} (hkind:s.2 = 0 → kind = 6 ∨ kind = 7) (c d r:Int) :
  Zyz k (c,d,r,()) (kind:Int) (inp b s) = some (((((Zo0 c b kind s).1:Nat):Int),(((Zo0 c b kind s).2.1:Nat):Int),(((Zo0 c b kind s).2.2.1:Nat):Int),()),inp b (Zo0 c b kind s).2.2.2,()):=by
 unfold Zyz Zo0
 refine (Zm (Yt k hb hn (by omega) hs (w:=4) (by omega)) _).trans ?_
 refine (Zm (WG k (b:=b) (s:=(gI 4 s).2) _ _) _).trans ?_
 rw [show ((((gI 4 s).1:Nat):Int) == (0:Int)) = ((gI 4 s).1 == 0) from WB _ 0]
 have r1:Zl b (hd4 s).1:=QI (QN hs _) _ _
 have k1:=fun h => hkind (Zs9 (s:=s) h)
 change ((WH k (inp b (hd4 s),4,())).bind _) = _
 generalize hd4 s = s1 at r1 k1 ⊢
 unfold ZB7
 refine (Zm (Yt k hb hn (by omega) r1 (w:=4) (by omega)) _).trans ?_
 refine (Zm (ZPf k c d r (gI 4 s1).1) _).trans ?_
 refine (Zm (WG k (b:=b) (s:=(gI 4 s1).2) _ _) _).trans ?_
 have r2:Zl b (hd5 c s1).2.1:=QI (QN r1 _) _ _
 have k2:=fun h => k1 (ZB6 (c:=c) (s:=s1) h).1
 change ((WH k (inp b (hd5 c s1).2,4,())).bind fun y_7 => (Wf k (y_7.2.1,y_7.1 == (0:Int),2,())).bind fun y_8 => (Zl2 k (y_8.2.1,())).bind fun y_9 => ZyA k (kind:Int) (((hd5 c s1).1:Nat):Int) y_9.1 y_9.2.1) = _
 generalize (hd5 c s1).1 = mode
 generalize (hd5 c s1).2 = s2 at r2 k2 ⊢
 refine (Zm (Yt k hb hn (by omega) r2 (w:=4) (by omega)) _).trans ?_
 refine (Zm (WG k (b:=b) (s:=(gI 4 s2).2) _ _) _).trans ?_
 rw [show ((((gI 4 s2).1:Nat):Int) == (0:Int)) = ((gI 4 s2).1 == 0) from WB _ 0]
 have r3:Zl b (hd4 s2).1:=QI (QN r2 _) _ _
 have k3:=fun h => k2 (Zs9 (s:=s2) h)
 change ((Zl2 k (inp b (hd4 s2),())).bind _) = _
 generalize hd4 s2 = s3 at r3 k3 ⊢
 unfold ZB8
 refine (Zm (ZPi k hb hn (by omega) r3) _).trans ?_
 exact ZBx k hb hn hk (Zwy r3) (fun h => k3 (Zwz h)) mode (ZdP b s3).1
theorem ZOE (k:Nat) {b:List Int} (hb:Zz b = true) (hn:b.length < 268435456) (hk:b.length + 1000 < k) {s:IS} (hs:Zl b s.1) (c d r:Int) :
  Zv4 k (inp b s,(c,d,r,()),()) = some (((((ZaN c b s).1:Nat):Int),(((ZaN c b s).2.1:Nat):Int),(((ZaN c b s).2.2.1:Nat):Int),()),inp b (ZaN c b s).2.2.2,()):=by
 rw [ZKd]
 unfold ZaN
 refine (Zm (Yt k hb hn (by omega) hs (w:=15) (by omega)) _).trans ?_
 refine (Zm (WG k (b:=b) (s:=(gI 15 s).2) _ _) _).trans ?_
 rw [show ((((gI 15 s).1:Nat):Int) == (32764:Int)) = ((gI 15 s).1 == 32764) from WB _ 32764]
 have r1:Zl b (hd1 s).1:=QI (QN hs _) _ _
 change ((WH k (inp b (hd1 s),1,())).bind _) = _
 generalize hd1 s = s1 at r1 ⊢
 refine (Zm (Yt k hb hn (by omega) r1 (w:=1) (by omega)) _).trans ?_
 refine (Zm (WG k (b:=b) (s:=(gI 1 s1).2) _ _) _).trans ?_
 rw [show ((((gI 1 s1).1:Nat):Int) == (0:Int)) = ((gI 1 s1).1 == 0) from WB _ 0]
 have r2:Zl b (hd2 s1).1:=QI (QN r1 _) _ _
 change ((WH k (inp b (hd2 s1),4,())).bind _) = _
 generalize hd2 s1 = s2 at r2 ⊢
 refine (Zm (Yt k hb hn (by omega) r2 (w:=4) (by omega)) _).trans ?_
 simp only
 rw [show ((((gI 4 s2).1:Nat):Int) == (6:Int)) = ((gI 4 s2).1 == 6) from WB _ 6,show ((((gI 4 s2).1:Nat):Int) == (7:Int)) = ((gI 4 s2).1 == 7) from WB _ 7]
 have r3:Zl b (hd3 s2).2.1:=QI (QN r2 _) _ _
 have fin:=ZBw k hb hn hk r3 (fun h => ZPx h) c d r
 unfold hd3 at fin ⊢
 cases h6:(gI 4 s2).1 == 6 with
 | true =>
  rw [h6] at fin
  simp only [cond_true]
  refine (Zm (WG k (b:=b) (s:=(gI 4 s2).2) _ _) _).trans ?_
  exact fin
 | false =>
  rw [h6] at fin
  simp only [cond_false]
  refine (Zm (WG k (b:=b) (s:=(gI 4 s2).2) _ _) _).trans ?_
  exact fin
end Go.Sh
namespace Go.Sh
open Go Go.Proofs
def ZjX (n:Nat):List Int → List Bool → List (List Int) → List (List Int) × Int × List Bool
 | [],r,acc => (acc,0,r)
 | d :: ds,r,acc => if (QX n d.toNat r).2.1 ≠ 0 then ([],(QX n d.toNat r).2.1,(QX n d.toNat r).2.2) else ZjX n ds (QX n d.toNat r).2.2 (acc ++ [(QX n d.toNat r).1])
abbrev RdR:=(Int × List (List Int)) × Int × Int
def ZKI (c d r num:Int) (pos:Nat) (out:List (List Int)):RdR:=if XL c d r num out ≠ 0 then ((0,[]),0,XL c d r num out) else ((num,out),((pos / 8:Nat):Int),0)
def ZCr (c d r num:Int) (pos:Nat) (m:Int) (A B:List Int):RdR:=if (Wd m A B).2 ≠ 0 then ((0,[]),0,(Wd m A B).2) else ZKI c d r num pos [Ziv m A B,Ziw m A B]
def ZKg (c d r:Int) (b:List Int) (mode num:Nat) (chs:List (List Int)) (rr:List Bool):RdR :=
 if (ZcV Zca b 16 ((alS rr).2,(alS rr).1)).2 ≠ 0 then ((0,[]),0,(ZcV Zca b 16 ((alS rr).2,(alS rr).1)).2)
 else if 1 < c then ZCr c d r num (ZR b (ZcV Zca b 16 ((alS rr).2,(alS rr).1)).1) (if mode = 1 then 0 else mode) (chs.getD 0 []) (chs.getD 1 [])
 else ZKI c d r num (ZR b (ZcV Zca b 16 ((alS rr).2,(alS rr).1)).1) chs
def Zqq (c d r:Int) (b:List Int) (h:HdT):RdR :=
 if h.2.2.2.2 ≠ 0 then ((0,[]),0,h.2.2.2.2)
 else if (ZjX h.2.2.1 (Qm c d h.1) h.2.2.2.1 []).2.1 ≠ 0 then ((0,[]),0,(ZjX h.2.2.1 (Qm c d h.1) h.2.2.2.1 []).2.1)
 else ZKg c d r b h.1 h.2.1 (ZjX h.2.2.1 (Qm c d h.1) h.2.2.2.1 []).1 (ZjX h.2.2.1 (Qm c d h.1) h.2.2.2.1 []).2.2
def ZwH (c d r:Int) (b:List Int):RdR:=if ZbY c d r = false then ((0,[]),0,2) else Zqq c d r b (ZaN c b (ZN b,0))
def Ztz (x:RdR):((Int × List (List Int) × Unit) × Int × Int × Unit) × Unit:=(((x.1.1,x.1.2,()),x.2.1,x.2.2,()),())
theorem ZCK {n d:Nat} {r:List Bool} (h:(QX n d r).2.1 = 0):(QX n d r).1.length ≤ 520 ∧ d ≤ 25 ∧ ∀ x ∈ (QX n d r).1,XG x d = true:=by
 unfold QX at h ⊢
 split at h
 ·simp at h
 ·rename_i h1
  rw [if_neg h1]
  have h1:1 ≤ n ∧ n ≤ 512 ∧ 4 ≤ d ∧ d ≤ 25:=by simpa using h1
  have hz:=ZmE (d:=d) (s:=(r,0))
  generalize ZY d (r,0) = hd at h hz ⊢
  obtain ⟨kind,kk,s1⟩:=hd
  simp only at h hz ⊢
  split at h
  ·rename_i h2; exact absurd h h2
  ·rename_i h2
   rw [if_neg h2]
   obtain ⟨hkd,hkind⟩:=hz (by simpa using h2)
   have hl:=ZuH (kind:=kind) (n:=n) (d:=d - kk) (s:=s1) hkind
   generalize W5 kind n (d - kk) s1 = y at h hl ⊢
   split at h
   ·rename_i h3; exact absurd h h3
   ·rename_i h3
    rw [if_neg h3]
    split at h
    ·rename_i h4
     rw [if_pos h4]
     refine ⟨by simp; omega,by omega,fun x hx => ?_⟩
     obtain ⟨z,hz,rfl⟩:=List.mem_map.1 hx
     exact (ZHQ hkd (by omega) (List.all_eq_true.1 h4 z hz)).1
    ·simp at h
theorem ZoD {x:Int} (h:ZbK x = true):Qt x:=by
 unfold ZbK at h
 rw [decide_eq_true_eq] at h
 exact h
abbrev ZXP:=((Int × List (List Int) × Unit) × Int × Int × Unit) × Unit
theorem ZGn (k:Nat) (hk:1000 < k) (c d r num:Int) (out:List (List Int)) {b:List Int} (hn:b.length < 268435456) (rr:List Bool) :
  ((ZiB k ((c,d,r,()),(num,out,()),())).bind fun y_3 => bif y_3.1 != (0:Int) then some (((((0:Int),[],()),0,y_3.1,()),()):ZXP) else (Kz k ((b,((ZR b rr:Nat):Int),()),())).bind fun y => some (((num,out,()),IntKind.i64.wrap (Int.tdiv y.1 (8:Int)),0,()),())) = some (Ztz (ZKI c d r num (ZR b rr) out)):=by
 refine (Zm (ZBk k c d r num out (by omega)) _).trans ?_
 unfold ZKI
 simp only
 rw [ZK]
 by_cases h:XL c d r num out = 0
 ·rw [Zo (by simpa using h),if_neg (by simpa using h)]
  have e51:Kz k ((b,((ZR b rr:Nat):Int),()),()) = some (((ZR b rr:Nat):Int),Ku b rr,()):=rfl
  refine (Zm e51 _).trans ?_
  have hp:ZR b rr ≤ 8 * b.length:=by unfold ZR; omega
  simp only
  rw [ZwX,Qe (n:=((ZR b rr / 8:Nat):Int)) (by omega)]
  rfl
 ·rw [Zc h,if_pos h]
  rfl
theorem ZBd (k:Nat) (hk:2000 < k) (c d r num:Int) {A B:List Int} {m:Int} (hm:Zmg m) (hA:A.length ≤ 520 ∧ ∀ x ∈ A,QD x) (hB:B.length ≤ 520 ∧ ∀ x ∈ B,QD x) {b:List Int} (hn:b.length < 268435456) (rr:List Bool) :
  ((ZsK k (A,B,m,())).bind fun y_1 => bif y_1.1.2.1 != (0:Int) then some (((((0:Int),[],()),0,y_1.1.2.1,()),()):ZXP) else (ZsM k (y_1.1.1,())).bind fun y_2 => bif y_2.1.2.2.1 != (0:Int) then some ((((0:Int),[],()),0,y_2.1.2.2.1,()),()) else (ZiB k ((c,d,r,()),(num,[y_2.1.1,y_2.1.2.1],()),())).bind fun y_3 => bif y_3.1 != (0:Int) then some ((((0:Int),[],()),0,y_3.1,()),()) else (Kz k ((b,((ZR b rr:Nat):Int),()),())).bind fun y => some (((num,[y_2.1.1,y_2.1.2.1],()),IntKind.i64.wrap (Int.tdiv y.1 (8:Int)),0,()),())) =
   some (Ztz (ZCr c d r num (ZR b rr) m A B)):=by
 refine (Zm (ZON k hm (by omega) (by omega) hA.2 hB.2) _).trans ?_
 unfold ZCr
 have key:(Wd m A B).2 = 0 → A.length = B.length ∧ (Wd m A B).1 = ZgD (Ziv m A B) (Ziw m A B) ∧ ((Ziv m A B).zip (Ziw m A B)).all (fun x => ZbK x.1 && ZbK x.2) = true:=by
  unfold Wd
  grind
 simp only
 rw [ZK]
 by_cases h:(Wd m A B).2 = 0
 ·rw [Zo (by simpa using h),if_neg (by simpa using h)]
  obtain ⟨hl,e1,e2⟩:=key h
  have hLl:(Ziv m A B).length = A.length:=by unfold Ziv; simp_all
  have hRl:(Ziw m A B).length = A.length:=by unfold Ziw; simp_all
  generalize Ziv m A B = L at e1 e2 hLl ⊢
  generalize Ziw m A B = R at e1 e2 hRl ⊢
  have hsm:(∀ x ∈ L,Qt x) ∧ ∀ x ∈ R,Qt x:=by
   have hall:=List.all_eq_true.1 e2
   constructor
   ·intro x hx
    obtain ⟨i,hi,rfl⟩:=List.getElem_of_mem hx
    have:=hall ((L.zip R)[i]'(by rw [List.length_zip]; omega)) (List.getElem_mem _)
    rw [List.getElem_zip,Bool.and_eq_true] at this
    exact ZoD this.1
   ·intro x hx
    obtain ⟨i,hi,rfl⟩:=List.getElem_of_mem hx
    have:=hall ((L.zip R)[i]'(by rw [List.length_zip]; omega)) (List.getElem_mem _)
    rw [List.getElem_zip,Bool.and_eq_true] at this
    exact ZoD this.2
  have hpp:=ZCf (show L.length = R.length by omega) hsm.1 hsm.2
  rw [e1]
  have hjl:(ZgD L R).length ≤ 520:=by rw [hpp.hl]; omega
  refine (Zm (ZOO k hpp (by omega) (by omega)) _).trans ?_
  simp only
  rw [show ((0:Int) != 0) = false from rfl]
  simp only [cond_false]
  exact ZGn k (by omega) c d r num [L,R] hn rr
 ·rw [Zc h,if_pos h]
  rfl
theorem ZDD (c d m:Int):(Qm c d m).length ≤ 2 ∧ (c ≠ 1 → (Qm c d m).length = 2) ∧ ((1 ≤ d ∧ d ≤ 24) → ∀ x ∈ Qm c d m,1 ≤ x):=by
 unfold Qm
 grind
theorem ZNc (k:Nat) {b:List Int} (hb:Zz b = true) (hn:b.length < 268435456) (hk:8 * b.length + 50000 < k) {c d r:Int} (hc:c = 1 ∨ c = 2) {mode num n:Nat} (hm:ZdN c mode = true) (ds:List Int) (hd:∀ x ∈ ds,1 ≤ x) (hdl:ds.length ≤ 2) (hdl2:c ≠ 1 → ds.length = 2) (zz:Int) :
  ∀ (e j i:Nat) (rr:List Bool) (acc:List (List Int)),e < j → i + e = ds.length → acc.length = i → Zl b rr → (∀ l ∈ acc,l.length ≤ 520 ∧ ∀ x ∈ l,QD x) →
  Zn (fun L1 => ZfQ k L1) j (((ds.length:Nat):Int),(i:Int),ds,(n:Int),(mode:Int),b,(0:Int),b,((ZR b rr:Nat):Int),zz,(num:Int),acc,c,d,r) =
   some (Ztz (if (ZjX n (ds.drop i) rr acc).2.1 ≠ 0 then ((0,[]),0,(ZjX n (ds.drop i) rr acc).2.1) else ZKg c d r b mode num (ZjX n (ds.drop i) rr acc).1 (ZjX n (ds.drop i) rr acc).2.2)):=by
 intro e
 induction e with
 | zero =>
  intro j i rr acc hj hi ha hr hacc
  obtain ⟨j,rfl⟩:=ZE hj
  rw [Ze]
  simp only [ZfQ]
  rw [Zo (by omega),List.drop_eq_nil_of_le (by omega)]
  show _ = some (Ztz (if (0:Int) ≠ 0 then _ else ZKg c d r b mode num acc rr))
  rw [if_neg (by simp)]
  refine (Zm (ZOK k hb (by omega) hr (by omega)) _).trans ?_
  refine (Zm (ZDJ k hb hn (by omega) (s:=((alS rr).2,(alS rr).1)) (ZLh hr) (w:=16) (by omega)) _).trans ?_
  unfold ZKg
  generalize ZcV Zca b 16 ((alS rr).2,(alS rr).1) = s
  simp only
  rw [ZK]
  by_cases h:s.2 = 0
  ·rw [Zo (by simpa using h),if_neg (by simpa using h)]
   rcases hc with rfl | rfl
   ·rw [Zo (by omega),if_neg (by omega)]
    exact ZGn k (by omega) 1 d r num acc hn s.1
   ·rw [Zc (by omega),if_pos (by omega)]
    have hlen:acc.length = 2:=by have:=hdl2 (by omega); omega
    match acc,hlen,hacc with
    | [A,B],_,hacc =>
     have hA:=hacc A (by simp)
     have hB:=hacc B (by simp)
     have p1:(0:Int) ≤ 0 ∧ (0:Int) < Int.ofNat [A,B].length:=by simp
     have p2:0 < [A,B].length:=by simp
     have p3:(0:Int) ≤ 1 ∧ (1:Int) < Int.ofNat [A,B].length:=by simp
     have p4:1 < [A,B].length:=by simp
     have hmd:Zmg (if mode = 1 then 0 else (mode:Int)):=by
      unfold ZdN at hm
      rw [if_neg (by omega)] at hm
      simp only [Bool.or_eq_true,beq_iff_eq,Bool.and_eq_true,decide_eq_true_eq] at hm
      unfold Zmg
      split <;> omega
     rw [Zc p1,Zc p2,Zc p3,Zc p4,Zc p1,Zc p2,Zc p3,Zc p4,show ((mode:Int) == (1:Int)) = (mode == 1) from WB _ 1]
     by_cases h1:mode = 1
     ·rw [show (mode == 1) = true from by simp [h1]]
      rw [if_pos h1] at hmd ⊢
      exact ZBd k (by omega) 2 d r num hmd hA hB hn s.1
     ·rw [show (mode == 1) = false from by simp [h1]]
      rw [if_neg h1] at hmd ⊢
      exact ZBd k (by omega) 2 d r num hmd hA hB hn s.1
  ·rw [Zc h,if_pos h]
   rfl
 | succ e ih =>
  intro j i rr acc hj hi ha hr hacc
  obtain ⟨j,rfl⟩:=ZE (show 0 < j by omega)
  rw [Ze]
  simp only [ZfQ]
  have hil:i < ds.length:=by omega
  rw [Zc (by omega),Zc (by simp only [QS]; omega),Xw,Wv hil,List.drop_eq_getElem_cons hil]
  have hdi:=hd ds[i] (List.getElem_mem hil)
  have hde:ds[i] = ((ds[i].toNat:Nat):Int):=by omega
  have e46:=ZOH k hb hn hk hr n ds[i].toNat
  rw [← hde] at e46
  refine (Zm e46 _).trans ?_
  unfold ZjX
  have hok:=ZCK (n:=n) (d:=ds[i].toNat) (r:=rr)
  have hrr:=ZuE hr n ds[i].toNat
  generalize QX n ds[i].toNat rr = q at hok hrr ⊢
  simp only
  rw [ZK]
  by_cases h:q.2.1 = 0
  ·rw [Zo (by simpa using h),Zc (by simp only [List.length_singleton]; omega)]
   have e2:IntKind.i64.wrap ((i:Int) + 1) = ((i + 1:Nat):Int):=by rw [Qe (by omega)]; rfl
   rw [e2]
   obtain ⟨o1,o2,o3⟩:=hok h
   have:=ih j (i + 1) q.2.2 (acc ++ [q.1]) (by omega) (by omega) (by simp; omega) hrr (by
    intro l hl
    rcases List.mem_append.1 hl with hl | hl
    ·exact hacc l hl
    ·rw [List.mem_singleton.1 hl]
     refine ⟨o1,fun x hx => ?_⟩
     have:=o3 x hx
     unfold XG at this
     unfold QD
     split at this
     ·omega
     ·rw [decide_eq_true_eq,XU] at this
      have h24:2 ^ (ds[i].toNat - 1) ≤ 2 ^ 24:=Nat.pow_le_pow_right (by omega) (by omega)
      omega)
   refine this.trans ?_
   simp only [if_neg (show ¬ q.2.1 ≠ 0 from fun hh => hh h)]
  ·rw [Zc h]
   simp only [if_pos h]
   rfl
theorem ZFr {c:Int} {b:List Int} {s:IS} (h:(ZaN c b s).2.2.2.2 = 0):ZdN c (ZaN c b s).1 = true:=by
 unfold ZaN Zo0 ZB7 ZB8 Zo1 at h ⊢
 generalize (hd3 (hd2 (hd1 s))).1 = kind at h ⊢
 generalize hd4 (hd3 (hd2 (hd1 s))).2 = s3 at h ⊢
 simp only at h ⊢
 have h0:(hd6 kind (ZdP b (hd4 (hd5 c s3).2)).2).2.2 = 0:=by
  unfold ZcV at h
  split at h
  ·rename_i h1; exact absurd h h1
  ·exact Zzg ((Zcv (by decide)).1 h).1
 have h1:(ZdP b (hd4 (hd5 c s3).2)).2.2 = 0:=by
  unfold hd6 at h0
  grind
 exact (ZB6 (Zs9 (Zwz h1))).2
theorem ZBe (k:Nat) (c d r:Int) {b:List Int} (hb:Zz b = true) (hn:b.length < 268435456) (hk:8 * b.length + 50000 < k):ZBc k ((c,d,r,()),b,()) = some (Ztz (ZwH c d r b)):=by
 show Zks k (Zya k) _ = _
 simp only [Zks]
 rw [Zq8 k c d r]
 simp only [Z3]
 unfold ZwH
 cases hs:ZbY c d r with
 | false => rfl
 | true =>
  have hsh:=of_decide_eq_true hs
  simp only [if_true,Bool.true_eq_false,if_false]
  rw [show ((0:Int) != 0) = false from rfl]
  simp only [cond_false]
  have e44:ZoB k (b,()) = some (inp b (ZN b,0) |>.2.1,()):=by
   show ZdC k _ = _
   simp only [ZdC]
   have:ZiF k (b,()) = some (b,()):=by show Yg _ = _; unfold Yg; rw [Zc (by simp only; omega)]
   rw [this]
   have hp:ZR b (ZN b) = 0:=by unfold ZR; rw [Z4]; omega
   simp_all
  refine (Zm e44 _).trans ?_
  refine (Zm (ZOE k hb hn (by omega) (s:=(ZN b,0)) (ZCv b) c d r) _).trans ?_
  unfold Zqq
  have hmode:=ZFr (c:=c) (b:=b) (s:=(ZN b,0))
  have hrest:Zl b (ZaN c b (ZN b,0)).2.2.2.1:=by
   unfold ZaN Zo0 ZB7 ZB8 Zo1
   exact ZKV (ZPz (Zwy (QI (QN (QI (QN (QI (QN (QI (QN (QI (QN (QI (QN (ZCv b) _) _ _) _) _ _) _) _ _) _) _ _) _) _ _) _) _ _)) _) _
  generalize ZaN c b (ZN b,0) = h at hmode hrest ⊢
  obtain ⟨mode,num,n,s⟩:=h
  simp only at hmode hrest ⊢
  rw [ZK]
  by_cases he:s.2 = 0
  ·rw [Zo (by simpa using he),if_neg (by simpa using he)]
   have hm:=hmode he
   have hc:c = 1 ∨ c = 2:=by omega
   have hcm:c = 1 ∧ (mode:Int) = 0 ∨ c = 2:=by
    rcases hc with rfl | rfl
    ·unfold ZdN at hm
     simp_all
    ·exact .inr rfl
   refine (Zm (ZBr k (c:=c) (d:=d) (r:=r) (m:=(mode:Int)) hcm (by omega)) _).trans ?_
   have hdl:=ZDD c d mode
   have:=ZNc k hb hn hk (c:=c) (d:=d) (r:=r) hc (mode:=mode) (num:=num) (n:=n) hm (Qm c d mode) (hdl.2.2 (by omega)) hdl.1 hdl.2.1 0 (Qm c d mode).length k 0 s.1 [] (by omega) (by omega) rfl hrest (by simp)
   rw [List.drop_zero] at this
   simp only
   rw [he]
   exact this
  ·rw [Zc he,if_pos he]
   rfl
end Go.Sh
namespace Go.Sh
open Go Go.Proofs
def Sm (ch:List (List Int)):Prop:=ch.length ≤ 1048576 ∧ ∀ l ∈ ch,l.length ≤ 1048576
theorem ZLy:∀ (a b c d e f g h:Bool) (j:Fin 8),(a.toNat * 128 + b.toNat * 64 + c.toNat * 32 + d.toNat * 16 + e.toNat * 8 + f.toNat * 4 + g.toNat * 2 + h.toNat).testBit (7 - j.val) = [a,b,c,d,e,f,g,h].getD j.val false:=by decide +kernel
theorem ZH9 (f:Nat → Bool) {j:Nat} (hj:j < 8):(Kx f).testBit (7 - j) = f j:=by
 have:=ZLy (f 0) (f 1) (f 2) (f 3) (f 4) (f 5) (f 6) (f 7) ⟨j,hj⟩
 simp only at this
 unfold Kx
 rw [this]
 match j,hj with
 | 0,_ => rfl
 | 1,_ => rfl
 | 2,_ => rfl
 | 3,_ => rfl
 | 4,_ => rfl
 | 5,_ => rfl
 | 6,_ => rfl
 | 7,_ => rfl
theorem Zd9 {B:List Bool} (h:B.length % 8 = 0):ZN (ZJ B) = B:=by
 have hl:(ZJ B).length = B.length / 8:=by rw [Z5]; omega
 apply List.ext_getElem
 ·rw [Z4,hl]; omega
 ·intro i h1 h2
  rw [ZmR (by rw [hl]; omega),YA,Int.toNat_natCast]
  unfold Wp
  rw [ZH9 _ (Nat.mod_lt _ (by omega)),show 8 * (i / 8) + i % 8 = i by omega,Wv h2]
theorem ZLA:∀ x:Fin 256,Kx (fun j => x.val.testBit (7 - j)) = x.val:=by decide +kernel
theorem YQ {b:List Int} (h:Zz b = true):ZJ (ZN b) = b:=by
 apply List.ext_getElem
 ·rw [Z5,Z4]; omega
 ·intro i h1 h2
  obtain ⟨x,hx,hxe⟩:=Zbh h h2
  rw [YA,hxe]
  have:Wp (ZN b) i = Kx (fun j => x.testBit (7 - j)):=by
   have key:∀ j,j < 8 → (ZN b).getD (8 * i + j) false = x.testBit (7 - j):=by
    intro j hj
    rw [Wv (by rw [Z4]; omega),ZmR (by omega)]
    have:(8 * i + j) / 8 = i:=by omega
    simp only [this,hxe,Int.toNat_natCast]
    congr 1
    omega
   unfold Wp Kx
   simp only
   rw [key 0 (by omega),key 1 (by omega),key 2 (by omega),key 3 (by omega),key 4 (by omega),key 5 (by omega),key 6 (by omega),key 7 (by omega)]
  rw [this]
  have:=ZLA ⟨x,hx⟩
  simp only at this
  rw [this]
theorem ZFH (B:List Bool):(Yk B).length % 8 = 0 ∧ (Yk B).length = B.length + Za2 B.length:=by
 unfold Yk
 rw [List.length_append,List.length_replicate]
 unfold Za2
 omega
theorem ZDC (B:List Bool):(Yh B).length % 8 = 0 ∧ (Yh B).length = B.length + Za2 B.length + 16:=by
 have:=ZFH B
 unfold Yh
 rw [List.length_append,Zi]
 omega
theorem Zxe (c a w:Nat):Zb c (a + w) = Zb (c / 2 ^ w) a ++ Zb c w:=by
 induction a with
 | zero => simp [Zb]
 | succ a ih =>
  rw [show a + 1 + w = (a + w) + 1 by omega]
  simp only [Zb,List.cons_append]
  rw [ih,Nat.testBit_div_two_pow]
end Go.Sh
namespace Go.Sh
open Go Go.Proofs
theorem ZoT (c d r n:Int) (ch:List (List Int)):Zz (Xq c d r n ch).1 = true:=by
 unfold Xq
 split
 ·exact WW _
 ·rfl
theorem ZK4 (c d r n:Int) (ch:List (List Int)):(Xq c d r n ch).1.length ≤ 5000:=by
 unfold Xq
 split
 ·rename_i h
  obtain ⟨hs,hn,hc,hlen,hsg⟩:=KD h
  obtain ⟨hlay,_,_⟩:=ZFv h
  have h2:1 ≤ (ch.headD []).length ∧ (ch.headD []).length ≤ 512:=by
   have:0 < ch.length:=by omega
   match ch,this with
   | l :: _,_ => exact (hlen l (by simp)).2
  have h1:=ZqK hlay h2.1 h2.2 (by omega) (by omega)
  have h3:=Zcz (Kn ch).2.toNat n.toNat (ch.headD []).length
  have h4:=ZuO n.toNat
  have h5:=ZdK (ch.headD []).length
  have h6:=ZDC (Qa (Kn ch).2.toNat n.toNat (ch.headD []).length ++ Qd (Kn ch).1 (Qm c d (Kn ch).2))
  have h7:Za2 (Qa (Kn ch).2.toNat n.toNat (ch.headD []).length ++ Qd (Kn ch).1 (Qm c d (Kn ch).2)).length < 8:=by unfold Za2; omega
  simp only
  rw [Z5]
  rw [List.length_append] at h6 h7
  unfold Qa at h6 h7 ⊢
  rw [List.length_append,Zi] at h6 h7
  omega
 ·simp
end Go.Sh
namespace Go.Sh
open Go Go.Proofs
def Qu (ch:List (List Int)) (size i:Nat):List (List Int):=ch.map fun c => (c.take ((i + 1) * size)).drop (i * size)
def QB (n size:Nat):Nat:=(n + size - 1) / size
def Zs6 (c d r:Int) (ch:List (List Int)) (size i:Nat):List Int:=(Xq c d r (i:Int) (Qu ch size i)).1
def Yi (c d r:Int) (ch:List (List Int)) (size:Nat):List (List Int):=(List.range (QB (ch.getD 0 []).length size)).map (Zs6 c d r ch size)
theorem X7 {n size i:Nat} (hs:1 ≤ size):i < QB n size ↔ i * size < n:=by
 unfold QB
 rw [Nat.lt_div_iff_mul_lt (by omega)]
 omega
theorem Xz {n size:Nat} (hs:16 ≤ size) (hn:n ≤ 4096):QB n size ≤ 256:=by
 rcases Nat.lt_or_ge 256 (QB n size) with h | h
 ·have:=(X7 (by omega)).1 h
  omega
 ·exact h
theorem ZXA {d:Int} {x:Int} (hd:4 ≤ d) (h:ZtU d x = true):XG x d.toNat = true:=by
 unfold ZtU at h
 unfold XG
 rw [if_neg (by omega)]
 have h:=of_decide_eq_true h
 rw [show d.toNat - 1 = (d - 1).toNat by omega]
 exact dTr h
theorem Zfw {c d r:Int} {tags:List ByteArray} {ch:List (List Int)} (h0:chk c d r tags ch = 0) {size i:Nat} (hs:16 ≤ size ∧ size ≤ 512) (hi:i * size < (ch.getD 0 []).length):XL c d r (i:Int) (Qu ch size i) = 0:=by
 obtain ⟨hg,hshape,hsg,-,-⟩:=Wa h0
 have hsh:=of_decide_eq_true hshape
 generalize (ch.getD 0 []).length = n at *
 have hlen:∀ x ∈ ch,((x.take ((i + 1) * size)).drop (i * size)).length = min size (n - i * size):=by
  intro x hx
  rw [List.length_drop,List.length_take,hg.len x hx,Nat.add_mul]; omega
 have hn4:=hg.n4
 have hi4:i ≤ 4096:=by
  have:i * 1 ≤ i * size:=Nat.mul_le_mul_left i (by omega)
  omega
 unfold XL
 rw [if_neg (by rw [show ZbY c d r = true from hshape]; simp),if_neg (by rw [show (Qu ch size i).length = ch.length by simp [Qu]]; have:=hg.cl; omega)]
 have hc1:=hg.c1.1
 have hhead:((Qu ch size i).headD []).length = min size (n - i * size):=by
  match ch,hc1,hlen with
  | x :: l,_,hlen => exact hlen x (List.mem_cons_self ..)
 rw [hhead]
 have h1:(Qu ch size i).all (ZnQ (min size (n - i * size))) = true:=by
  rw [List.all_eq_true]
  intro y hy
  obtain ⟨x,hx,rfl⟩:=List.mem_map.1 hy
  exact dTr ⟨hlen x hx,by omega,by omega⟩
 have h2:(Qu ch size i).all (fun l => l.all fun x => XG x d.toNat) = true:=by
  rw [List.all_eq_true]
  intro y hy
  obtain ⟨x,hx,rfl⟩:=List.mem_map.1 hy
  rw [List.all_eq_true]
  intro z hz
  exact ZXA (by omega) (List.all_eq_true.1 (hsg x hx) z (List.mem_of_mem_take (List.mem_of_mem_drop hz)))
 rw [h1,h2]
 rfl
section prog
variable {k:Nat} {c d r:Int} {tags:List ByteArray} {ch:List (List Int)}
theorem ZEF (hk:100 ≤ k) {n size i:Nat} (hg:Good0 c d ch n) (hs:16 ≤ size ∧ size ≤ 512) (hi:i * size < n) :
  ZkT k (((c,d,r,()),tags,ch,()),(i:Int),(size:Int),()) = some (((i:Int),Qu ch size i,()),()):=by
 have hn4:=hg.n4
 have hc2:=hg.c1.2
 have hi4:i ≤ 4096:=by
  have:i * 1 ≤ i * size:=Nat.mul_le_mul_left i (by omega)
  omega
 have key:=QK (A:=Unit) (step:=fun L1 => Zbv k L1) (fun j _ => (Int.ofNat ch.length,Int.ofNat j,ch,(i:Int),(size:Int),(i:Int),(Qu ch size i).take j,(0:Int))) ch (fun _ _ => some (((i:Int),Qu ch size i,()),()))
  (fun L _ => by
   simp only [Zbv]
   rw [Zo (Yb _),List.take_of_length_le (by simp [Qu])])
  (fun L j hj _ hL => by
   simp only [Zbv]
   have hl:=hg.len _ (List.getElem_mem hj)
   have e1:IntKind.i64.wrap ((i:Int) * (size:Int)) = ((i * size:Nat):Int):=by rw [← Int.natCast_mul,ZCb (by omega)]
   have hq:(i + 1) * size ≤ 4096 + 512:=by rw [Nat.add_mul]; omega
   have e2:IntKind.i64.wrap (IntKind.i64.wrap ((i:Int) + 1) * (size:Int)) = (((i + 1) * size:Nat):Int):=by rw [ZC1 (by omega),← Int.natCast_mul,ZCb (by omega)]
   rw [Zc (ltR hj),Zc (YI hj),ZM hj,hl,e1,e2]
   have hqq:(i + 1) * size = i * size + size:=by rw [Nat.add_mul]; omega
   have e3:(if Int.ofNat n < (((i + 1) * size:Nat):Int) then Int.ofNat n else (((i + 1) * size:Nat):Int)) = ((min n ((i + 1) * size):Nat):Int):=by
    simp only [QS]
    split <;> omega
   rw [e3,Zc (by simp only [QS]; omega)]
   simp only [Xw]
   have e4:List.drop (i * size) (List.take (min n ((i + 1) * size)) ch[j]) = (Qu ch size i)[j]'(by simp [Qu]; exact hj):=by
    simp only [Qu,List.getElem_map]
    congr 1
    rcases Nat.le_total n ((i + 1) * size) with h | h
    ·rw [Nat.min_eq_left h,List.take_of_length_le (by omega),List.take_of_length_le (by omega)]
    ·rw [Nat.min_eq_right h]
   simp only [e4]
   rw [Zc (by rw [List.length_take]; simp; omega),Qr hj (by omega)]
   rw [show (Qu ch size i).take j ++ [(Qu ch size i)[j]'(by simp [Qu]; exact hj)] = (Qu ch size i).take (j + 1) from (List.take_succ_eq_append_getElem _).symm]
   exact hL ()) k 0 () (by omega) (by omega)
 exact key
theorem ZEn (hk:16777216 ≤ k) (hS:Small tags ch) (s:Int):Zkz k (((c,d,r,()),tags,ch,()),s,()) =
  if chk c d r tags ch = 0 then (if 16 ≤ s ∧ s ≤ 512 then some ((Yi c d r ch s.toNat,0,()),()) else some (([],1,()),())) else some (([],chk c d r tags ch,()),()):=by
 show Zev k _ _ = _
 simp only [Zev]
 rw [Zjm hk hS]
 simp only [Z3]
 by_cases h0:chk c d r tags ch = 0
 ·rw [if_pos h0,h0,ZK,Zo (by simp)]
  by_cases h1:s < 16
  ·rw [Zc h1,if_neg (by omega)]
  rw [Zo h1]
  by_cases h2:512 < s
  ·rw [Zc h2,if_neg (by omega)]
  rw [Zo h2,if_pos (by omega)]
  obtain ⟨size,rfl⟩:=Int.eq_ofNat_of_zero_le (show 0 ≤ s by omega)
  have hs:16 ≤ size ∧ size ≤ 512:=by omega
  obtain ⟨hg,-⟩:=Wa h0
  have hn4:=hg.n4
  generalize hn:(ch.getD 0 []).length = n at hg hn4
  have hfr:=Xz hs.1 hn4
  have key:=Zy (A:=List (List Int)) (step:=fun L1 => Zbq k L1) (fun i a => (Int.ofNat i,(size:Int),c,d,r,tags,ch,a)) (List.range (QB n size))
   (fun rest a => some ((a ++ rest.map (Zs6 c d r ch size),0,()),())) (fun i a => a.length = i)
   (fun L a _ => by
    simp only [Zbq,List.length_range]
    rw [YL,hn]
    simp only [Z3]
    have hge:n ≤ QB n size * size:=by
     have:=(X7 (n:=n) (i:=QB n size) (by omega:1 ≤ size)).2
     rcases Nat.lt_or_ge (QB n size * size) n with h | h
     ·exact absurd (this h) (Nat.lt_irrefl _)
     ·exact h
    have hle:QB n size * size ≤ 256 * 512:=Nat.mul_le_mul hfr hs.2
    rw [show Int.ofNat (QB n size) * (size:Int) = ((QB n size * size:Nat):Int) by simp,ZCb (by omega),Zo (by simp only [QS]; omega)]
    simp)
   (fun L i hi a hI hL => by
    rw [List.length_range] at hi
    have hlt:=(X7 (by omega:1 ≤ size)).1 hi
    simp only [Zbq]
    rw [YL,hn]
    simp only [Z3]
    rw [show Int.ofNat i * (size:Int) = ((i * size:Nat):Int) by simp,ZCb (by omega),Zc (by simp only [QS]; omega)]
    rw [show Int.ofNat i = (i:Int) from rfl,ZEF (by omega) hg hs hlt]
    simp only [Z3]
    refine (Zm (ZMJ k (by omega) c d r (i:Int) (Qu ch size i)) _).trans ?_
    have hck:=Zfw h0 (size:=size) (i:=i) hs (by rw [hn]; exact hlt)
    have he:(Xq c d r (i:Int) (Qu ch size i)).2 = 0:=by unfold Xq; rw [if_pos hck]
    simp only [he]
    rw [ZK,Zo (by simp),Zc (by simp; omega),show IntKind.i64.wrap ((i:Int) + 1) = Int.ofNat (i + 1) from Qr hi (by omega)]
    refine Eq.trans (hL (a ++ [Zs6 c d r ch size i]) (by simp [hI])) ?_
    simp only [List.getElem_range,List.map_cons,List.append_assoc,List.singleton_append])
   k 0 [] rfl (by rw [List.length_range]; omega) (by omega)
  rw [List.drop_zero,List.nil_append] at key
  refine Eq.trans key ?_
  simp only [Xw,Yi,hn]
 ·rw [if_neg h0,ZK,Zc h0]
end prog
end Go.Sh
