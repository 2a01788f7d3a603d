/-
  What the row needs, part 10.
-/
import Derived.Test.YtmeahimfdhdggaaGreatDoorXFrameBack9
import Derived.Lib.ItoaNum
set_option linter.unusedSimpArgs false
set_option linter.unusedVariables false
set_option linter.unusedSectionVars false
namespace Go.Sh
open Go Go.Proofs
def ZZ (n:Int):Nat:=if n < 0 then (-2 * n - 1).toNat else (2 * n).toNat
theorem ZvE {a:Int} {n:Int} (ha : -1152921504606846976 ≤ a ∧ a ≤ 1152921504606846976) (hn:(a < 0 ↔ n < 0)) (hn' : -1152921504606846976 ≤ n ∧ n ≤ 1152921504606846976) :
  IntKind.i64.wrap (Int.ofNat (BitVec.ofInt 64 a ^^^ BitVec.ofInt 64 (n.fdiv 9223372036854775808)).toNat) = if n < 0 then -a - 1 else a:=by
 by_cases h:n < 0
 ·have e1:n.fdiv 9223372036854775808 = -1:=by rw [Int.fdiv_eq_ediv_of_nonneg _ (by omega)]; omega
  rw [e1,if_pos h,show BitVec.ofInt 64 (-1) = BitVec.allOnes 64 from by decide,BitVec.xor_allOnes,BitVec.toNat_not,BitVec.toNat_ofInt]
  have:((a % ((2 ^ 64:Nat):Int)).toNat) = (a + 18446744073709551616).toNat:=by omega
  rw [this]
  have e2:Int.ofNat (2 ^ 64 - 1 - (a + 18446744073709551616).toNat) = -a - 1:=by simp only [QW]; omega
  rw [e2,Qp (by omega)]
 ·have e1:n.fdiv 9223372036854775808 = 0:=by rw [Int.fdiv_eq_ediv_of_nonneg _ (by omega)]; omega
  rw [e1,if_neg h,show BitVec.ofInt 64 0 = 0#64 from rfl,BitVec.xor_zero,BitVec.toNat_ofInt]
  have:Int.ofNat ((a % ((2 ^ 64:Nat):Int)).toNat) = a:=by simp only [QW]; omega
  rw [this,Qp (by omega)]
theorem ZoS (k:Nat) {n:Int} (h:ZI n):ZaW k (n,()) = some ((((ZZ n:Nat):Int),0,()),()):=by
 show Zeh k _ = _
 simp only [Zeh]
 unfold ZI at h
 rw [Zk (by omega),Zk (by omega),Qp (n:=n * 2) (by omega),ZvE (by omega) (by omega) (by omega)]
 unfold ZZ
 congr 3
 split <;> omega
theorem Zm1 {n:Int} (h:ZI n):ZZ n < 4294967296:=by
 unfold ZI at h
 unfold ZZ
 split <;> omega
def X9 (n:Int):Nat:=Lib.bitLen (if n < 0 then (-n - 1).toNat else n.toNat) + 1
theorem Zlk {n:Int} (h:ZI n):X9 n ≤ 32:=by
 unfold ZI at h
 unfold X9
 have:=Lib.bitLen_le (if n < 0 then (-n - 1).toNat else n.toNat) 31 (by omega) (by split <;> omega)
 omega
theorem Zy8 {n:Int} (h:ZI n) {w:Nat} (hw:X9 n ≤ w):W9 n w = true:=by
 unfold X9 at hw
 unfold W9
 unfold ZI at h
 rw [if_neg (by omega),decide_eq_true_eq]
 generalize hm:(if n < 0 then (-n - 1).toNat else n.toNat) = m at hw
 have hm':m < 2 ^ 64:=by rw [← hm]; split <;> omega
 have hlt:m < 2 ^ (w - 1):=by
  by_cases h0:m = 0
  ·rw [h0]; exact Nat.pow_pos (by omega)
  ·have:=(Lib.bitLenAux_bounds 64 m hm' h0).2.2
   exact Nat.lt_of_lt_of_le this (Nat.pow_le_pow_right (by omega) (by unfold Lib.bitLen at hw; omega))
 have hlt':(m:Int) < 2 ^ (w - 1):=by
  have:((2:Int) ^ (w - 1)) = ((2 ^ (w - 1):Nat):Int):=Wi _
  rw [this]; exact_mod_cast hlt
 generalize (2:Int) ^ (w - 1) = P at hlt'
 split at hm <;> omega
theorem ZAx (k:Nat) {n:Int} (h:ZI n):Zmk k (n,()) = some (((X9 n:Nat):Int),()):=by
 show ZeO k _ = _
 simp only [ZeO]
 have hb:=Zlk h
 unfold ZI at h
 rw [ZvE (by omega) (by omega) (by omega)]
 have e1:IntKind.u64.wrap (if n < 0 then -n - 1 else n) = (((if n < 0 then (-n - 1).toNat else n.toNat):Nat):Int):=by
  rw [IntKind.wrap_u64]; split <;> omega
 rw [e1]
 have e2:Zro k ((((if n < 0 then (-n - 1).toNat else n.toNat):Nat):Int),()) = some (((Lib.bitLen (if n < 0 then (-n - 1).toNat else n.toNat):Nat):Int),()):=by
  show ZEy _ = _
  unfold ZEy
  rw [show (decide ((0:Int) ≤ (((if n < 0 then (-n - 1).toNat else n.toNat):Nat):Int)) && decide ((((if n < 0 then (-n - 1).toNat else n.toNat):Nat):Int) < 18446744073709551616)) = true from by
   rw [Bool.and_eq_true,decide_eq_true_eq,decide_eq_true_eq]; split <;> omega]
  rfl
 rw [e2]
 simp only [Qq]
 unfold X9 at hb ⊢
 rw [Qp (by omega)]
 push_cast
 rfl
theorem ZzP (k:Nat) {m:Int} (h:m = 0 ∨ m = 1):K1 k (m,()) = some (if m = 0 then 15 else 31,()):=by
 rcases h with rfl | rfl <;> rfl
def W7 (m:Int):Nat:=if m = 0 then 15 else 31
theorem Zbc (k:Nat) {m:Int} (h:m = 0 ∨ m = 1):K1 k (m,()) = some (((W7 m:Nat):Int),()):=by
 rw [ZzP k h]; unfold W7; split <;> rfl
abbrev Prt:=Int × Int × Int × Unit
def QG (l:List Int):Nat:=l.foldl (fun w n => if n = 0 then w else max w (X9 n)) 0
def Zgd:List Nat → Nat
 | [] => 0
 | x :: l => x + Zgd l
def Zck (l:List Int) (kk:Nat):Nat:=(kk + 1) * l.length + Zgd (l.map fun n => ZZ n / 2 ^ kk)
def ZiX (l:List Int) (kk:Nat):Bool:=l.any fun n => decide (65536 < ZZ n / 2 ^ kk)
def Zfl (l:List Int) (B:Prt × Bool) (kk:Nat):Prt × Bool :=
 if ZiX l kk = false ∧ (B.2 = false ∨ ((Zck l kk:Nat):Int) < B.1.2.2.1) then (((kk:Int),0,((Zck l kk:Nat):Int),()),true) else B
def kF (l:List Int):Nat → Nat → Prt × Bool → Prt × Bool
 | 0,_,B => B
 | d + 1,kk,B => kF l d (kk + 1) (Zfl l B kk)
def QX (l:List Int) (m:Int):Prt × Bool :=
 let B:=kF l (W7 m) 0 ((0,0,0,()),false)
 if QG l ≤ 31 ∧ (B.2 = false ∨ ((5 + QG l * l.length:Nat):Int) < B.1.2.2.1) then (((W7 m:Nat),((QG l:Nat):Int),((5 + QG l * l.length:Nat):Int),()),true) else B
theorem ZHW {l:List Nat} {b:Nat} (h:∀ x ∈ l,x ≤ b):Zgd l ≤ l.length * b:=by
 induction l with
 | nil => simp [Zgd]
 | cons x l ih =>
  have h1:=h x (List.mem_cons_self ..)
  have h2:=ih fun y hy => h y (List.mem_cons_of_mem _ hy)
  simp only [Zgd,List.length_cons,Nat.add_mul,Nat.one_mul]
  omega
theorem Zgg:∀ (l:List Int) (w:Nat),(∀ x ∈ l,ZI x) → w ≤ 32 → w ≤ l.foldl (fun w n => if n = 0 then w else max w (X9 n)) w ∧ l.foldl (fun w n => if n = 0 then w else max w (X9 n)) w ≤ 32 ∧
   ∀ x ∈ l,x ≠ 0 → X9 x ≤ l.foldl (fun w n => if n = 0 then w else max w (X9 n)) w
 | [],w,_,hw => ⟨Nat.le_refl _,hw,by simp⟩
 | x :: l,w,hl,hw => by
  simp only [List.foldl_cons]
  have hx:=Zlk (hl x (List.mem_cons_self ..))
  have h1:(if x = 0 then w else max w (X9 x)) ≤ 32:=by split <;> omega
  obtain ⟨a,b,c⟩:=Zgg l _ (fun y hy => hl y (List.mem_cons_of_mem _ hy)) h1
  refine ⟨Nat.le_trans (by split <;> omega) a,b,fun y hy hne => ?_⟩
  rcases List.mem_cons.1 hy with rfl | hy
  ·rw [if_neg hne] at a ⊢
   omega
  ·exact c y hy hne
theorem Zqb {l:List Int} (hl:∀ x ∈ l,ZI x):∀ x ∈ l,W9 x (QG l) = true:=by
 intro x hx
 obtain ⟨_,_,h⟩:=Zgg l 0 hl (by omega)
 by_cases h0:x = 0
 ·subst h0
  unfold W9
  split
  ·rfl
  ·rw [decide_eq_true_eq]
   have hp:(0:Int) < 2 ^ (QG l - 1):=Int.pow_pos (by omega)
   omega
 ·exact Zy8 (hl x hx) (h x hx h0)
theorem Zpx {n:Int} (h:ZI n) (kk:Nat):ZZ n / 2 ^ kk ≤ 4294967295:=by
 have:=Zm1 h
 have:=Nat.div_le_self (ZZ n) (2 ^ kk)
 omega
theorem Zy2:Ku = K1:=ZoO
theorem ZLq:ZfL = ZaW:=ZoQ
theorem Zww (k:Nat) (L2:Int × Int × List Int × Bool × Int × Int × List Int × Int × Int × Int × Int × Int × Int → Option (((Int × Int × Int × Unit) × Bool × Unit) × Unit))
  {l:List Int} (hl:∀ x ∈ l,ZI x) (hn:l.length ≤ 512) (hk:l.length < k) {kk:Nat} (hkk:kk ≤ 31) (ok:Bool) (e w m b0 b1 b2 c0 c1 c2:Int) :
  ZgR k L2 (Int.ofNat l.length,(0:Int),((kk + 1) * l.length:Nat),(kk:Int),false,ok,(kk:Int),e,l,w,m,l.map fun n => ((ZZ n:Nat):Int),b0,b1,b2,c0,c1,c2) =
   L2 (e,((kk + 1:Nat):Int),l,(Zfl l ((b0,b1,b2,()),ok) kk).2,w,m,l.map fun n => ((ZZ n:Nat):Int),(Zfl l ((b0,b1,b2,()),ok) kk).1.1,(Zfl l ((b0,b1,b2,()),ok) kk).1.2.1,(Zfl l ((b0,b1,b2,()),ok) kk).1.2.2.1,c0,c1,c2):=by
 have hml:(l.map fun n => ((ZZ n:Nat):Int)).length = l.length:=by simp
 have:=ZF (A:=Int × Bool) (R:=((Int × Int × Int × Unit) × Bool × Unit) × Unit) (step:=fun L3 => KT k L2 L3) (fun i a => (Int.ofNat l.length,Int.ofNat i,a.1,(kk:Int),a.2,ok,(kk:Int),e,l,w,m,l.map (fun n => ((ZZ n:Nat):Int)),b0,b1,b2,c0,c1,c2)) l
  (fun l' a => bif !(a.2 || ZiX l' kk) then bif !ok then L2 (e,((kk + 1:Nat):Int),l,true,w,m,l.map (fun n => ((ZZ n:Nat):Int)),(kk:Int),0,a.1 + (Zgd (l'.map fun n => ZZ n / 2 ^ kk):Nat),c0,c1,c2)
    else bif decide (a.1 + (Zgd (l'.map fun n => ZZ n / 2 ^ kk):Nat) < b2) then L2 (e,((kk + 1:Nat):Int),l,true,w,m,l.map (fun n => ((ZZ n:Nat):Int)),(kk:Int),0,a.1 + (Zgd (l'.map fun n => ZZ n / 2 ^ kk):Nat),c0,c1,c2)
    else L2 (e,((kk + 1:Nat):Int),l,ok,w,m,l.map (fun n => ((ZZ n:Nat):Int)),b0,b1,b2,c0,c1,c2)
   else L2 (e,((kk + 1:Nat):Int),l,ok,w,m,l.map (fun n => ((ZZ n:Nat):Int)),b0,b1,b2,c0,c1,c2))
  (fun i a => 0 ≤ a.1 ∧ a.1 ≤ 16384 + (i:Int) * 4294967296)
  (fun L a _ => by
   simp only [KT]
   rw [Zk (W2 _),Qp (n:=(kk:Int) + 1) (by omega)]
   simp only [ZiX,List.any_nil,Bool.or_false,List.map_nil,Zgd,Int.natCast_zero,Int.add_zero]
   push_cast
   rfl)
  (fun L i hi a ha hL => by
   simp only [KT]
   have hx:=hl l[i] (List.getElem_mem hi)
   have hp:=Zpx hx kk
   have hg:(l.map fun n => ((ZZ n:Nat):Int)).getD (Int.toNat (Int.ofNat i)) 0 = ((ZZ l[i]:Nat):Int):=by
    rw [ZW (by rw [hml]; exact hi)]; simp
   rw [Zc (ltR hi),Zc (by rw [hml]; exact inR hi),Zc (by rw [hml]; simpa using hi),Zc (by omega),hg]
   simp only [WS,Nat.min_eq_left (show kk ≤ 64 by omega),Zds]
   have hfar:ZiX (l[i] :: l.drop (i + 1)) kk = (decide (65536 < ZZ l[i] / 2 ^ kk) || ZiX (l.drop (i + 1)) kk):=by unfold ZiX; rw [List.any_cons]
   have hsum:a.1 + ((Zgd ((l[i] :: l.drop (i + 1)).map fun n => ZZ n / 2 ^ kk):Nat):Int) = a.1 + ((ZZ l[i] / 2 ^ kk:Nat):Int) + ((Zgd ((l.drop (i + 1)).map fun n => ZZ n / 2 ^ kk):Nat):Int):=by
    simp only [List.map_cons,Zgd]
    generalize ZZ l[i] / 2 ^ kk = q
    omega
   generalize ZZ l[i] / 2 ^ kk = q at hp hfar hsum ⊢
   have hi5:(i:Int) ≤ 512:=by omega
   rw [Qp (n:=a.1 + ((q:Nat):Int)) (by omega),QZ hi (by omega)]
   rw [hfar,hsum]
   cases h4:a.2 with
   | true =>
    simp only [cond_true]
    rw [hL (a.1 + ((q:Nat):Int),true) ⟨by omega,by push_cast; omega⟩]
    simp
   | false =>
    simp only [cond_false]
    rw [Zc (by omega)]
    have hd:decide ((65536:Int) < ((q:Nat):Int)) = decide (65536 < q):=by
     by_cases hh:65536 < q
     ·rw [WH hh,WH (by omega)]
     ·rw [WG hh,WG (by omega)]
    rw [hd,hL (a.1 + ((q:Nat):Int),decide (65536 < q)) ⟨by omega,by push_cast; omega⟩]
    simp) k 0 ((((kk + 1) * l.length:Nat):Int),false) ⟨by omega,by
     have:(kk + 1) * l.length ≤ 32 * 512:=Nat.mul_le_mul (by omega) hn
     show (((kk + 1) * l.length:Nat):Int) ≤ 16384 + ((0:Nat):Int) * 4294967296
     generalize (kk + 1) * l.length = N at this ⊢
     omega⟩ (by omega) (Nat.zero_le _)
 refine Eq.trans this ?_
 rw [List.drop_zero]
 unfold Zfl
 have hsz:(((kk + 1) * l.length:Nat):Int) + ((Zgd (l.map fun n => ZZ n / 2 ^ kk):Nat):Int) = ((Zck l kk:Nat):Int):=by unfold Zck; push_cast; rfl
 simp only [Bool.false_or,hsz]
 cases hfb:ZiX l kk with
 | true => simp
 | false =>
  simp only [Bool.not_false,cond_true,true_and]
  cases ok with
  | false => simp
  | true =>
   simp only [Bool.not_true,cond_false,Bool.true_eq_false,false_or]
   by_cases hlt:((Zck l kk:Nat):Int) < b2
   ·rw [Zc hlt,if_pos hlt]
   ·rw [Zk hlt,if_neg hlt]
theorem ZCT (k:Nat) {l:List Int} (hl:∀ x ∈ l,ZI x) (hn:l.length ≤ 512) (hk:l.length < k) {m:Int} (hm:m = 0 ∨ m = 1) (c0 c1 c2:Int) (hw:QG l ≤ 32) :
  ∀ (d kk j:Nat) (B:Prt × Bool),kk + d = W7 m → d < j →
  Zs (fun L2 => Zbp k (ZgR k L2) L2) j (((W7 m:Nat):Int),(kk:Int),l,B.2,((QG l:Nat):Int),m,l.map (fun n => ((ZZ n:Nat):Int)),B.1.1,B.1.2.1,B.1.2.2.1,c0,c1,c2) =
   some ((let B:=kF l d kk B; if QG l ≤ 31 ∧ (B.2 = false ∨ ((5 + QG l * l.length:Nat):Int) < B.1.2.2.1) then ((((W7 m:Nat):Int),((QG l:Nat):Int),((5 + QG l * l.length:Nat):Int),()),true,()) else (B.1,B.2,())),()):=by
 have he:W7 m ≤ 31:=by unfold W7; split <;> omega
 intro d
 induction d with
 | zero =>
  intro kk j B hkk hj
  obtain ⟨j,rfl⟩:=Zv hj
  rw [Zj]
  simp only [Zbp]
  rw [Zk (by omega)]
  have hwl:QG l * l.length ≤ 32 * 512:=Nat.mul_le_mul hw hn
  have e1:IntKind.i64.wrap ((5:Int) + IntKind.i64.wrap (((QG l:Nat):Int) * Int.ofNat l.length)) = ((5 + QG l * l.length:Nat):Int):=by
   have:((QG l:Nat):Int) * Int.ofNat l.length = ((QG l * l.length:Nat):Int):=by simp only [QW]; push_cast; rfl
   rw [this,Qp (n:=((QG l * l.length:Nat):Int)) (by omega),Qp (by omega)]
   push_cast; rfl
  rw [e1,Zy2,Zbc k hm]
  simp only [Qq]
  rw [show kF l 0 kk B = B from rfl]
  by_cases h31:QG l ≤ 31
  ·rw [Zc (by omega)]
   cases hB:B.2 with
   | false => simp only [Bool.not_false,cond_true]; rw [if_pos ⟨h31,.inl trivial⟩]
   | true =>
    simp only [Bool.not_true,cond_false,Bool.true_eq_false,false_or]
    by_cases hlt:((5 + QG l * l.length:Nat):Int) < B.1.2.2.1
    ·rw [Zc hlt,if_pos ⟨h31,hlt⟩]
    ·rw [Zk hlt,if_neg (fun h => hlt h.2)]
  ·rw [Zk (by omega),if_neg (fun h => h31 h.1)]
 | succ d ih =>
  intro kk j B hkk hj
  obtain ⟨j,rfl⟩:=Zv (show 0 < j by omega)
  rw [Zj]
  simp only [Zbp]
  rw [Zc (by omega)]
  have hkl:(kk + 1) * l.length ≤ 32 * 512:=Nat.mul_le_mul (by omega) hn
  have e1:IntKind.i64.wrap (IntKind.i64.wrap ((kk:Int) + 1) * Int.ofNat l.length) = (((kk + 1) * l.length:Nat):Int):=by
   have h1:IntKind.i64.wrap ((kk:Int) + 1) = ((kk + 1:Nat):Int):=by rw [Qp (by omega)]; push_cast; rfl
   rw [h1]
   have:((kk + 1:Nat):Int) * Int.ofNat l.length = (((kk + 1) * l.length:Nat):Int):=by simp only [QW]; rw [Int.natCast_mul]
   rw [this,Qp (by omega)]
  rw [e1]
  have e2:Int.ofNat (l.map fun n => ((ZZ n:Nat):Int)).length = Int.ofNat l.length:=by simp
  rw [e2,Zww k _ hl hn hk (by omega)]
  rw [ih (kk + 1) j (Zfl l B kk) (by omega) (by omega)]
  rfl
theorem ZAr (k:Nat) {l:List Int} (hl:∀ x ∈ l,ZI x) (hn:l.length ≤ 512) (hk:l.length + 40 < k) {m:Int} (hm:m = 0 ∨ m = 1) :
  Zmf k (l,m,()) = some (((QX l m).1,(QX l m).2,()),()):=by
 show ZeH k (ZkL k) _ = _
 simp only [ZeH]
 rw [Zc (by simp only [QW]; omega)]
 have hwid:=(Zgg l 0 hl (by omega)).2.1
 have he:W7 m ≤ 31:=by unfold W7; split <;> omega
 have:=ZF (A:=Nat × List Int) (step:=fun L1 => Zbo k (ZgQ k) L1) (fun i a => (Int.ofNat l.length,Int.ofNat i,l,((a.1:Nat):Int),m,l,false,a.2,0,0,0,0,0,0)) l
  (fun l' a => ZgQ k (((W7 m:Nat):Int),0,l,false,((l'.foldl (fun w n => if n = 0 then w else max w (X9 n)) a.1:Nat):Int),m,a.2.take (l.length - l'.length) ++ l'.map (fun n => ((ZZ n:Nat):Int)),0,0,0,0,0,0))
  (fun i a => a.1 ≤ 32 ∧ a.2.length = l.length)
  (fun L a ha => by
   simp only [Zbo]
   rw [Zk (W2 _),Zy2,Zbc k hm]
   simp only [Qq,List.foldl_nil,List.map_nil,List.append_nil,List.length_nil,Nat.sub_zero]
   rw [List.take_of_length_le (by omega)])
  (fun L i hi a ha hL => by
   simp only [Zbo]
   have hx:=hl l[i] (List.getElem_mem hi)
   have hb:=Zlk hx
   rw [Zc (ltR hi),Zc (inR hi),ZW hi,ZLq,ZoS k hx]
   simp only [Qq]
   rw [Zc (by rw [ha.2]; exact inR hi),Zc (by rw [ha.2]; simpa using hi),ZY,QZ hi (by omega)]
   have hdl:(l.drop (i + 1)).length = l.length - (i + 1):=by simp
   have hset:(a.2.set (Int.ofNat i).toNat ((ZZ l[i]:Nat):Int)).take (l.length - (l.drop (i + 1)).length) ++ (l.drop (i + 1)).map (fun n => ((ZZ n:Nat):Int)) =
     a.2.take (l.length - (l[i] :: l.drop (i + 1)).length) ++ (l[i] :: l.drop (i + 1)).map (fun n => ((ZZ n:Nat):Int)):=by
    rw [hdl,List.length_cons,hdl,show l.length - (l.length - (i + 1)) = i + 1 by omega,show l.length - (l.length - (i + 1) + 1) = i by omega]
    rw [List.map_cons,List.take_add_one,List.take_set_of_le (by simp)]
    have:(a.2.set (Int.ofNat i).toNat ((ZZ l[i]:Nat):Int))[i]? = some ((ZZ l[i]:Nat):Int):=by
     rw [List.getElem?_set]; simp; omega
    rw [this]
    simp
   have hfold:(l[i] :: l.drop (i + 1)).foldl (fun w n => if n = 0 then w else max w (X9 n)) a.1 = (l.drop (i + 1)).foldl (fun w n => if n = 0 then w else max w (X9 n)) (if l[i] = 0 then a.1 else max a.1 (X9 l[i])):=rfl
   by_cases h0:l[i] = 0
   ·rw [Zk (by simpa using h0)]
    rw [hL (a.1,a.2.set (Int.ofNat i).toNat ((ZZ l[i]:Nat):Int)) ⟨ha.1,by simpa using ha.2⟩,hset,hfold,if_pos h0]
   ·rw [Zc h0,ZAx k hx]
    simp only [Qq]
    have e1:(if ((a.1:Nat):Int) < ((X9 l[i]:Nat):Int) then ((X9 l[i]:Nat):Int) else ((a.1:Nat):Int)) = ((max a.1 (X9 l[i]):Nat):Int):=by split <;> omega
    rw [e1,hL (max a.1 (X9 l[i]),a.2.set (Int.ofNat i).toNat ((ZZ l[i]:Nat):Int)) ⟨by omega,by simpa using ha.2⟩,hset,hfold,if_neg h0])
  k 0 (0,List.replicate l.length 0) ⟨by omega,by simp⟩ (by omega) (Nat.zero_le _)
 rw [List.drop_zero] at this
 refine Eq.trans this ?_
 have:=ZCT k hl hn (by omega) hm 0 0 0 hwid (W7 m) 0 k ((0,0,0,()),false) (by omega) (by omega)
 rw [Nat.sub_self,List.take_zero,List.nil_append]
 refine Eq.trans this ?_
 unfold QX
 simp only
 split <;> rfl
end Go.Sh
namespace Go.Sh
open Go Go.Proofs
theorem ZIJ:Zb8 = K0:=ZoM
theorem ZMq:Zme = K3:=Zo2
theorem Ziv (k:Nat) {m:Int} (h:m = 0 ∨ m = 1):K0 k (m,()) = some (4 + m,()):=by
 rcases h with rfl | rfl <;> rfl
theorem ZAm (k:Nat) (x:Int):Zmd k (x,()) = some (Qo x,()):=by
 show ZeD k _ = _
 simp only [ZeD]
 unfold Qo
 by_cases h:x ≤ -2147483648
 ·rw [Zc h,WH (.inl h)]
 ·rw [Zk h]
  by_cases h2:2147483648 ≤ x
  ·rw [WH h2,WH (.inr h2)]
  ·rw [WG h2,WG (by omega)]
theorem Ztl (k:Nat) (c:List Int) (hk:c.length < k) (hn:c.length < 4294967296):ZcR k (c,(),()) = some (c.any Qo,()):=by
 show Zav k _ = _
 simp only [Zav]
 have key:∃ i:Int,Zc0 k (c,(),()) = some (i,()) ∧ (0 ≤ i ↔ c.any Qo = true):=by
  have:=WA (A:=Unit) (R:=Int × Unit) (step:=fun L1 => Kb k L1) (fun i _ => (Int.ofNat c.length,Int.ofNat i,c)) c
   (fun l _ => some (if l.any Qo then Int.ofNat (c.length - l.length + (l.takeWhile (fun x => !Qo x)).length) else -1,()))
   (fun L _ => by simp only [Kb]; rw [Zk (W2 _)]; rfl)
   (fun L i hi _ hL => by
    simp only [Kb]
    rw [Zc (ltR hi),Zc (inR hi),ZW hi,ZAm]
    simp only [Qq]
    have hlen:(List.drop (i + 1) c).length = c.length - (i + 1):=by simp
    cases hc:Qo c[i] with
    | false =>
     simp only [cond_false]
     rw [QZ hi (by omega),hL ()]
     simp only [List.any_cons,hc,Bool.false_or,List.takeWhile_cons,Bool.not_false,if_true,List.length_cons,hlen]
     split
     ·congr 3; omega
     ·rfl
    | true =>
     simp only [cond_true,List.any_cons,hc,Bool.true_or,if_true,List.takeWhile_cons,Bool.not_true,Bool.false_eq_true,if_false,List.length_cons,hlen,List.length_nil]
     congr 3; omega) k 0 () (by omega) (Nat.zero_le _)
  rw [List.drop_zero] at this
  refine ⟨_,this,?_⟩
  cases c.any Qo <;> simp
 obtain ⟨i,h1,h2⟩:=key
 rw [h1]
 simp only [Qq]
 cases hc:c.any Qo with
 | true => rw [WH (h2.2 hc)]
 | false => rw [WG (fun h => by have:=h2.1 h; rw [hc] at this; cases this)]
def ZaT (n o:Int):Bool:=decide (1 ≤ n ∧ n ≤ 512 ∧ 0 ≤ o ∧ o ≤ 8 ∧ o ≤ n)
theorem Zo1 (k:Nat) (n o:Int):ZiK k (n,o,()) = some (ZaT n o,()):=by
 show ZeC k _ = _
 simp only [ZeC]
 unfold ZaT
 by_cases h1:1 ≤ n
 ·rw [Zc h1]
  by_cases h2:n ≤ 512
  ·rw [Zc h2]
   by_cases h3:0 ≤ o
   ·rw [Zc h3]
    congr 2
    by_cases h4:o ≤ 8 ∧ o ≤ n
    ·rw [WH (show 1 ≤ n ∧ n ≤ 512 ∧ 0 ≤ o ∧ o ≤ 8 ∧ o ≤ n by omega),WH (by split <;> omega)]
    ·rw [WG (show ¬ (1 ≤ n ∧ n ≤ 512 ∧ 0 ≤ o ∧ o ≤ 8 ∧ o ≤ n) by omega),WG (by split <;> omega)]
   ·rw [Zk h3,WG (by omega)]
  ·rw [Zk h2,WG (by omega)]
 ·rw [Zk h1,WG (by omega)]
def XZ (l:List Int) (o:Int):Int:=if o < 0 ∨ 8 < o then 1 else if ZaT ((l.length:Int) + o) o = false then 1 else if l.any Qo then 12 else 0
theorem ZoJ (k:Nat) (l:List Int) (o:Int) (hk:l.length < k) (hn:l.length < 4294967296):Zir k (l,o,()) = some (XZ l o,()):=by
 show Zec k _ = _
 simp only [Zec]
 unfold XZ
 by_cases h1:o < 0
 ·rw [Zc h1,if_pos (.inl h1)]
 ·rw [Zk h1]
  by_cases h2:8 < o
  ·rw [Zc h2,if_pos (.inr h2)]
  ·rw [Zk h2,if_neg (by omega),Qp (by simp only [QW]; omega),Zo1]
   simp only [Qq,QW]
   cases hb:ZaT ((l.length:Int) + o) o with
   | false => rfl
   | true =>
    simp only [Bool.not_true,cond_false,Bool.true_eq_false,if_false]
    rw [Ztl k l hk hn]
    simp only [Qq]
    cases l.any Qo <;> rfl
theorem ZK7 {p:Nat} (hp:p ≤ 31):IntKind.i64.wrap (IntKind.i64.wrap ((1:Int) * (2:Int) ^ min ((p:Int)).toNat 64) - 1) = ((2 ^ p - 1:Nat):Int):=by
 have h1:2 ^ p ≤ 2 ^ 31:=Nat.pow_le_pow_right (by omega) hp
 have h0:0 < 2 ^ p:=Nat.pow_pos (by omega)
 rw [WS,Nat.min_eq_left (by omega),Int.one_mul,Wi]
 rw [Qp (n:=((2 ^ p:Nat):Int)) (by omega),Qp (by omega)]
 omega
theorem Zk4 {p:Nat} (hp:p ≤ 31):IntKind.i64.wrap ((1:Int) * (2:Int) ^ min ((p:Int)).toNat 64) = ((2 ^ p:Nat):Int):=by
 have h1:2 ^ p ≤ 2 ^ 31:=Nat.pow_le_pow_right (by omega) hp
 rw [WS,Nat.min_eq_left (by omega),Int.one_mul,Wi]
 generalize 2 ^ p = Q at h1 ⊢
 rw [Qp (by omega)]
theorem ZsT {n p:Nat} (hn:n < 4294967296) (hp:p ≤ 31):IntKind.i64.wrap (Int.ofNat (BitVec.ofInt 64 (n:Int) &&& BitVec.ofInt 64 (IntKind.i64.wrap (IntKind.i64.wrap ((1:Int) * (2:Int) ^ min ((p:Int)).toNat 64) - 1))).toNat) = ((n % 2 ^ p:Nat):Int):=by
 have h1:2 ^ p ≤ 2 ^ 31:=Nat.pow_le_pow_right (by omega) hp
 rw [ZK7 hp,Zy5 (by omega) (by omega),Nat.and_two_pow_sub_one_eq_mod]
 have:n % 2 ^ p ≤ n:=Nat.mod_le _ _
 rw [Qp (by omega)]
def ZcD (n o p:Nat):Bool:=decide (n % 2 ^ p = 0) && decide (o ≤ n / 2 ^ p)
theorem Zo3 (k:Nat) {n o p:Nat} (hn:n < 4294967296) (hp:p ≤ 31):K3 k ((n:Int),(o:Int),(p:Int),()) = some (ZcD n o p,()):=by
 show ZeF k _ = _
 simp only [ZeF]
 rw [Zc (by omega),ZsT hn hp,ZP,WS,Nat.min_eq_left (by omega),Zds]
 unfold ZcD
 by_cases h:n % 2 ^ p = 0
 ·rw [Zc (by omega),Zc (by omega),WH h,Bool.true_and]
  congr 2
  by_cases h2:o ≤ n / 2 ^ p
  ·rw [WH h2,WH (by omega)]
  ·rw [WG h2,WG (by omega)]
 ·rw [Zk (by omega),WG h,Bool.false_and]
def YF (size:Nat):Nat → List Int → List (List Int)
 | 0,_ => []
 | d + 1,r => r.take size :: YF size d (r.drop size)
def X1 (l:List Int) (o p:Nat):List (List Int):=l.take ((l.length + o) / 2 ^ p - o) :: YF ((l.length + o) / 2 ^ p) (2 ^ p - 1) (l.drop ((l.length + o) / 2 ^ p - o))
theorem Zlv (size:Nat):∀ (d:Nat) (r:List Int),(YF size d r).length = d
 | 0,_ => rfl
 | d + 1,r => by simp [YF,Zlv size d]
theorem Zgx (l:List Int) (o p:Nat):(X1 l o p).length = 2 ^ p:=by
 have h0:0 < 2 ^ p:=Nat.pow_pos (by omega)
 simp only [X1,List.length_cons,Zlv]
 omega
theorem Zlw {size:Nat}:∀ {d:Nat} {r c:List Int},c ∈ YF size d r → ∀ x ∈ c,x ∈ r
 | d + 1,r,c,h,x,hx => by
  rcases List.mem_cons.1 h with rfl | h
  ·exact List.mem_of_mem_take hx
  ·exact List.mem_of_mem_drop (Zlw h x hx)
theorem KZ {l:List Int} {o p:Nat} {c:List Int} (h:c ∈ X1 l o p):∀ x ∈ c,x ∈ l:=by
 intro x hx
 rcases List.mem_cons.1 h with rfl | h
 ·exact List.mem_of_mem_take hx
 ·exact List.mem_of_mem_drop (Zlw h x hx)
theorem Zot {size:Nat}:∀ {d:Nat} {r c:List Int},c ∈ YF size d r → c.length ≤ r.length
 | d + 1,r,c,h => by
  rcases List.mem_cons.1 h with rfl | h
  ·rw [List.length_take]; omega
  ·have:=Zot h
   rw [List.length_drop] at this
   omega
theorem Zgw {l:List Int} {o p:Nat} {c:List Int} (h:c ∈ X1 l o p):c.length ≤ l.length:=by
 rcases List.mem_cons.1 h with rfl | h
 ·rw [List.length_take]; omega
 ·have:=Zot h
  rw [List.length_drop] at this
  omega
theorem ZzO (k:Nat) {p size:Nat} (hp:p ≤ 15):∀ (d m:Nat) (r:List Int) (out:List (List Int)),d < m → out.length + d = 2 ^ p → r.length = d * size → r.length < 4294967296 →
  Zs (fun L1 => Zbb k L1) m ((p:Int),r,(size:Int),out) = some (out ++ YF size d r,()):=by
 have h15:2 ^ p ≤ 2 ^ 15:=Nat.pow_le_pow_right (by omega) hp
 intro d
 induction d with
 | zero =>
  intro m r out hm ho hr hn
  obtain ⟨m,rfl⟩:=Zv hm
  rw [Zj]
  simp only [Zbb]
  rw [Zc (by omega),Zk4 (by omega),Zk (by simp only [QW]; omega)]
  simp [YF]
 | succ d ih =>
  intro m r out hm ho hr hn
  obtain ⟨m,rfl⟩:=Zv (show 0 < m by omega)
  rw [Zj]
  simp only [Zbb]
  have hs:(d + 1) * size = d * size + size:=by rw [Nat.add_mul,Nat.one_mul]
  have hle:size ≤ r.length:=by omega
  rw [Zc (by omega),Zk4 (by omega),Zc (by simp only [QW]; omega),Zc (by simp only [QW]; omega),
   Zc (by simp only [List.length_singleton]; omega),Zc (by simp only [QW]; omega)]
  rw [WS,show (Int.ofNat r.length).toNat = r.length from rfl,List.take_length,List.drop_zero]
  rw [ih m (r.drop size) _ (by omega) (by rw [Wm,List.length_singleton]; omega) (by rw [List.length_drop]; omega) (by rw [List.length_drop]; omega)]
  simp [YF]
theorem ZoL (k:Nat) {l:List Int} {o p:Nat} (hp:p ≤ 15) (hn:l.length + o < 4294967296) (hk:32768 < k) (hf:ZcD (l.length + o) o p = true) :
  Zit k (l,(o:Int),(p:Int),()) = some (X1 l o p,()):=by
 show Zeg k (Zkk k) _ = _
 have h15:2 ^ p ≤ 2 ^ 15:=Nat.pow_le_pow_right (by omega) hp
 have h0:0 < 2 ^ p:=Nat.pow_pos (by omega)
 unfold ZcD at hf
 simp only [Bool.and_eq_true,decide_eq_true_eq] at hf
 obtain ⟨hm,ho⟩:=hf
 simp only [Zeg]
 have e1:IntKind.i64.wrap (Int.ofNat l.length + (o:Int)) = ((l.length + o:Nat):Int):=by rw [Qp (by simp only [QW]; omega)]; rfl
 have hd:(l.length + o) / 2 ^ p ≤ l.length + o:=Nat.div_le_self _ _
 have hmul:2 ^ p * ((l.length + o) / 2 ^ p) = l.length + o:=by have:=Nat.div_add_mod (l.length + o) (2 ^ p); omega
 unfold X1
 rw [e1]
 simp only [WS,Nat.min_eq_left (show p ≤ 64 by omega),Zds]
 generalize hsz:(l.length + o) / 2 ^ p = size at ho hd hmul
 have e2:IntKind.i64.wrap ((size:Int) - (o:Int)) = ((size - o:Nat):Int):=by rw [Qp (by omega)]; omega
 have hle:size ≤ l.length + o:=hd
 have e3:(2 ^ p - 1) * size = 2 ^ p * size - size:=by rw [Nat.sub_mul,Nat.one_mul]
 rw [e2,Zc (by omega),Zc (by simp only [QW]; omega),Zc (by simp only [QW]; omega)]
 rw [WS,show (Int.ofNat l.length).toNat = l.length from rfl,List.take_length,List.drop_zero]
 have hps:size ≤ 2 ^ p * size:=Nat.le_mul_of_pos_left _ h0
 refine Eq.trans (ZzO k hp (2 ^ p - 1) k _ _ (by omega) (by rw [List.length_singleton]; omega) (by rw [List.length_drop,e3]; omega) (by rw [List.length_drop]; omega)) ?_
 rfl
end Go.Sh
namespace Go.Sh
open Go Go.Proofs
def Ks (c:List Int) (m:Int) (y:Prt):Prop :=
 (∃ kk:Nat,kk < W7 m ∧ ZiX c kk = false ∧ y = ((kk:Int),0,((Zck c kk:Nat):Int),())) ∨
 (QG c ≤ 31 ∧ y = (((W7 m:Nat):Int),((QG c:Nat):Int),((5 + QG c * c.length:Nat):Int),()))
theorem ZIF {c:List Int} {m:Int}:∀ (d kk:Nat) (B:Prt × Bool),kk + d = W7 m → (B.2 = true → Ks c m B.1) → ((kF c d kk B).2 = true → Ks c m (kF c d kk B).1)
 | 0,_,B,_,hB => hB
 | d + 1,kk,B,hk,hB => by
  refine ZIF d (kk + 1) _ (by omega) fun h => ?_
  unfold Zfl at h ⊢
  split
  ·rename_i hc
   exact .inl ⟨kk,by omega,hc.1,rfl⟩
  ·rename_i hc
   rw [if_neg hc] at h
   exact hB h
theorem ZcK {c:List Int} {m:Int} (h:(QX c m).2 = true):Ks c m (QX c m).1:=by
 unfold QX at h ⊢
 simp only at h ⊢
 split
 ·rename_i hc
  exact .inr ⟨hc.1,rfl⟩
 ·rename_i hc
  rw [if_neg hc] at h
  exact ZIF _ _ _ (by omega) (fun h => by cases h) h
theorem ZyF {c:List Int}:∀ (d kk:Nat) (B:Prt × Bool),B.2 = true → (kF c d kk B).2 = true
 | 0,_,B,hB => hB
 | d + 1,kk,B,hB => by
  refine ZyF d (kk + 1) _ ?_
  unfold Zfl
  split
  ·rfl
  ·exact hB
theorem ZyG {c:List Int} {j:Nat} (hj:ZiX c j = false):∀ (d kk:Nat) (B:Prt × Bool),kk ≤ j → j < kk + d → (kF c d kk B).2 = true
 | 0,_,B,h1,h2 => by omega
 | d + 1,kk,B,h1,h2 => by
  by_cases he:kk = j
  ·subst he
   refine ZyF d _ _ ?_
   unfold Zfl
   split
   ·rfl
   ·rename_i hc
    simp only [hj,true_and,not_or] at hc
    simpa using hc.1
  ·exact ZyG hj d (kk + 1) _ (by omega) (by omega)
theorem ZMe {c:List Int} (hc:∀ x ∈ c,ZI x):ZiX c 16 = false:=by
 unfold ZiX
 rw [List.any_eq_false]
 intro x hx
 have h1:=Zm1 (hc x hx)
 have:ZZ x / 2 ^ 16 < 65536:=by rw [Nat.div_lt_iff_lt_mul (by decide)]; omega
 simp only [decide_eq_true_eq]
 omega
theorem ZvS {c:List Int} (hc:∀ x ∈ c,ZI x):(QX c 1).2 = true:=by
 unfold QX
 simp only
 split
 ·rfl
 ·exact ZyG (ZMe hc) _ _ _ (by omega) (by decide)
theorem Ks.size {c:List Int} {m:Int} {y:Prt} (h:Ks c m y) (hc:∀ x ∈ c,ZI x) (hn:c.length ≤ 512):0 ≤ y.2.2.1 ∧ y.2.2.1 ≤ 4398046511104:=by
 have he:W7 m ≤ 31:=by unfold W7; split <;> omega
 rcases h with ⟨kk,hk,_,rfl⟩ | ⟨hw,rfl⟩
 ·simp only
  have h1:(kk + 1) * c.length ≤ 32 * 512:=Nat.mul_le_mul (by omega) hn
  have h2:Zgd (c.map fun n => ZZ n / 2 ^ kk) ≤ (c.map fun n => ZZ n / 2 ^ kk).length * 4294967295:=ZHW fun x hx => by
   obtain ⟨n,hn,rfl⟩:=List.mem_map.1 hx
   exact Zpx (hc n hn) kk
  rw [List.length_map] at h2
  unfold Zck
  omega
 ·simp only
  have h1:QG c * c.length ≤ 31 * 512:=Nat.mul_le_mul hw hn
  omega
def QD (m:Int):List (List Int) → List Prt → Int → List Prt × Int × Bool
 | [],ps,sz => (ps,sz,true)
 | c :: cs,ps,sz => if (QX c m).2 = true then QD m cs (ps ++ [(QX c m).1]) (sz + (4 + m + (QX c m).1.2.2.1)) else (ps,sz,false)
theorem Zf2 {m:Int} {c:List Int} (cs:List (List Int)) (ps:List Prt) (sz:Int) (h:(QX c m).2 = true):QD m (c :: cs) ps sz = QD m cs (ps ++ [(QX c m).1]) (sz + (4 + m + (QX c m).1.2.2.1)):=by
 show (if (QX c m).2 = true then _ else _) = _
 rw [if_pos h]
theorem Zjc {m:Int} {c:List Int} (cs:List (List Int)) (ps:List Prt) (sz:Int) (h:(QX c m).2 = false):QD m (c :: cs) ps sz = (ps,sz,false):=by
 show (if (QX c m).2 = true then _ else _) = _
 rw [if_neg (by rw [h]; simp)]
abbrev XF:=Int × Int × Int × List Prt
def XC (l:List Int) (o p:Nat) (m:Int) (B:XF):XF :=
 if (QD m (X1 l o p) [] 6).2.2 = true ∧ (B.2.2.1 < 0 ∨ (QD m (X1 l o p) [] 6).2.1 < B.2.2.1) then (m,(p:Int),(QD m (X1 l o p) [] 6).2.1,(QD m (X1 l o p) [] 6).1) else B
def Zh0 (l:List Int) (o:Nat) (B:XF) (p:Nat):XF:=if ZcD (l.length + o) o p = true then XC l o p 1 (XC l o p 0 B) else B
def XX (l:List Int) (o:Nat):Nat → Nat → XF → XF
 | 0,_,B => B
 | d + 1,p,B => XX l o d (p + 1) (Zh0 l o B p)
def Ws (l:List Int) (o:Nat):XF:=XX l o 5 0 (0,0,-1,[])
theorem Zwc (k:Nat) (L1:Int × List Int × Int × Int × Int × Int × List (Int × Int × Int × Unit) × Int × Int × Int → Option ((Int × Int × List (Int × Int × Int × Unit) × Int × Unit) × Unit))
  (L2:Int × Int × List Int × Int × Int × Int × Int × List (Int × Int × Int × Unit) × Int × Int × Int → Option ((Int × Int × List (Int × Int × Int × Unit) × Int × Unit) × Unit))
  {cs:List (List Int)} (hcs:∀ c ∈ cs,(∀ x ∈ c,ZI x) ∧ c.length ≤ 512) (hn:cs.length ≤ 16) (hk:600 < k) {m:Int} (hm:m = 0 ∨ m = 1) (p:Int) (l:List Int) (o:Int) (B:XF) :
  Zaz k L1 L2 (Int.ofNat cs.length,(0:Int),cs,m,p,l,o,true,B.1,B.2.1,B.2.2.1,B.2.2.2,m,p,(6:Int),[],0,0,0) =
   L2 (m + 1,p,l,o,if (QD m cs [] 6).2.2 = true ∧ (B.2.2.1 < 0 ∨ (QD m cs [] 6).2.1 < B.2.2.1) then (m,p,(QD m cs [] 6).2.1,(QD m cs [] 6).1,0,0,0) else (B.1,B.2.1,B.2.2.1,B.2.2.2,0,0,0)):=by
 have hm1:IntKind.i64.wrap (m + 1) = m + 1:=by rcases hm with rfl | rfl <;> rfl
 have:=ZF (A:=Int × List Prt) (R:=(Int × Int × List (Int × Int × Int × Unit) × Int × Unit) × Unit) (step:=fun L3 => KR k L1 L2 L3)
  (fun i a => (Int.ofNat cs.length,Int.ofNat i,cs,m,p,l,o,true,B.1,B.2.1,B.2.2.1,B.2.2.2,m,p,a.1,a.2,0,0,0)) cs
  (fun cs' a => L2 (m + 1,p,l,o,if (QD m cs' a.2 a.1).2.2 = true ∧ (B.2.2.1 < 0 ∨ (QD m cs' a.2 a.1).2.1 < B.2.2.1) then (m,p,(QD m cs' a.2 a.1).2.1,(QD m cs' a.2 a.1).1,0,0,0) else (B.1,B.2.1,B.2.2.1,B.2.2.2,0,0,0)))
  (fun i a => 0 ≤ a.1 ∧ a.1 ≤ 6 + (i:Int) * 8796093022208 ∧ a.2.length = i)
  (fun L a _ => by
   simp only [KR]
   rw [Zk (W2 _),hm1]
   simp only [cond_true,QD,true_and]
   by_cases h1:B.2.2.1 < 0
   ·rw [Zc h1,if_pos (.inl h1)]
   ·rw [Zk h1]
    by_cases h2:a.1 < B.2.2.1
    ·rw [Zc h2,if_pos (.inr h2)]
    ·rw [Zk h2,if_neg (by omega)])
  (fun L i hi a ha hL => by
   simp only [KR]
   obtain ⟨hc1,hc2⟩:=hcs cs[i] (List.getElem_mem hi)
   rw [Zc (ltR hi),Zc (inR hi),ZW hi,ZAr k hc1 hc2 (by omega) hm]
   simp only [Qq]
   cases hb:(QX cs[i] m).2 with
   | false =>
    rw [Zjc _ _ _ hb]
    simp only [Bool.not_false,cond_true,cond_false,hm1,Bool.false_eq_true,if_false,false_and]
   | true =>
    rw [Zf2 _ _ _ hb]
    simp only [Bool.not_true,cond_false]
    have hs:=(ZcK hb).size hc1 hc2
    have hi16:(i:Int) < 16:=by omega
    have hm01:0 ≤ m ∧ m ≤ 1:=by rcases hm with rfl | rfl <;> omega
    rw [Zc (by simp only [List.length_singleton]; omega),ZIJ,Ziv k hm]
    simp only [Qq]
    rw [QZ hi (by omega),Qp (n:=4 + m + (QX cs[i] m).1.2.2.1) (by omega),Qp (by omega)]
    exact hL (a.1 + (4 + m + (QX cs[i] m).1.2.2.1),a.2 ++ [(QX cs[i] m).1]) ⟨by omega,by push_cast; omega,by simp; omega⟩)
  k 0 ((6:Int),[]) ⟨by omega,by simp,rfl⟩ (by omega) (Nat.zero_le _)
 rw [List.drop_zero] at this
 exact this
theorem ZzJ (k:Nat) (L1:Int × List Int × Int × Int × Int × Int × List (Int × Int × Int × Unit) × Int × Int × Int → Option ((Int × Int × List (Int × Int × Int × Unit) × Int × Unit) × Unit))
  {l:List Int} (hl:∀ x ∈ l,ZI x) {o p:Nat} (hn:l.length + o ≤ 512) (hp:p ≤ 4) (hk:40000 < k) (hf:ZcD (l.length + o) o p = true) (B:XF) :
  ZgJ k L1 ((0:Int),(p:Int),l,(o:Int),B.1,B.2.1,B.2.2.1,B.2.2.2,0,0,0) =
   L1 (((p + 1:Nat):Int),l,(o:Int),(XC l o p 1 (XC l o p 0 B)).1,(XC l o p 1 (XC l o p 0 B)).2.1,(XC l o p 1 (XC l o p 0 B)).2.2.1,(XC l o p 1 (XC l o p 0 B)).2.2.2,0,0,0):=by
 have hcs:∀ c ∈ X1 l o p,(∀ x ∈ c,ZI x) ∧ c.length ≤ 512:=fun c hc => ⟨fun x hx => hl x (KZ hc x hx),by have:=Zgw hc; omega⟩
 have hlen:(X1 l o p).length ≤ 16:=by
  rw [Zgx]
  have:2 ^ p ≤ 2 ^ 4:=Nat.pow_le_pow_right (by omega) hp
  omega
 have hcut:=ZoL k (l:=l) (o:=o) (p:=p) (by omega) (by omega) (by omega) hf
 have one:∀ (j:Nat) (m:Int) (B:XF),m = 0 ∨ m = 1 → Zs (fun L2 => Yd k (Zaz k L1 L2) L1 L2) (j + 1) (m,(p:Int),l,(o:Int),B.1,B.2.1,B.2.2.1,B.2.2.2,0,0,0) =
   Zs (fun L2 => Yd k (Zaz k L1 L2) L1 L2) j (m + 1,(p:Int),l,(o:Int),(XC l o p m B).1,(XC l o p m B).2.1,(XC l o p m B).2.2.1,(XC l o p m B).2.2.2,0,0,0):=by
  intro j m B hm
  rw [Zj]
  simp only [Yd]
  rw [Zc (by rcases hm with rfl | rfl <;> omega),hcut]
  simp only [Qq]
  refine (Zwc k L1 _ hcs hlen (by omega) hm (p:Int) l (o:Int) B).trans ?_
  unfold XC
  split <;> rfl
 obtain ⟨j,rfl⟩:∃ j,k = j + 3:=⟨k - 3,by omega⟩
 show Zs (fun L2 => Yd (j + 3) (Zaz (j + 3) L1 L2) L1 L2) (j + 3) _ = _
 rw [one (j + 2) 0 B (.inl rfl),show (0:Int) + 1 = 1 from rfl,one (j + 1) 1 _ (.inr rfl),Zj]
 simp only [Yd]
 rw [Zk (by omega),Qp (by omega)]
 rfl
theorem ZoK (k:Nat) {l:List Int} (hl:∀ x ∈ l,ZI x) {o:Nat} (hn:l.length + o ≤ 512) (hk:40000 < k) :
  Zis k (l,(o:Int),()) = some (((Ws l o).1,(Ws l o).2.1,(Ws l o).2.2.2,(Ws l o).2.2.1,()),()):=by
 show Zee k (Zki k) _ = _
 simp only [Zee]
 suffices H:∀ (d p m:Nat) (B:XF),d < m → p + d = 5 → Zs (fun L1 => Zba k (ZgJ k L1) L1) m ((p:Int),l,(o:Int),B.1,B.2.1,B.2.2.1,B.2.2.2,0,0,0) =
   some (((XX l o d p B).1,(XX l o d p B).2.1,(XX l o d p B).2.2.2,(XX l o d p B).2.2.1,()),()) from H 5 0 k (0,0,-1,[]) (by omega) rfl
 intro d
 induction d with
 | zero =>
  intro p m B hm hp
  obtain ⟨m,rfl⟩:=Zv hm
  rw [Zj]
  simp only [Zba]
  rw [Zk (by omega)]
  rfl
 | succ d ih =>
  intro p m B hm hp
  obtain ⟨m,rfl⟩:=Zv (show 0 < m by omega)
  rw [Zj]
  simp only [Zba]
  have e1:IntKind.i64.wrap (Int.ofNat l.length + (o:Int)) = ((l.length + o:Nat):Int):=by rw [Qp (by simp only [QW]; omega)]; rfl
  rw [Zc (by omega),e1,ZMq,Zo3 k (by omega) (by omega)]
  simp only [Qq]
  have e2:IntKind.i64.wrap ((p:Int) + 1) = ((p + 1:Nat):Int):=by rw [Qp (by omega)]; rfl
  cases hf:ZcD (l.length + o) o p with
  | false =>
   simp only [Bool.not_false,cond_true]
   rw [e2,ih (p + 1) m B (by omega) (by omega)]
   simp only [XX,Zh0,hf,Bool.false_eq_true,if_false]
  | true =>
   simp only [Bool.not_true,cond_false]
   rw [ZzJ k _ hl hn (by omega) hk hf,ih (p + 1) m _ (by omega) (by omega)]
   simp only [XX,Zh0,hf,if_true]
structure RGood (l:List Int) (o:Nat) (R:XF) (p:Nat):Prop where
 hp:R.2.1 = (p:Int)
 p4:p ≤ 4
 fit:ZcD (l.length + o) o p = true
 hm:R.1 = 0 ∨ R.1 = 1
 parts:QD R.1 (X1 l o p) [] 6 = (R.2.2.2,R.2.2.1,true)
theorem Zjd {m:Int} (hm:0 ≤ m):∀ (cs:List (List Int)) (ps:List Prt) (sz:Int),(∀ c ∈ cs,(∀ x ∈ c,ZI x) ∧ c.length ≤ 512) → sz ≤ (QD m cs ps sz).2.1
 | [],_,_,_ => Int.le_refl _
 | c :: cs,ps,sz,h => by
  unfold QD
  split
  ·rename_i hb
   have h1:=h c (List.mem_cons_self ..)
   have h2:=(ZcK hb).size h1.1 h1.2
   have:=Zjd hm cs (ps ++ [(QX c m).1]) (sz + (4 + m + (QX c m).1.2.2.1)) fun c hc => h c (List.mem_cons_of_mem _ hc)
   omega
  ·exact Int.le_refl _
theorem Znu {l:List Int} {o p:Nat} {m:Int} {B:XF} (hm:m = 0 ∨ m = 1) (hp:p ≤ 4) (hf:ZcD (l.length + o) o p = true) (hB:B.2.2.1 < 0 ∨ ∃ q,RGood l o B q) :
  (XC l o p m B).2.2.1 < 0 ∨ ∃ q,RGood l o (XC l o p m B) q:=by
 unfold XC
 split
 ·rename_i hc
  right
  refine ⟨p,rfl,hp,hf,hm,?_⟩
  simp only
  rw [← hc.1]
 ·exact hB
theorem Zxq {l:List Int} {o p:Nat} {B:XF} (hp:p ≤ 4) (hB:B.2.2.1 < 0 ∨ ∃ q,RGood l o B q):(Zh0 l o B p).2.2.1 < 0 ∨ ∃ q,RGood l o (Zh0 l o B p) q:=by
 unfold Zh0
 split
 ·rename_i hf
  exact Znu (.inr rfl) hp hf (Znu (.inl rfl) hp hf hB)
 ·exact hB
theorem Zgo {l:List Int} {o:Nat}:∀ (d p:Nat) (B:XF),p + d ≤ 5 → (B.2.2.1 < 0 ∨ ∃ q,RGood l o B q) → (XX l o d p B).2.2.1 < 0 ∨ ∃ q,RGood l o (XX l o d p B) q
 | 0,_,B,_,hB => hB
 | d + 1,p,B,h,hB => Zgo d (p + 1) _ (by omega) (Zxq (by omega) hB)
theorem Znv {l:List Int} {o p:Nat} {m:Int} {B:XF} (hl:∀ x ∈ l,ZI x) (hn:l.length ≤ 512) (hm:0 ≤ m) (hB:0 ≤ B.2.2.1):0 ≤ (XC l o p m B).2.2.1:=by
 unfold XC
 split
 ·have:=Zjd hm (X1 l o p) [] 6 fun c hc => ⟨fun x hx => hl x (KZ hc x hx),by have:=Zgw hc; omega⟩
  simp only
  omega
 ·exact hB
theorem Zlu {l:List Int} {o:Nat} (hl:∀ x ∈ l,ZI x) (hn:l.length ≤ 512):∀ (d p:Nat) (B:XF),0 ≤ B.2.2.1 → 0 ≤ (XX l o d p B).2.2.1
 | 0,_,B,hB => hB
 | d + 1,p,B,hB => Zlu hl hn d (p + 1) _ (by
  unfold Zh0
  split
  ·exact Znv hl hn (by omega) (Znv hl hn (by omega) hB)
  ·exact hB)
theorem ZpP {m:Int}:∀ (cs:List (List Int)) (ps:List Prt) (sz:Int),(∀ c ∈ cs,(QX c m).2 = true) → (QD m cs ps sz).2.2 = true
 | [],_,_,_ => rfl
 | c :: cs,ps,sz,h => by
  unfold QD
  rw [if_pos (h c (List.mem_cons_self ..))]
  exact ZpP cs _ _ fun c hc => h c (List.mem_cons_of_mem _ hc)
theorem KG {l:List Int} {o:Nat} (hl:∀ x ∈ l,ZI x) (hn:l.length + o ≤ 512) (ho:o ≤ l.length + o):0 ≤ (Ws l o).2.2.1 ∧ ∃ q,RGood l o (Ws l o) q:=by
 have hnn:0 ≤ (Ws l o).2.2.1:=by
  show 0 ≤ (XX l o 4 1 (Zh0 l o (0,0,-1,[]) 0)).2.2.1
  refine Zlu hl (by omega) 4 1 _ ?_
  unfold Zh0
  have hf:ZcD (l.length + o) o 0 = true:=by unfold ZcD; simp [Nat.mod_one]
  rw [if_pos hf]
  generalize XC l o 0 0 (0,0,-1,[]) = B
  by_cases hB:0 ≤ B.2.2.1
  ·exact Znv hl (by omega) (by omega) hB
  ·unfold XC
   have hok:=ZpP (m:=1) (X1 l o 0) [] 6 fun c hc => ZvS fun x hx => hl x (KZ hc x hx)
   rw [if_pos ⟨hok,.inl (by omega)⟩]
   have:=Zjd (m:=1) (by omega) (X1 l o 0) [] 6 fun c hc => ⟨fun x hx => hl x (KZ hc x hx),by have:=Zgw hc; omega⟩
   simp only
   omega
 refine ⟨hnn,?_⟩
 rcases Zgo (l:=l) (o:=o) 5 0 (0,0,-1,[]) (by omega) (.inl (by show (-1:Int) < 0; omega)) with h | h
 ·exact absurd h (by unfold Ws at hnn; omega)
 ·exact h
end Go.Sh
namespace Go.Sh
open Go Go.Proofs
theorem ZAi (k:Nat) {l:List Int} (hl:l.length ≤ 512) {o:Nat} (hk:40000 < k) :
  Zl8 k (l,(o:Int),()) = some ((if XZ l o = 0 then ((Ws l o).2.2.1,0,()) else (0,XZ l o,())),()):=by
 show Zez k _ = _
 simp only [Zez]
 rw [ZoJ k l o (by omega) (by omega)]
 simp only [Qq]
 rw [ZY]
 by_cases h:XZ l o = 0
 ·rw [Zk (by simpa using h),if_pos h]
  have hc:ZaT ((l.length:Int) + o) o = true ∧ l.any Qo = false:=by
   unfold XZ at h
   split at h
   ·omega
   ·split at h
    ·omega
    ·rename_i hb
     split at h
     ·omega
     ·rename_i hw
      exact ⟨by simpa using hb,by simpa using hw⟩
  have hb:=of_decide_eq_true hc.1
  rw [ZoK k (YR hc.2) (by omega) hk]
  rfl
 ·rw [Zc h,if_neg h]
theorem ZdM {l:List Int} {o:Nat}:XZ l o = 0 ↔ (1 ≤ l.length + o ∧ l.length + o ≤ 512 ∧ o ≤ 8) ∧ l.any Qo = false:=by
 unfold XZ
 constructor
 ·intro h
  split at h
  ·omega
  ·split at h
   ·omega
   ·rename_i h1 h2
    split at h
    ·omega
    ·rename_i hw
     have:=of_decide_eq_true (by simpa using h2:ZaT ((l.length:Int) + o) o = true)
     exact ⟨by omega,by simpa using hw⟩
 ·rintro ⟨h1,h2⟩
  rw [if_neg (by omega),if_neg,if_neg (by simp [h2])]
  unfold ZaT
  rw [WH (by omega)]
  simp
def Y0 (kk:Nat) (n:Int):List Bool:=(List.replicate (ZZ n / 2 ^ kk) false ++ [true]) ++ Zb (ZZ n % 2 ^ kk) kk
def Ys (m:Int) (y:Prt) (c:List Int):List Bool:=if y.1 = (W7 m:Int) then c.flatMap (fun n => Wl n y.2.1.toNat) else c.flatMap (Y0 y.1.toNat)
def Xl (m:Int) (x:List Int × Prt):List Bool:=Zb x.2.1.toNat (4 + m.toNat) ++ ((if x.2.1 = (W7 m:Int) then Zb x.2.2.1.toNat 5 else []) ++ Ys m x.2 x.1)
def ZdI (l:List Int) (o:Nat) (R:XF):List Bool:=(Zb R.1.toNat 2 ++ Zb R.2.1.toNat 4) ++ ((X1 l o R.2.1.toNat).zip R.2.2.2).flatMap (Xl R.1)
def WY (l:List Int) (o:Nat):List Bool:=ZdI l o (Ws l o)
theorem ZdG (kk:Nat) (n:Int):(Y0 kk n).length = ZZ n / 2 ^ kk + 1 + kk:=by
 simp [Y0,Zp]
 omega
theorem ZuF (k:Nat) (L1:Int × Int × List (List Int) × Int × List Int × Int × Int × List (Int × Int × Int × Unit) × Int → Option (Int × (List Int × Int × Unit) × Unit))
  {c:List Int} (hc:∀ x ∈ c,ZI x) (hn:c.length ≤ 512) (hk:70000 < k) {m:Int} (hm:m = 0 ∨ m = 1) {y:Prt} (hy:Ks c m y) (v3 v4:Int) (v5:List (List Int)) (v12:Int) (v13:List Prt) (v14:Int)
  (hv3:0 ≤ v3 ∧ v3 ≤ 65536) (bs:List Bool) (hb:bs.length ≤ 2147483648) :
  ZiW k L1 (Int.ofNat c.length,(0:Int),c,v3,v4,v5,(bs.length:Int),ZL bs,y.1,y.2.1,y.2.2.1,m,v12,v13,v14) =
   L1 (v4,v3 + 1,v5,((bs ++ Ys m y c).length:Int),ZL (bs ++ Ys m y c),m,v12,v13,v14):=by
 have he:W7 m ≤ 31:=by unfold W7; split <;> omega
 have hfin:∀ (g:Int → List Bool),(∀ x ∈ c,(g x).length ≤ 70000) →
   (∀ (L:Int × Int × List Int × Int × Int × List (List Int) × Int × List Int × Int × Int × Int × Int × Int × List (Int × Int × Int × Unit) × Int → Option (Int × (List Int × Int × Unit) × Unit)) (i:Nat) (hi:i < c.length) (a:List Bool),a.length ≤ 2147483648 + i * 70000 →
    Kh k L1 L (Int.ofNat c.length,Int.ofNat i,c,v3,v4,v5,(a.length:Int),ZL a,y.1,y.2.1,y.2.2.1,m,v12,v13,v14) =
    L (Int.ofNat c.length,Int.ofNat (i + 1),c,v3,v4,v5,((a ++ g c[i]).length:Int),ZL (a ++ g c[i]),y.1,y.2.1,y.2.2.1,m,v12,v13,v14)) →
   ZiW k L1 (Int.ofNat c.length,(0:Int),c,v3,v4,v5,(bs.length:Int),ZL bs,y.1,y.2.1,y.2.2.1,m,v12,v13,v14) =
   L1 (v4,v3 + 1,v5,((bs ++ c.flatMap g).length:Int),ZL (bs ++ c.flatMap g),m,v12,v13,v14):=by
  intro g hg hstep
  have:=ZF (A:=List Bool) (R:=Int × (List Int × Int × Unit) × Unit) (step:=fun L2 => Kh k L1 L2)
   (fun i a => (Int.ofNat c.length,Int.ofNat i,c,v3,v4,v5,(a.length:Int),ZL a,y.1,y.2.1,y.2.2.1,m,v12,v13,v14)) c
   (fun c' a => L1 (v4,v3 + 1,v5,((a ++ c'.flatMap g).length:Int),ZL (a ++ c'.flatMap g),m,v12,v13,v14))
   (fun i a => a.length ≤ 2147483648 + i * 70000)
   (fun L a _ => by
    simp only [Kh]
    rw [Zk (W2 _),Qp (by omega)]
    simp)
   (fun L i hi a ha hL => by
    rw [hstep L i hi a ha,hL (a ++ g c[i]) (by
     have:=hg c[i] (List.getElem_mem hi)
     rw [Wm]; omega)]
    rw [List.flatMap_cons,List.append_assoc])
   k 0 bs (by omega) (by omega) (Nat.zero_le _)
  rw [List.drop_zero] at this
  exact this
 unfold Ys
 rcases hy with ⟨kk,hkk,hfar,rfl⟩ | ⟨hw,rfl⟩
 ·simp only
  rw [if_neg (by omega)]
  have hq:∀ x ∈ c,ZZ x / 2 ^ kk ≤ 65536:=by
   intro x hx
   unfold ZiX at hfar
   rw [List.any_eq_false] at hfar
   have:=hfar x hx
   simp only [decide_eq_true_eq] at this
   omega
  rw [WS]
  refine hfin (Y0 kk) (fun x hx => by have:=hq x hx; rw [ZdG]; omega) ?_
  intro L i hi a ha
  have hx:=hc c[i] (List.getElem_mem hi)
  have hxq:=hq c[i] (List.getElem_mem hi)
  simp only [Kh]
  rw [Zc (ltR hi),Zc (inR hi),Zy2,Zbc k hm]
  simp only [Qq]
  rw [ZP,Zk (by omega),ZW hi,ZLq,ZoS k hx]
  simp only [Qq]
  have hf32:=Zm1 hx
  rw [Zc (by omega),ZsT (by omega) (by omega)]
  simp only [WS,Nat.min_eq_left (show kk ≤ 64 by omega),Zds]
  rw [show ((ZL a,((a.length:Nat):Int),()):List Int × Int × Unit) = wst a from rfl,ZuD k a _ (by omega) hxq (by omega)]
  simp only [Qq]
  rw [Zc (by omega)]
  have hlen:(a ++ (List.replicate (ZZ c[i] / 2 ^ kk) false ++ [true])).length = a.length + (ZZ c[i] / 2 ^ kk + 1):=by simp
  rw [QL k (a ++ (List.replicate (ZZ c[i] / 2 ^ kk) false ++ [true])) _ kk (by omega) (by omega) (Nat.mod_lt _ (Nat.pow_pos (by omega))) (by rw [hlen]; omega)]
  simp only [Qq]
  rw [QZ hi (by omega)]
  unfold Y0
  simp only [List.append_assoc]
 ·simp only
  rw [if_pos trivial,WS]
  refine hfin (fun n => Wl n (QG c)) (fun x hx => by simp only [KU]; omega) ?_
  intro L i hi a ha
  have hx:=Zqb hc c[i] (List.getElem_mem hi)
  simp only [Kh]
  rw [Zc (ltR hi),Zc (inR hi),Zy2,Zbc k hm]
  simp only [Qq]
  rw [ZP,Zc rfl,ZW hi]
  rw [show ((ZL a,((a.length:Nat):Int),()):List Int × Int × Unit) = wst a from rfl,ZoI k a _ (QG c) (by omega) (by omega) hx (by omega)]
  simp only [Qq]
  rw [QZ hi (by omega)]
theorem Zu7 {c:List Int} (hc:∀ x ∈ c,ZI x) (hn:c.length ≤ 512) {m:Int} {y:Prt} (hy:Ks c m y):(Ys m y c).length ≤ c.length * 70000:=by
 have he:W7 m ≤ 31:=by unfold W7; split <;> omega
 have key:∀ (g:Int → List Bool) (l:List Int),(∀ x ∈ l,(g x).length ≤ 70000) → (l.flatMap g).length ≤ l.length * 70000:=by
  intro g l
  induction l with
  | nil => intro _; simp
  | cons a l ih =>
   intro h
   have h1:=h a (List.mem_cons_self ..)
   have h2:=ih fun x hx => h x (List.mem_cons_of_mem _ hx)
   rw [List.flatMap_cons,Wm,List.length_cons]
   omega
 unfold Ys
 rcases hy with ⟨kk,hkk,hfar,rfl⟩ | ⟨hw,rfl⟩
 ·simp only
  rw [if_neg (by omega)]
  refine key _ c fun x hx => ?_
  unfold ZiX at hfar
  rw [List.any_eq_false] at hfar
  have:=hfar x hx
  simp only [decide_eq_true_eq] at this
  rw [ZdG,WS]
  omega
 ·simp only
  rw [if_pos trivial]
  refine key _ c fun x hx => ?_
  rw [KU,WS]
  omega
def YX (m:Int):List (List Int) → List Prt → Prop
 | [],[] => True
 | c :: cs,y :: ys => Ks c m y ∧ YX m cs ys
 | _,_ => False
theorem ZdH {m:Int}:∀ (cs:List (List Int)) (ps:List Prt) (sz:Int),(QD m cs ps sz).2.2 = true → ∃ ys,(QD m cs ps sz).1 = ps ++ ys ∧ YX m cs ys ∧ ys = cs.map fun c => (QX c m).1
 | [],ps,sz,_ => ⟨[],by simp [QD],trivial,rfl⟩
 | c :: cs,ps,sz,h => by
  unfold QD at h ⊢
  split at h
  ·rename_i hb
   rw [if_pos hb]
   obtain ⟨ys,h1,h2,h3⟩:=ZdH cs _ _ h
   refine ⟨(QX c m).1 :: ys,by rw [h1]; simp,⟨ZcK hb,h2⟩,by rw [h3]; rfl⟩
  ·cases h
theorem YX.len {m:Int}:∀ {cs:List (List Int)} {ys:List Prt},YX m cs ys → ys.length = cs.length
 | [],[],_ => rfl
 | c :: cs,y :: ys,h => by simp [YX.len h.2]
theorem YX.get {m:Int}:∀ {cs:List (List Int)} {ys:List Prt},YX m cs ys → ∀ (i:Nat) (h1:i < cs.length) (h2:i < ys.length),Ks cs[i] m ys[i]
 | c :: cs,y :: ys,h,0,_,_ => h.1
 | c :: cs,y :: ys,h,i + 1,h1,h2 => by
  simp only [List.getElem_cons_succ]
  exact YX.get h.2 i (by simpa using h1) (by simpa using h2)
theorem RGood.ys {l:List Int} {o p:Nat} {R:XF} (h:RGood l o R p):YX R.1 (X1 l o p) R.2.2.2:=by
 obtain ⟨ys,h1,h2,_⟩:=ZdH (m:=R.1) (X1 l o p) [] 6 (by rw [h.parts])
 rw [h.parts] at h1
 simp only [List.nil_append] at h1
 rw [h1]; exact h2
theorem Zns {c:List Int} {m:Int} (hm:m = 0 ∨ m = 1) {y:Prt} (hy:Ks c m y):∃ a w:Nat,y.1 = (a:Int) ∧ a < 2 ^ (4 + m.toNat) ∧ y.2.1 = (w:Int) ∧ w ≤ 31:=by
 rcases hy with ⟨kk,hkk,hfar,rfl⟩ | ⟨hw,rfl⟩
 ·refine ⟨kk,0,rfl,?_,rfl,by omega⟩
  rcases hm with rfl | rfl
  ·have:W7 0 = 15:=rfl
   rw [this] at hkk
   show kk < 16
   omega
  ·have:W7 1 = 31:=rfl
   rw [this] at hkk
   show kk < 32
   omega
 ·refine ⟨W7 m,QG c,rfl,?_,rfl,hw⟩
  rcases hm with rfl | rfl <;> decide
theorem ZuG (k:Nat) {l:List Int} {o:Nat} (hk:70000 < k) (h:XZ l o = 0) (bs:List Bool) (hb:bs.length ≤ 1073741824) :
  Zfg k (wst bs,l,(o:Int),()) = some (0,wst (bs ++ WY l o),()):=by
 show Zhr k (Zr3 k) _ = _
 have ⟨h1,h2⟩:=ZdM.1 h
 have hl:=YR h2
 obtain ⟨hsz,q,hg⟩:=KG hl (o:=o) (by omega) (by omega)
 simp only [Zhr]
 rw [ZoJ k l o (by omega) (by omega),h]
 simp only [Qq]
 rw [show ((0:Int) != 0) = false from rfl]
 simp only [cond_false]
 rw [ZoK k hl (by omega) (by omega)]
 simp only [Qq]
 unfold WY ZdI
 generalize Ws l o = R at hg hsz
 have hys:=hg.ys
 obtain ⟨m,p,sz,ys⟩:=R
 obtain ⟨hp,p4,hfit,hm,hparts⟩:=hg
 simp only at hp hm hparts hys
 subst hp
 simp only [WS]
 have hmn:m = ((m.toNat:Nat):Int):=by rcases hm with rfl | rfl <;> rfl
 have hm2:m.toNat < 2 ^ 2:=by rcases hm with rfl | rfl <;> decide
 have e1:=QL k bs m.toNat 2 (by omega) (by omega) hm2 (by omega)
 rw [← hmn] at e1
 rw [show ((ZL bs,((bs.length:Nat):Int),()):List Int × Int × Unit) = wst bs from rfl,show (2:Int) = ((2:Nat):Int) from rfl,e1]
 simp only [Qq]
 have hl1:(bs ++ Zb m.toNat 2).length = bs.length + 2:=by rw [Wm,Zp]
 have e2:=QL k (bs ++ Zb m.toNat 2) q 4 (by omega) (by omega) (by omega) (by rw [hl1]; omega)
 rw [show (4:Int) = ((4:Nat):Int) from rfl,e2]
 simp only [Qq]
 rw [ZoL k (by omega) (by omega) (by omega) hfit]
 simp only [Qq]
 have hcs:∀ c ∈ X1 l o q,(∀ x ∈ c,ZI x) ∧ c.length ≤ 512:=fun c hc => ⟨fun x hx => hl x (KZ hc x hx),by have:=Zgw hc; omega⟩
 have hclen:(X1 l o q).length ≤ 16:=by
  rw [Zgx]
  have:2 ^ q ≤ 2 ^ 4:=Nat.pow_le_pow_right (by omega) p4
  omega
 have hyl:=hys.len
 generalize X1 l o q = cs at hcs hclen hys hyl
 have hzl:(cs.zip ys).length = cs.length:=by rw [List.length_zip]; omega
 have hl2:(bs ++ Zb m.toNat 2 ++ Zb q 4).length = bs.length + 6:=by rw [Wm,hl1,Zp]
 have:=ZF (A:=List Bool) (R:=Int × (List Int × Int × Unit) × Unit) (step:=fun L1 => Zdp k (ZiW k L1) L1)
  (fun i a => (Int.ofNat cs.length,Int.ofNat i,cs,(a.length:Int),ZL a,m,(q:Int),ys,sz)) (cs.zip ys)
  (fun l' a => some (0,wst (a ++ l'.flatMap (Xl m)),()))
  (fun i a => a.length ≤ 1073741900 + i * 35900000)
  (fun L a _ => by
   simp only [Zdp]
   rw [hzl,Zk (W2 _)]
   simp)
  (fun L i hi a ha hL => by
   have hi1:i < cs.length:=by omega
   have hi2:i < ys.length:=by omega
   obtain ⟨hc1,hc2⟩:=hcs cs[i] (List.getElem_mem hi1)
   have hy:=hys.get i hi1 hi2
   have hzi:(cs.zip ys)[i] = (cs[i],ys[i]):=by rw [List.getElem_zip]
   simp only [Zdp]
   rw [Zc (ltR hi1),Zc (inR hi1),Zc (inR hi2),ZIJ,Ziv k hm]
   simp only [Qq]
   rw [ZW hi1,ZW hi2]
   obtain ⟨b,w,hb1,hb2,hw1,hw2⟩:=Zns hm hy
   have hll:=Zu7 hc1 hc2 hy
   have e4:(4:Int) + m = ((4 + m.toNat:Nat):Int):=by rcases hm with rfl | rfl <;> rfl
   have hm1:m.toNat ≤ 1:=by rcases hm with rfl | rfl <;> decide
   rw [hb1,hw1,e4,show ((ZL a,((a.length:Nat):Int),()):List Int × Int × Unit) = wst a from rfl,QL k a b (4 + m.toNat) (by omega) (by omega) hb2 (by omega)]
   simp only [Qq]
   rw [Zy2,Zbc k hm]
   simp only [Qq]
   have hla:(a ++ Zb b (4 + m.toNat)).length = a.length + (4 + m.toNat):=by rw [Wm,Zp]
   have hI:((i:Nat):Int) ≤ 16:=by omega
   have hout:Xl m (cs[i],ys[i]) = Zb b (4 + m.toNat) ++ ((if (b:Int) = (W7 m:Int) then Zb w 5 else []) ++ Ys m ys[i] cs[i]):=by
    unfold Xl
    simp only [hb1,hw1,WS]
   rw [hzi,List.flatMap_cons,hout,ZP]
   have hnext:Int.ofNat i + 1 = Int.ofNat (i + 1):=rfl
   by_cases hesc:(b:Int) = (W7 m:Int)
   ·rw [Zc hesc,if_pos hesc]
    have h5:w < 2 ^ 5:=by omega
    rw [show ((5:Int)) = ((5:Nat):Int) from rfl,QL k (a ++ Zb b (4 + m.toNat)) w 5 (by omega) (by omega) h5 (by omega)]
    simp only [Qq]
    have hlb:(a ++ Zb b (4 + m.toNat) ++ Zb w 5).length = a.length + (4 + m.toNat) + 5:=by rw [Wm,hla,Zp]
    have:=ZuF k L hc1 hc2 (by omega) hm hy (Int.ofNat i) (Int.ofNat cs.length) cs (q:Int) ys sz (by simp only [QW]; omega) (a ++ Zb b (4 + m.toNat) ++ Zb w 5) (by omega)
    rw [hb1,hw1] at this
    refine Eq.trans this ?_
    rw [hnext,hL _ (by rw [Wm,hlb]; omega)]
    simp
   ·rw [Zk hesc,if_neg hesc]
    have:=ZuF k L hc1 hc2 (by omega) hm hy (Int.ofNat i) (Int.ofNat cs.length) cs (q:Int) ys sz (by simp only [QW]; omega) (a ++ Zb b (4 + m.toNat)) (by omega)
    rw [hb1,hw1] at this
    refine Eq.trans this ?_
    rw [hnext,hL _ (by rw [Wm,hla]; omega)]
    simp)
  k 0 (bs ++ Zb m.toNat 2 ++ Zb q 4) (by omega) (by omega) (Nat.zero_le _)
 rw [List.drop_zero] at this
 refine Eq.trans this ?_
 simp
end Go.Sh
namespace Go.Sh
open Go Go.Proofs
theorem ZuH (k:Nat) (n d:Int):Zpp k (n,d,()) = some (decide (1 ≤ n ∧ n ≤ 512 ∧ 4 ≤ d ∧ d ≤ 25),()):=by
 show Zhx k _ = _
 simp only [Zhx]
 by_cases h1:1 ≤ n
 ·rw [Zc h1]
  by_cases h2:n ≤ 512
  ·rw [Zc h2]
   by_cases h3:4 ≤ d
   ·rw [Zc h3]
    congr 2
    by_cases h4:d ≤ 25
    ·rw [WH h4,WH (by omega)]
    ·rw [WG h4,WG (by omega)]
   ·rw [Zk h3,WG (by omega)]
  ·rw [Zk h2,WG (by omega)]
 ·rw [Zk h1,WG (by omega)]
theorem ZuK (k:Nat) (x:Int) {d:Nat} (h1:1 ≤ d) (h2:d ≤ 64):Zpq k (x,(d:Int),()) = some (W9 x d,()):=by
 show ZhA k _ = _
 simp only [ZhA]
 have e1:IntKind.i64.wrap ((d:Int) - 1) = ((d - 1:Nat):Int):=by rw [Qp (by omega)]; omega
 rw [e1,Zvn x (by omega)]
 simp only [WS,Nat.min_eq_left (show d - 1 ≤ 64 by omega)]
 rw [Zc (by omega),Zc (by omega)]
 cases x.fdiv (2 ^ (d - 1)) == 0 <;> rfl
theorem Zzx (k:Nat) (x:Int) {d:Nat} (h1:1 ≤ d) (h2:d ≤ 64):ZlM k (x,((d:Int),()),()) = some (!W9 x d,((d:Int),()),()):=by
 show Zd2 k _ = _
 simp only [Zd2]
 rw [ZuK k x h1 h2]
 rfl
theorem Ztj (k:Nat) (c:List Int) {d:Nat} (h1:1 ≤ d) (h2:d ≤ 64) (hk:c.length < k) (hn:c.length < 4294967296) :
  ZcP k (c,(((d:Int),()),()),()) = some (!c.all (W9 · d),((d:Int),()),()):=by
 show Zar k _ = _
 simp only [Zar]
 have key:∃ i:Int,ZcX k (c,(((d:Int),()),()),()) = some (i,((d:Int),()),()) ∧ (0 ≤ i ↔ c.all (W9 · d) = false):=by
  have:=WA (A:=Unit) (R:=Int × (Int × Unit) × Unit) (step:=fun L1 => Y8 k L1) (fun i _ => (Int.ofNat c.length,Int.ofNat i,c,(d:Int))) c
   (fun l _ => some (if l.all (W9 · d) then -1 else Int.ofNat (c.length - l.length + (l.takeWhile (fun x => W9 x d)).length),((d:Int),()),()))
   (fun L _ => by simp only [Y8]; rw [Zk (W2 _)]; rfl)
   (fun L i hi _ hL => by
    simp only [Y8]
    rw [Zc (ltR hi),Zc (inR hi),ZW hi,Zzx k _ h1 h2]
    simp only [Qq]
    have hlen:(List.drop (i + 1) c).length = c.length - (i + 1):=by simp
    cases hc:W9 c[i] d with
    | true =>
     simp only [Bool.not_true,cond_false]
     rw [QZ hi (by omega),hL ()]
     simp only [List.all_cons,hc,Bool.true_and,List.takeWhile_cons,if_true,List.length_cons,hlen]
     split
     ·rfl
     ·congr 3; omega
    | false =>
     simp only [Bool.not_false,cond_true,List.all_cons,hc,Bool.false_and,Bool.false_eq_true,if_false,List.takeWhile_cons,List.length_cons,hlen,List.length_nil]
     congr 3; omega) k 0 () (by omega) (Nat.zero_le _)
  rw [List.drop_zero] at this
  refine ⟨_,this,?_⟩
  cases c.all (W9 · d) <;> simp
 obtain ⟨i,h1,h2⟩:=key
 rw [h1]
 simp only [Qq]
 cases hc:c.all (W9 · d) with
 | false => rw [WH (h2.2 hc)]; rfl
 | true => rw [WG (fun h => by have:=h2.1 h; rw [hc] at this; cases this)]; rfl
def Ze3 (s:List Int) (d:Int):Int:=if 1 ≤ s.length ∧ s.length ≤ 512 ∧ 4 ≤ d ∧ d ≤ 25 then (if s.all (W9 · d.toNat) = true then 0 else 12) else 1
theorem ZD2 (k:Nat) (s:List Int) (d:Int) (hk:1000 < k):Zpn k (s,d,()) = some (Ze3 s d,()):=by
 show Zhm k _ = _
 simp only [Zhm]
 rw [ZuH]
 simp only [Qq]
 unfold Ze3
 by_cases h:1 ≤ s.length ∧ s.length ≤ 512 ∧ 4 ≤ d ∧ d ≤ 25
 ·rw [if_pos h,WH (by simp only [QW]; omega)]
  simp only [Bool.not_true,cond_false]
  obtain ⟨e,rfl⟩:=Int.eq_ofNat_of_zero_le (show 0 ≤ d by omega)
  rw [Ztj k s (by omega) (by omega) (by omega) (by omega),WS]
  simp only [Qq]
  cases s.all (W9 · e) <;> rfl
 ·rw [if_neg h,WG (by simp only [QW]; omega)]
  rfl
def KK (x:Int):Nat:=(x % 18446744073709551616).toNat
def Zqm (s:List Int):Nat:=s.foldl (fun v x => v ||| KK x) 0
def ZB (s:List Int):Nat:=if Zqm s = 0 then 0 else Lib.ctz 64 (Zqm s)
theorem ZyI (x:Int):KK x < 2 ^ 64:=by unfold KK; omega
theorem Ko (x:Int):(BitVec.ofInt 64 x).toNat = KK x:=by rw [BitVec.toNat_ofInt]; rfl
theorem ZpG {n:Nat} (h:n < 2 ^ 64):KK (IntKind.i64.wrap (n:Int)) = n:=by
 unfold KK
 rw [IntKind.wrap_i64]
 omega
theorem Zno:∀ (s:List Int) (v:Nat),v < 2 ^ 64 → s.foldl (fun v x => v ||| KK x) v < 2 ^ 64
 | [],_,h => h
 | x :: s,v,h => Zno s _ (Nat.or_lt_two_pow h (ZyI x))
theorem ZFh (s:List Int):Zqm s < 2 ^ 64:=Zno s 0 (by decide)
theorem Zzz (k:Nat) (s:List Int) (hk:s.length < k) (hn:s.length < 4294967296):ZlN k (s,()) = some (((ZB s:Nat):Int),()):=by
 show Zd3 k (Zj9 k) _ = _
 simp only [Zd3]
 have:=ZF (A:=Nat) (R:=Int × Unit) (step:=fun L1 => Za9 k L1) (fun i v => (Int.ofNat s.length,Int.ofNat i,s,IntKind.i64.wrap (v:Int))) s
  (fun s' v => some ((((if s'.foldl (fun v x => v ||| KK x) v = 0 then 0 else Lib.ctz 64 (s'.foldl (fun v x => v ||| KK x) v)):Nat):Int),()))
  (fun i v => v < 2 ^ 64)
  (fun L v hv => by
   simp only [Za9]
   rw [Zk (W2 _),ZP,List.foldl_nil]
   by_cases h0:v = 0
   ·subst h0; rfl
   ·have hne:¬ IntKind.i64.wrap (v:Int) = 0:=by
     intro h
     have:=ZpG hv
     rw [h] at this
     exact h0 this.symm
    rw [Zk hne,if_neg h0]
    have hu:IntKind.u64.wrap (IntKind.i64.wrap (v:Int)) = (v:Int):=by
     rw [IntKind.wrap_u64,IntKind.wrap_i64]; omega
    rw [hu]
    show (tzF _).bind _ = _
    unfold tzF
    rw [show (decide ((0:Int) ≤ (v:Int)) && decide ((v:Int) < 18446744073709551616)) = true from by
     rw [Bool.and_eq_true,decide_eq_true_eq,decide_eq_true_eq]; omega]
    rfl)
  (fun L i hi v hv hL => by
   simp only [Za9]
   rw [Zc (ltR hi),Zc (inR hi),ZW hi,BitVec.toNat_or,Ko,Ko,ZpG hv,QZ hi (by omega),List.foldl_cons]
   exact hL (v ||| KK s[i]) (Nat.or_lt_two_pow hv (ZyI _)))
  k 0 0 (by decide) (by omega) (Nat.zero_le _)
 rw [List.drop_zero] at this
 exact this
theorem Zva {a b k:Nat} (h:(a ||| b) % 2 ^ k = 0):a % 2 ^ k = 0 ∧ b % 2 ^ k = 0:=by
 rw [Nat.or_mod_two_pow] at h
 have h1:a % 2 ^ k ≤ a % 2 ^ k ||| b % 2 ^ k:=Nat.left_le_or
 have h2:b % 2 ^ k ≤ a % 2 ^ k ||| b % 2 ^ k:=Nat.right_le_or
 omega
theorem ZhM {k:Nat}:∀ (s:List Int) (v:Nat),(s.foldl (fun v x => v ||| KK x) v) % 2 ^ k = 0 → v % 2 ^ k = 0 ∧ ∀ x ∈ s,KK x % 2 ^ k = 0
 | [],v,h => ⟨h,by simp⟩
 | x :: s,v,h => by
  obtain ⟨h1,h2⟩:=ZhM s _ h
  obtain ⟨h3,h4⟩:=Zva h1
  refine ⟨h3,fun y hy => ?_⟩
  rcases List.mem_cons.1 hy with rfl | hy
  ·exact h4
  ·exact h2 y hy
theorem ZHA {x : Int} {k : Nat} (hk : k ≤ 64) (h : KK x % 2 ^ k = 0) : ((2 : Int) ^ k) ∣ x := by
  have := ZjG x k 64 hk
  unfold KK at h
  rw [show (18446744073709551616 : Int) = 2 ^ 64 from rfl, this] at h
  have h0 : 0 ≤ x % 2 ^ k := Int.emod_nonneg _ (by have : (0 : Int) < 2 ^ k := Int.pow_pos (by omega)
                                                   omega)
  exact Int.dvd_of_emod_eq_zero (by omega)
theorem ZvB {s:List Int} (h:Zqm s ≠ 0):∃ m,Zqm s = 2 ^ ZB s * (2 * m + 1) ∧ ZB s < 64:=by
 unfold ZB Lib.ctz
 rw [if_neg h,if_neg h]
 exact Lib.ctzFrom_spec 64 (Zqm s) (by omega) (ZFh s)
theorem Zgf {s:List Int}:∀ x ∈ s,((2:Int) ^ ZB s) ∣ x:=by
 intro x hx
 by_cases h:Zqm s = 0
 ·unfold ZB
  rw [if_pos h]
  exact Int.one_dvd _
 ·obtain ⟨m,hm,hlt⟩:=ZvB h
  have:Zqm s % 2 ^ ZB s = 0:=by rw [hm]; exact Nat.mul_mod_right _ _
  exact ZHA (by omega) ((ZhM s 0 this).2 x hx)
theorem ZsU:∀ (s:List Int) (v:Nat),v = 0 → (∀ x ∈ s,x = 0) → s.foldl (fun v x => v ||| KK x) v = 0
 | [],v,h,_ => h
 | x :: s,v,h,hx => by
  refine ZsU s _ ?_ fun y hy => hx y (List.mem_cons_of_mem _ hy)
  rw [h,hx x (List.mem_cons_self ..)]
  rfl
theorem ZbX {s:List Int} {d:Nat} (hd:1 ≤ d) (hs:∀ x ∈ s,W9 x d = true):ZB s < d:=by
 by_cases h:Zqm s = 0
 ·unfold ZB
  rw [if_pos h]
  omega
 ·have:∃ x ∈ s,x ≠ 0:=by
   apply Classical.byContradiction
   intro hc
   refine h (ZsU s 0 rfl fun x hx => ?_)
   apply Classical.byContradiction
   intro hne
   exact hc ⟨x,hx,hne⟩
  obtain ⟨x,hx,hne⟩:=this
  have h1:=hs x hx
  unfold W9 at h1
  rw [if_neg (by omega),decide_eq_true_eq] at h1
  have h2:=Int.natAbs_dvd_natAbs.2 (Zgf x hx)
  rw [Int.natAbs_pow] at h2
  have h3:=Nat.le_of_dvd (by omega) h2
  have h4:x.natAbs ≤ 2 ^ (d - 1):=by
   rw [Wi] at h1
   generalize 2 ^ (d - 1) = Q at h1 ⊢
   omega
  have h5:2 ^ ZB s ≤ 2 ^ (d - 1):=Nat.le_trans h3 h4
  have:=(Nat.pow_le_pow_iff_right (by omega:1 < 2)).1 h5
  omega
def QQ (s:List Int):List Int:=s.map fun x => x.fdiv (2 ^ ZB s)
theorem KV (s:List Int):(QQ s).length = s.length:=by simp [QQ]
theorem ZuO {x:Int} {k:Nat} (h:((2:Int) ^ k) ∣ x):x.fdiv (2 ^ k) * 2 ^ k = x:=by
 rw [Int.fdiv_eq_ediv_of_nonneg _ (Int.pow_nonneg (by omega))]
 exact Int.ediv_mul_cancel h
theorem ZBc {x:Int} {d k:Nat} (hk:k < d) (h:((2:Int) ^ k) ∣ x) (hx:W9 x d = true):W9 (x.fdiv (2 ^ k)) (d - k) = true:=by
 have he:=ZuO h
 generalize x.fdiv (2 ^ k) = y at he
 unfold W9 at hx ⊢
 rw [if_neg (by omega),decide_eq_true_eq] at hx
 rw [if_neg (by omega),decide_eq_true_eq]
 have hp:(0:Int) < 2 ^ k:=Int.pow_pos (by omega)
 have e:(2:Int) ^ (d - 1) = 2 ^ (d - k - 1) * 2 ^ k:=by rw [← Int.pow_add]; congr 1; omega
 rw [e,← he,← Int.neg_mul] at hx
 exact ⟨Int.le_of_mul_le_mul_right hx.1 hp,Int.lt_of_mul_lt_mul_right hx.2 (by omega)⟩
theorem Zgb {s:List Int} {d:Nat} (hd:1 ≤ d) (hs:∀ x ∈ s,W9 x d = true):∀ x ∈ QQ s,W9 x (d - ZB s) = true:=by
 intro y hy
 obtain ⟨x,hx,rfl⟩:=List.mem_map.1 hy
 exact ZBc (ZbX hd hs) (Zgf x hx) (hs x hx)
theorem Zxp {x:Int} {d:Nat} (hd:d ≤ 31) (h:W9 x d = true):ZI x:=by
 unfold W9 at h
 unfold ZI
 split at h
 ·simp only [decide_eq_true_eq] at h; omega
 ·rw [decide_eq_true_eq,Wi] at h
  have:2 ^ (d - 1) ≤ 2 ^ 30:=Nat.pow_le_pow_right (by omega) (by omega)
  generalize 2 ^ (d - 1) = Q at h this
  omega
end Go.Sh
namespace Go.Sh
open Go Go.Proofs
abbrev W6:=Int × List Int × Int × List Int × Int
def Zng (s:List Int) (d:Nat) (kind:Int) (c:List Int) (sh head:Int):Option W6 :=
 if (QK c sh s).2 = 0 then some (kind,c,sh,(QK c sh s).1,head + (c.length:Int) * (d:Int) + (Ws (QK c sh s).1 c.length).2.2.1) else none
def QY (b:Option W6) (x:Option W6):Option W6 :=
 match x with
 | none => b
 | some x => match b with
  | none => some x
  | some b => if x.2.2.2.2 < b.2.2.2.2 then some x else some b
abbrev FPl:=Int × Int × Int × List Int × List Int × Int × List Int × Int × Unit
abbrev SPl:=Int × Int × Int × List Int × (List Int × Int × Unit) × List Int × Int × Unit
def Qu (kk d:Int) (s:List Int):Option W6 → FPl
 | none => (0,0,0,[],[],0,[],-1,())
 | some (kind,c,sh,r,sz) => (kind,kk,d,s,c,sh,r,sz,())
abbrev ZLd (kk d:Int) (s:List Int) (x:W6):SPl:=(x.1,kk,d,s,(x.2.1,x.2.2.1,()),x.2.2.2.1,x.2.2.2.2,())
def nnC (b:Option W6):Prop := ∀ c,b = some c → 0 ≤ c.2.2.2.2
theorem ZbT {b x:Option W6} (hb:nnC b) (hx:nnC x):nnC (QY b x):=by
 intro c hc
 unfold QY at hc
 match x,b,hc with
 | none,b,hc => exact hb c hc
 | some x,none,hc => exact hx c hc
 | some x,some b,hc =>
  simp only at hc
  split at hc
  ·exact hx c hc
  ·exact hb c hc
theorem ZlO (k:Nat) (kk d:Int) (s:List Int) (x:W6) (b:Option W6) (hb:nnC b) :
  ZaV k (ZLd kk d s x,true,Qu kk d s b,()) = some ((),Qu kk d s (QY b (some x)),()):=by
 match b with
 | none => rfl
 | some b =>
  have h0:=hb b rfl
  show (bif decide (b.2.2.2.2 < 0) then _ else bif decide (x.2.2.2.2 < b.2.2.2.2) then _ else _) = _
  rw [Zk (by omega)]
  unfold QY
  simp only
  by_cases h:x.2.2.2.2 < b.2.2.2.2
  ·rw [Zc h,if_pos h]; rfl
  ·rw [Zk h,if_neg h]; rfl
theorem Zgp {l:List Int} {o:Nat} (hl:∀ x ∈ l,ZI x) (hn:l.length + o ≤ 512):0 ≤ (Ws l o).2.2.1 ∧ (Ws l o).2.2.1 ≤ 281474976710656:=by
 obtain ⟨h1,q,hg⟩:=KG hl hn (by omega)
 refine ⟨h1,?_⟩
 have key:∀ (cs:List (List Int)) (ps:List Prt) (sz m:Int),(m = 0 ∨ m = 1) → (∀ c ∈ cs,(∀ x ∈ c,ZI x) ∧ c.length ≤ 512) → (QD m cs ps sz).2.1 ≤ sz + (cs.length:Int) * 8796093022208:=by
  intro cs
  induction cs with
  | nil => intro ps sz m _ _; simp [QD]
  | cons c cs ih =>
   intro ps sz m hm h
   cases hb:(QX c m).2 with
   | false => rw [Zjc _ _ _ hb]; simp only [List.length_cons]; omega
   | true =>
    rw [Zf2 _ _ _ hb]
    have h1:=h c (List.mem_cons_self ..)
    have h2:=(ZcK hb).size h1.1 h1.2
    have:=ih (ps ++ [(QX c m).1]) (sz + (4 + m + (QX c m).1.2.2.1)) m hm fun c hc => h c (List.mem_cons_of_mem _ hc)
    simp only [List.length_cons]
    omega
 have:=key (X1 l o q) [] 6 _ hg.hm fun c hc => ⟨fun x hx => hl x (KZ hc x hx),by have:=Zgw hc; omega⟩
 rw [hg.parts,Zgx] at this
 have h16:2 ^ q ≤ 2 ^ 4:=Nat.pow_le_pow_right (by omega) hg.p4
 generalize 2 ^ q = Q at this h16
 simp only at this
 omega
theorem ZdO {c s:List Int} {sh:Int} (h:(QK c sh s).2 = 0):(QK c sh s).1 = XE c sh s ∧ c.length ≤ s.length ∧ Zaa c sh = true:=by
 unfold QK at h ⊢
 split at h
 ·simp at h
 ·split at h
  ·simp at h
  ·split at h
   ·simp at h
   ·split at h
    ·simp at h
    ·rename_i h1 h2 h3 h4
     rw [if_neg h1,if_neg h2,if_neg h3,if_neg h4]
     refine ⟨rfl,by omega,by simpa using h1⟩
theorem Y1 {c s:List Int} {sh:Int} (h:(QK c sh s).2 = 0) (h1:1 ≤ s.length) (h2:s.length ≤ 512):(QK c sh s).1.length + c.length = s.length ∧ c.length ≤ 8 ∧ XZ (QK c sh s).1 (c.length:Nat) = 0:=by
 have hz:=ZdO h
 have hlen:(QK c sh s).1.length + c.length = s.length:=by rw [hz.1,XE,ZnG]; omega
 have h8:=(ZdC hz.2.2).1
 refine ⟨hlen,h8,ZdM.2 ⟨⟨by omega,by omega,h8⟩,?_⟩⟩
 rw [List.any_eq_false]
 intro x hx
 have:=XU c sh s x hx
 unfold ZI at this
 unfold Qo
 simp only [decide_eq_true_eq]
 omega
def ZK8 (p:SPl) (kk d:Int) (s:List Int):Option W6 → SPl × Bool × Unit
 | none => (p,false,())
 | some x => (ZLd kk d s x,true,())
theorem ZzD (k:Nat) (hk:40000 < k) {s:List Int} (h1:1 ≤ s.length) (h2:s.length ≤ 512) {d:Nat} (hd:d ≤ 25) {head:Int} (hh:0 ≤ head ∧ head ≤ 1000) (kind:Int) (c:List Int) (sh a0 a1 a5:Int) (a4 a6:List Int) (a7:Int) :
  ZfI k ((a0,a1,(d:Int),s,(a4,a5,()),a6,a7,()),kind,(c,sh,()),head,()) = some (ZK8 (a0,a1,(d:Int),s,(a4,a5,()),a6,a7,()) a1 d s (Zng s d kind c sh head),()):=by
 show Zd7 k _ = _
 simp only [Zd7]
 rw [ZoW k c sh s (by omega) (by omega)]
 simp only [Qq]
 rw [ZY]
 unfold Zng
 by_cases h:(QK c sh s).2 = 0
 ·rw [Zk (by simpa using h),if_pos h]
  obtain ⟨hl,h8,hr⟩:=Y1 h h1 h2
  have hc:=ZAi k (l:=(QK c sh s).1) (o:=c.length) (by omega) hk
  rw [if_pos hr] at hc
  rw [show Int.ofNat c.length = ((c.length:Nat):Int) from rfl,hc]
  simp only [Qq]
  rw [show ((0:Int) != 0) = false from rfl]
  simp only [cond_false]
  have hsz:=Zgp (XU c sh s) (o:=c.length) (by omega)
  have hcd:c.length * d ≤ 8 * 25:=Nat.mul_le_mul h8 hd
  have e1:((c.length:Nat):Int) * (d:Int) = ((c.length * d:Nat):Int):=by push_cast; rfl
  rw [e1,Qp (n:=((c.length * d:Nat):Int)) (by omega),Qp (n:=head + ((c.length * d:Nat):Int)) (by omega),Qp (by omega)]
  rfl
 ·rw [Zc h,if_neg h]
  rfl
theorem Ztk (k:Nat) {s:List Int} (h1:1 ≤ s.length) (h2:s.length ≤ 512) (hk:1000 < k) (a0 a1 a2 a5 a7:Int) (a4 a6:List Int) :
  ZcQ k (s,((a0,a1,a2,s,a4,a5,a6,a7,()),()),()) = some (!s.all (fun x => decide (x = s.headD 0)),(a0,a1,a2,s,a4,a5,a6,a7,()),()):=by
 show Zas k _ = _
 simp only [Zas]
 have hhd:s.getD 0 0 = s.headD 0:=by cases s <;> rfl
 have key:∃ i:Int,ZcY k (s,((a0,a1,a2,s,a4,a5,a6,a7,()),()),()) = some (i,(a0,a1,a2,s,a4,a5,a6,a7,()),()) ∧ (0 ≤ i ↔ s.all (fun x => decide (x = s.headD 0)) = false):=by
  have:=WA (A:=Unit) (R:=Int × FPl × Unit) (step:=fun L1 => Y9 k L1) (fun i _ => (Int.ofNat s.length,Int.ofNat i,s,a0,a1,a2,s,a4,a5,a6,a7)) s
   (fun l _ => some (if l.all (fun x => decide (x = s.headD 0)) then -1 else Int.ofNat (s.length - l.length + (l.takeWhile (fun x => decide (x = s.headD 0))).length),(a0,a1,a2,s,a4,a5,a6,a7,()),()))
   (fun L _ => by simp only [Y9]; rw [Zk (W2 _)]; rfl)
   (fun L i hi _ hL => by
    simp only [Y9]
    have e:ZlP k (s[i],(a0,a1,a2,s,a4,a5,a6,a7,()),()) = some (s[i] != s.headD 0,(a0,a1,a2,s,a4,a5,a6,a7,()),()):=by
     show Zd4 k _ = _
     simp only [Zd4]
     rw [Zc (by simp only [QW]; omega),hhd]
    rw [Zc (ltR hi),Zc (inR hi),ZW hi,e]
    simp only [Qq]
    have hlen:(List.drop (i + 1) s).length = s.length - (i + 1):=by simp
    rw [ZY]
    by_cases hc:s[i] = s.headD 0
    ·rw [Zk (by simpa using hc),QZ hi (by omega),hL ()]
     simp only [List.all_cons,hc,decide_true,Bool.true_and,List.takeWhile_cons,if_true,List.length_cons,hlen]
     split
     ·rfl
     ·congr 3; omega
    ·rw [Zc hc]
     simp only [List.all_cons,hc,decide_false,Bool.false_and,Bool.false_eq_true,if_false,List.takeWhile_cons,List.length_cons,hlen,List.length_nil]
     congr 3; omega) k 0 () (by omega) (Nat.zero_le _)
  rw [List.drop_zero] at this
  refine ⟨_,this,?_⟩
  cases s.all (fun x => decide (x = s.headD 0)) <;> simp
 obtain ⟨i,h1,h2⟩:=key
 rw [h1]
 simp only [Qq]
 cases hc:s.all (fun x => decide (x = s.headD 0)) with
 | false => rw [WH (h2.2 hc)]; rfl
 | true => rw [WG (fun h => by have:=h2.1 h; rw [hc] at this; cases this)]; rfl
def Zdw (s:List Int) (d:Nat):Option W6:=if s.all (fun x => decide (x = s.headD 0)) = true then some (0,[],0,[],(d:Int)) else none
def ZHv (s:List Int) (d:Nat) (o:Nat):Option W6:=Zng s d (8 + (o:Int)) (Xh o) 0 0
def ZcF (s:List Int) (d:Nat) (o:Nat):Option W6:=if o < s.length then Zng s d (31 + (o:Int)) (ZaO s o) 4 (9 + 12 * (o:Int)) else none
def ZFe (s:List Int) (d:Nat):Option W6:=some (1,[],0,[],(s.length:Int) * (d:Int))
def ZAI (s:List Int) (d:Nat):Nat → Nat → Option W6 → Option W6
 | 0,_,b => b
 | e + 1,o,b => ZAI s d e (o + 1) (QY b (ZHv s d o))
def Zj2 (s:List Int) (d:Nat):Option W6 :=
 QY (QY (QY (QY (ZAI s d (min 4 s.length + 1) 0 (QY none (Zdw s d))) (ZcF s d 2)) (ZcF s d 4)) (ZcF s d 8)) (ZFe s d)
theorem ZyK {s:List Int} {d:Nat} {kind:Int} {c:List Int} {sh head:Int} (h1:1 ≤ s.length) (h2:s.length ≤ 512) (hh:0 ≤ head):nnC (Zng s d kind c sh head):=by
 intro x hx
 unfold Zng at hx
 split at hx
 ·rename_i h
  obtain rfl:=(Option.some.inj hx).symm
  obtain ⟨hl,h8,_⟩:=Y1 h h1 h2
  have:=(Zgp (XU c sh s) (o:=c.length) (by omega)).1
  have e1:((c.length:Nat):Int) * (d:Int) = ((c.length * d:Nat):Int):=by push_cast; rfl
  simp only
  rw [e1]
  omega
 ·cases hx
theorem Zsn:nnC none:=fun _ h => by cases h
theorem ZAH (s:List Int) (d:Nat):nnC (Zdw s d):=by
 intro x hx
 unfold Zdw at hx
 split at hx
 ·obtain rfl:=(Option.some.inj hx).symm
  simp only
  omega
 ·cases hx
theorem Zyz {s:List Int} {d o:Nat} (h1:1 ≤ s.length) (h2:s.length ≤ 512):nnC (ZHv s d o):=ZyK h1 h2 (Int.le_refl _)
theorem Zsj {s:List Int} {d o:Nat} (h1:1 ≤ s.length) (h2:s.length ≤ 512):nnC (ZcF s d o):=by
 unfold ZcF
 split
 ·exact ZyK h1 h2 (by omega)
 ·exact Zsn
theorem ZyA {s:List Int} {d:Nat} (h1:1 ≤ s.length) (h2:s.length ≤ 512):∀ (e o:Nat) (b:Option W6),nnC b → nnC (ZAI s d e o b)
 | 0,_,b,h => h
 | e + 1,o,b,h => ZyA h1 h2 e (o + 1) _ (ZbT h (Zyz h1 h2))
theorem Zp9 (k:Nat) (hk:40000 < k) {s:List Int} (h1:1 ≤ s.length) (h2:s.length ≤ 512) {d:Nat} (hd:d ≤ 25) {head:Int} (hh:0 ≤ head ∧ head ≤ 1000) (kind:Int) (c:List Int) (sh a0 a1 a5:Int) (a4 a6:List Int) (a7:Int) {b:Option W6} (hb:nnC b)
  {R:Type} (K:Unit × FPl × Unit → Option R) :
  ((ZfI k ((a0,a1,(d:Int),s,(a4,a5,()),a6,a7,()),kind,(c,sh,()),head,())).bind fun y =>
   (ZaV k ((y.1.1.1,y.1.1.2.1,y.1.1.2.2.1,y.1.1.2.2.2.1,(y.1.1.2.2.2.2.1.1,y.1.1.2.2.2.2.1.2.1,()),y.1.1.2.2.2.2.2.1,y.1.1.2.2.2.2.2.2.1,()),y.1.2.1,((Qu a1 d s b).1,(Qu a1 d s b).2.1,(Qu a1 d s b).2.2.1,(Qu a1 d s b).2.2.2.1,(Qu a1 d s b).2.2.2.2.1,(Qu a1 d s b).2.2.2.2.2.1,(Qu a1 d s b).2.2.2.2.2.2.1,(Qu a1 d s b).2.2.2.2.2.2.2.1,()),())).bind K) =
  K ((),Qu a1 d s (QY b (Zng s d kind c sh head)),()):=by
 rw [ZzD k hk h1 h2 hd hh]
 simp only [Qq]
 cases hm:Zng s d kind c sh head with
 | none => rfl
 | some x =>
  have:=ZlO k a1 d s x b hb
  exact (congrArg (fun z => z.bind K) this).trans rfl
end Go.Sh
namespace Go.Sh
open Go Go.Proofs
theorem Zg {α β:Type} {x:Option α} {a:α} (h:x = some a) (K:α → Option β):x.bind K = K a:=by rw [h]; rfl
theorem ZHk (k:Nat) (hk:40000 < k) {s:List Int} (h1:1 ≤ s.length) (h2:s.length ≤ 512) {d:Nat} (hd:d ≤ 25) (kk:Int) :
  ∀ (e o j:Nat) (b:Option W6),e < j → o + e ≤ 5 → nnC b →
  Zs (fun L2 => Zdk k (ZiT k) L2) j (((o + e:Nat):Int),(o:Int),Int.ofNat s.length,(Qu kk d s b).1,(Qu kk d s b).2.1,(Qu kk d s b).2.2.1,(Qu kk d s b).2.2.2.1,(Qu kk d s b).2.2.2.2.1,(Qu kk d s b).2.2.2.2.2.1,(Qu kk d s b).2.2.2.2.2.2.1,(Qu kk d s b).2.2.2.2.2.2.2.1,
    0,kk,(d:Int),s,[],0,[],0,0,kk,(d:Int),0,(d:Int),s,0,0,0,0,0) =
   (fun b => ZiT k ((0:Int),(2:Int),(4:Int),(8:Int),Int.ofNat s.length,0,kk,(d:Int),s,[],0,[],0,(Qu kk d s b).1,(Qu kk d s b).2.1,(Qu kk d s b).2.2.1,(Qu kk d s b).2.2.2.1,(Qu kk d s b).2.2.2.2.1,(Qu kk d s b).2.2.2.2.2.1,(Qu kk d s b).2.2.2.2.2.2.1,(Qu kk d s b).2.2.2.2.2.2.2.1,
    0,kk,(d:Int),0,(d:Int),s,0,0,0,0,0)) (ZAI s d e o b):=by
 intro e
 induction e with
 | zero =>
  intro o j b hj ho hb
  obtain ⟨j,rfl⟩:=Zv hj
  rw [Zj]
  simp only [Zdk]
  rw [Zk (by omega)]
  rfl
 | succ e ih =>
  intro o j b hj ho hb
  obtain ⟨j,rfl⟩:=Zv (show 0 < j by omega)
  rw [Zj]
  simp only [Zdk]
  rw [Zc (by omega),Zip k o (by omega) (by omega)]
  simp only [Qq]
  have e1:IntKind.i64.wrap ((8:Int) + (o:Int)) = 8 + (o:Int):=by rw [Qp (by omega)]
  have e2:IntKind.i64.wrap ((o:Int) + 1) = ((o + 1:Nat):Int):=by rw [Qp (by omega)]; rfl
  rw [e1,e2]
  refine (Zp9 k hk h1 h2 hd (show (0:Int) ≤ 0 ∧ (0:Int) ≤ 1000 by omega) (8 + (o:Int)) (Xh o) 0 0 kk 0 [] [] 0 hb _).trans ?_
  have:=ih (o + 1) j (QY b (ZHv s d o)) (by omega) (by omega) (ZbT hb (Zyz h1 h2))
  rw [show o + 1 + e = o + (e + 1) by omega] at this
  exact this
theorem ZHl (k:Nat) (hk:40000 < k) {s:List Int} (h1:1 ≤ s.length) (h2:s.length ≤ 512) (hs:∀ x ∈ s,ZI x) {d:Nat} (hd:d ≤ 25) (kk:Int) (b:Option W6) (hb:nnC b) :
  ZiT k ((0:Int),(2:Int),(4:Int),(8:Int),Int.ofNat s.length,0,kk,(d:Int),s,[],0,[],0,(Qu kk d s b).1,(Qu kk d s b).2.1,(Qu kk d s b).2.2.1,(Qu kk d s b).2.2.2.1,(Qu kk d s b).2.2.2.2.1,(Qu kk d s b).2.2.2.2.2.1,(Qu kk d s b).2.2.2.2.2.2.1,(Qu kk d s b).2.2.2.2.2.2.2.1,
    0,kk,(d:Int),0,(d:Int),s,0,0,0,0,0) =
   (fun b => some (((Qu kk d s b).1,(Qu kk d s b).2.1,(Qu kk d s b).2.2.1,(Qu kk d s b).2.2.2.1,((Qu kk d s b).2.2.2.2.1,(Qu kk d s b).2.2.2.2.2.1,()),(Qu kk d s b).2.2.2.2.2.2.1,(Qu kk d s b).2.2.2.2.2.2.2.1,()),()))
    (QY (QY (QY (QY b (ZcF s d 2)) (ZcF s d 4)) (ZcF s d 8)) (ZFe s d)):=by
 have one:∀ (j i o:Nat) (b:Option W6),(i = 0 ∧ o = 2 ∨ i = 1 ∧ o = 4 ∨ i = 2 ∧ o = 8) → nnC b →
   Zs (fun L3 => ZbA k L3) (j + 1) ((i:Int),(2:Int),(4:Int),(8:Int),Int.ofNat s.length,0,kk,(d:Int),s,[],0,[],0,(Qu kk d s b).1,(Qu kk d s b).2.1,(Qu kk d s b).2.2.1,(Qu kk d s b).2.2.2.1,(Qu kk d s b).2.2.2.2.1,(Qu kk d s b).2.2.2.2.2.1,(Qu kk d s b).2.2.2.2.2.2.1,(Qu kk d s b).2.2.2.2.2.2.2.1,
    0,kk,(d:Int),0,(d:Int),s,0,0,0,0,0) =
   (fun b => Zs (fun L3 => ZbA k L3) j (((i + 1:Nat):Int),(2:Int),(4:Int),(8:Int),Int.ofNat s.length,0,kk,(d:Int),s,[],0,[],0,(Qu kk d s b).1,(Qu kk d s b).2.1,(Qu kk d s b).2.2.1,(Qu kk d s b).2.2.2.1,(Qu kk d s b).2.2.2.2.1,(Qu kk d s b).2.2.2.2.2.1,(Qu kk d s b).2.2.2.2.2.2.1,(Qu kk d s b).2.2.2.2.2.2.2.1,
    0,kk,(d:Int),0,(d:Int),s,0,0,0,0,0)) (QY b (ZcF s d o)):=by
  intro j i o b hio hb
  rw [Zj]
  simp only [ZbA]
  have ho:o = 2 ∨ o = 4 ∨ o = 8:=by omega
  have hg:[(2:Int),4,8].getD ((i:Int)).toNat 0 = (o:Int):=by
   rcases hio with ⟨rfl,rfl⟩ | ⟨rfl,rfl⟩ | ⟨rfl,rfl⟩ <;> rfl
  have e2:IntKind.i64.wrap ((i:Int) + 1) = ((i + 1:Nat):Int):=by rw [Qp (by omega)]; rfl
  rw [Zc (by omega),Zc (by omega),hg,e2]
  unfold ZcF
  by_cases hlt:o < s.length
  ·rw [Zc (by simp only [QW]; omega),if_pos hlt,ZzI k s o ho (by omega) hs (by omega) (by omega)]
   simp only [Qq]
   have e1:IntKind.i64.wrap ((31:Int) + (o:Int)) = 31 + (o:Int):=by rw [Qp (by omega)]
   have e3:IntKind.i64.wrap ((9:Int) + IntKind.i64.wrap ((12:Int) * (o:Int))) = 9 + 12 * (o:Int):=by rw [Qp (n:=12 * (o:Int)) (by omega),Qp (by omega)]
   rw [e1,e3]
   exact Zp9 k hk h1 h2 hd (show (0:Int) ≤ 9 + 12 * (o:Int) ∧ 9 + 12 * (o:Int) ≤ 1000 by omega) (31 + (o:Int)) (ZaO s o) 4 0 kk 0 [] [] 0 hb _
  ·rw [Zk (by simp only [QW]; omega),if_neg hlt]
   rfl
 obtain ⟨j,rfl⟩:∃ j,k = j + 4:=⟨k - 4,by omega⟩
 have nn1:=ZbT hb (Zsj (o:=2) (d:=d) h1 h2)
 have nn2:=ZbT nn1 (Zsj (o:=4) (d:=d) h1 h2)
 have nn3:=ZbT nn2 (Zsj (o:=8) (d:=d) h1 h2)
 refine (one (j + 3) 0 2 b (by omega) hb).trans ((one (j + 2) 1 4 _ (by omega) nn1).trans ((one (j + 1) 2 8 _ (by omega) nn2).trans ?_))
 generalize QY (QY (QY b (ZcF s d 2)) (ZcF s d 4)) (ZcF s d 8) = b3 at nn3
 simp only
 rw [Zj]
 simp only [ZbA]
 rw [Zk (by omega)]
 have hmul:s.length * d ≤ 512 * 25:=Nat.mul_le_mul h2 hd
 have e1:IntKind.i64.wrap (Int.ofNat s.length * (d:Int)) = (s.length:Int) * (d:Int):=by
  have:Int.ofNat s.length * (d:Int) = ((s.length * d:Nat):Int):=by simp only [QW]; push_cast; rfl
  rw [this,Qp (by omega)]; push_cast; rfl
 rw [e1]
 have:=ZlO (j + 4) kk d s (1,[],0,[],(s.length:Int) * (d:Int)) b3 nn3
 exact Zg this _
theorem ZD6 (k:Nat) (hk:40000 < k) {s:List Int} (h1:1 ≤ s.length) (h2:s.length ≤ 512) {d:Nat} (hd1:1 ≤ d) (hd:d ≤ 25) (hs:∀ x ∈ s,W9 x d = true) :
  Zpo k (s,(d:Int),()) = (fun b => some (((Qu (ZB s:Nat) ((d - ZB s:Nat):Int) (QQ s) b).1,(Qu (ZB s:Nat) ((d - ZB s:Nat):Int) (QQ s) b).2.1,(Qu (ZB s:Nat) ((d - ZB s:Nat):Int) (QQ s) b).2.2.1,(Qu (ZB s:Nat) ((d - ZB s:Nat):Int) (QQ s) b).2.2.2.1,((Qu (ZB s:Nat) ((d - ZB s:Nat):Int) (QQ s) b).2.2.2.2.1,(Qu (ZB s:Nat) ((d - ZB s:Nat):Int) (QQ s) b).2.2.2.2.2.1,()),(Qu (ZB s:Nat) ((d - ZB s:Nat):Int) (QQ s) b).2.2.2.2.2.2.1,(Qu (ZB s:Nat) ((d - ZB s:Nat):Int) (QQ s) b).2.2.2.2.2.2.2.1,()),()))
   (Zj2 (QQ s) (d - ZB s)):=by
 show Zhn k (ZrX k) _ = _
 simp only [Zhn]
 rw [Zzz k s (by omega) (by omega)]
 simp only [Qq]
 have hw:=ZbX hd1 hs
 have hsg:=Zgb hd1 hs
 have hsl:=KV s
 have e1:IntKind.i64.wrap ((d:Int) - ((ZB s:Nat):Int)) = ((d - ZB s:Nat):Int):=by rw [Qp (by omega)]; omega
 rw [e1]
 generalize hkk:ZB s = kk at hw hsg
 generalize hdd:d - kk = dd at hsg
 have:=ZF (A:=List Int) (R:=SPl × Unit) (step:=fun L1 => Kg k (ZiS k) L1)
  (fun i a => (Int.ofNat s.length,Int.ofNat i,s,(kk:Int),(0:Int),(kk:Int),(dd:Int),(0:Int),(0:Int),a,(0:Int),(0:Int),(0:Int),(0:Int),(0:Int))) s
  (fun s' a => Kg k (ZiS k) (fun _ => none) (Int.ofNat s.length,Int.ofNat s.length,s,(kk:Int),(0:Int),(kk:Int),(dd:Int),(0:Int),(0:Int),a ++ s'.map (fun x => x.fdiv (2 ^ kk)),(0:Int),(0:Int),(0:Int),(0:Int),(0:Int)))
  (fun i a => a.length = i)
  (fun L a _ => by
   simp only [Kg]
   rw [Zk (W2 _),Zk (W2 _)]
   simp)
  (fun L i hi a ha hL => by
   have key:Kg k (ZiS k) L (Int.ofNat s.length,Int.ofNat i,s,(kk:Int),(0:Int),(kk:Int),(dd:Int),(0:Int),(0:Int),a,(0:Int),(0:Int),(0:Int),(0:Int),(0:Int)) =
     L (Int.ofNat s.length,Int.ofNat (i + 1),s,(kk:Int),(0:Int),(kk:Int),(dd:Int),(0:Int),(0:Int),a ++ [s[i].fdiv (2 ^ kk)],(0:Int),(0:Int),(0:Int),(0:Int),(0:Int)):=by
    simp only [Kg]
    rw [Zc (ltR hi),Zc (inR hi),Zc (by omega),Zc (by simp only [List.length_singleton]; omega),ZW hi,WS,Nat.min_eq_left (by omega),QZ hi (by omega)]
   rw [key,hL _ (by simp; omega),List.map_cons,List.append_assoc]
   rfl)
  k 0 [] rfl (by omega) (Nat.zero_le _)
 rw [List.drop_zero,List.nil_append] at this
 refine Eq.trans this ?_
 have hsh:s.map (fun x => x.fdiv (2 ^ kk)) = QQ s:=by unfold QQ; rw [hkk]
 rw [hsh]
 generalize QQ s = t at hsg hsl
 simp only [Kg]
 rw [Zk (W2 _),Ztk k (by omega) (by omega) (by omega)]
 simp only [Qq,Bool.not_not]
 have nar:∀ x ∈ t,ZI x:=fun x hx => Zxp (by omega) (hsg x hx)
 have hfirst:ZaV k (((0:Int),(kk:Int),(dd:Int),t,([],0,()),[],(dd:Int),()),t.all (fun x => decide (x = t.headD 0)),(0,0,0,[],[],0,[],(-1:Int),()),()) = some ((),Qu kk dd t (QY none (Zdw t dd)),()):=by
  unfold Zdw
  cases t.all (fun x => decide (x = t.headD 0)) with
  | false => rfl
  | true => exact ZlO k kk dd t (0,[],0,[],(dd:Int)) none Zsn
 rw [hfirst]
 simp only [Qq]
 have e4:IntKind.i64.wrap ((if Int.ofNat t.length < (4:Int) then Int.ofNat t.length else (4:Int)) + (1:Int)) = ((0 + (min 4 t.length + 1):Nat):Int):=by
  have:(if Int.ofNat t.length < (4:Int) then Int.ofNat t.length else (4:Int)) = ((min 4 t.length:Nat):Int):=by
   simp only [QW]; split <;> omega
  rw [this,Qp (by omega)]
  omega
 rw [e4]
 have nn0:nnC (QY none (Zdw t dd)):=ZbT Zsn (ZAH t dd)
 refine (ZHk k hk (by omega) (by omega) (show dd ≤ 25 by omega) kk (min 4 t.length + 1) 0 k _ (by omega) (by omega) nn0).trans ?_
 exact ZHl k hk (by omega) (by omega) nar (by omega) kk _ (ZyA (by omega) (by omega) _ _ _ nn0)
end Go.Sh
namespace Go.Sh
open Go Go.Proofs
theorem Wz (w:Nat):∀ c:List Int,(c.flatMap fun n => Wl n w).length = w * c.length
 | [] => rfl
 | a :: c => by rw [List.flatMap_cons,Wm,KU,Wz w c,List.length_cons,Nat.mul_add,Nat.mul_one]; omega
theorem ZhD (kk:Nat):∀ c:List Int,(c.flatMap (Y0 kk)).length = Zck c kk
 | [] => rfl
 | a :: c => by
  rw [List.flatMap_cons,Wm,ZdG,ZhD kk c]
  unfold Zck
  simp only [List.length_cons,List.map_cons,Zgd,Nat.mul_add,Nat.mul_one]
  omega
theorem Zss {c:List Int} {m:Int} (hm:m = 0 ∨ m = 1) {y:Prt} (hy:Ks c m y):((Xl m (c,y)).length:Int) = 4 + m + y.2.2.1:=by
 have hmn:((m.toNat:Nat):Int) = m:=by rcases hm with rfl | rfl <;> rfl
 unfold Xl Ys
 rcases hy with ⟨kk,hkk,hfar,rfl⟩ | ⟨hw,rfl⟩
 ·simp only
  rw [if_neg (by omega),if_neg (by omega)]
  simp only [Wm,Zp,List.length_nil,WS,ZhD]
  omega
 ·simp only
  rw [if_pos trivial,if_pos trivial]
  simp only [Wm,Zp,WS,Wz]
  omega
theorem ZpQ {m:Int} (hm:m = 0 ∨ m = 1):∀ (cs:List (List Int)) (ps:List Prt) (sz:Int),(QD m cs ps sz).2.2 = true →
  ((((cs.zip (cs.map fun c => (QX c m).1)).flatMap (Xl m)).length:Nat):Int) = (QD m cs ps sz).2.1 - sz
 | [],ps,sz,_ => by simp [QD]
 | c :: cs,ps,sz,h => by
  cases hb:(QX c m).2 with
  | false => rw [Zjc _ _ _ hb] at h; cases h
  | true =>
   rw [Zf2 _ _ _ hb] at h ⊢
   have h1:=Zss hm (ZcK hb)
   have h2:=ZpQ hm cs _ _ h
   simp only [List.map_cons,List.zip_cons_cons,List.flatMap_cons,Wm]
   omega
theorem RGood.map {l:List Int} {o p:Nat} {R:XF} (h:RGood l o R p):R.2.2.2 = (X1 l o p).map fun c => (QX c R.1).1:=by
 obtain ⟨ys,h1,h2,h3⟩:=ZdH (m:=R.1) (X1 l o p) [] 6 (by rw [h.parts])
 rw [h.parts] at h1
 simp only [List.nil_append] at h1
 rw [h1,h3]
theorem RGood.len {l:List Int} {o p:Nat} {R:XF} (h:RGood l o R p):((ZdI l o R).length:Int) = R.2.2.1:=by
 have h1:=ZpQ h.hm (X1 l o p) [] 6 (by rw [h.parts])
 rw [h.parts,← h.map] at h1
 unfold ZdI
 rw [h.hp,WS]
 simp only [Wm,Zp]
 simp only at h1
 omega
theorem Zsz {l:List Int} {o:Nat} (hl:∀ x ∈ l,ZI x) (hn:l.length + o ≤ 512):((WY l o).length:Int) = (Ws l o).2.2.1:=by
 obtain ⟨_,q,hg⟩:=KG hl hn (by omega)
 exact hg.len
def ZcG (s:List Int) (d:Nat) (x:W6):Prop :=
 (x = (0,[],0,[],(d:Int)) ∧ s.all (fun x => decide (x = s.headD 0)) = true) ∨ x = (1,[],0,[],(s.length:Int) * (d:Int)) ∨
 (∃ o,o ≤ 4 ∧ o ≤ s.length ∧ ZHv s d o = some x) ∨ (∃ o,(o = 2 ∨ o = 4 ∨ o = 8) ∧ o < s.length ∧ Zng s d (31 + (o:Int)) (ZaO s o) 4 (9 + 12 * (o:Int)) = some x)
def Zoo (s:List Int) (d:Nat) (b:Option W6):Prop := ∀ x,b = some x → ZcG s d x
theorem Zvu {b x:Option W6} {y:W6} (h:QY b x = some y):b = some y ∨ x = some y:=by
 unfold QY at h
 match x,b,h with
 | none,b,h => exact .inl h
 | some x,none,h => exact .inr h
 | some x,some b,h =>
  simp only at h
  split at h
  ·exact .inr h
  ·exact .inl h
theorem ZbU {s:List Int} {d:Nat} {b x:Option W6} (hb:Zoo s d b) (hx:Zoo s d x):Zoo s d (QY b x):=fun y hy => by
 rcases Zvu hy with h | h
 ·exact hb y h
 ·exact hx y h
theorem ZE5 {b x:Option W6}:(∀ y,b = some y → ∃ z,QY b x = some z ∧ z.2.2.2.2 ≤ y.2.2.2.2) ∧ (∀ y,x = some y → ∃ z,QY b x = some z ∧ z.2.2.2.2 ≤ y.2.2.2.2):=by
 unfold QY
 match x,b with
 | none,b => exact ⟨fun y hy => ⟨y,hy,Int.le_refl _⟩,fun y hy => by cases hy⟩
 | some x,none => exact ⟨fun y hy => (by cases hy),fun y hy => ⟨y,hy,Int.le_refl _⟩⟩
 | some x,some b =>
  simp only
  split
  ·exact ⟨fun y hy => by cases hy; exact ⟨x,rfl,by omega⟩,fun y hy => by cases hy; exact ⟨x,rfl,Int.le_refl _⟩⟩
  ·exact ⟨fun y hy => by cases hy; exact ⟨b,rfl,Int.le_refl _⟩,fun y hy => by cases hy; exact ⟨b,rfl,by omega⟩⟩
theorem ZyB {s:List Int} {d:Nat}:∀ (e o:Nat) (b:Option W6),o + e ≤ min 4 s.length + 1 → Zoo s d b → Zoo s d (ZAI s d e o b)
 | 0,_,b,_,h => h
 | e + 1,o,b,he,h => ZyB e (o + 1) _ (by omega) (ZbU h fun x hx => .inr (.inr (.inl ⟨o,by omega,by omega,hx⟩)))
theorem Zsk {s:List Int} {d o:Nat} (ho:o = 2 ∨ o = 4 ∨ o = 8):Zoo s d (ZcF s d o):=by
 intro x hx
 unfold ZcF at hx
 split at hx
 ·exact .inr (.inr (.inr ⟨o,ho,by omega,hx⟩))
 ·cases hx
theorem Zv1 (s:List Int) (d:Nat):∃ x,Zj2 s d = some x ∧ ZcG s d x ∧ x.2.2.2.2 ≤ (s.length:Int) * (d:Int):=by
 obtain ⟨z,h1,h2⟩:=(ZE5 (b:=QY (QY (QY (ZAI s d (min 4 s.length + 1) 0 (QY none (Zdw s d))) (ZcF s d 2)) (ZcF s d 4)) (ZcF s d 8)) (x:=ZFe s d)).2 _ rfl
 refine ⟨z,h1,?_,h2⟩
 refine ZbU (ZbU (ZbU (ZbU (ZyB _ _ _ (by omega) (ZbU (fun x hx => by cases hx) ?_)) (Zsk (.inl rfl))) (Zsk (.inr (.inl rfl)))) (Zsk (.inr (.inr rfl)))) ?_ z h1
 ·intro x hx
  unfold Zdw at hx
  split at hx
  ·rename_i h
   exact .inl ⟨(Option.some.inj hx).symm,h⟩
  ·cases hx
 ·intro x hx
  exact .inr (.inl (Option.some.inj hx).symm)
def XG (s:List Int) (d:Nat) (x:W6):List Bool :=
 if x.1 = 0 then (s.take 1).flatMap (fun n => Wl n d) else if x.1 = 1 then s.flatMap (fun n => Wl n d)
 else (s.take x.2.1.length).flatMap (fun n => Wl n d) ++ ((if 31 < x.1 then Zb 11 4 ++ (Zb x.2.2.1.toNat 5 ++ x.2.1.flatMap (fun n => Wl n 12)) else []) ++ WY x.2.2.2.1 x.2.1.length)
def XM (kind:Int) (kk:Nat):List Bool:=Zb kind.toNat 7 ++ (if 0 < kk then [true] ++ (List.replicate (kk - 1) false ++ [true]) else [false])
def Q3 (s:List Int) (d:Nat):List Bool:=match Zj2 (QQ s) (d - ZB s) with
 | none => []
 | some x => XM x.1 (ZB s) ++ XG (QQ s) (d - ZB s) x
theorem Zse (kind:Int) (kk:Nat):(XM kind kk).length = 8 + kk:=by
 unfold XM
 rw [Wm,Zp]
 split
 ·simp; omega
 ·simp; omega
theorem Yg {s:List Int} {d:Nat} {kind:Int} {c:List Int} {sh head:Int} {x:W6} (h1:1 ≤ s.length) (h2:s.length ≤ 512) (h:Zng s d kind c sh head = some x) :
  x.1 = kind ∧ x.2.1 = c ∧ x.2.2.1 = sh ∧ x.2.2.2.1 = XE c sh s ∧ x.2.2.2.2 = head + (c.length:Int) * (d:Int) + ((WY (XE c sh s) c.length).length:Int) ∧ XZ (XE c sh s) (c.length:Nat) = 0 ∧ c.length ≤ s.length ∧ c.length ≤ 8 ∧ Zaa c sh = true ∧
   (QK c sh s).2 = 0:=by
 unfold Zng at h
 split at h
 ·rename_i hz
  obtain rfl:=(Option.some.inj h).symm
  obtain ⟨hl,h8,hr⟩:=Y1 hz h1 h2
  obtain ⟨e1,e2,e3⟩:=ZdO hz
  have:=Zsz (XU c sh s) (o:=c.length) (by omega)
  rw [e1] at hr this ⊢
  exact ⟨rfl,rfl,rfl,rfl,by simp only; omega,hr,e2,h8,e3,hz⟩
 ·cases h
theorem XW (s:List Int) (d j:Nat) (h:j ≤ s.length):((s.take j).flatMap (fun n => Wl n d)).length = d * j:=by
 rw [Wz,List.length_take,Nat.min_eq_left h]
theorem ZmY (o:Nat) (h:o ≤ 4):(Xh o).length = o:=by
 obtain rfl | rfl | rfl | rfl | rfl:o = 0 ∨ o = 1 ∨ o = 2 ∨ o = 3 ∨ o = 4:=by omega
 all_goals rfl
theorem Zqr {s:List Int} {d:Nat} {x:W6} (h1:1 ≤ s.length) (h2:s.length ≤ 512) (h:ZcG s d x):((XG s d x).length:Int) = x.2.2.2.2:=by
 unfold XG
 rcases h with ⟨rfl,_⟩ | rfl | ⟨o,ho,hos,hx⟩ | ⟨o,ho,hos,hx⟩
 ·simp only
  rw [if_pos trivial,XW _ _ _ h1]
  omega
 ·simp only
  rw [if_neg (by omega),if_pos trivial,Wz]
  push_cast
  rw [Int.mul_comm]
 ·obtain ⟨e1,e2,e3,e4,e5,e6,e7,e8,e9,_⟩:=Yg h1 h2 hx
  rw [e1,e2,e3,e4,e5,if_neg (by omega),if_neg (by omega),if_neg (by omega)]
  simp only [Wm,List.length_nil,XW _ _ _ e7]
  push_cast
  rw [Int.mul_comm (d:Int)]
  omega
 ·obtain ⟨e1,e2,e3,e4,e5,e6,e7,e8,e9,_⟩:=Yg h1 h2 hx
  have hsl:=(Zga s o ho).1
  rw [e1,e2,e3,e4,e5,if_neg (by omega),if_neg (by omega),if_pos (by omega)]
  simp only [Wm,XW _ _ _ e7,Zp,Wz]
  rw [hsl]
  push_cast
  rw [Int.mul_comm (d:Int)]
  omega
theorem Zcp (s:List Int) (d:Nat) (h1:1 ≤ s.length) (h2:s.length ≤ 512):∃ x,Zj2 (QQ s) (d - ZB s) = some x ∧ ZcG (QQ s) (d - ZB s) x ∧ Q3 s d = XM x.1 (ZB s) ++ XG (QQ s) (d - ZB s) x ∧
  ((Q3 s d).length:Int) = 8 + (ZB s:Int) + x.2.2.2.2 ∧ x.2.2.2.2 ≤ (s.length:Int) * ((d - ZB s:Nat):Int):=by
 obtain ⟨x,h3,h4,h5⟩:=Zv1 (QQ s) (d - ZB s)
 have hb:=Zqr (by rw [KV]; exact h1) (by rw [KV]; exact h2) h4
 rw [KV] at h5
 have e:Q3 s d = XM x.1 (ZB s) ++ XG (QQ s) (d - ZB s) x:=by unfold Q3; rw [h3]
 refine ⟨x,h3,h4,e,?_,h5⟩
 rw [e,Wm,Zse]
 omega
theorem Zvp {s:List Int} {d:Nat} (h1:1 ≤ s.length) (h2:s.length ≤ 512) (hw:ZB s < d):(Q3 s d).length ≤ 8 + s.length * d:=by
 obtain ⟨x,_,_,_,h4,h5⟩:=Zcp s d h1 h2
 have e:(s.length:Int) * ((d - ZB s:Nat):Int) = ((s.length * d - s.length * ZB s:Nat):Int):=by
  rw [← Nat.mul_sub]; push_cast; rfl
 have h6:ZB s ≤ s.length * ZB s:=Nat.le_mul_of_pos_left _ h1
 have h7:s.length * ZB s ≤ s.length * d:=Nat.mul_le_mul_left _ (by omega)
 omega
end Go.Sh
namespace Go.Sh
open Go Go.Proofs
theorem Zdo (k:Nat) {l:List Int} {w:Nat} (hk:10000 < k) (hl:l.length ≤ 8192) (hw:w ≤ 32) (hs:∀ x ∈ l,W9 x w = true) (bs:List Bool) (hb:bs.length ≤ 2147483648) :
  KB k (wst bs,l,(w:Int),()) = some ((),wst (bs ++ l.flatMap (fun n => Wl n w)),()):=by
 show Zhp k (Zr1 k) _ = _
 simp only [Zhp]
 have:=ZF (A:=List Bool) (R:=Unit × (List Int × Int × Unit) × Unit) (step:=fun L1 => Zdn k L1)
  (fun i a => (Int.ofNat l.length,Int.ofNat i,l,(w:Int),(a.length:Int),ZL a)) l
  (fun l' a => some ((),wst (a ++ l'.flatMap (fun n => Wl n w)),()))
  (fun i a => a.length ≤ 2147483648 + i * 32)
  (fun L a _ => by
   simp only [Zdn]
   rw [Zk (W2 _)]
   simp)
  (fun L i hi a ha hL => by
   simp only [Zdn]
   rw [Zc (ltR hi),Zc (inR hi),ZW hi]
   rw [show ((ZL a,((a.length:Nat):Int),()):List Int × Int × Unit) = wst a from rfl,ZoI k a _ w (by omega) hw (hs _ (List.getElem_mem hi)) (by omega)]
   simp only [Qq]
   rw [QZ hi (by omega),hL (a ++ Wl l[i] w) (by rw [Wm,KU]; omega),List.flatMap_cons,List.append_assoc])
  k 0 bs (by omega) (by omega) (Nat.zero_le _)
 rw [List.drop_zero] at this
 exact this
noncomputable def Zg5 (k:Nat) (p:SPl) (w:List Int × Int × Unit):Option (Int × (List Int × Int × Unit) × Unit) :=
 bif p.1 == (0:Int) then bif decide ((0:Int) ≤ (0:Int) ∧ (0:Int) ≤ (1:Int) ∧ (1:Int) ≤ Int.ofNat (List.length p.2.2.2.1)) then (KB k (w,List.drop (0:Nat) (List.take (1:Nat) p.2.2.2.1),p.2.2.1,())).bind fun y => some (0,(y.2.1.1,y.2.1.2.1,()),()) else none
 else bif p.1 == (1:Int) then (KB k (w,p.2.2.2.1,p.2.2.1,())).bind fun y => some (0,(y.2.1.1,y.2.1.2.1,()),())
 else bif decide ((0:Int) ≤ (0:Int) ∧ (0:Int) ≤ Int.ofNat (List.length p.2.2.2.2.1.1) ∧ Int.ofNat (List.length p.2.2.2.2.1.1) ≤ Int.ofNat (List.length p.2.2.2.1)) then
  (KB k (w,List.drop (0:Nat) (List.take (Int.ofNat (List.length p.2.2.2.2.1.1)).toNat p.2.2.2.1),p.2.2.1,())).bind fun y_4 =>
   bif decide ((31:Int) < p.1) then (QJ k ((y_4.2.1.1,y_4.2.1.2.1,()),11,4,())).bind fun y_5 => (QJ k ((y_5.2.1.1,y_5.2.1.2.1,()),p.2.2.2.2.1.2.1,5,())).bind fun y_6 => (KB k ((y_6.2.1.1,y_6.2.1.2.1,()),p.2.2.2.2.1.1,12,())).bind fun y_7 => (Zfg k ((y_7.2.1.1,y_7.2.1.2.1,()),p.2.2.2.2.2.1,Int.ofNat (List.length p.2.2.2.2.1.1),())).bind fun y => some (y.1,(y.2.1.1,y.2.1.2.1,()),())
   else (Zfg k ((y_4.2.1.1,y_4.2.1.2.1,()),p.2.2.2.2.2.1,Int.ofNat (List.length p.2.2.2.2.1.1),())).bind fun y => some (y.1,(y.2.1.1,y.2.1.2.1,()),())
 else none
theorem ZAD (k:Nat) (w:List Int × Int × Unit) (s:List Int) (d:Int):Zph k (w,s,d,()) =
  (Zpn k (s,d,())).bind fun y => bif y.1 != (0:Int) then some (y.1,w,()) else (Zpo k (s,d,())).bind fun y => (QJ k (w,y.1.1,7,())).bind fun y_1 =>
   bif decide ((0:Int) < y.1.2.1) then (QJ k ((y_1.2.1.1,y_1.2.1.2.1,()),1,1,())).bind fun y_2 => (ZjA k ((y_2.2.1.1,y_2.2.1.2.1,()),IntKind.i64.wrap (y.1.2.1 - (1:Int)),())).bind fun y_3 => Zg5 k y.1 (y_3.2.1.1,y_3.2.1.2.1,())
   else (QJ k ((y_1.2.1.1,y_1.2.1.2.1,()),0,1,())).bind fun y_2 => Zg5 k y.1 (y_2.2.1.1,y_2.2.1.2.1,()):=rfl
theorem Zfd (k:Nat) (hk:70000 < k) {s:List Int} (h1:1 ≤ s.length) (h2:s.length ≤ 512) {d:Nat} (hd1:1 ≤ d) (hd:d ≤ 25) (hs:∀ x ∈ s,W9 x d = true) {x:W6} (hx:ZcG s d x) (kk:Int) (bs:List Bool) (hb:bs.length ≤ 1000000000) :
  Zg5 k (ZLd kk d s x) (wst bs) = some (0,wst (bs ++ XG s d x),()):=by
 unfold Zg5 XG
 rcases hx with ⟨rfl,_⟩ | rfl | ⟨o,ho,hos,hx⟩ | ⟨o,ho,hos,hx⟩
 ·simp only
  rw [ZP,Zc rfl,Zc (by simp only [QW]; omega),if_pos trivial,List.drop_zero]
  rw [Zdo k (by omega) (by rw [List.length_take]; omega) (by omega) (fun y hy => hs y (List.mem_of_mem_take hy)) bs (by omega)]
  rfl
 ·simp only
  rw [ZP,Zk (by omega),ZP,Zc rfl,if_neg (by omega),if_pos trivial]
  rw [Zdo k (by omega) (by omega) (by omega) hs bs (by omega)]
  rfl
 ·obtain ⟨e1,e2,e3,e4,e5,e6,e7,e8,e9,_⟩:=Yg h1 h2 hx
  obtain ⟨kind,c,sh,r,sz⟩:=x
  simp only at e1 e2 e3 e4 e5
  subst e1; subst e2; subst e3; subst e4
  simp only
  rw [ZP,Zk (by omega),ZP,Zk (by omega),Zc (by simp only [QW]; omega),if_neg (by omega),if_neg (by omega),if_neg (by omega),List.drop_zero]
  rw [show (Int.ofNat (Xh o).length).toNat = (Xh o).length from rfl]
  rw [Zdo k (by omega) (by rw [List.length_take]; omega) (by omega) (fun y hy => hs y (List.mem_of_mem_take hy)) bs (by omega)]
  simp only [Qq]
  rw [Zk (by omega),show Int.ofNat (Xh o).length = ((Xh o).length:Nat) from rfl]
  have hlen:=XW s d (Xh o).length e7
  have hmul:d * (Xh o).length ≤ 25 * 8:=Nat.mul_le_mul hd e8
  refine (Zg (ZuG k (by omega) e6 (bs ++ (s.take (Xh o).length).flatMap (fun n => Wl n d)) (by rw [Wm]; omega)) _).trans ?_
  simp only [List.nil_append,List.append_assoc]
 ·obtain ⟨e1,e2,e3,e4,e5,e6,e7,e8,e9,_⟩:=Yg h1 h2 hx
  obtain ⟨hsl,hsr⟩:=Zga s o ho
  obtain ⟨kind,c,sh,r,sz⟩:=x
  simp only at e1 e2 e3 e4 e5
  subst e1; subst e2; subst e3; subst e4
  simp only
  rw [ZP,Zk (by omega),ZP,Zk (by omega),Zc (by simp only [QW]; omega),if_neg (by omega),if_neg (by omega),if_pos (by omega),List.drop_zero]
  generalize ZaO s o = c at hsl hsr e6 e7 e8 e9
  rw [show (Int.ofNat c.length).toNat = c.length from rfl]
  rw [Zdo k (by omega) (by rw [List.length_take]; omega) (by omega) (fun y hy => hs y (List.mem_of_mem_take hy)) bs (by omega)]
  simp only [Qq]
  rw [Zc (by omega),show Int.ofNat c.length = (c.length:Nat) from rfl]
  have hlen:=XW s d c.length e7
  have hmul:d * c.length ≤ 25 * 8:=Nat.mul_le_mul hd e8
  generalize hW:(s.take c.length).flatMap (fun n => Wl n d) = W at hlen
  have l1:(bs ++ W).length = bs.length + d * c.length:=by rw [Wm,hlen]
  refine (Zg (QL k (bs ++ W) 11 4 (by omega) (by omega) (by omega) (by omega)) _).trans ?_
  have l2:(bs ++ W ++ Zb 11 4).length = bs.length + d * c.length + 4:=by rw [Wm,l1,Zp]
  refine (Zg (QL k (bs ++ W ++ Zb 11 4) 4 5 (by omega) (by omega) (by omega) (by omega)) _).trans ?_
  have l3:(bs ++ W ++ Zb 11 4 ++ Zb 4 5).length = bs.length + d * c.length + 9:=by rw [Wm,l2,Zp]
  refine (Zg (Zdo k (l:=c) (w:=12) (by omega) (by omega) (by omega) (fun y hy => by
   have:=hsr y hy
   unfold W9
   rw [if_neg (by omega),decide_eq_true_eq]
   omega) (bs ++ W ++ Zb 11 4 ++ Zb 4 5) (by omega)) _).trans ?_
  have l4:(bs ++ W ++ Zb 11 4 ++ Zb 4 5 ++ c.flatMap (fun n => Wl n 12)).length = bs.length + d * c.length + 9 + 12 * c.length:=by rw [Wm,l3,Wz]
  refine (Zg (ZuG k (by omega) e6 (bs ++ W ++ Zb 11 4 ++ Zb 4 5 ++ c.flatMap (fun n => Wl n 12)) (by omega)) _).trans ?_
  show some _ = some _
  simp only [List.append_assoc]
  rfl
theorem ZcG.kind {s:List Int} {d:Nat} {x:W6} (h1:1 ≤ s.length) (h2:s.length ≤ 512) (h:ZcG s d x):∃ n:Nat,x.1 = (n:Int) ∧ n < 2 ^ 7:=by
 rcases h with ⟨rfl,_⟩ | rfl | ⟨o,ho,hos,hx⟩ | ⟨o,ho,hos,hx⟩
 ·exact ⟨0,rfl,by omega⟩
 ·exact ⟨1,rfl,by omega⟩
 ·exact ⟨8 + o,by rw [(Yg h1 h2 hx).1]; omega,by omega⟩
 ·exact ⟨31 + o,by rw [(Yg h1 h2 hx).1]; omega,by omega⟩
theorem ZjM {s:List Int} {d:Nat}:Ze3 s (d:Int) = 0 ↔ (1 ≤ s.length ∧ s.length ≤ 512 ∧ 4 ≤ d ∧ d ≤ 25) ∧ ∀ x ∈ s,W9 x d = true:=by
 unfold Ze3
 rw [WS]
 constructor
 ·intro h
  split at h
  ·split at h
   ·rename_i h1 h2
    exact ⟨by omega,List.all_eq_true.1 h2⟩
   ·omega
  ·omega
 ·rintro ⟨h1,h2⟩
  rw [if_pos (by omega),if_pos (List.all_eq_true.2 h2)]
theorem ZDz (k:Nat) (hk:70000 < k) {s:List Int} {d:Nat} (h:Ze3 s (d:Int) = 0) (bs:List Bool) (hb:bs.length ≤ 900000000) :
  Zph k (wst bs,s,(d:Int),()) = some (0,wst (bs ++ Q3 s d),()):=by
 obtain ⟨⟨h1,h2,h3,h4⟩,hs⟩:=ZjM.1 h
 rw [ZAD,ZD2 k s d (by omega),h]
 simp only [Qq]
 rw [show ((0:Int) != 0) = false from rfl]
 simp only [cond_false]
 rw [ZD6 k (by omega) h1 h2 (by omega) h4 hs]
 obtain ⟨x,hx,hok,hsub,hlen,_⟩:=Zcp s d h1 h2
 rw [hx,hsub]
 have hw:=ZbX (by omega) hs
 have hsg:=Zgb (by omega) hs
 have hsl:=KV s
 generalize ZB s = kk at hw hsg hok ⊢
 generalize QQ s = t at hsg hsl hok ⊢
 generalize hdd:d - kk = dd at hsg hok ⊢
 obtain ⟨kn,hk1,hk2⟩:=hok.kind (by omega) (by omega)
 show (QJ k (wst bs,x.1,7,())).bind _ = _
 unfold XM
 rw [hk1,WS]
 refine (Zg (QL k bs kn 7 (by omega) (by omega) hk2 (by omega)) _).trans ?_
 have l1:(bs ++ Zb kn 7).length = bs.length + 7:=by rw [Wm,Zp]
 show (bif decide ((0:Int) < (kk:Int)) then _ else _) = _
 by_cases h0:0 < kk
 ·rw [Zc (by omega),if_pos h0]
  refine (Zg (QL k (bs ++ Zb kn 7) 1 1 (by omega) (by omega) (by omega) (by omega)) _).trans ?_
  have l2:(bs ++ Zb kn 7 ++ Zb 1 1).length = bs.length + 8:=by rw [Wm,l1,Zp]
  show (ZjA k (wst (bs ++ Zb kn 7 ++ Zb 1 1),IntKind.i64.wrap ((kk:Int) - 1),())).bind _ = _
  have e1:IntKind.i64.wrap ((kk:Int) - 1) = ((kk - 1:Nat):Int):=by rw [Qp (by omega)]; omega
  rw [e1]
  refine (Zg (ZuD k (bs ++ Zb kn 7 ++ Zb 1 1) (kk - 1) (by omega) (by omega) (by omega)) _).trans ?_
  have l3:(bs ++ Zb kn 7 ++ Zb 1 1 ++ (List.replicate (kk - 1) false ++ [true])).length = bs.length + 8 + kk:=by
   rw [Wm,l2]; simp; omega
  have:=Zfd k hk (by omega) (by omega) (d:=dd) (by omega) (by omega) hsg hok (kk:Int) (bs ++ Zb kn 7 ++ Zb 1 1 ++ (List.replicate (kk - 1) false ++ [true])) (by omega)
  refine Eq.trans this ?_
  rw [show Zb 1 1 = [true] from rfl]
  simp only [List.append_assoc]
 ·rw [Zk (by omega),if_neg h0]
  refine (Zg (QL k (bs ++ Zb kn 7) 0 1 (by omega) (by omega) (by omega) (by omega)) _).trans ?_
  have l2:(bs ++ Zb kn 7 ++ Zb 0 1).length = bs.length + 8:=by rw [Wm,l1,Zp]
  have:=Zfd k hk (by omega) (by omega) (d:=dd) (by omega) (by omega) hsg hok (kk:Int) (bs ++ Zb kn 7 ++ Zb 0 1) (by omega)
  refine Eq.trans this ?_
  rw [show Zb 0 1 = [false] from rfl]
  simp only [List.append_assoc]
end Go.Sh
namespace Go.Sh
open Go Go.Proofs
def Qg (n:Nat):Nat:=if 256 < n then 7 else 6
def Z9 (mode num n:Nat):List Bool :=
 Zb 16382 14 ++ (Zb (Qg n) 6 ++ (Zb mode 8 ++ (Zb 0 4 ++ ((Z2 num).flatMap (fun x => Zb x 8) ++ Zb (n - 1) (8 * (Qg n - 5))))))
def Z5 (mode num n:Nat):List Bool:=Z9 mode num n ++ Zb (Zb5 (ZL (Z9 mode num n))) 8
def Z4 (ls:List (List Int)) (ds:List Int):List Bool:=(ls.zip ds).flatMap fun x => Q3 x.1 x.2.toNat
def XD (bs:List Bool):List Bool:=bs ++ List.replicate (Ky bs.length) false
def X0 (bs:List Bool):List Bool:=XD bs ++ Zb (Y4 (ZL (XD bs))) 16
def Qw (c d r n:Int) (ch:List (List Int)):List Int × Int :=
 if Xc c d r n ch = 0 then (ZL (X0 (Z5 (Yr ch).2.toNat n.toNat (ch.headD []).length ++ Z4 (Yr ch).1 (Qd c d (Yr ch).2))),0) else ([],Xc c d r n ch)
theorem YE {c d r n:Int} {ch:List (List Int)} (h:Xc c d r n ch = 0):(1 ≤ c ∧ c ≤ 2 ∧ 4 ≤ d ∧ d ≤ 24 ∧ 1 ≤ r ∧ r ≤ 655350) ∧ (0 ≤ n ∧ n ≤ 2147483647) ∧ (ch.length:Int) = c ∧
  (∀ l ∈ ch,l.length = (ch.headD []).length ∧ 1 ≤ l.length ∧ l.length ≤ 512) ∧ (∀ l ∈ ch,∀ x ∈ l,W9 x d.toNat = true):=by
 unfold Xc at h
 split at h
 ·omega
 ·rename_i h1
  split at h
  ·omega
  ·rename_i h2
   split at h
   ·omega
   ·rename_i h3
    split at h
    ·omega
    ·rename_i h4
     refine ⟨of_decide_eq_true (by simpa [Zcn] using h1),by omega,by omega,?_,?_⟩
     ·intro l hl
      have h3:ch.all (Zi3 (ch.headD []).length) = true:=by simpa using h3
      have:=of_decide_eq_true (List.all_eq_true.1 h3 l hl)
      exact ⟨this.1,by omega,by omega⟩
     ·intro l hl x hx
      have h4:ch.all (fun l => l.all fun x => W9 x d.toNat) = true:=by simpa using h4
      exact List.all_eq_true.1 (List.all_eq_true.1 h4 l hl) x hx
theorem ZaQ {x:Int} {d:Nat} (hd:d ≤ 24) (h:W9 x d = true):Qj x:=by
 unfold W9 at h
 unfold Qj
 split at h
 ·simp only [decide_eq_true_eq] at h; omega
 ·rw [decide_eq_true_eq,Wi] at h
  have:2 ^ (d - 1) ≤ 2 ^ 23:=Nat.pow_le_pow_right (by omega) (by omega)
  generalize 2 ^ (d - 1) = Q at h this
  omega
theorem ZhX {l r:Int} {d:Nat} (h1:1 ≤ d) (hl:W9 l d = true) (hr:W9 r d = true):W9 (l - r) (d + 1) = true ∧ W9 ((l + r) / 2) d = true:=by
 unfold W9 at hl hr ⊢
 rw [if_neg (by omega),decide_eq_true_eq] at hl hr
 rw [if_neg (by omega),decide_eq_true_eq,if_neg (by omega),decide_eq_true_eq]
 have e:(2:Int) ^ (d + 1 - 1) = 2 * 2 ^ (d - 1):=by
  rw [show d + 1 - 1 = (d - 1) + 1 by omega,Int.pow_succ,Int.mul_comm]
 rw [e]
 generalize (2:Int) ^ (d - 1) = Q at hl hr ⊢
 omega
structure LayOk (n d:Nat) (ls:List (List Int)) (ds:List Int):Prop where
 len:ls.length = ds.length
 two:ls.length = 1 ∨ ls.length = 2
 all:∀ (i:Nat) (h1:i < ls.length) (h2:i < ds.length),ls[i].length = n ∧ (ds[i] = (d:Int) ∨ ds[i] = (d:Int) + 1) ∧ ∀ x ∈ ls[i],W9 x ds[i].toNat = true
theorem Zw6 {c d r n:Int} {ch:List (List Int)} (h:Xc c d r n ch = 0):LayOk (ch.headD []).length d.toNat (Yr ch).1 (Qd c d (Yr ch).2) ∧ (∃ m:Nat,(Yr ch).2 = (m:Int) ∧ (m = 0 ∧ c = 1 ∨ c = 2 ∧ (m = 1 ∨ m = 8 ∨ m = 9 ∨ m = 10))) ∧ ((Yr ch).1.headD []).length = (ch.headD []).length:=by
 obtain ⟨hs,hn,hc,hlen,hsg⟩:=YE h
 obtain ⟨dn,rfl⟩:=Int.eq_ofNat_of_zero_le (show 0 ≤ d by omega)
 simp only [WS] at hsg ⊢
 match ch,hc,hlen,hsg with
 | [],hc,_,_ => simp at hc; omega
 | [l],hc,hlen,hsg =>
  have hc:c = 1:=by simp at hc; omega
  subst hc
  refine ⟨⟨rfl,.inl rfl,?_⟩,⟨0,rfl,.inl ⟨rfl,rfl⟩⟩,rfl⟩
  intro i h1 h2
  obtain rfl:i = 0:=by simp [Yr] at h1; omega
  exact ⟨rfl,.inl rfl,hsg l (by simp)⟩
 | [l,r'],hc,hlen,hsg =>
  have hc:c = 2:=by simp at hc; omega
  subst hc
  have hr:=(hlen r' (by simp)).1
  simp only [List.headD_cons] at hr
  have hsl:=hsg l (by simp)
  have hsr:=hsg r' (by simp)
  have hmd:=ZfA l r'
  show LayOk _ _ [Ww (Z8 l r') l r',Wx (Z8 l r') l r'] (Qd 2 dn (if Z8 l r' = 0 then 1 else Z8 l r')) ∧ _ ∧ _
  refine ⟨?_,?_,(ZdU hr.symm).1⟩
  ·have e:Qd 2 (dn:Int) (if Z8 l r' = 0 then 1 else Z8 l r') = Qd 2 dn (Z8 l r'):=by
    rcases hmd with h | h | h | h <;> rw [h] <;> rfl
   rw [e]
   obtain ⟨la,lb⟩:=ZdU (m:=Z8 l r') hr.symm
   have hz:∀ x ∈ l.zip r',W9 x.1 dn = true ∧ W9 x.2 dn = true:=fun x hx => ⟨hsl _ (List.of_mem_zip hx).1,hsr _ (List.of_mem_zip hx).2⟩
   generalize Z8 l r' = m at hmd la lb ⊢
   have hA:∀ y ∈ Ww m l r',∃ a b,y = apA m a b ∧ W9 a dn = true ∧ W9 b dn = true:=by
    intro y hy
    obtain ⟨x,hx,rfl⟩:=List.mem_map.1 hy
    exact ⟨_,_,rfl,(hz x hx).1,(hz x hx).2⟩
   have hB:∀ y ∈ Wx m l r',∃ a b,y = apB m a b ∧ W9 a dn = true ∧ W9 b dn = true:=by
    intro y hy
    obtain ⟨x,hx,rfl⟩:=List.mem_map.1 hy
    exact ⟨_,_,rfl,(hz x hx).1,(hz x hx).2⟩
   have hdn:1 ≤ dn:=by omega
   have eN:((dn:Int) + 1).toNat = dn + 1:=by omega
   rcases hmd with rfl | rfl | rfl | rfl
   ·refine ⟨rfl,.inr rfl,fun i h1 h2 => ?_⟩
    obtain rfl | rfl:i = 0 ∨ i = 1:=by simp at h1; omega
    ·exact ⟨la,.inl rfl,fun y hy => by obtain ⟨a,b,rfl,ha,hb⟩:=hA y hy; simpa [apA,Qd] using ha⟩
    ·exact ⟨by simpa [hr] using lb,.inl rfl,fun y hy => by obtain ⟨a,b,rfl,ha,hb⟩:=hB y hy; simpa [apB,Qd] using hb⟩
   ·refine ⟨rfl,.inr rfl,fun i h1 h2 => ?_⟩
    obtain rfl | rfl:i = 0 ∨ i = 1:=by simp at h1; omega
    ·exact ⟨la,.inl rfl,fun y hy => by obtain ⟨a,b,rfl,ha,hb⟩:=hA y hy; simpa [apA,Qd] using ha⟩
    ·exact ⟨by simpa [hr] using lb,.inr rfl,fun y hy => by obtain ⟨a,b,rfl,ha,hb⟩:=hB y hy; simpa [apB,Qd,eN] using (ZhX hdn ha hb).1⟩
   ·refine ⟨rfl,.inr rfl,fun i h1 h2 => ?_⟩
    obtain rfl | rfl:i = 0 ∨ i = 1:=by simp at h1; omega
    ·exact ⟨la,.inr rfl,fun y hy => by obtain ⟨a,b,rfl,ha,hb⟩:=hA y hy; simpa [apA,Qd,eN] using (ZhX hdn ha hb).1⟩
    ·exact ⟨by simpa [hr] using lb,.inl rfl,fun y hy => by obtain ⟨a,b,rfl,ha,hb⟩:=hB y hy; simpa [apB,Qd] using hb⟩
   ·refine ⟨rfl,.inr rfl,fun i h1 h2 => ?_⟩
    obtain rfl | rfl:i = 0 ∨ i = 1:=by simp at h1; omega
    ·exact ⟨la,.inl rfl,fun y hy => by obtain ⟨a,b,rfl,ha,hb⟩:=hA y hy; simpa [apA,Qd] using (ZhX hdn ha hb).2⟩
    ·exact ⟨by simpa [hr] using lb,.inr rfl,fun y hy => by obtain ⟨a,b,rfl,ha,hb⟩:=hB y hy; simpa [apB,Qd,eN] using (ZhX hdn ha hb).1⟩
  ·rcases hmd with h | h | h | h
   ·exact ⟨1,by simp [Yr,h],.inr ⟨rfl,by omega⟩⟩
   ·exact ⟨8,by simp [Yr,h],.inr ⟨rfl,by omega⟩⟩
   ·exact ⟨9,by simp [Yr,h],.inr ⟨rfl,by omega⟩⟩
   ·exact ⟨10,by simp [Yr,h],.inr ⟨rfl,by omega⟩⟩
 | _ :: _ :: _ :: _,hc,_,_ => simp at hc; omega
theorem KO:∀ (i n:Nat),(WF n i).length = i
 | 0,_ => rfl
 | i + 1,n => by simp [WF,KO i]
theorem Zta:∀ (i n:Nat),∀ x ∈ WF n i,x < 256
 | 0,_,x,h => by simp [WF] at h
 | i + 1,n,x,h => by
  rcases List.mem_append.1 h with h | h
  ·exact Zta i _ x h
  ·simp at h; omega
theorem Zk2 (n:Nat):1 ≤ K8 n ∧ K8 n ≤ 7:=by
 unfold K8
 repeat' split
 all_goals omega
theorem ZAG {k m:Nat} (hm:m < 64):Za0 k m < 256:=by
 unfold Za0
 exact Nat.or_lt_two_pow (n:=8) (Nat.mod_lt _ (by omega)) (by omega)
theorem Zow (n:Nat):1 ≤ (Z2 n).length ∧ (Z2 n).length ≤ 7:=by
 unfold Z2
 have:=Zk2 n
 split
 ·simp
 ·simp only [List.length_cons,KO]; omega
theorem Zi2 {n:Nat} (h:n < 2 ^ 36) (h2:128 ≤ n):2 ≤ K8 n ∧ n < 2 ^ XV (K8 n):=by
 obtain ⟨r2,r3,r4,r5,r6,r7⟩:=ZnK
 unfold K8
 rw [if_neg (by omega)]
 repeat' split
 all_goals simp only [r2,r3,r4,r5,r6,r7]
 all_goals omega
theorem Zgr {n:Nat} (h:n < 2 ^ 36):∀ x ∈ Z2 n,x < 256:=by
 intro x hx
 unfold Z2 at hx
 split at hx
 ·simp at hx; omega
 ·rcases List.mem_cons.1 hx with rfl | hx
  ·obtain ⟨h1,h2⟩:=Zi2 h (by omega)
   exact ZAG (Zce h1 (Zk2 n).2 h2)
  ·exact Zta _ _ x hx
theorem YL:∀ l:List Nat,(l.flatMap fun x => Zb x 8).length = 8 * l.length
 | [] => rfl
 | a :: l => by rw [List.flatMap_cons,Wm,Zp,YL l,List.length_cons]; omega
theorem ZaL (mode num n:Nat):(Z9 mode num n).length = 32 + 8 * (Z2 num).length + 8 * (Qg n - 5):=by
 unfold Z9
 simp only [Wm,Zp,YL]
 omega
theorem ZbE (n:Nat):Qg n = 6 ∨ Qg n = 7:=by unfold Qg; split <;> omega
theorem ZAT {l:List Nat} {i:Nat} (h:i < (Qr l).length):(Qr l)[i] = ((l[i]'(by simpa [Qr] using h):Nat):Int):=by simp [Qr]
theorem ZbC (l:List Nat):(Qr l).length = l.length:=by simp [Qr]
end Go.Sh
namespace Go.Sh
open Go Go.Proofs
theorem Zlt {n d:Nat} {ls:List (List Int)} {ds:List Int} (h:LayOk n d ls ds) (hn:1 ≤ n) (hn2:n ≤ 512) (hd1:4 ≤ d) (hd2:d ≤ 24):(Z4 ls ds).length ≤ 30000:=by
 have one:∀ (i:Nat) (h1:i < ls.length) (h2:i < ds.length),(Q3 ls[i] ds[i].toNat).length ≤ 13000:=by
  intro i h1 h2
  obtain ⟨a,b,c⟩:=h.all i h1 h2
  have hw:=ZbX (d:=ds[i].toNat) (by omega) c
  have:=Zvp (s:=ls[i]) (by omega) (by omega) hw
  have hm:ls[i].length * ds[i].toNat ≤ 512 * 25:=Nat.mul_le_mul (by omega) (by omega)
  omega
 unfold Z4
 have hl:=h.len
 rcases h.two with h2 | h2
 ·match ls,ds,h2,hl,one with
  | [a],[x],_,_,one =>
   have:=one 0 (by simp) (by simp)
   simp at this ⊢
   omega
 ·match ls,ds,h2,hl,one with
  | [a,b],[x,y],_,_,one =>
   have h1:=one 0 (by simp) (by simp)
   have h2:=one 1 (by simp) (by simp)
   simp at h1 h2 ⊢
   omega
theorem ZtU (k:Nat) (hk:100000 < k) {n d:Nat} {ls:List (List Int)} {ds:List Int} (h:LayOk n d ls ds) (hn:1 ≤ n) (hn2:n ≤ 512) (hd1:4 ≤ d) (hd2:d ≤ 24) (bs:List Bool) (hb:bs.length ≤ 200) :
  ZfN k (Int.ofNat ds.length,(0:Int),ds,ls,(bs.length:Int),ZL bs) = some ((ZL (X0 (bs ++ Z4 ls ds)),0,()),()):=by
 have hdl:ds.length ≤ 2:=by have:=h.len; have:=h.two; omega
 have hall:(bs ++ Z4 ls ds).length ≤ 30200:=by have:=Zlt h hn hn2 hd1 hd2; rw [Wm]; omega
 have hpart:∀ i,(bs ++ ((ls.zip ds).take i).flatMap (fun x => Q3 x.1 x.2.toNat)).length ≤ 30200:=by
  intro i
  refine Nat.le_trans ?_ hall
  unfold Z4
  conv => rhs; rw [← List.take_append_drop i (ls.zip ds),List.flatMap_append]
  simp only [Wm]
  omega
 have hzl:(ls.zip ds).length = ds.length:=by rw [List.length_zip]; have:=h.len; omega
 have hend:∀ L,Zbm k L (Int.ofNat ds.length,Int.ofNat ds.length,ds,ls,(((bs ++ Z4 ls ds).length:Nat):Int),ZL (bs ++ Z4 ls ds)) = some ((ZL (X0 (bs ++ Z4 ls ds)),0,()),()):=by
  intro L
  generalize bs ++ Z4 ls ds = B at hall
  simp only [Zbm]
  rw [Zk (W2 _)]
  have hp:Ky B.length < 8:=by unfold Ky; omega
  have hpl:(XD B).length ≤ 30210:=by unfold XD; rw [Wm,List.length_replicate]; omega
  refine (Zg (ZDA k B (by omega)) _).trans ?_
  refine (Zg (ZmD k (XD B) (by omega)) _).trans ?_
  have hb16:=Xk (XD B)
  have hpk:(ZL (XD B)).length ≤ 4000:=by rw [Qc]; omega
  refine (Zg (Zun k (ZL (XD B)) hb16 (by omega) (by omega)) _).trans ?_
  refine (Zg (QL k (XD B) (Y4 (ZL (XD B))) 16 (by omega) (by omega) (Ztc hb16) (by omega)) _).trans ?_
  have hcl:(X0 B).length ≤ 30300:=by unfold X0; rw [Wm,Zp]; omega
  refine (Zg (ZmD k (X0 B) (by omega)) _).trans ?_
  rfl
 have:=ZF (A:=List Bool) (R:=(List Int × Int × Unit) × Unit) (step:=fun L2 => Zbm k L2)
  (fun i a => (Int.ofNat ds.length,Int.ofNat i,ds,ls,(a.length:Int),ZL a)) (ls.zip ds)
  (fun l' a => some ((ZL (X0 (a ++ l'.flatMap fun x => Q3 x.1 x.2.toNat)),0,()),()))
  (fun i a => a = bs ++ ((ls.zip ds).take i).flatMap (fun x => Q3 x.1 x.2.toNat))
  (fun L a ha => by
   rw [List.take_length] at ha
   have:=hend L
   unfold Z4 at this
   rw [← ha] at this
   rw [hzl,List.flatMap_nil,List.append_nil]
   exact this)
  (fun L i hi a ha hL => by
   have h1:i < ls.length:=by have:=h.len; omega
   have h2:i < ds.length:=by omega
   obtain ⟨o1,o2,o3⟩:=h.all i h1 h2
   have hal:a.length ≤ 30200:=by rw [ha]; exact hpart i
   simp only [Zbm]
   rw [Zc (ltR h2),Zc (inR h2),Zc (inR h1),ZW h1,ZW h2]
   have hds:ds[i] = ((ds[i].toNat:Nat):Int):=by omega
   have hsc:Ze3 ls[i] ((ds[i].toNat:Nat):Int) = 0:=ZjM.2 ⟨by omega,o3⟩
   have e:=ZDz k (by omega) hsc a (by omega)
   rw [← hds] at e
   refine (Zg e _).trans ?_
   have hzi:(ls.zip ds)[i] = (ls[i],ds[i]):=by rw [List.getElem_zip]
   have hnext:a ++ Q3 ls[i] ds[i].toNat = bs ++ ((ls.zip ds).take (i + 1)).flatMap (fun x => Q3 x.1 x.2.toNat):=by
    rw [ha,List.take_add_one,List.getElem?_eq_getElem hi,hzi,List.flatMap_append]
    simp
   have:=hL (a ++ Q3 ls[i] ds[i].toNat) hnext
   show L (Int.ofNat ds.length,IntKind.i64.wrap (Int.ofNat i + 1),ds,ls,(((a ++ Q3 ls[i] ds[i].toNat).length:Nat):Int),ZL (a ++ Q3 ls[i] ds[i].toNat)) = _
   rw [QZ h2 (by omega),this,hzi,List.flatMap_cons,List.append_assoc])
  k 0 bs (by simp) (by omega) (Nat.zero_le _)
 rw [List.drop_zero] at this
 exact this
theorem ZtT (k:Nat) (hk:100000 < k) {c d r:Int} {mode num n dn:Nat} (hnum:num < 2 ^ 31) (hd:d = (dn:Int)) {ls:List (List Int)} (hc:c = 1 ∧ mode = 0 ∨ c = 2) (hn:1 ≤ n) (hn2:n ≤ 512) (hd1:4 ≤ dn) (hd2:dn ≤ 24)
  (h:LayOk n dn ls (Qd c d (mode:Int))) (bs:List Bool) (hb:bs = Zb 16382 14 ++ (Zb (Qg n) 6 ++ (Zb mode 8 ++ Zb 0 4))) :
  ZiG k (Int.ofNat (Qr (Z2 num)).length,(0:Int),Qr (Z2 num),(n:Int),((Qg n:Nat):Int),(mode:Int),ls,(bs.length:Int),ZL bs,c,d,r) =
   some ((ZL (X0 (Z5 mode num n ++ Z4 ls (Qd c d (mode:Int)))),0,()),()):=by
 have hbl:bs.length = 32:=by rw [hb]; simp only [Wm,Zp]
 have hcl:=Zow num
 have hlt:=Zgr (n:=num) (by omega)
 have hkn:=ZbE n
 have:=ZF (A:=List Bool) (R:=(List Int × Int × Unit) × Unit) (step:=fun L1 => Ke k (ZfN k) L1)
  (fun i a => (Int.ofNat (Qr (Z2 num)).length,Int.ofNat i,Qr (Z2 num),(n:Int),((Qg n:Nat):Int),(mode:Int),ls,(a.length:Int),ZL a,c,d,r)) (Z2 num)
  (fun l' a => Ke k (ZfN k) (fun _ => none) (Int.ofNat (Z2 num).length,Int.ofNat (Z2 num).length,Qr (Z2 num),(n:Int),((Qg n:Nat):Int),(mode:Int),ls,(((a ++ l'.flatMap fun x => Zb x 8).length:Nat):Int),ZL (a ++ l'.flatMap fun x => Zb x 8),c,d,r))
  (fun i a => a.length ≤ 32 + 8 * i)
  (fun L a ha => by
   rw [ZbC]
   simp only [Ke]
   rw [Zk (W2 _),Zk (W2 _)]
   simp)
  (fun L i hi a ha hL => by
   have hi2:i < (Qr (Z2 num)).length:=by rw [ZbC]; exact hi
   have key:Ke k (ZfN k) L (Int.ofNat (Qr (Z2 num)).length,Int.ofNat i,Qr (Z2 num),(n:Int),((Qg n:Nat):Int),(mode:Int),ls,(a.length:Int),ZL a,c,d,r) =
     L (Int.ofNat (Qr (Z2 num)).length,Int.ofNat (i + 1),Qr (Z2 num),(n:Int),((Qg n:Nat):Int),(mode:Int),ls,(((a ++ Zb (Z2 num)[i] 8).length:Nat):Int),ZL (a ++ Zb (Z2 num)[i] 8),c,d,r):=by
    simp only [Ke]
    rw [Zc (ltR hi2),Zc (inR hi2),ZW hi2,ZAT hi2]
    have hx:=hlt _ (List.getElem_mem hi)
    have hil:=ZbC (Z2 num)
    rw [Qp (by omega)]
    refine (Zg (QL k a (Z2 num)[i] 8 (by omega) (by omega) (by omega) (by omega)) _).trans ?_
    rw [QZ hi2 (by omega)]
   rw [key,hL _ (by rw [Wm,Zp]; omega),List.flatMap_cons,List.append_assoc])
  k 0 bs (by omega) (by omega) (Nat.zero_le _)
 rw [List.drop_zero] at this
 refine Eq.trans this ?_
 have hpre:bs ++ (Z2 num).flatMap (fun x => Zb x 8) ++ Zb (n - 1) (8 * (Qg n - 5)) = Z9 mode num n:=by
  rw [hb]
  unfold Z9
  simp only [List.append_assoc]
 have hprel:=ZaL mode num n
 have hB:(bs ++ (Z2 num).flatMap (fun x => Zb x 8)).length ≤ 100:=by rw [Wm,YL]; omega
 generalize bs ++ (Z2 num).flatMap (fun x => Zb x 8) = B at hpre hB
 simp only [Ke]
 rw [Zk (W2 _)]
 have e1:IntKind.i64.wrap ((n:Int) - 1) = ((n - 1:Nat):Int):=by rw [Qp (by omega)]; omega
 have e2:IntKind.i64.wrap ((8:Int) * IntKind.i64.wrap (IntKind.i64.wrap (((Qg n:Nat):Int) - (6:Int)) + (1:Int))) = ((8 * (Qg n - 5):Nat):Int):=by
  rcases hkn with h | h <;> rw [h] <;> rfl
 have hw:n - 1 < 2 ^ (8 * (Qg n - 5)):=by
  unfold Qg
  split
  ·show n - 1 < 2 ^ 16; omega
  ·show n - 1 < 2 ^ 8; omega
 rw [e1,e2]
 refine (Zg (QL k B (n - 1) (8 * (Qg n - 5)) (by omega) (by omega) hw (by omega)) _).trans ?_
 rw [hpre]
 refine (Zg (ZmD k (Z9 mode num n) (by omega)) _).trans ?_
 have hb8:=Xk (Z9 mode num n)
 refine (Zg (Zuj k (ZL (Z9 mode num n)) hb8 (by rw [Qc]; omega) (by rw [Qc]; omega)) _).trans ?_
 refine (Zg (QL k (Z9 mode num n) (Zb5 (ZL (Z9 mode num n))) 8 (by omega) (by omega) (Zqx hb8) (by omega)) _).trans ?_
 refine (Zg (Zuk k (c:=c) (d:=d) (r:=r) (m:=(mode:Int)) (by omega) (by omega)) _).trans ?_
 exact ZtU k hk h hn hn2 hd1 hd2 (Z5 mode num n) (by unfold Z5; rw [Wm,Zp]; omega)
theorem ZtV (k:Nat) (hk:100000 < k) (c d r n:Int) (ch:List (List Int)):ZoX k ((c,d,r,()),(n,ch,()),()) = some (((Qw c d r n ch).1,(Qw c d r n ch).2,()),()):=by
 show ZgP k (ZiG k) _ = _
 simp only [ZgP]
 rw [Zue k c d r n ch (by omega)]
 simp only [Qq]
 unfold Qw
 rw [ZY]
 by_cases h:Xc c d r n ch = 0
 ·rw [Zk (by simpa using h),if_pos h]
  obtain ⟨hs,hn,hc,hlen,hsg⟩:=YE h
  obtain ⟨hlay,⟨mode,hm,hmc⟩,hn0⟩:=Zw6 h
  have hch:ch.length = 1 ∨ (∃ L R,ch = [L,R] ∧ L.length = R.length ∧ L.length ≤ 8192 ∧ (∀ x ∈ L,Qj x) ∧ ∀ x ∈ R,Qj x):=by
   match ch,hc,hlen,hsg with
   | [],hc,_,_ => simp at hc; omega
   | [_],_,_,_ => exact .inl rfl
   | [l,r'],_,hlen,hsg =>
    refine .inr ⟨l,r',rfl,?_,?_,?_,?_⟩
    ·have:=(hlen r' (by simp)).1; simpa using this.symm
    ·have:=(hlen l (by simp)).2.2; omega
    ·exact fun x hx => ZaQ (by omega) (hsg l (by simp) x hx)
    ·exact fun x hx => ZaQ (by omega) (hsg r' (by simp) x hx)
   | _ :: _ :: _ :: _,hc,_,_ => simp at hc; omega
  refine (Zg (ZDs k n ch (by omega) hch) _).trans ?_
  rw [show ((0:Int) != 0) = false from rfl]
  simp only [cond_false]
  have hbig:∃ l0,(Yr ch).1.getD 0 [] = l0 ∧ l0.length = (ch.headD []).length ∧ 0 < (Yr ch).1.length:=by
   have:=hlay.two
   match hh:(Yr ch).1,this with
   | [],h => simp at h
   | l :: ls,_ => rw [hh] at hn0; exact ⟨l,rfl,hn0,by simp⟩
  obtain ⟨l0,hl0,hl0n,hpos⟩:=hbig
  rw [Zc (by simp only [QW]; omega),hl0,hl0n]
  have hn1:1 ≤ (ch.headD []).length ∧ (ch.headD []).length ≤ 512:=by
   obtain ⟨a,b,c⟩:=hlay.all 0 hpos (by rw [← hlay.len]; exact hpos)
   have:0 < ch.length:=by omega
   match ch,this with
   | l :: _,_ => exact (hlen l (by simp)).2
  rw [hm] at hlay ⊢
  obtain ⟨num,hnum⟩:=Int.eq_ofNat_of_zero_le hn.1
  obtain ⟨dn,hdn⟩:=Int.eq_ofNat_of_zero_le (show 0 ≤ d by omega)
  subst hnum
  rw [WS,WS]
  have hdt:d.toNat = dn:=by omega
  rw [hdt] at hlay
  have hmode:mode < 2 ^ 8:=by omega
  have e14:(16382:Int) = ((16382:Nat):Int):=rfl
  generalize hN:(ch.headD []).length = N at hn1 hlay
  have l1:(([]:List Bool) ++ Zb 16382 14).length = 14:=by rw [Wm,Zp]; rfl
  have fin:∀ kd:Nat,kd = Qg N → ((Zmy k ()).bind fun y_1 => (QJ k ((y_1.1.1,y_1.1.2.1,()),16382,14,())).bind fun y_2 => (QJ k ((y_2.2.1.1,y_2.2.1.2.1,()),(kd:Int),6,())).bind fun y_3 => (QJ k ((y_3.2.1.1,y_3.2.1.2.1,()),(mode:Int),8,())).bind fun y_4 => (QJ k ((y_4.2.1.1,y_4.2.1.2.1,()),0,4,())).bind fun y_5 => (Zmz k ((num:Int),())).bind fun y_6 => bif y_6.1.2.1 != (0:Int) then some (([],y_6.1.2.1,()),()) else ZiG k (Int.ofNat (List.length y_6.1.1),(0:Int),y_6.1.1,(N:Int),(kd:Int),(mode:Int),(Yr ch).1,y_5.2.1.2.1,y_5.2.1.1,c,d,r)) =
    some ((ZL (X0 (Z5 mode num N ++ Z4 (Yr ch).1 (Qd c d (mode:Int)))),0,()),()):=by
   rintro kd rfl
   have hkn:=ZbE N
   refine (Zg (ZDt k) _).trans ?_
   refine (Zg (QL k [] 16382 14 (by omega) (by omega) (by omega) (by simp)) _).trans ?_
   refine (Zg (QL k ([] ++ Zb 16382 14) (Qg N) 6 (by omega) (by omega) (by omega) (by omega)) _).trans ?_
   have l2:([] ++ Zb 16382 14 ++ Zb (Qg N) 6).length = 20:=by rw [Wm,l1,Zp]
   refine (Zg (QL k ([] ++ Zb 16382 14 ++ Zb (Qg N) 6) mode 8 (by omega) (by omega) hmode (by omega)) _).trans ?_
   have l3:([] ++ Zb 16382 14 ++ Zb (Qg N) 6 ++ Zb mode 8).length = 28:=by rw [Wm,l2,Zp]
   refine (Zg (QL k ([] ++ Zb 16382 14 ++ Zb (Qg N) 6 ++ Zb mode 8) 0 4 (by omega) (by omega) (by omega) (by omega)) _).trans ?_
   refine (Zg (ZDy k (by omega) (n:=num) (by omega)) _).trans ?_
   exact ZtT k hk (by omega) hdn (hmc.elim (fun h => .inl ⟨h.2,h.1⟩) (fun h => .inr h.1)) hn1.1 hn1.2 (by omega) (by omega) hlay _ (by simp only [List.nil_append,List.append_assoc])
  by_cases h256:256 < N
  ·rw [Zc (by simp only [QW]; omega)]
   exact fin 7 (by unfold Qg; rw [if_pos h256])
  ·rw [Zk (by simp only [QW]; omega)]
   exact fin 6 (by unfold Qg; rw [if_neg h256])
 ·rw [Zc h,if_neg h]
end Go.Sh
namespace Go.Sh
open Go Go.Proofs
def ZT (b:List Int):List Bool:=b.flatMap fun x => Zb x.toNat 8
theorem Z3:∀ b:List Int,(ZT b).length = 8 * b.length
 | [] => rfl
 | a :: b => by
  have:=Z3 b
  unfold ZT at this ⊢
  rw [List.flatMap_cons,Wm,Zp,this,List.length_cons]; omega
theorem Zlh (a:Int) (b:List Int):ZT (a :: b) = Zb a.toNat 8 ++ ZT b:=by unfold ZT; rw [List.flatMap_cons]
theorem Zgk (a b:List Int):ZT (a ++ b) = ZT a ++ ZT b:=by unfold ZT; rw [List.flatMap_append]
theorem Zfw:∀ (b:List Int) (i:Nat),(ZT b).drop (8 * i) = ZT (b.drop i)
 | b,0 => rfl
 | [],i + 1 => by simp [ZT]
 | a :: b,i + 1 => by
  rw [List.drop_succ_cons,Zlh,List.drop_append,Zp,List.drop_eq_nil_of_le (by rw [Zp]; omega),List.nil_append,show 8 * (i + 1) - 8 = 8 * i by omega]
  exact Zfw b i
theorem Zll (n:Nat):∀ (w i:Nat) (h:i < (Zb n w).length),(Zb n w)[i] = n.testBit (w - 1 - i)
 | w + 1,0,_ => by simp [Zb]
 | w + 1,i + 1,h => by
  simp only [Zb,List.getElem_cons_succ]
  rw [Zll n w i (by simpa [Zb] using h)]
  congr 1
  omega
theorem Zie {b:List Int} {i:Nat} (h:i < 8 * b.length):(ZT b)[i]'(by rw [Z3]; exact h) = (b[i / 8]'(by omega)).toNat.testBit (7 - i % 8):=by
 have h1:i / 8 < b.length:=by omega
 have h2:(ZT b)[i]'(by rw [Z3]; exact h) = (ZT (b.drop (i / 8)))[i % 8]'(by rw [Z3,List.length_drop]; omega):=by
  simp only [← Zfw,List.getElem_drop]
  congr 1
  omega
 rw [h2]
 have h3:b.drop (i / 8) = b[i / 8] :: b.drop (i / 8 + 1):=List.drop_eq_getElem_cons h1
 simp only [h3,Zlh]
 rw [List.getElem_append_left (by rw [Zp]; omega),Zll]
def ZR (b:List Int) (r:List Bool):Nat:=8 * b.length - r.length
abbrev Y2 (b:List Int) (r:List Bool):List Int × Int × Unit:=(b,((ZR b r:Nat):Int),())
def Zl (b:List Int) (r:List Bool):Prop:=r <:+ ZT b
theorem Zl.len {b:List Int} {r:List Bool} (h:Zl b r):r.length ≤ 8 * b.length:=by
 have:=h.length_le
 rwa [Z3] at this
theorem Zl.eq {b:List Int} {r:List Bool} (h:Zl b r):r = (ZT b).drop (ZR b r):=by
 have:=List.suffix_iff_eq_drop.1 h
 unfold ZR
 rwa [Z3] at this
theorem Zl.drop {b:List Int} {r:List Bool} (h:Zl b r) (i:Nat):Zl b (r.drop i):=(List.drop_suffix i r).trans h
theorem Zl.get {b:List Int} {r:List Bool} (h:Zl b r) {i:Nat} (hi:i < r.length):(ZT b)[ZR b r + i]'(by have:=h.len; rw [Z3]; unfold ZR; omega) = r[i]:=by
 have:=h.eq
 have h2:r[i] = ((ZT b).drop (ZR b r))[i]'(by rw [← this]; exact hi):=by congr 1
 rw [h2,List.getElem_drop]
theorem Ze0 {b:List Int} {r:List Bool} (h:Zl b r) {i:Nat} (hi:i ≤ r.length):ZR b (r.drop i) = ZR b r + i:=by
 have:=h.len
 unfold ZR
 rw [List.length_drop]
 omega
theorem Zvg (b:List Int):Zl b (ZT b):=List.suffix_refl _
theorem ZLt (v:Fin 256) (r:Fin 8):IntKind.i64.wrap (Int.ofNat (BitVec.ofInt 64 (IntKind.i64.wrap (Int.fdiv (v.val:Int) ((2:Int) ^ min (7 - r.val) 8))) &&& BitVec.ofInt 64 1).toNat) = if v.val.testBit (7 - r.val) then 1 else 0:=by
 revert v r
 decide +kernel
theorem ZmV (k:Nat) {b:List Int} (hb:ZM b = true) (hn:b.length < 536870912) (at_:Int) {i:Nat} (hi:i < 8 * b.length) :
  ZmU k ((b,at_,()),(i:Int),()) = some (if (ZT b)[i]'(by rw [Z3]; exact hi) then 1 else 0,(b,at_,()),()):=by
 show ZhB k _ = _
 simp only [ZhB]
 rw [Zp7,ZII,Qp (n:=((i / 8:Nat):Int)) (by omega)]
 have h1:i / 8 < b.length:=by omega
 rw [Zc (by simp only [QW]; omega)]
 have e1:IntKind.i64.wrap ((7:Int) - ((i % 8:Nat):Int)) = ((7 - i % 8:Nat):Int):=by rw [Qp (by omega)]; omega
 rw [e1,Zc (by omega),Zie hi]
 obtain ⟨x,hx,hxe⟩:=KY hb h1
 have hg:b.getD (((i / 8:Nat):Int)).toNat 0 = (x:Int):=by rw [WS,YZ h1,hxe]
 rw [hg,hxe,WS,WS]
 have:=ZLt ⟨x,hx⟩ ⟨i % 8,Nat.mod_lt _ (by omega)⟩
 simp only at this
 rw [this]
def Xb (l:List Bool):Nat:=l.foldl (fun a b => 2 * a + b.toNat) 0
theorem Zam:∀ (l:List Bool) (a:Nat),l.foldl (fun a b => 2 * a + b.toNat) a = a * 2 ^ l.length + Xb l
 | [],a => by simp [Xb]
 | x :: l,a => by
  unfold Xb
  rw [List.foldl_cons,List.foldl_cons,Zam l (2 * a + x.toNat),Zam l (2 * 0 + x.toNat),List.length_cons,Nat.pow_succ]
  rw [Nat.add_mul,Nat.mul_zero,Nat.zero_add,Nat.mul_comm 2 a,Nat.mul_assoc a 2,Nat.mul_comm 2 (2 ^ _)]
  omega
theorem Zid:∀ (l:List Bool),Xb l < 2 ^ l.length
 | [] => by simp [Xb]
 | x :: l => by
  have:=Zid l
  unfold Xb
  rw [List.foldl_cons,Zam,List.length_cons,Nat.pow_succ]
  cases x <;> simp <;> omega
theorem Zn6 (l m:List Bool):Xb (l ++ m) = Xb l * 2 ^ m.length + Xb m:=by
 unfold Xb
 rw [List.foldl_append,Zam]
 rfl
theorem ZaS (n:Nat):∀ w,Xb (Zb n w) = n % 2 ^ w
 | 0 => by simp [Zb,Xb,Nat.mod_one]
 | w + 1 => by
  have:=ZaS n w
  rw [show Zb n (w + 1) = [n.testBit w] ++ Zb n w from rfl,Zn6,Zp,this,Nat.mod_pow_succ,Nat.testBit_eq_decide_div_mod_eq]
  have h2:n / 2 ^ w % 2 < 2:=Nat.mod_lt _ (by omega)
  generalize n / 2 ^ w % 2 = m at h2
  match m,h2 with
  | 0,_ => simp [Xb]
  | 1,_ => simp [Xb]; omega
def ZO (w:Nat) (r:List Bool):Nat × Int × List Bool:=if w ≤ r.length then (Xb (r.take w),0,r.drop w) else (0,10,r)
theorem Qf {b:List Int} {r:List Bool} (h:Zl b r) (w:Nat):Zl b (ZO w r).2.2:=by
 unfold ZO
 split
 ·exact h.drop w
 ·exact h
theorem ZeY (w:Nat) (r:List Bool):(ZO w r).1 < 2 ^ w:=by
 unfold ZO
 split
 ·rename_i h
  have:=Zid (r.take w)
  rwa [List.length_take,Nat.min_eq_left h] at this
 ·exact Nat.pow_pos (by omega)
theorem ZzR (k:Nat) {b:List Int} (hb:ZM b = true) (hn:b.length < 536870912):∀ (w m i v:Nat) (r:List Bool),Zl b r → w ≤ r.length → w < m → i + w ≤ 32 → v < 2 ^ i →
  Zs (fun L1 => Zbe k L1) m (((i + w:Nat):Int),(i:Int),(v:Int),b,((ZR b r:Nat):Int)) = some (((((r.take w).foldl (fun a b => 2 * a + b.toNat) v:Nat):Int),0,()),Y2 b (r.drop w),()):=by
 intro w
 induction w with
 | zero =>
  intro m i v r hr hw hm hi hv
  obtain ⟨m,rfl⟩:=Zv hm
  rw [Zj]
  simp only [Zbe]
  rw [Zk (by omega)]
  simp
 | succ w ih =>
  intro m i v r hr hw hm hi hv
  obtain ⟨m,rfl⟩:=Zv (show 0 < m by omega)
  rw [Zj]
  simp only [Zbe]
  have hl:=hr.len
  have hp:ZR b r < 8 * b.length:=by unfold ZR; omega
  rw [Zc (by omega),ZmV k hb hn _ hp]
  simp only [Qq]
  have hg:=hr.get (i:=0) (by omega)
  simp only [Nat.add_zero] at hg
  rw [hg]
  have hv2:v < 2 ^ 32:=Nat.lt_of_lt_of_le hv (Nat.pow_le_pow_right (by omega) (by omega))
  have hcons:r = r[0] :: r.drop 1:=by
   have:=List.drop_eq_getElem_cons (l:=r) (i:=0) (by omega)
   rwa [List.drop_zero] at this
  have e1:IntKind.i64.wrap (Int.ofNat (BitVec.ofInt 64 (IntKind.i64.wrap ((v:Int) * 2)) ||| BitVec.ofInt 64 (if r[0] = true then 1 else 0)).toNat) = ((2 * v + r[0].toNat:Nat):Int):=by
   have h1:IntKind.i64.wrap ((v:Int) * 2) = ((v * 2:Nat):Int):=by rw [Qp (by omega)]; omega
   have h2:(if r[0] = true then (1:Int) else 0) = ((r[0].toNat:Nat):Int):=by cases r[0] <;> rfl
   have hb1:r[0].toNat < 2 ^ 1:=by cases r[0] <;> decide
   rw [h1,h2,orN (by omega) (by omega)]
   have:=Nat.shiftLeft_add_eq_or_of_lt hb1 v
   rw [Nat.shiftLeft_eq] at this
   rw [show v * 2 = v * 2 ^ 1 from rfl,← this,Qp (by omega)]
   omega
  rw [e1]
  have e2:IntKind.i64.wrap ((i:Int) + 1) = ((i + 1:Nat):Int):=by rw [Qp (by omega)]; rfl
  have e3:IntKind.i64.wrap (((ZR b r:Nat):Int) + 1) = ((ZR b (r.drop 1):Nat):Int):=by
   rw [Ze0 hr (by omega),Qp (by omega)]; rfl
  rw [e2,e3]
  have hp2:2 * v + r[0].toNat < 2 ^ (i + 1):=by
   rw [Nat.pow_succ]
   cases r[0] <;> simp <;> omega
  have:=ih m (i + 1) (2 * v + r[0].toNat) (r.drop 1) (hr.drop 1) (by rw [List.length_drop]; omega) (by omega) (by omega) hp2
  rw [show i + 1 + w = i + (w + 1) by omega] at this
  rw [this]
  have e4:(r.drop 1).drop w = r.drop (w + 1):=by rw [List.drop_drop]; congr 1; omega
  have e5:r.take (w + 1) = r[0] :: (r.drop 1).take w:=by
   conv => lhs; rw [hcons]
   rfl
  rw [e4,e5,List.foldl_cons]
theorem Ye (k:Nat) {b:List Int} (hb:ZM b = true) (hn:b.length < 536870912) {r:List Bool} (hr:Zl b r) {w:Nat} (hw:w ≤ 32) (hk:100 < k) :
  Ym k (Y2 b r,(w:Int),()) = some (((((ZO w r).1:Nat):Int),(ZO w r).2.1,()),Y2 b (ZO w r).2.2,()):=by
 show Zei k (Zkn k) _ = _
 simp only [Zei]
 rw [ZmN k w hw]
 simp only [Qq,cond_false]
 have hl:=hr.len
 have e1:Zmg k ((b,((ZR b r:Nat):Int),()),()) = some ((r.length:Int),(b,((ZR b r:Nat):Int),()),()):=by
  show ZeJ k _ = _
  simp only [ZeJ]
  have:IntKind.i64.wrap (IntKind.i64.wrap ((8:Int) * Int.ofNat b.length) - ((ZR b r:Nat):Int)) = (r.length:Int):=by
   unfold ZR
   simp only [QW]
   rw [Qp (n:=(8:Int) * (b.length:Int)) (by omega),Qp (by omega)]
   omega
  rw [this]
 rw [e1]
 simp only [Qq]
 unfold ZO
 by_cases h:w ≤ r.length
 ·rw [Zk (by omega),if_pos h]
  have:=ZzR k hb hn w k 0 0 r hr h (by omega) (by omega) (by simp)
  rw [Nat.zero_add] at this
  exact this
 ·rw [Zc (by omega),if_neg h]
  rfl
def ZHU (w v:Nat):Int:=if 0 < w ∧ 2 ^ (w - 1) ≤ v then (v:Int) - 2 ^ w else v
def Wr (w:Nat) (r:List Bool):Int × Int × List Bool:=if w ≤ r.length then (ZHU w (Xb (r.take w)),0,r.drop w) else (0,10,r)
theorem Zcd {b:List Int} {r:List Bool} (h:Zl b r) (w:Nat):Zl b (Wr w r).2.2:=by
 unfold Wr
 split
 ·exact h.drop w
 ·exact h
theorem Zo6 (k:Nat) {b:List Int} (hb:ZM b = true) (hn:b.length < 536870912) {r:List Bool} (hr:Zl b r) {w:Nat} (hw:w ≤ 32) (hk:100 < k) :
  ZiM k (Y2 b r,(w:Int),()) = some (((Wr w r).1,(Wr w r).2.1,()),Y2 b (Wr w r).2.2,()):=by
 show ZeK k _ = _
 simp only [ZeK]
 rw [Ye k hb hn hr hw hk]
 simp only [Qq]
 unfold ZO Wr
 by_cases h:w ≤ r.length
 ·rw [if_pos h,if_pos h]
  simp only
  rw [show ((0:Int) == 0) = true from rfl]
  simp only [cond_true]
  have hlt:=Zid (r.take w)
  rw [List.length_take,Nat.min_eq_left h] at hlt
  generalize Xb (r.take w) = v at hlt
  unfold ZHU
  by_cases h0:0 < w
  ·have e1:IntKind.i64.wrap ((w:Int) - 1) = ((w - 1:Nat):Int):=by rw [Qp (by omega)]; omega
   rw [Zc (by omega),e1,Zc (by omega),WS,Nat.min_eq_left (by omega),Zds,ZP]
   have hpw:2 ^ w = 2 * 2 ^ (w - 1):=by rw [show w = (w - 1) + 1 by omega,Nat.pow_succ,Nat.add_sub_cancel]; omega
   have hq:v / 2 ^ (w - 1) = if 2 ^ (w - 1) ≤ v then 1 else 0:=by
    split
    ·rename_i hle
     rw [Nat.div_eq_iff (Nat.pow_pos (by omega))]
     omega
    ·rename_i hle
     exact Nat.div_eq_of_lt (by omega)
   rw [hq]
   have h32:2 ^ w ≤ 2 ^ 32:=Nat.pow_le_pow_right (by omega) hw
   by_cases hle:2 ^ (w - 1) ≤ v
   ·rw [if_pos hle,Zc (show ((1:Nat):Int) = 1 from rfl),if_pos ⟨h0,hle⟩,Zc (by omega),Nat.min_eq_left (by omega:((w:Int)).toNat ≤ 64),WS,Int.one_mul,Wi]
    generalize 2 ^ w = Q at h32 hlt ⊢
    rw [Qp (n:=(Q:Int)) (by omega),Qp (by omega)]
   ·rw [if_neg hle,Zk (by omega),if_neg (by omega)]
  ·rw [Zk (by omega),if_neg (by omega)]
 ·rw [if_neg h,if_neg h]
  rfl
end Go.Sh
namespace Go.Sh
open Go Go.Proofs
def ZdQ:Nat → List Bool → Option (Nat × List Bool)
 | _,[] => none
 | n,true :: r => some (n,r)
 | n,false :: r => ZdQ (n + 1) r
def unS (r:List Bool):Nat × Int × List Bool:=match ZdQ 0 r with
 | some (n,r') => (n,0,r')
 | none => (0,10,r)
theorem Zcs:∀ (r:List Bool) (n m:Nat) (r':List Bool),ZdQ n r = some (m,r') → r' <:+ r ∧ m + 1 + r'.length = n + r.length
 | true :: r,n,m,r',h => by
  simp only [ZdQ,Option.some.injEq,Prod.mk.injEq] at h
  obtain ⟨rfl,rfl⟩:=h
  exact ⟨List.suffix_cons _ _,by simp; omega⟩
 | false :: r,n,m,r',h => by
  obtain ⟨h1,h2⟩:=Zcs r (n + 1) m r' h
  exact ⟨h1.trans (List.suffix_cons _ _),by simp; omega⟩
theorem ZbW {b:List Int} {r:List Bool} (h:Zl b r):Zl b (unS r).2.2:=by
 unfold unS
 split
 ·rename_i n r' hu
  exact (Zcs r 0 n r' hu).1.trans h
 ·exact h
theorem ZFc {r:List Bool}:(unS r).1 ≤ r.length:=by
 unfold unS
 split
 ·rename_i n r' hu
  have:=(Zcs r 0 n r' hu).2
  simp only
  omega
 ·exact Nat.zero_le _
theorem ZzX (k:Nat) {b:List Int} (hb:ZM b = true) (hn:b.length < 536870912) {r0:List Bool} (hr0:Zl b r0):∀ (r:List Bool) (m n:Nat),Zl b r → r.length < m → n + r.length = r0.length →
  Zs (fun L1 => Zbh k L1) m (((ZR b r:Nat):Int),b,((ZR b r0:Nat):Int)) = some (((match ZdQ n r with | some (n,r') => (n:Int) | none => 0),(match ZdQ n r with | some (n,r') => 0 | none => 10),()),Y2 b (match ZdQ n r with | some (n,r') => r' | none => r0),()):=by
 intro r
 induction r with
 | nil =>
  intro m n hr hm hl
  obtain ⟨m,rfl⟩:=Zv hm
  rw [Zj]
  simp only [Zbh]
  have e1:IntKind.i64.wrap ((8:Int) * Int.ofNat b.length) = ((8 * b.length:Nat):Int):=by simp only [QW]; rw [Qp (by omega)]; omega
  rw [e1,Zk (by unfold ZR; simp)]
  rfl
 | cons x r ih =>
  intro m n hr hm hl
  obtain ⟨m,rfl⟩:=Zv (show 0 < m by omega)
  rw [Zj]
  simp only [Zbh]
  have e1:IntKind.i64.wrap ((8:Int) * Int.ofNat b.length) = ((8 * b.length:Nat):Int):=by simp only [QW]; rw [Qp (by omega)]; omega
  have hlen:=hr.len
  have hlen0:=hr0.len
  simp only [List.length_cons] at hlen hl hm
  have hp:ZR b (x :: r) < 8 * b.length:=by unfold ZR; simp only [List.length_cons]; omega
  rw [e1,Zc (by omega),ZmV k hb hn _ hp]
  simp only [Qq]
  have hg:=hr.get (i:=0) (by simp)
  simp only [Nat.add_zero,List.getElem_cons_zero] at hg
  rw [hg]
  have e2:IntKind.i64.wrap (((ZR b (x :: r):Nat):Int) + 1) = ((ZR b r:Nat):Int):=by
   have:=Ze0 hr (i:=1) (by simp)
   rw [List.drop_one,List.tail_cons] at this
   rw [this,Qp (by omega)]; rfl
  have hr':Zl b r:=by have:=hr.drop 1; rwa [List.drop_one,List.tail_cons] at this
  rw [e2,ZP]
  cases x with
  | true =>
   rw [if_pos rfl,Zc rfl]
   have e3:IntKind.i64.wrap (((ZR b (true :: r):Nat):Int) - ((ZR b r0:Nat):Int)) = (n:Int):=by
    unfold ZR at hp ⊢
    simp only [List.length_cons] at hp ⊢
    rw [Qp (by omega)]
    omega
   rw [e3]
   rfl
  | false =>
   rw [if_neg (by simp),Zk (by omega)]
   exact ih m (n + 1) hr' (by omega) (by omega)
theorem ZoU (k:Nat) {b:List Int} (hb:ZM b = true) (hn:b.length < 536870912) {r:List Bool} (hr:Zl b r) (hk:8 * b.length < k) :
  ZfM k (Y2 b r,()) = some (((((unS r).1:Nat):Int),(unS r).2.1,()),Y2 b (unS r).2.2,()):=by
 show Zen k (Zks k) _ = _
 simp only [Zen]
 have hl:=hr.len
 refine (ZzX k hb hn hr r k 0 hr (by omega) (by omega)).trans ?_
 unfold unS
 cases ZdQ 0 r with
 | none => rfl
 | some x => rfl
def alS (r:List Bool):Int × List Bool:=if (r.take (r.length % 8)).all (fun x => !x) then (0,r.drop (r.length % 8)) else (2,r)
theorem ZBo {b:List Int} {r:List Bool} (h:Zl b r):Zl b (alS r).2:=by
 unfold alS
 split
 ·exact h.drop _
 ·exact h
theorem up8 {n:Nat} (h:n < 4294967296):IntKind.i64.wrap (Int.ofNat (BitVec.ofInt 64 (IntKind.i64.wrap ((n:Int) + 7)) &&& ~~~BitVec.ofInt 64 7).toNat) = (((n + 7) / 8 * 8:Nat):Int):=by
 rw [Qp (n:=(n:Int) + 7) (by omega),show (n:Int) + 7 = ((n + 7:Nat):Int) from rfl]
 have e:(BitVec.ofInt 64 ((n + 7:Nat):Int) &&& ~~~BitVec.ofInt 64 7).toNat = (n + 7) / 8 * 8:=by
  have h1:BitVec.ofInt 64 ((n + 7:Nat):Int) &&& ~~~BitVec.ofInt 64 7 = ((BitVec.ofNat 64 (n + 7)) >>> 3) <<< 3:=by
   rw [BitVec.ofInt_natCast,show ~~~BitVec.ofInt 64 7 = BitVec.ofNat 64 18446744073709551608 from by decide]
   apply BitVec.eq_of_getLsbD_eq
   intro i hi
   simp only [BitVec.getLsbD_and,BitVec.getLsbD_shiftLeft,BitVec.getLsbD_ushiftRight]
   have hm:=(by decide +kernel:∀ j:Fin 64,(BitVec.ofNat 64 18446744073709551608).getLsbD j.val = decide (3 ≤ j.val)) ⟨i,hi⟩
   simp only at hm
   rw [hm]
   by_cases h3:3 ≤ i
   ·rw [WH h3,Bool.and_true,show 3 + (i - 3) = i by omega]
    simp [hi]
    omega
   ·rw [WG h3,Bool.and_false]
    simp
    omega
  rw [h1,BitVec.toNat_shiftLeft,BitVec.toNat_ushiftRight,BitVec.toNat_ofNat,Nat.shiftRight_eq_div_pow,Nat.shiftLeft_eq,Nat.mod_eq_of_lt (by omega),Nat.mod_eq_of_lt (by omega)]
 rw [e,Qp (by simp only [QW]; omega)]
 rfl
theorem ZDG (k:Nat) {b:List Int} (hb:ZM b = true) (hn:b.length < 536870912) {r0:List Bool}:∀ (p m:Nat) (r:List Bool),Zl b r → p ≤ r.length → p < m →
  Zs (fun L1 => Zde k L1) m (((ZR b r:Nat):Int),((ZR b r + p:Nat):Int),b,((ZR b r0:Nat):Int)) = some (if (r.take p).all (fun x => !x) then (0,Y2 b (r.drop p),()) else (2,Y2 b r0,())):=by
 intro p
 induction p with
 | zero =>
  intro m r hr hp hm
  obtain ⟨m,rfl⟩:=Zv hm
  rw [Zj]
  simp only [Zde]
  rw [Zk (by omega)]
  simp
 | succ p ih =>
  intro m r hr hp hm
  obtain ⟨m,rfl⟩:=Zv (show 0 < m by omega)
  rw [Zj]
  simp only [Zde]
  have hlen:=hr.len
  have hpos:ZR b r < 8 * b.length:=by unfold ZR; omega
  rw [Zc (by omega),ZmV k hb hn _ hpos]
  simp only [Qq]
  have hg:=hr.get (i:=0) (by omega)
  simp only [Nat.add_zero] at hg
  rw [hg,ZP]
  have hcons:r = r[0] :: r.drop 1:=by
   have:=List.drop_eq_getElem_cons (l:=r) (i:=0) (by omega)
   rwa [List.drop_zero] at this
  have e5:r.take (p + 1) = r[0] :: (r.drop 1).take p:=by
   conv => lhs; rw [hcons]
   rfl
  rw [e5,List.all_cons]
  cases hx:r[0] with
  | true =>
   rw [if_pos rfl,Zc rfl]
   simp
  | false =>
   rw [if_neg (by simp),Zk (by omega)]
   have e3:IntKind.i64.wrap (((ZR b r:Nat):Int) + 1) = ((ZR b (r.drop 1):Nat):Int):=by
    rw [Ze0 hr (by omega),Qp (by omega)]; rfl
   have e4:ZR b r + (p + 1) = ZR b (r.drop 1) + p:=by rw [Ze0 hr (by omega)]; omega
   rw [e3,e4,ih m (r.drop 1) (hr.drop 1) (by rw [List.length_drop]; omega) (by omega)]
   have e6:(r.drop 1).drop p = r.drop (p + 1):=by rw [List.drop_drop]; congr 1; omega
   rw [e6]
   simp only [Bool.not_false,Bool.true_and]
theorem ZDH (k:Nat) {b:List Int} (hb:ZM b = true) (hn:b.length < 536870912) {r:List Bool} (hr:Zl b r) (hk:10 < k) :
  Zut k (Y2 b r,()) = some ((alS r).1,Y2 b (alS r).2,()):=by
 show Zha k (ZrD k) _ = _
 simp only [Zha]
 have hlen:=hr.len
 have hp:ZR b r ≤ 8 * b.length:=by unfold ZR; omega
 rw [up8 (by omega)]
 have e:(ZR b r + 7) / 8 * 8 = ZR b r + r.length % 8:=by unfold ZR; omega
 rw [e]
 refine (ZDG k hb hn (r.length % 8) k r hr (Nat.mod_le _ _) (by omega)).trans ?_
 unfold alS
 split <;> rfl
def Zh5 (f:Nat):Int:=if f % 2 = 1 then -((f:Int) + 1) / 2 else (f:Int) / 2
theorem ZAA (k:Nat) {f:Nat} (h:f < 4294967296):Zmt k ((f:Int),()) = some ((Zh5 f,0,()),()):=by
 show ZeV k _ = _
 simp only [ZeV]
 rw [Zk (by omega),Zk (by omega),show (1:Int) = ((1:Nat):Int) from rfl,Zy5 (by omega) (by omega),Nat.and_one_is_mod,Qp (n:=((f % 2:Nat):Int)) (by omega)]
 have hd:((f:Nat):Int).fdiv 2 = ((f / 2:Nat):Int):=by rw [Int.fdiv_eq_ediv_of_nonneg _ (by omega)]; rfl
 rw [hd]
 unfold Zh5
 by_cases h1:f % 2 = 1
 ·rw [if_pos h1,h1,show IntKind.i64.wrap ((0:Int) - ((1:Nat):Int)) = -1 from rfl,show BitVec.ofInt 64 (-1) = BitVec.allOnes 64 from by decide,BitVec.xor_allOnes,BitVec.toNat_not,Zs4 (by omega)]
  have e2:IntKind.i64.wrap (Int.ofNat (2 ^ 64 - 1 - f / 2)) = -((f:Int) + 1) / 2:=by
   simp only [QW]
   rw [IntKind.wrap_i64]
   omega
  rw [e2]
 ·rw [if_neg h1,show f % 2 = 0 by omega,show IntKind.i64.wrap ((0:Int) - ((0:Nat):Int)) = 0 from rfl,show BitVec.ofInt 64 0 = 0#64 from rfl,BitVec.xor_zero,Zs4 (by omega)]
  rw [Qp (by simp only [QW]; omega)]
  rfl
theorem Zvz {n:Int} (h:ZI n):Zh5 (ZZ n) = n:=by
 unfold ZI at h
 unfold Zh5 ZZ
 by_cases hn:n < 0
 ·rw [if_pos hn,if_pos (by omega)]; omega
 ·rw [if_neg hn,if_neg (by omega)]; omega
def Zal (kk:Nat) (r:List Bool):Int × Int × List Bool :=
 if (unS r).2.1 ≠ 0 then (0,(unS r).2.1,(unS r).2.2)
 else if (ZO kk (unS r).2.2).2.1 ≠ 0 then (0,(ZO kk (unS r).2.2).2.1,(ZO kk (unS r).2.2).2.2)
 else if 4294967295 ≤ (unS r).1 * 2 ^ kk + (ZO kk (unS r).2.2).1 then (0,12,(ZO kk (unS r).2.2).2.2)
 else (Zh5 ((unS r).1 * 2 ^ kk + (ZO kk (unS r).2.2).1),0,(ZO kk (unS r).2.2).2.2)
theorem ZpM {b:List Int} {r:List Bool} (h:Zl b r) (kk:Nat):Zl b (Zal kk r).2.2:=by
 unfold Zal
 split
 ·exact ZbW h
 ·split
  ·exact Qf (ZbW h) kk
  ·split
   ·exact Qf (ZbW h) kk
   ·exact Qf (ZbW h) kk
theorem ZLh {q d kk:Nat} (hq:q < 4294967296) (hk:kk ≤ 30) (hd:d < 2 ^ kk):IntKind.i64.wrap (Int.ofNat (BitVec.ofInt 64 (IntKind.i64.wrap ((q:Int) * (2:Int) ^ min ((kk:Int)).toNat 64)) ||| BitVec.ofInt 64 (d:Int)).toNat) = ((q * 2 ^ kk + d:Nat):Int):=by
 have h1:2 ^ kk ≤ 2 ^ 30:=Nat.pow_le_pow_right (by omega) hk
 have h2:q * 2 ^ kk ≤ 4294967295 * 1073741824:=Nat.mul_le_mul (by omega) (by omega)
 rw [WS,Nat.min_eq_left (by omega),Wi,← Int.natCast_mul]
 have h3:=Nat.shiftLeft_add_eq_or_of_lt hd q
 rw [Nat.shiftLeft_eq] at h3
 rw [Qp (n:=((q * 2 ^ kk:Nat):Int)) (by generalize q * 2 ^ kk = X at h2; omega),orN (by generalize q * 2 ^ kk = X at h2; omega) (by omega),← h3]
 generalize q * 2 ^ kk = X at h2 ⊢
 rw [Qp (by omega)]
theorem ZAy (k:Nat) {b:List Int} (hb:ZM b = true) (hn:b.length < 268435456) {r:List Bool} (hr:Zl b r) {kk:Nat} (hkk:kk ≤ 30) (hk:8 * b.length + 100 < k) :
  Zmp k (Y2 b r,(kk:Int),()) = some (((Zal kk r).1,(Zal kk r).2.1,()),Y2 b (Zal kk r).2.2,()):=by
 show ZeS k _ = _
 simp only [ZeS]
 rw [ZoU k hb (by omega) hr (by omega)]
 simp only [Qq]
 unfold Zal
 have hu:=ZFc (r:=r)
 have hl:=hr.len
 rw [ZY]
 by_cases h1:(unS r).2.1 = 0
 ·rw [Zk (by simpa using h1),if_neg (by simpa using h1),Ye k hb (by omega) (ZbW hr) (by omega) (by omega)]
  simp only [Qq]
  rw [ZY]
  by_cases h2:(ZO kk (unS r).2.2).2.1 = 0
  ·rw [Zk (by simpa using h2),if_neg (by simpa using h2),Zc (by omega),ZLh (by omega) hkk (ZeY kk _)]
   by_cases h3:4294967295 ≤ (unS r).1 * 2 ^ kk + (ZO kk (unS r).2.2).1
   ·rw [Zc (by omega),if_pos h3]
   ·rw [Zk (by omega),if_neg h3,ZAA k (by omega)]
    rfl
  ·rw [Zc h2,if_pos h2]
 ·rw [Zc h1,if_pos h1]
end Go.Sh
namespace Go.Sh
open Go Go.Proofs
abbrev ZxB:=List Bool → Int × Int × List Bool
def XP (one:ZxB):Nat → List Bool → List Int → List Int × Int × List Bool
 | 0,r,acc => (acc,0,r)
 | n + 1,r,acc => if (one r).2.1 ≠ 0 then ([],(one r).2.1,(one r).2.2) else XP one n (one r).2.2 (acc ++ [(one r).1])
theorem ZfW {b:List Int} {one:ZxB} (h1:∀ r,Zl b r → Zl b (one r).2.2):∀ (n:Nat) (r:List Bool) (acc:List Int),Zl b r → Zl b (XP one n r acc).2.2
 | 0,r,acc,h => h
 | n + 1,r,acc,h => by
  unfold XP
  split
  ·exact h1 r h
  ·exact ZfW h1 n _ _ (h1 r h)
theorem Zi5 {one:ZxB}:∀ (n:Nat) (r:List Bool) (acc:List Int),(XP one n r acc).1.length ≤ acc.length + n
 | 0,r,acc => Nat.le_refl _
 | n + 1,r,acc => by
  unfold XP
  split
  ·simp
  ·have:=Zi5 (one:=one) n (one r).2.2 (acc ++ [(one r).1])
   rw [Wm,List.length_singleton] at this
   omega
theorem ZGG (k:Nat) (L2:Int × Int × List Int × Int × Int × List Int → Option ((List Int × Int × Unit) × (List Int × Int × Unit) × Unit)) {b:List Int} (hb:ZM b = true) (hn:b.length < 268435456) (hk:8 * b.length + 100 < k) {w:Nat} (hw:w ≤ 32) :
  ∀ (d m i:Nat) (r:List Bool) (acc:List Int),Zl b r → d < m → i + d ≤ 4096 → acc.length ≤ i →
  Zs (fun L1 => Zbq k L1) m (((i + d:Nat):Int),(i:Int),b,((ZR b r:Nat):Int),(w:Int),acc) = some (((XP (Wr w) d r acc).1,(XP (Wr w) d r acc).2.1,()),Y2 b (XP (Wr w) d r acc).2.2,()):=by
 intro d
 induction d with
 | zero =>
  intro m i r acc hr hm hi ha
  obtain ⟨m,rfl⟩:=Zv hm
  rw [Zj]
  simp only [Zbq]
  rw [Zk (by omega)]
  rfl
 | succ d ih =>
  intro m i r acc hr hm hi ha
  obtain ⟨m,rfl⟩:=Zv (show 0 < m by omega)
  rw [Zj]
  simp only [Zbq]
  have e:Zmq k (((b,((ZR b r:Nat):Int),()),()),((w:Int),()),()) = some (((Wr w r).1,(Wr w r).2.1,()),((Y2 b (Wr w r).2.2),()),((w:Int),()),()):=by
   show ZeT k _ = _
   simp only [ZeT]
   rw [Zo6 k hb (by omega) hr hw (by omega)]
   rfl
  rw [Zc (by omega),e]
  simp only [Qq]
  unfold XP
  rw [ZY]
  by_cases h:(Wr w r).2.1 = 0
  ·rw [Zk (by simpa using h),Zc (by simp only [List.length_singleton]; omega),if_neg (by simpa using h)]
   have e2:IntKind.i64.wrap ((i:Int) + 1) = ((i + 1:Nat):Int):=by rw [Qp (by omega)]; rfl
   rw [e2]
   have:=ih m (i + 1) (Wr w r).2.2 (acc ++ [(Wr w r).1]) (Zcd hr w) (by omega) (by omega) (by simp; omega)
   rw [show i + 1 + d = i + (d + 1) by omega] at this
   exact this
  ·rw [Zc h,if_pos h]
theorem ZC1 (k:Nat) {b:List Int} (hb:ZM b = true) (hn:b.length < 268435456) (hk:8 * b.length + 100 < k) {w:Nat} (hw:w ≤ 30) :
  ∀ (d m i:Nat) (r:List Bool) (acc:List Int),Zl b r → d < m → i + d ≤ 4096 → acc.length ≤ i →
  Zs (fun L2 => Zbr k L2) m (((i + d:Nat):Int),(i:Int),b,((ZR b r:Nat):Int),(w:Int),acc) = some (((XP (Zal w) d r acc).1,(XP (Zal w) d r acc).2.1,()),Y2 b (XP (Zal w) d r acc).2.2,()):=by
 intro d
 induction d with
 | zero =>
  intro m i r acc hr hm hi ha
  obtain ⟨m,rfl⟩:=Zv hm
  rw [Zj]
  simp only [Zbr]
  rw [Zk (by omega)]
  rfl
 | succ d ih =>
  intro m i r acc hr hm hi ha
  obtain ⟨m,rfl⟩:=Zv (show 0 < m by omega)
  rw [Zj]
  simp only [Zbr]
  have e:Zml k (((b,((ZR b r:Nat):Int),()),()),((w:Int),()),()) = some (((Zal w r).1,(Zal w r).2.1,()),((Y2 b (Zal w r).2.2),()),((w:Int),()),()):=by
   show ZeR k _ = _
   simp only [ZeR]
   rw [ZAy k hb (by omega) hr hw (by omega)]
   rfl
  rw [Zc (by omega),e]
  simp only [Qq]
  unfold XP
  rw [ZY]
  by_cases h:(Zal w r).2.1 = 0
  ·rw [Zk (by simpa using h),Zc (by simp only [List.length_singleton]; omega),if_neg (by simpa using h)]
   have e2:IntKind.i64.wrap ((i:Int) + 1) = ((i + 1:Nat):Int):=by rw [Qp (by omega)]; rfl
   rw [e2]
   have:=ih m (i + 1) (Zal w r).2.2 (acc ++ [(Zal w r).1]) (ZpM hr w) (by omega) (by omega) (by simp; omega)
   rw [show i + 1 + d = i + (d + 1) by omega] at this
   exact this
  ·rw [Zc h,if_pos h]
def XT (m count : Nat) (r : List Bool) : List Int × Int × List Bool :=
  if (ZO (4 + m) r).2.1 ≠ 0 then ([], (ZO (4 + m) r).2.1, (ZO (4 + m) r).2.2)
  else if (ZO (4 + m) r).1 = W7 m then
    (if (ZO 5 (ZO (4 + m) r).2.2).2.1 ≠ 0 then ([], (ZO 5 (ZO (4 + m) r).2.2).2.1, (ZO 5 (ZO (4 + m) r).2.2).2.2)
     else XP (Wr (ZO 5 (ZO (4 + m) r).2.2).1) count (ZO 5 (ZO (4 + m) r).2.2).2.2 [])
  else XP (Zal (ZO (4 + m) r).1) count (ZO (4 + m) r).2.2 []
theorem Zf1 {b:List Int} {r:List Bool} (h:Zl b r) (m count:Nat):Zl b (XT m count r).2.2:=by
 unfold XT
 split
 ·exact Qf h _
 ·split
  ·split
   ·exact Qf (Qf h _) _
   ·exact ZfW (fun r h => Zcd h _) _ _ _ (Qf (Qf h _) _)
  ·exact ZfW (fun r h => ZpM h _) _ _ _ (Qf h _)
theorem ZpO (m count:Nat) (r:List Bool):(XT m count r).1.length ≤ count:=by
 unfold XT
 split
 ·simp
 ·split
  ·split
   ·simp
   ·have:=Zi5 (one:=Wr (ZO 5 (ZO (4 + m) r).2.2).1) count (ZO 5 (ZO (4 + m) r).2.2).2.2 []
    simpa using this
  ·have:=Zi5 (one:=Zal (ZO (4 + m) r).1) count (ZO (4 + m) r).2.2 []
   simpa using this
theorem ZAv (k:Nat) {b:List Int} (hb:ZM b = true) (hn:b.length < 268435456) {r:List Bool} (hr:Zl b r) (hk:8 * b.length + 5000 < k) {m count:Nat} (hm:m = 0 ∨ m = 1) (hc:count ≤ 4096) :
  ZfR k (Y2 b r,(m:Int),(count:Int),()) = some (((XT m count r).1,(XT m count r).2.1,()),Y2 b (XT m count r).2.2,()):=by
 show ZeL k (ZkM k) (ZgU k) _ = _
 simp only [ZeL]
 have hmi:(m:Int) = 0 ∨ (m:Int) = 1:=by omega
 rw [ZIJ,Ziv k hmi]
 simp only [Qq]
 have e4:(4:Int) + (m:Int) = ((4 + m:Nat):Int):=rfl
 rw [e4,Ye k hb (by omega) hr (by omega) (by omega)]
 simp only [Qq]
 unfold XT
 have hlt:=ZeY (4 + m) r
 rw [ZY]
 by_cases h1:(ZO (4 + m) r).2.1 = 0
 ·rw [Zk (by simpa using h1),if_neg (by simpa using h1),Zy2,Zbc k hmi]
  simp only [Qq]
  rw [ZP]
  by_cases h2:(ZO (4 + m) r).1 = W7 m
  ·rw [Zc (by omega),if_pos h2,show (5:Int) = ((5:Nat):Int) from rfl,Ye k hb (by omega) (Qf hr _) (by omega) (by omega)]
   simp only [Qq]
   rw [ZY]
   by_cases h3:(ZO 5 (ZO (4 + m) r).2.2).2.1 = 0
   ·rw [Zk (by simpa using h3),if_neg (by simpa using h3)]
    have hlt5:=ZeY 5 (ZO (4 + m) r).2.2
    have:=ZGG k (ZgU k) hb hn (by omega) (w:=(ZO 5 (ZO (4 + m) r).2.2).1) (by omega) count k 0 (ZO 5 (ZO (4 + m) r).2.2).2.2 [] (Qf (Qf hr _) _) (by omega) (by omega) (by simp)
    rw [Nat.zero_add] at this
    exact this
   ·rw [Zc h3,if_pos h3]
  ·rw [Zk (by omega),if_neg h2]
   have h30:(ZO (4 + m) r).1 ≤ 30:=by
    rcases hm with rfl | rfl
    ·have:(ZO (4 + 0) r).1 < 16:=hlt
     omega
    ·have h32:(ZO (4 + 1) r).1 < 32:=hlt
     have:W7 (1:Nat) = 31:=rfl
     omega
   have:=ZC1 k hb hn (by omega) h30 count k 0 (ZO (4 + m) r).2.2 [] (Qf hr _) (by omega) (by omega) (by simp)
   rw [Nat.zero_add] at this
   exact this
 ·rw [Zc h1,if_pos h1]
def Q2 (m n o p:Nat):Nat → Nat → List Bool → List Int → List Int × Int × List Bool
 | 0,_,r,acc => (acc,0,r)
 | d + 1,i,r,acc => if (XT m (n / 2 ^ p - if i = 0 then o else 0) r).2.1 ≠ 0 then ([],(XT m (n / 2 ^ p - if i = 0 then o else 0) r).2.1,(XT m (n / 2 ^ p - if i = 0 then o else 0) r).2.2)
  else Q2 m n o p d (i + 1) (XT m (n / 2 ^ p - if i = 0 then o else 0) r).2.2 (acc ++ (XT m (n / 2 ^ p - if i = 0 then o else 0) r).1)
theorem Zgl {b:List Int} {m n o p:Nat}:∀ (d i:Nat) (r:List Bool) (acc:List Int),Zl b r → Zl b (Q2 m n o p d i r acc).2.2
 | 0,_,r,acc,h => h
 | d + 1,i,r,acc,h => by
  unfold Q2
  generalize (n / 2 ^ p - if i = 0 then o else 0) = cnt
  split
  ·exact Zf1 h _ _
  ·exact Zgl d (i + 1) _ _ (Zf1 h _ _)
theorem Zz3 (k:Nat) {b:List Int} (hb:ZM b = true) (hn:b.length < 268435456) (hk:8 * b.length + 5000 < k) {m n o p:Nat} (hm:m = 0 ∨ m = 1) (hnn:n ≤ 512) (hp:p ≤ 15) (ho:o ≤ n / 2 ^ p) :
  ∀ (d j i:Nat) (r:List Bool) (acc:List Int),Zl b r → d < j → i + d ≤ 32768 → acc.length ≤ i * 512 →
  Zs (fun L1 => KS k L1) j (((i + d:Nat):Int),(i:Int),(n:Int),(p:Int),(o:Int),(m:Int),b,((ZR b r:Nat):Int),acc) = some (((Q2 m n o p d i r acc).1,(Q2 m n o p d i r acc).2.1,()),Y2 b (Q2 m n o p d i r acc).2.2,()):=by
 intro d
 have hdiv:n / 2 ^ p ≤ n:=Nat.div_le_self _ _
 induction d with
 | zero =>
  intro j i r acc hr hj hi ha
  obtain ⟨j,rfl⟩:=Zv hj
  rw [Zj]
  simp only [KS]
  rw [Zk (by omega)]
  rfl
 | succ d ih =>
  intro j i r acc hr hj hi ha
  obtain ⟨j,rfl⟩:=Zv (show 0 < j by omega)
  rw [Zj]
  simp only [KS,WS,Nat.min_eq_left (show p ≤ 64 by omega),Zds]
  have e2:IntKind.i64.wrap ((i:Int) + 1) = ((i + 1:Nat):Int):=by rw [Qp (by omega)]; rfl
  have e3:IntKind.i64.wrap (((n / 2 ^ p:Nat):Int) - (o:Int)) = ((n / 2 ^ p - o:Nat):Int):=by generalize n / 2 ^ p = q at hdiv ho ⊢; rw [Qp (by omega)]; omega
  have fin:∀ cnt:Nat,cnt = (n / 2 ^ p - if i = 0 then o else 0) → ((ZfR k ((b,((ZR b r:Nat):Int),()),(m:Int),(cnt:Int),())).bind fun y => bif y.1.2.1 != (0:Int) then some (([],y.1.2.1,()),(y.2.1.1,y.2.1.2.1,()),()) else bif decide (acc.length + List.length y.1.1 < (2147483648:Nat)) then Zs (fun L1 => KS k L1) j (((i + (d + 1):Nat):Int),IntKind.i64.wrap ((i:Int) + 1),(n:Int),(p:Int),(o:Int),(m:Int),y.2.1.1,y.2.1.2.1,acc ++ y.1.1) else none) =
    some (((Q2 m n o p (d + 1) i r acc).1,(Q2 m n o p (d + 1) i r acc).2.1,()),Y2 b (Q2 m n o p (d + 1) i r acc).2.2,()):=by
   intro cnt hcnt
   have hcl:cnt ≤ 512:=by omega
   refine (Zg (ZAv k hb hn hr hk hm (by omega)) _).trans ?_
   simp only
   unfold Q2
   rw [← hcnt,ZY]
   have hlen:=ZpO m cnt r
   by_cases h:(XT m cnt r).2.1 = 0
   ·rw [Zk (by simpa using h),Zc (by omega),if_neg (by simpa using h),e2]
    have:=ih j (i + 1) (XT m cnt r).2.2 (acc ++ (XT m cnt r).1) (Zf1 hr _ _) (by omega) (by omega) (by rw [Wm]; omega)
    rw [show i + 1 + d = i + (d + 1) by omega] at this
    exact this
   ·rw [Zc h,if_pos h]
  rw [Zc (by omega),Zc (by omega),ZP]
  by_cases h0:i = 0
  ·rw [Zc (by omega),e3]
   exact fin _ (by rw [if_pos h0])
  ·rw [Zk (by omega)]
   exact fin _ (by rw [if_neg h0,Nat.sub_zero])
def Yy (n o:Nat) (r:List Bool):List Int × Int × List Bool :=
 if ZaT n o = false then ([],1,r)
 else if (ZO 2 r).2.1 ≠ 0 then ([],(ZO 2 r).2.1,(ZO 2 r).2.2)
 else if 1 < (ZO 2 r).1 then ([],2,(ZO 2 r).2.2)
 else if (ZO 4 (ZO 2 r).2.2).2.1 ≠ 0 then ([],(ZO 4 (ZO 2 r).2.2).2.1,(ZO 4 (ZO 2 r).2.2).2.2)
 else if ZcD n o (ZO 4 (ZO 2 r).2.2).1 = false then ([],2,(ZO 4 (ZO 2 r).2.2).2.2)
 else Q2 (ZO 2 r).1 n o (ZO 4 (ZO 2 r).2.2).1 (2 ^ (ZO 4 (ZO 2 r).2.2).1) 0 (ZO 4 (ZO 2 r).2.2).2.2 []
theorem ZnJ {b:List Int} {r:List Bool} (h:Zl b r) (n o:Nat):Zl b (Yy n o r).2.2:=by
 unfold Yy
 repeat' split
 all_goals first | exact h | exact Qf h _ | exact Qf (Qf h _) _ | exact Zgl _ _ _ _ (Qf (Qf h _) _)
theorem Zz4 (k:Nat) {b:List Int} (hb:ZM b = true) (hn:b.length < 268435456) {r:List Bool} (hr:Zl b r) (hk:8 * b.length + 50000 < k) (n o:Nat) :
  ZaX k (Y2 b r,(n:Int),(o:Int),()) = some (((Yy n o r).1,(Yy n o r).2.1,()),Y2 b (Yy n o r).2.2,()):=by
 show Zer k (Zky k) _ = _
 simp only [Zer]
 rw [Zo1]
 simp only [Qq]
 unfold Yy
 cases hbl:ZaT n o with
 | false => rfl
 | true =>
  have hbb:=of_decide_eq_true hbl
  simp only [Bool.not_true,cond_false,Bool.true_eq_false,if_false]
  have g2:Ym k (Y2 b r,2,()) = _:=Ye k hb (by omega) hr (w:=2) (by omega) (by omega)
  rw [g2]
  simp only [Qq]
  rw [ZY]
  have hlt2:=ZeY 2 r
  by_cases h1:(ZO 2 r).2.1 = 0
  ·rw [Zk (by simpa using h1),if_neg (by simpa using h1)]
   by_cases h2:1 < (ZO 2 r).1
   ·rw [Zc (by omega),if_pos h2]
   ·have g4:Ym k (Y2 b (ZO 2 r).2.2,4,()) = _:=Ye k hb (by omega) (Qf hr _) (w:=4) (by omega) (by omega)
    rw [Zk (by omega),if_neg h2,g4]
    simp only [Qq]
    rw [ZY]
    have hlt4:=ZeY 4 (ZO 2 r).2.2
    by_cases h3:(ZO 4 (ZO 2 r).2.2).2.1 = 0
    ·rw [Zk (by simpa using h3),if_neg (by simpa using h3),Zo3 k (by omega) (by omega)]
     simp only [Qq]
     cases hf:ZcD n o (ZO 4 (ZO 2 r).2.2).1 with
     | false => rfl
     | true =>
      simp only [Bool.not_true,cond_false,Bool.true_eq_false,if_false]
      have hfit:=hf
      unfold ZcD at hfit
      simp only [Bool.and_eq_true,decide_eq_true_eq] at hfit
      rw [Zc (by omega),Zk4 (by omega)]
      have h15:2 ^ (ZO 4 (ZO 2 r).2.2).1 ≤ 2 ^ 15:=Nat.pow_le_pow_right (by omega) (by omega)
      have:=Zz3 k hb hn (by omega) (m:=(ZO 2 r).1) (n:=n) (o:=o) (p:=(ZO 4 (ZO 2 r).2.2).1) (by omega) (by omega) (by omega) hfit.2 (2 ^ (ZO 4 (ZO 2 r).2.2).1) k 0 (ZO 4 (ZO 2 r).2.2).2.2 [] (Qf (Qf hr _) _) (by omega) (by omega) (by simp)
      rw [Nat.zero_add] at this
      exact this
    ·rw [Zc h3,if_pos h3]
  ·rw [Zc h1,if_pos h1]
theorem ZMx:∀ n:Fin 513,ZeP 0 (1,(n.val:Int),()) = some ((0,(n.val:Int),()),()):=by decide +kernel
theorem ZCZ (k:Nat) {n:Nat} (hn:n ≤ 512):Zmh k (1,(n:Int),()) = some ((0,(n:Int),()),()):=by
 have:=ZMx ⟨n,by omega⟩
 simp only at this
 show (ZeP 0 (1,(n:Int),())).bind _ = _
 rw [this]
 rfl
theorem ZzZ (k:Nat) (x:Int) {n:Nat} (hn:n ≤ 512):∀ (d m i:Nat),i + d = n → d < m → 1 ≤ i →
  Zs (fun L1 => Zep k L1) m ((i:Int),List.replicate i x ++ List.replicate d 0) = some (List.replicate n x,()):=by
 intro d
 induction d using Nat.strongRecOn with
 | ind d ih =>
  intro m i hi hm h1
  obtain ⟨m,rfl⟩:=Zv (show 0 < m by omega)
  rw [Zj]
  simp only [Zep]
  have hlen:(List.replicate i x ++ List.replicate d (0:Int)).length = n:=by simp; omega
  rw [hlen]
  by_cases h0:d = 0
  ·subst h0
   rw [Zk (by simp only [QW]; omega)]
   obtain rfl:i = n:=by omega
   simp
  ·rw [Zc (by simp only [QW]; omega),Zc (by simp only [QW]; omega),Zc (by simp only [QW]; omega)]
   simp only [WS,show (Int.ofNat n).toNat = n from rfl]
   rw [Zc (by omega),Zc (by omega),List.drop_zero]
   have ht:(List.replicate i x ++ List.replicate d (0:Int)).take i = List.replicate i x:=by
    rw [List.take_append_of_le_length (by simp)]
    simp
   rw [ht,List.length_replicate]
   have e1:IntKind.i64.wrap ((i:Int) + Int.ofNat (min i (n - i))) = ((i + min i (n - i):Nat):Int):=by simp only [QW]; rw [Qp (by omega)]; omega
   have e2:List.replicate i x ++ List.take (n - i) (List.replicate i x) ++ List.drop (i + min i (n - i)) (List.replicate i x ++ List.replicate d (0:Int)) = List.replicate (i + min i (n - i)) x ++ List.replicate (d - min i (n - i)) 0:=by
    rw [List.take_replicate,List.replicate_append_replicate,List.drop_append]
    simp
    omega
   rw [e1,e2]
   exact ih (d - min i (n - i)) (by omega) m _ (by omega) (by omega) (by omega)
theorem Zz0 (k:Nat) (x:Int) {n:Nat} (h1:1 ≤ n) (hn:n ≤ 512) (hk:1000 < k):ZlV k ([x],(n:Int),()) = some (List.replicate n x,()):=by
 show Zeo k (Zku k) _ = _
 simp only [Zeo]
 have e1:IntKind.u64.wrap (Int.ofNat [x].length) = 1:=rfl
 have e2:IntKind.u64.wrap (n:Int) = (n:Int):=by rw [IntKind.wrap_u64]; omega
 rw [Zk (by omega),e1,e2,ZCZ k hn]
 simp only [Qq]
 have e3:IntKind.i64.wrap (n:Int) = (n:Int):=by rw [Qp (by omega)]
 rw [Zk (by omega),Zk (by omega),e3,Zc (by omega)]
 simp only [WS,List.length_replicate,List.length_singleton,Nat.sub_zero,List.take_zero,List.nil_append,Nat.zero_add]
 rw [Nat.min_eq_left h1,List.take_of_length_le (by simp; omega),List.drop_replicate]
 exact ZzZ k x hn (n - 1) k 1 (by omega) (by omega) (by omega)
end Go.Sh
namespace Go.Sh
open Go Go.Proofs
def ZhT (c:List Int) (sh:Int):List Int → List Int → List Int × Int
 | [],out => (out,0)
 | x :: xs,out => if Qo (x + Zcx c sh out) = true then ([],12) else ZhT c sh xs (out ++ [x + Zcx c sh out])
def Kq (c:List Int) (sh:Int) (warm res:List Int):List Int × Int :=
 if Zaa c sh = false then ([],2) else if warm.length ≠ c.length then ([],1) else if warm.any Qo = true then ([],12) else if res.any Qo = true then ([],12) else ZhT c sh res warm
theorem ZpW {c:List Int} {sh:Int}:∀ (xs out:List Int),(ZhT c sh xs out).1.length ≤ out.length + xs.length
 | [],out => Nat.le_refl _
 | x :: xs,out => by
  unfold ZhT
  split
  ·simp
  ·have:=ZpW (c:=c) (sh:=sh) xs (out ++ [x + Zcx c sh out])
   rw [Wm,List.length_singleton] at this
   rw [List.length_cons]
   omega
theorem ZvD {x:Int} (h:Qo x = false):ZI x:=by
 unfold Qo at h
 rw [decide_eq_false_iff_not] at h
 unfold ZI
 omega
theorem Zz6 (k:Nat) {c warm res:List Int} {sh:Int} (hk:1000 < k) (hc:c.length ≤ 8192) (hw:warm.length ≤ 900) (hr:res.length ≤ 900) :
  ZaY k ((c,sh,()),warm,res,()) = some (((Kq c sh warm res).1,(Kq c sh warm res).2,()),()):=by
 show Zes k (ZkA k) _ = _
 simp only [Zes]
 rw [Zo7 k c sh (by omega)]
 simp only [Qq]
 unfold Kq
 cases hm:Zaa c sh with
 | false => rfl
 | true =>
  simp only [if_true,Bool.true_eq_false,if_false]
  rw [show ((0:Int) != 0) = false from rfl]
  simp only [cond_false]
  rw [ZY]
  by_cases hl:warm.length = c.length
  ·rw [Zk (by simp [hl]),if_neg (by simpa using hl),Zau k warm (by omega) (by omega)]
   simp only [Qq]
   cases hw1:warm.any Qo with
   | true => rfl
   | false =>
    simp only [cond_false,Bool.false_eq_true,if_false]
    rw [Zau k res (by omega) (by omega)]
    simp only [Qq]
    cases hr1:res.any Qo with
    | true => rfl
    | false =>
     simp only [cond_false,Bool.false_eq_true,if_false]
     have ecl:ZiJ k (warm,()) = some (warm,()):=by show Kt _ = _; unfold Kt; rw [Zc (by simp only; omega)]
     rw [ecl]
     simp only [Qq]
     obtain ⟨h8,hsh,hco⟩:=ZdC hm
     have:=ZF (A:=List Int) (R:=(List Int × Int × Unit) × Unit) (step:=fun L1 => Zbk k L1)
      (fun i out => (Int.ofNat res.length,Int.ofNat i,res,c,sh,out)) res
      (fun l' out => some (((ZhT c sh l' out).1,(ZhT c sh l' out).2,()),()))
      (fun i out => c.length ≤ out.length ∧ out.length = warm.length + i ∧ ∀ x ∈ out,ZI x)
      (fun L out _ => by simp only [Zbk]; rw [Zk (W2 _)]; rfl)
      (fun L i hi out ho hL => by
       simp only [Zbk]
       rw [Zc (ltR hi),Zc (inR hi),Zo8 k (by omega) h8 ho.1 (by omega) hsh hco ho.2.2,ZW hi]
       simp only [Qq]
       have hx:=YR hr1 res[i] (List.getElem_mem hi)
       have hp:=ZjL (sh:=sh) hco ho.2.2 h8
       unfold ZI at hx
       rw [Qp (n:=res[i] + Zcx c sh out) (by omega),ZiH]
       simp only [Qq]
       unfold ZhT
       cases hwi:Qo (res[i] + Zcx c sh out) with
       | true => rfl
       | false =>
        simp only [cond_false,Bool.false_eq_true,if_false]
        rw [Zc (by simp only [List.length_singleton]; omega),QZ hi (by omega)]
        exact hL _ ⟨by simp; omega,by simp; omega,fun x hx => by
         rcases List.mem_append.1 hx with h | h
         ·exact ho.2.2 x h
         ·rw [List.mem_singleton.1 h]; exact ZvD hwi⟩)
      k 0 warm ⟨by omega,by omega,YR hw1⟩ (by omega) (Nat.zero_le _)
     rw [List.drop_zero] at this
     exact this
  ·rw [Zc (by simp only [QW]; omega),if_pos hl]
abbrev IS:=List Bool × Int
def gI (w:Nat) (s:IS):Nat × IS:=if s.2 = 0 then ((ZO w s.1).1,(ZO w s.1).2.2,(ZO w s.1).2.1) else (0,s)
def mI (ok:Bool) (s:IS) (code:Int):IS:=if s.2 = 0 ∧ ok = false then (s.1,code) else s
theorem QB {b:List Int} {s:IS} (h:Zl b s.1) (w:Nat):Zl b (gI w s).2.1:=by
 unfold gI
 split
 ·exact Qf h w
 ·exact h
theorem Qz {b:List Int} {s:IS} (h:Zl b s.1) (ok:Bool) (code:Int):Zl b (mI ok s code).1:=by
 unfold mI
 split
 ·exact h
 ·exact h
theorem ZMf (w:Nat) (s:IS):(gI w s).1 < 2 ^ w:=by
 unfold gI
 split
 ·exact ZeY w _
 ·exact Nat.pow_pos (by omega)
theorem Zbg (k:Nat) {b:List Int} (hb:ZM b = true) (hn:b.length < 268435456) (hk:100 < k) {s:IS} (hs:Zl b s.1) {w:Nat} (hw:w ≤ 32) :
  Yn k ((Y2 b s.1,s.2,()),(w:Int),()) = some ((((gI w s).1:Nat):Int),(Y2 b (gI w s).2.1,(gI w s).2.2,()),()):=by
 show Zel k _ = _
 simp only [Zel]
 unfold gI
 rw [ZP]
 by_cases h:s.2 = 0
 ·rw [Zc h,if_pos h,Ye k hb (by omega) hs hw hk]
  rfl
 ·rw [Zk h,if_neg h]
  rfl
theorem Yf (k:Nat) {b:List Int} {s:IS} (ok:Bool):WM k ((Y2 b s.1,s.2,()),ok,()) = some ((),(Y2 b (mI ok s 2).1,(mI ok s 2).2,()),()):=by
 show Zek k _ = _
 simp only [Zek]
 unfold mI
 rw [ZP]
 by_cases h:s.2 = 0
 ·rw [Zc h]
  cases ok with
  | false => rw [if_pos ⟨h,rfl⟩]; rfl
  | true => rw [if_neg (by simp)]; rfl
 ·rw [Zk h,if_neg (fun hh => h hh.1)]
def ZbD (n:Nat):Bool:=n = 0 ∨ n = 1 ∨ 8 ≤ n ∧ n ≤ 12 ∨ 32 ≤ n ∧ n ≤ 39
theorem ZzV (k n:Nat):ZlU k ((n:Int),()) = some (ZbD n,()):=by
 show Zem k _ = _
 simp only [Zem]
 unfold ZbD
 rw [ZP,ZP]
 by_cases h0:n = 0
 ·rw [Zc (by omega),WH (by omega)]
 ·rw [Zk (by omega)]
  by_cases h1:n = 1
  ·rw [Zc (by omega),WH (by omega)]
  ·rw [Zk (by omega)]
   by_cases h8:8 ≤ n
   ·rw [Zc (by omega)]
    by_cases h12:n ≤ 12
    ·rw [Zc (by omega),WH (by omega)]
    ·rw [Zk (by omega)]
     by_cases h31:31 < n
     ·rw [Zc (by omega)]
      by_cases h39:n ≤ 39
      ·rw [WH (by omega),WH (by omega)]
      ·rw [WG (by omega),WG (by omega)]
     ·rw [Zk (by omega),WG (by omega)]
   ·rw [Zk (by omega),Zk (by omega),WG (by omega)]
def Xx (w:Nat):Nat → IS → List Int → List Int × IS
 | 0,s,acc => (acc,s)
 | n + 1,s,acc => if s.2 = 0 then Xx w n ((Wr w s.1).2.2,(Wr w s.1).2.1) (acc ++ [(Wr w s.1).1]) else Xx w n s (acc ++ [0])
theorem Xy {b:List Int} {w:Nat}:∀ (n:Nat) (s:IS) (acc:List Int),Zl b s.1 → Zl b (Xx w n s acc).2.1
 | 0,s,acc,h => h
 | n + 1,s,acc,h => by
  unfold Xx
  split
  ·exact Xy n _ _ (Zcd h w)
  ·exact Xy n _ _ h
theorem Km {w:Nat}:∀ (n:Nat) (s:IS) (acc:List Int),(Xx w n s acc).1.length = acc.length + n
 | 0,s,acc => rfl
 | n + 1,s,acc => by
  unfold Xx
  split
  ·rw [Km n,Wm,List.length_singleton]; omega
  ·rw [Km n,Wm,List.length_singleton]; omega
theorem Zbj (k:Nat) {b:List Int} (hb:ZM b = true) (hn:b.length < 268435456) (hk:1000 < k) {s:IS} (hs:Zl b s.1) {w n:Nat} (hw:w ≤ 32) (hnn:n ≤ 512) :
  K2 k ((Y2 b s.1,s.2,()),(n:Int),(w:Int),()) = some ((Xx w n s []).1,(Y2 b (Xx w n s []).2.1,(Xx w n s []).2.2,()),()):=by
 show Zeq k (Zkw k) _ = _
 simp only [Zeq]
 suffices H:∀ (d m i:Nat) (s:IS) (acc:List Int),Zl b s.1 → d < m → i + d ≤ 512 → acc.length = i →
   Zs (fun L1 => Zbi k L1) m (((i + d:Nat):Int),(i:Int),(w:Int),s.2,b,((ZR b s.1:Nat):Int),acc) = some ((Xx w d s acc).1,(Y2 b (Xx w d s acc).2.1,(Xx w d s acc).2.2,()),()) by
  have:=H n k 0 s [] hs (by omega) (by omega) rfl
  rw [Nat.zero_add] at this
  exact this
 intro d
 induction d with
 | zero =>
  intro m i s acc hs hm hi ha
  obtain ⟨m,rfl⟩:=Zv hm
  rw [Zj]
  simp only [Zbi]
  rw [Zk (by omega)]
  rfl
 | succ d ih =>
  intro m i s acc hs hm hi ha
  obtain ⟨m,rfl⟩:=Zv (show 0 < m by omega)
  rw [Zj]
  simp only [Zbi]
  have e2:IntKind.i64.wrap ((i:Int) + 1) = ((i + 1:Nat):Int):=by rw [Qp (by omega)]; rfl
  rw [Zc (by omega),ZP]
  unfold Xx
  by_cases h:s.2 = 0
  ·rw [Zc h,if_pos h,Zo6 k hb (by omega) hs hw (by omega)]
   simp only [Qq]
   rw [Zc (by simp only [List.length_singleton]; omega),e2]
   have:=ih m (i + 1) ((Wr w s.1).2.2,(Wr w s.1).2.1) (acc ++ [(Wr w s.1).1]) (Zcd hs w) (by omega) (by omega) (by simp; omega)
   rw [show i + 1 + d = i + (d + 1) by omega] at this
   exact this
  ·rw [Zk h,if_neg h,Zc (by omega),e2]
   have:=ih m (i + 1) s (acc ++ [0]) hs (by omega) (by omega) (by simp; omega)
   rw [show i + 1 + d = i + (d + 1) by omega] at this
   exact this
def Zai (s:IS):IS:=mI ((gI 1 s).1 == 0) (gI 1 s).2 2
def Yj (s:IS):Nat × IS:=((gI 6 s).1,mI (ZbD (gI 6 s).1) (gI 6 s).2 2)
def ZbS (kind depth:Nat) (s:IS):Nat × Nat × IS :=
 if (gI 1 s).1 = 1 ∧ (gI 1 s).2.2 = 0 then (kind,(unS (gI 1 s).2.1).1 + 1,mI (decide ((unS (gI 1 s).2.1).1 + 1 < depth)) ((unS (gI 1 s).2.1).2.2,(unS (gI 1 s).2.1).2.1) 2)
 else (kind,0,mI (decide (0 < depth)) (gI 1 s).2 2)
def ZS (depth:Nat) (s:IS):Nat × Nat × IS:=ZbS (Yj (Zai s)).1 depth (Yj (Zai s)).2
theorem Wc (a b:Nat):((a:Int) == (b:Int)) = (a == b):=by
 rw [Bool.eq_iff_iff,beq_iff_eq,beq_iff_eq]
 omega
theorem Zxu {b:List Int} {s:IS} (h:Zl b s.1) (kind d:Nat):Zl b (ZbS kind d s).2.2.1:=by
 unfold ZbS
 split
 ·exact Qz (s:=(_,_)) (ZbW (QB h _)) _ _
 ·exact Qz (QB h _) _ _
theorem ZnS {b:List Int} {s:IS} (h:Zl b s.1):Zl b (Zai s).1:=Qz (QB h _) _ _
theorem ZnT {b:List Int} {s:IS} (h:Zl b s.1):Zl b (Yj s).2.1:=Qz (QB h _) _ _
theorem Zh1 {b:List Int} {s:IS} (h:Zl b s.1) (d:Nat):Zl b (ZS d s).2.2.1:=Zxu (ZnT (ZnS h)) _ _
theorem ZEi (k:Nat) {b:List Int} (hb:ZM b = true) (hn:b.length < 268435456) (hk:8 * b.length + 1000 < k) {s:IS} (hs:Zl b s.1) (d:Nat) :
  ZuI k ((Y2 b s.1,s.2,()),(d:Int),()) = some (((((ZS d s).1:Nat):Int),(((ZS d s).2.1:Nat):Int),()),(Y2 b (ZS d s).2.2.1,(ZS d s).2.2.2,()),()):=by
 show Zhy k _ = _
 simp only [Zhy]
 refine (Zg (Zbg k hb hn (by omega) hs (w:=1) (by omega)) _).trans ?_
 refine (Zg (Yf k (s:=(gI 1 s).2) _) _).trans ?_
 rw [show ((((gI 1 s).1:Nat):Int) == (0:Int)) = ((gI 1 s).1 == 0) from Wc _ 0]
 have r2:=ZnS hs
 unfold ZS
 change ((Yn k ((Y2 b (Zai s).1,(Zai s).2,()),6,())).bind _) = _
 generalize Zai s = s1 at r2 ⊢
 refine (Zg (Zbg k hb hn (by omega) r2 (w:=6) (by omega)) _).trans ?_
 refine (Zg (ZzV k (gI 6 s1).1) _).trans ?_
 refine (Zg (Yf k (s:=(gI 6 s1).2) _) _).trans ?_
 have r4:=ZnT r2
 change ((Yn k ((Y2 b (Yj s1).2.1,(Yj s1).2.2,()),1,())).bind fun y_3 => bif y_3.1 == (1:Int) then bif y_3.2.1.2.1 == (0:Int) then (ZfM k ((y_3.2.1.1.1,y_3.2.1.1.2.1,()),())).bind fun y_4 => (WM k (((y_4.2.1.1,y_4.2.1.2.1,()),y_4.1.2.1,()),decide (IntKind.i64.wrap (y_4.1.1 + (1:Int)) < d),())).bind fun y_5 => some (((((Yj s1).1:Nat):Int),IntKind.i64.wrap (y_4.1.1 + (1:Int)),()),((y_5.2.1.1.1,y_5.2.1.1.2.1,()),y_5.2.1.2.1,()),())
  else (WM k (((y_3.2.1.1.1,y_3.2.1.1.2.1,()),y_3.2.1.2.1,()),decide ((0:Int) < d),())).bind fun y_4 => some (((((Yj s1).1:Nat):Int),0,()),((y_4.2.1.1.1,y_4.2.1.1.2.1,()),y_4.2.1.2.1,()),())
  else (WM k (((y_3.2.1.1.1,y_3.2.1.1.2.1,()),y_3.2.1.2.1,()),decide ((0:Int) < d),())).bind fun y_4 => some (((((Yj s1).1:Nat):Int),0,()),((y_4.2.1.1.1,y_4.2.1.1.2.1,()),y_4.2.1.2.1,()),())) = _
 generalize (Yj s1).1 = kind
 generalize (Yj s1).2 = s2 at r4 ⊢
 unfold ZbS
 have r5:=QB r4 1
 refine (Zg (Zbg k hb hn (by omega) r4 (w:=1) (by omega)) _).trans ?_
 simp only
 rw [show ((((gI 1 s2).1:Nat):Int) == (1:Int)) = ((gI 1 s2).1 == 1) from Wc _ 1]
 have fin0:((WM k ((Y2 b (gI 1 s2).2.1,(gI 1 s2).2.2,()),decide ((0:Int) < (d:Int)),())).bind fun y_4 => some ((((kind:Nat):Int),0,()),((y_4.2.1.1.1,y_4.2.1.1.2.1,()),y_4.2.1.2.1,()),())) =
   some ((((kind:Nat):Int),(((0:Nat):Int)),()),(Y2 b (mI (decide (0 < d)) (gI 1 s2).2 2).1,(mI (decide (0 < d)) (gI 1 s2).2 2).2,()),()):=by
  refine (Zg (Yf k (s:=(gI 1 s2).2) _) _).trans ?_
  have:decide ((0:Int) < (d:Int)) = decide (0 < d):=by
   by_cases h:0 < d
   ·rw [WH h,WH (by omega)]
   ·rw [WG h,WG (by omega)]
  rw [this]
  rfl
 by_cases h1:(gI 1 s2).1 = 1
 ·rw [show ((gI 1 s2).1 == 1) = true from by simp [h1]]
  simp only [cond_true]
  rw [ZP]
  by_cases h2:(gI 1 s2).2.2 = 0
  ·rw [Zc h2,if_pos ⟨h1,h2⟩]
   refine (Zg (ZoU k hb (by omega) r5 (by omega)) _).trans ?_
   have hu:=ZFc (r:=(gI 1 s2).2.1)
   have hl:=r5.len
   have e1:IntKind.i64.wrap ((((unS (gI 1 s2).2.1).1:Nat):Int) + 1) = (((unS (gI 1 s2).2.1).1 + 1:Nat):Int):=by rw [Qp (by omega)]; rfl
   simp only
   rw [e1]
   refine (Zg (Yf k (b:=b) (s:=((unS (gI 1 s2).2.1).2.2,(unS (gI 1 s2).2.1).2.1)) _) _).trans ?_
   have:decide ((((unS (gI 1 s2).2.1).1 + 1:Nat):Int) < (d:Int)) = decide ((unS (gI 1 s2).2.1).1 + 1 < d):=by
    by_cases h:(unS (gI 1 s2).2.1).1 + 1 < d
    ·rw [WH h,WH (by omega)]
    ·rw [WG h,WG (by omega)]
   rw [this]
  ·rw [Zk h2,if_neg (fun h => h2 h.2)]
   exact fin0
 ·rw [show ((gI 1 s2).1 == 1) = false from by simp [h1]]
  simp only [cond_false]
  rw [if_neg (fun h => h1 h.1)]
  exact fin0
end Go.Sh
namespace Go.Sh
open Go Go.Proofs
def Za5 (coefs:List Int) (sh:Int) (c n:Nat) (warm:List Int) (s:IS):List Int × IS :=
 if (Yy n c s.1).2.1 ≠ 0 then ([],((Yy n c s.1).2.2,(Yy n c s.1).2.1))
 else ((Kq coefs sh warm (Yy n c s.1).1).1,((Yy n c s.1).2.2,(Kq coefs sh warm (Yy n c s.1).1).2))
def Kz (s:IS):IS:=mI ((gI 4 s).1 == 11) (gI 4 s).2 2
def Q6 (s:IS):Nat × IS:=((gI 5 s).1,mI (decide ((gI 5 s).1 ≤ 15)) (gI 5 s).2 2)
def Zct (c n:Nat) (warm:List Int) (sh:Nat) (x:List Int × IS):List Int × IS :=
 if x.2.2 ≠ 0 then ([],x.2) else Za5 x.1 sh c n warm x.2
def Zan (num:Bool) (c n:Nat) (w:List Int × IS):List Int × IS :=
 if num = true then Zct c n w.1 (Q6 (Kz w.2)).1 (Xx 12 c (Q6 (Kz w.2)).2 [])
 else if w.2.2 ≠ 0 then ([],w.2) else Za5 (Xh (min 4 c)) 0 c n w.1 w.2
def Zfa (num:Bool) (c n depth:Nat) (s:IS):List Int × IS :=
 if (mI (decide (c ≤ n)) s 2).2 ≠ 0 then ([],mI (decide (c ≤ n)) s 2) else Zan num c n (Xx depth c (mI (decide (c ≤ n)) s 2) [])
def Wy (kind n depth:Nat) (s:IS):List Int × IS :=
 if kind = 0 then (List.replicate n ((Xx depth 1 s []).1.headD 0),(Xx depth 1 s []).2)
 else if kind = 1 then Xx depth n s []
 else if 31 < kind then Zfa true (kind - 31) n depth s else Zfa false (kind - 8) n depth s
theorem Zjp {m n o p:Nat}:∀ (d i:Nat) (r:List Bool) (acc:List Int),(Q2 m n o p d i r acc).1.length ≤ acc.length + d * (n / 2 ^ p)
 | 0,_,r,acc => by simp [Q2]
 | d + 1,i,r,acc => by
  unfold Q2
  have hle:(n / 2 ^ p - if i = 0 then o else 0) ≤ n / 2 ^ p:=Nat.sub_le _ _
  generalize (n / 2 ^ p - if i = 0 then o else 0) = cnt at hle ⊢
  have h1:=ZpO m cnt r
  rw [Nat.add_mul,Nat.one_mul]
  split
  ·simp
  ·have:=Zjp (m:=m) (n:=n) (o:=o) (p:=p) d (i + 1) (XT m cnt r).2.2 (acc ++ (XT m cnt r).1)
   rw [Wm] at this
   omega
theorem ZpX {n o:Nat} (r:List Bool):(Yy n o r).1.length ≤ n:=by
 unfold Yy
 repeat' split
 all_goals try simp
 rename_i hf
 have hf:ZcD n o (ZO 4 (ZO 2 r).2.2).1 = true:=by simpa using hf
 unfold ZcD at hf
 simp only [Bool.and_eq_true,decide_eq_true_eq] at hf
 have:=Zjp (m:=(ZO 2 r).1) (n:=n) (o:=o) (p:=(ZO 4 (ZO 2 r).2.2).1) (2 ^ (ZO 4 (ZO 2 r).2.2).1) 0 (ZO 4 (ZO 2 r).2.2).2.2 []
 rw [List.length_nil,Nat.zero_add] at this
 refine Nat.le_trans this ?_
 rw [Nat.mul_comm]
 exact Nat.div_mul_le_self _ _
theorem ZaH {ok:Bool} {s:IS} {code:Int} (hc:code ≠ 0):(mI ok s code).2 = 0 ↔ s.2 = 0 ∧ ok = true:=by
 unfold mI
 split
 ·rename_i h
  exact ⟨fun e => absurd e hc,fun e => by rw [h.2] at e; exact absurd e.2 (by simp)⟩
 ·rename_i h
  constructor
  ·intro e
   refine ⟨e,?_⟩
   cases ok with
   | true => rfl
   | false => exact absurd ⟨e,rfl⟩ h
  ·exact fun e => e.1
theorem Zh2 {d:Nat} {s:IS} (h:(ZS d s).2.2.2 = 0):(ZS d s).2.1 < d ∧ ZbD (ZS d s).1 = true:=by
 unfold ZS at h ⊢
 have hk:(Yj (Zai s)).2.2 = 0 → ZbD (Yj (Zai s)).1 = true:=fun h => ((ZaH (by decide)).1 h).2
 generalize (Yj (Zai s)).1 = kind at h hk ⊢
 generalize (Yj (Zai s)).2 = s2 at h hk ⊢
 have g0:(gI 1 s2).2.2 = 0 → s2.2 = 0:=by
  unfold gI
  split
  ·rename_i h; exact fun _ => h
  ·exact fun e => e
 unfold ZbS at h ⊢
 split
 ·rename_i hc
  rw [if_pos hc] at h
  have:=(ZaH (by decide)).1 h
  exact ⟨of_decide_eq_true this.2,hk (g0 hc.2)⟩
 ·rename_i hc
  rw [if_neg hc] at h
  have:=(ZaH (by decide)).1 h
  exact ⟨of_decide_eq_true this.2,hk (g0 this.1)⟩
theorem Zlo {b:List Int} {coefs warm:List Int} {sh:Int} {c n:Nat} {s:IS} (h:Zl b s.1):Zl b (Za5 coefs sh c n warm s).2.1:=by
 unfold Za5
 split
 ·exact ZnJ h _ _
 ·exact ZnJ h _ _
theorem Zos {coefs warm:List Int} {sh:Int} {c n:Nat} {s:IS}:(Za5 coefs sh c n warm s).1.length ≤ warm.length + n:=by
 unfold Za5
 split
 ·simp
 ·have h1:=ZpX (n:=n) (o:=c) s.1
  simp only
  unfold Kq
  repeat' split
  all_goals try simp
  have:=ZpW (c:=coefs) (sh:=sh) (Yy n c s.1).1 warm
  omega
theorem Zlx {b:List Int} {s:IS} (h:Zl b s.1):Zl b (Kz s).1:=Qz (QB h _) _ _
theorem Zly {b:List Int} {s:IS} (h:Zl b s.1):Zl b (Q6 s).2.1:=Qz (QB h _) _ _
theorem ZvV {b:List Int} {c n:Nat} {warm:List Int} {sh:Nat} {x:List Int × IS} (h:Zl b x.2.1):Zl b (Zct c n warm sh x).2.1:=by
 unfold Zct
 split
 ·exact h
 ·exact Zlo h
theorem ZvW {b:List Int} {num:Bool} {c n:Nat} {w:List Int × IS} (h:Zl b w.2.1):Zl b (Zan num c n w).2.1:=by
 unfold Zan
 split
 ·exact ZvV (Xy _ _ _ (Zly (Zlx h)))
 ·split
  ·exact h
  ·exact Zlo h
theorem Zln {b:List Int} {num:Bool} {c n d:Nat} {s:IS} (h:Zl b s.1):Zl b (Zfa num c n d s).2.1:=by
 unfold Zfa
 split
 ·exact Qz h _ _
 ·exact ZvW (Xy _ _ _ (Qz h _ _))
theorem ZvU {b:List Int} {kind n d:Nat} {s:IS} (h:Zl b s.1):Zl b (Wy kind n d s).2.1:=by
 unfold Wy
 split
 ·exact Xy _ _ _ h
 ·split
  ·exact Xy _ _ _ h
  ·split
   ·exact Zln h
   ·exact Zln h
theorem Zoq {num:Bool} {c n d:Nat} {s:IS} (hc:c ≤ 8):(Zfa num c n d s).1.length ≤ 8 + n:=by
 unfold Zfa
 split
 ·simp
 ·have hl:=Km (w:=d) c (mI (decide (c ≤ n)) s 2) []
  generalize Xx d c (mI (decide (c ≤ n)) s 2) [] = w at hl
  simp only [List.length_nil,Nat.zero_add] at hl
  unfold Zan Zct
  repeat' split
  all_goals try simp
  ·have:=Zos (coefs:=(Xx 12 c (Q6 (Kz w.2)).2 []).1) (warm:=w.1) (sh:=((Q6 (Kz w.2)).1:Nat)) (c:=c) (n:=n) (s:=(Xx 12 c (Q6 (Kz w.2)).2 []).2)
   omega
  ·have:=Zos (coefs:=Xh (min 4 c)) (warm:=w.1) (sh:=0) (c:=c) (n:=n) (s:=w.2)
   omega
theorem Zop {kind n d:Nat} {s:IS} (hk:ZbD kind = true):(Wy kind n d s).1.length ≤ 8 + n:=by
 have hk:=of_decide_eq_true hk
 unfold Wy
 split
 ·simp
 ·split
  ·rw [Km]; simp
  ·split
   ·exact Zoq (by omega)
   ·exact Zoq (by omega)
abbrev BT:=List Int × ((List Int × Int × Unit) × Int × Unit) × Unit
theorem ZIA (k:Nat) {b:List Int} (hb:ZM b = true) (hn:b.length < 268435456) (hk:8 * b.length + 50000 < k) {s:IS} (hs:Zl b s.1) {coefs warm:List Int} (hco:coefs.length ≤ 8192) (hw:warm.length ≤ 8) {sh:Int} {n c:Nat} (hnn:n ≤ 512) :
  ((ZaX k (Y2 b s.1,(n:Int),(c:Int),())).bind fun y_2 => bif y_2.1.2.1 != (0:Int) then some (([],((y_2.2.1.1,y_2.2.1.2.1,()),y_2.1.2.1,()),()):BT) else (ZaY k ((coefs,sh,()),warm,y_2.1.1,())).bind fun y => some (y.1.1,((y_2.2.1.1,y_2.2.1.2.1,()),y.1.2.1,()),())) =
   some ((Za5 coefs sh c n warm s).1,(Y2 b (Za5 coefs sh c n warm s).2.1,(Za5 coefs sh c n warm s).2.2,()),()):=by
 refine (Zg (Zz4 k hb hn hs hk n c) _).trans ?_
 unfold Za5
 simp only
 rw [ZY]
 by_cases h:(Yy n c s.1).2.1 = 0
 ·rw [Zk (by simpa using h),if_neg (by simpa using h)]
  have hl:=ZpX (n:=n) (o:=c) s.1
  exact Zg (Zz6 k (by omega) hco (by omega) (by omega)) _
 ·rw [Zc h,if_pos h]
theorem ZEj (k:Nat) {b:List Int} (hb:ZM b = true) (hn:b.length < 268435456) (hk:8 * b.length + 50000 < k) {s:IS} (hs:Zl b s.1) {kind n d:Nat} (hkd:ZbD kind = true) (h1:1 ≤ n) (hnn:n ≤ 512) (hd:d ≤ 32) :
  ZuJ k ((Y2 b s.1,s.2,()),(kind:Int),(n:Int),(d:Int),()) = some ((Wy kind n d s).1,(Y2 b (Wy kind n d s).2.1,(Wy kind n d s).2.2,()),()):=by
 show Zhz k _ = _
 simp only [Zhz]
 have hkd:=of_decide_eq_true hkd
 unfold Wy
 rw [ZP,ZP]
 by_cases h0:kind = 0
 ·rw [Zc (by omega),if_pos h0]
  refine (Zg (Zbj k hb hn (by omega) hs (w:=d) (n:=1) hd (by omega)) _).trans ?_
  have hl:=Km (w:=d) 1 s []
  generalize Xx d 1 s [] = w at hl
  obtain ⟨w1,w2⟩:=w
  match w1,hl with
  | [x],_ =>
   refine (Zg (Zz0 k x h1 hnn (by omega)) _).trans ?_
   rfl
 ·rw [Zk (by omega),if_neg h0]
  by_cases hk1:kind = 1
  ·rw [Zc (by omega),if_pos hk1]
   exact Zg (Zbj k hb hn (by omega) hs (w:=d) (n:=n) hd hnn) _
  ·rw [Zk (by omega),if_neg hk1]
   by_cases h31:31 < kind
   ·simp only [Zc (show (31:Int) < (kind:Int) by omega)]
    rw [if_pos h31]
    have ec:IntKind.i64.wrap ((kind:Int) - 31) = ((kind - 31:Nat):Int):=by rw [Qp (by omega)]; omega
    simp only [ec]
    have hc8:kind - 31 ≤ 8:=by omega
    generalize kind - 31 = c at hc8
    have edn:decide ((c:Int) ≤ (n:Int)) = decide (c ≤ n):=by
     by_cases h:c ≤ n
     ·rw [WH h,WH (by omega)]
     ·rw [WG h,WG (by omega)]
    rw [edn]
    refine (Zg (Yf k (s:=s) _) _).trans ?_
    unfold Zfa
    have r1:=Qz hs (decide (c ≤ n)) 2
    generalize mI (decide (c ≤ n)) s 2 = s1 at r1 ⊢
    simp only
    rw [ZY]
    by_cases he:s1.2 = 0
    ·rw [Zk (by simpa using he),if_neg (show ¬ s1.2 ≠ 0 by simpa using he)]
     refine (Zg (Zbj k hb hn (by omega) r1 (w:=d) (n:=c) hd (by omega)) _).trans ?_
     have r2:=Xy (w:=d) c s1 [] r1
     have hl:=Km (w:=d) c s1 []
     generalize Xx d c s1 [] = w at r2 hl ⊢
     simp only [List.length_nil,Nat.zero_add] at hl
     have e4:(if (4:Int) < (c:Int) then (4:Int) else (c:Int)) = ((min 4 c:Nat):Int):=by split <;> omega
     simp only
     rw [e4]
     refine (Zg (Zip k (min 4 c) (by omega) (by omega)) _).trans ?_
     unfold Zan
     rw [if_pos rfl]
     refine (Zg (Zbg k hb hn (by omega) r2 (w:=4) (by omega)) _).trans ?_
     refine (Zg (Yf k (s:=(gI 4 w.2).2) _) _).trans ?_
     rw [show ((((gI 4 w.2).1:Nat):Int) == (11:Int)) = ((gI 4 w.2).1 == 11) from Wc _ 11]
     have r3:=Zlx r2
     change ((Yn k ((Y2 b (Kz w.2).1,(Kz w.2).2,()),5,())).bind _) = _
     generalize Kz w.2 = s3 at r3 ⊢
     refine (Zg (Zbg k hb hn (by omega) r3 (w:=5) (by omega)) _).trans ?_
     refine (Zg (Yf k (s:=(gI 5 s3).2) _) _).trans ?_
     have e15:decide ((((gI 5 s3).1:Nat):Int) ≤ 15) = decide ((gI 5 s3).1 ≤ 15):=by
      by_cases h:(gI 5 s3).1 ≤ 15
      ·rw [WH h,WH (by omega)]
      ·rw [WG h,WG (by omega)]
     rw [e15]
     have r4:=Zly r3
     change ((K2 k ((Y2 b (Q6 s3).2.1,(Q6 s3).2.2,()),(c:Int),12,())).bind fun y_6 => bif y_6.2.1.2.1 != (0:Int) then some (([],((y_6.2.1.1.1,y_6.2.1.1.2.1,()),y_6.2.1.2.1,()),()):BT) else (ZaX k ((y_6.2.1.1.1,y_6.2.1.1.2.1,()),(n:Int),(c:Int),())).bind fun y_7 => bif y_7.1.2.1 != (0:Int) then some ([],((y_7.2.1.1,y_7.2.1.2.1,()),y_7.1.2.1,()),()) else (ZaY k ((y_6.1,(((Q6 s3).1:Nat):Int),()),w.1,y_7.1.1,())).bind fun y => some (y.1.1,((y_7.2.1.1,y_7.2.1.2.1,()),y.1.2.1,()),())) = _
     generalize (Q6 s3).1 = sh
     generalize (Q6 s3).2 = s4 at r4 ⊢
     refine (Zg (Zbj k hb hn (by omega) r4 (w:=12) (n:=c) (by omega) (by omega)) _).trans ?_
     have r5:=Xy (w:=12) c s4 [] r4
     have hl5:=Km (w:=12) c s4 []
     generalize Xx 12 c s4 [] = x at r5 hl5 ⊢
     simp only [List.length_nil,Nat.zero_add] at hl5
     unfold Zct
     simp only
     rw [ZY]
     by_cases hx:x.2.2 = 0
     ·rw [Zk (by simpa using hx),if_neg (by simpa using hx)]
      exact ZIA k hb hn hk r5 (by omega) (by omega) hnn
     ·rw [Zc hx,if_pos hx]
    ·rw [Zc he,if_pos he]
   ·simp only [Zk (show ¬ (31:Int) < (kind:Int) by omega)]
    rw [if_neg h31]
    have ec:IntKind.i64.wrap ((kind:Int) - 8) = ((kind - 8:Nat):Int):=by rw [Qp (by omega)]; omega
    simp only [ec]
    have hc8:kind - 8 ≤ 4:=by omega
    generalize kind - 8 = c at hc8
    have edn:decide ((c:Int) ≤ (n:Int)) = decide (c ≤ n):=by
     by_cases h:c ≤ n
     ·rw [WH h,WH (by omega)]
     ·rw [WG h,WG (by omega)]
    rw [edn]
    refine (Zg (Yf k (s:=s) _) _).trans ?_
    unfold Zfa
    have r1:=Qz hs (decide (c ≤ n)) 2
    generalize mI (decide (c ≤ n)) s 2 = s1 at r1 ⊢
    simp only
    rw [ZY]
    by_cases he:s1.2 = 0
    ·rw [Zk (by simpa using he),if_neg (show ¬ s1.2 ≠ 0 by simpa using he)]
     refine (Zg (Zbj k hb hn (by omega) r1 (w:=d) (n:=c) hd (by omega)) _).trans ?_
     have r2:=Xy (w:=d) c s1 [] r1
     have hl:=Km (w:=d) c s1 []
     generalize Xx d c s1 [] = w at r2 hl ⊢
     simp only [List.length_nil,Nat.zero_add] at hl
     have e4:(if (4:Int) < (c:Int) then (4:Int) else (c:Int)) = ((min 4 c:Nat):Int):=by split <;> omega
     simp only
     rw [e4]
     refine (Zg (Zip k (min 4 c) (by omega) (by omega)) _).trans ?_
     unfold Zan
     rw [if_neg (by simp)]
     simp only
     rw [ZY]
     by_cases hx:w.2.2 = 0
     ·rw [Zk (by simpa using hx),if_neg (by simpa using hx)]
      exact ZIA k hb hn hk r2 (by rw [ZmY _ (by omega)]; omega) (by omega) hnn
     ·rw [Zc hx,if_pos hx]
    ·rw [Zc he,if_pos he]
def QI (n d:Nat) (r:List Bool):List Int × Int × List Bool :=
 if ¬ (1 ≤ n ∧ n ≤ 512 ∧ 4 ≤ d ∧ d ≤ 25) then ([],1,r)
 else if (ZS d (r,0)).2.2.2 ≠ 0 then ([],(ZS d (r,0)).2.2.2,(ZS d (r,0)).2.2.1)
 else if (Wy (ZS d (r,0)).1 n (d - (ZS d (r,0)).2.1) (ZS d (r,0)).2.2).2.2 ≠ 0 then ([],(Wy (ZS d (r,0)).1 n (d - (ZS d (r,0)).2.1) (ZS d (r,0)).2.2).2.2,(Wy (ZS d (r,0)).1 n (d - (ZS d (r,0)).2.1) (ZS d (r,0)).2.2).2.1)
 else if (Wy (ZS d (r,0)).1 n (d - (ZS d (r,0)).2.1) (ZS d (r,0)).2.2).1.all (W9 · (d - (ZS d (r,0)).2.1)) = true then
  ((Wy (ZS d (r,0)).1 n (d - (ZS d (r,0)).2.1) (ZS d (r,0)).2.2).1.map (fun x => x * 2 ^ (ZS d (r,0)).2.1),0,(Wy (ZS d (r,0)).1 n (d - (ZS d (r,0)).2.1) (ZS d (r,0)).2.2).2.1)
 else ([],12,(Wy (ZS d (r,0)).1 n (d - (ZS d (r,0)).2.1) (ZS d (r,0)).2.2).2.1)
theorem Zom {b:List Int} {r:List Bool} (h:Zl b r) (n d:Nat):Zl b (QI n d r).2.2:=by
 unfold QI
 have h1:=Zh1 (s:=(r,0)) h d
 repeat' split
 all_goals first | exact h | exact h1 | exact ZvU h1
theorem ZyY {x:Int} {d k:Nat} (hk:k < d) (hd:d ≤ 32) (h:W9 x (d - k) = true):W9 (x * 2 ^ k) d = true ∧ -9223372036854775808 ≤ x * 2 ^ k ∧ x * 2 ^ k ≤ 9223372036854775807:=by
 unfold W9 at h ⊢
 rw [if_neg (by omega),decide_eq_true_eq] at h
 rw [if_neg (by omega),decide_eq_true_eq]
 have hp:(0:Int) < 2 ^ k:=Int.pow_pos (by omega)
 have e:(2:Int) ^ (d - 1) = 2 ^ (d - k - 1) * 2 ^ k:=by rw [← Int.pow_add]; congr 1; omega
 have h1 : -(2 ^ (d - 1):Int) ≤ x * 2 ^ k:=by rw [e,← Int.neg_mul]; exact Int.mul_le_mul_of_nonneg_right h.1 (by omega)
 have h2:x * 2 ^ k < 2 ^ (d - 1):=by rw [e]; exact Int.mul_lt_mul_of_pos_right h.2 hp
 refine ⟨⟨h1,h2⟩,?_⟩
 rw [Wi (d - 1)] at h1 h2
 have:2 ^ (d - 1) ≤ 2 ^ 31:=Nat.pow_le_pow_right (by omega) (by omega)
 generalize 2 ^ (d - 1) = Q at h1 h2 this
 omega
theorem ZDE (k:Nat) {b:List Int} (hb:ZM b = true) (hn:b.length < 268435456) (hk:8 * b.length + 50000 < k) {r:List Bool} (hr:Zl b r) (n d:Nat) :
  Zus k (Y2 b r,(n:Int),(d:Int),()) = some (((QI n d r).1,(QI n d r).2.1,()),Y2 b (QI n d r).2.2,()):=by
 show Zg9 k (ZrB k) _ = _
 simp only [Zg9]
 rw [ZuH]
 simp only [Qq]
 unfold QI
 by_cases h:1 ≤ n ∧ n ≤ 512 ∧ 4 ≤ d ∧ d ≤ 25
 ·rw [if_neg (by simpa using h),WH (by omega)]
  simp only [Bool.not_true,cond_false]
  refine (Zg (ZEi k hb hn (by omega) (s:=(r,0)) hr d) _).trans ?_
  have hz:=Zh2 (d:=d) (s:=(r,0))
  have r1:=Zh1 (s:=(r,0)) hr d
  generalize ZS d (r,0) = hd at hz r1 ⊢
  obtain ⟨kind,kk,s1⟩:=hd
  simp only at hz r1 ⊢
  rw [ZY]
  by_cases he:s1.2 = 0
  ·rw [Zk (by simpa using he),if_neg (by simpa using he)]
   obtain ⟨hkd,hkind⟩:=hz he
   have e1:IntKind.i64.wrap ((d:Int) - (kk:Int)) = ((d - kk:Nat):Int):=by rw [Qp (by omega)]; omega
   rw [e1]
   refine (Zg (ZEj k hb hn hk r1 hkind h.1 h.2.1 (d:=d - kk) (by omega)) _).trans ?_
   have hl:=Zop (kind:=kind) (n:=n) (d:=d - kk) (s:=s1) hkind
   generalize Wy kind n (d - kk) s1 = y at hl ⊢
   simp only
   rw [ZY]
   by_cases hy:y.2.2 = 0
   ·rw [Zk (by simpa using hy),if_neg (by simpa using hy)]
    have:=ZF (A:=List Int) (R:=(List Int × Int × Unit) × (List Int × Int × Unit) × Unit) (step:=fun L1 => Zdd k L1)
     (fun i out => (Int.ofNat y.1.length,Int.ofNat i,y.1,(d:Int),(kk:Int),b,((ZR b y.2.1:Nat):Int),out)) y.1
     (fun l' out => some (if l'.all (W9 · (d - kk)) = true then ((out ++ l'.map (fun x => x * 2 ^ kk),0,()),Y2 b y.2.1,()) else (([],12,()),Y2 b y.2.1,())))
     (fun i out => out.length = i)
     (fun L out _ => by simp only [Zdd]; rw [Zk (W2 _)]; simp)
     (fun L i hi out ho hL => by
      simp only [Zdd]
      rw [Zc (ltR hi),Zc (inR hi),ZW hi,e1,ZuK k _ (by omega) (by omega)]
      simp only [Qq]
      rw [List.all_cons]
      cases hs:W9 y.1[i] (d - kk) with
      | false => simp
      | true =>
       simp only [Bool.not_true,cond_false,Bool.true_and]
       have hsh:=(ZyY hkd (by omega) hs).2
       rw [Zc (by omega),WS,Nat.min_eq_left (by omega),Qp hsh,Zc (by simp only [List.length_singleton]; omega),QZ hi (by omega),hL _ (by simp; omega)]
       simp only [List.map_cons,List.append_assoc,List.singleton_append])
     k 0 [] rfl (by omega) (Nat.zero_le _)
    rw [List.drop_zero] at this
    refine Eq.trans this ?_
    split <;> simp
   ·rw [Zc hy,if_pos hy]
  ·rw [Zc he,if_pos he]
 ·rw [if_pos h,WG (by omega)]
  rfl
end Go.Sh
namespace Go.Sh
open Go Go.Proofs
def YS (x:Nat):Nat:=if x < 128 then 0 else if x < 192 then 1 else if x < 224 then 2 else if x < 240 then 3 else if x < 248 then 4 else if x < 252 then 5 else if x < 254 then 6 else if x < 255 then 7 else 8
theorem ZEJ:∀ x:Fin 256,ZiL 0 (IntKind.u8.wrap (Int.ofNat (BitVec.ofInt 8 255 ^^^ BitVec.ofInt 8 (x.val:Int)).toNat),()) = some (((YS x.val:Nat):Int),()):=by decide +kernel
theorem ZAs (k:Nat) {x:Nat} (h:x < 256):ZiL k (IntKind.u8.wrap (Int.ofNat (BitVec.ofInt 8 255 ^^^ BitVec.ofInt 8 (x:Int)).toNat),()) = some (((YS x:Nat):Int),()):=ZEJ ⟨x,h⟩
theorem ZyN (x:Nat):YS x ≤ 8:=by
 unfold YS
 repeat' split
 all_goals omega
theorem ZEA:∀ (x:Fin 256) (k:Fin 8),IntKind.i64.wrap (Int.ofNat (BitVec.ofInt 64 (IntKind.i64.wrap (x.val:Int)) &&& BitVec.ofInt 64 (Int.fdiv (127:Int) ((2:Int) ^ min k.val 64))).toNat) = ((x.val % 2 ^ (7 - k.val):Nat):Int):=by decide +kernel
def cgL:Nat → List Int → Nat → Nat → Option (Nat × Nat)
 | 0,_,a,g => some (a,g)
 | n + 1,[],a,g => cgL n [] (a * 64) (g * 64 + 63)
 | n + 1,x :: xs,a,g => if x.toNat / 64 = 2 then cgL n xs (a * 64 + x.toNat % 64) (g * 64 + x.toNat % 64) else none
def Zaj (b:List Int):Nat × Nat × Int:=match b with
 | [] => (0,0,10)
 | x :: xs => if YS x.toNat = 0 then (x.toNat,1,0) else if YS x.toNat = 1 then (0,0,2) else if 7 < YS x.toNat then (0,0,2)
  else match cgL (YS x.toNat - 1) xs (x.toNat % 2 ^ (7 - YS x.toNat)) (x.toNat % 2 ^ (7 - YS x.toNat)) with
   | none => (0,0,2)
   | some (a,g) => if g < 2 ^ XV (YS x.toNat - 1) then (0,0,2) else if xs.length + 1 < YS x.toNat then (0,0,10) else (a,YS x.toNat,0)
theorem ZHM {a m:Nat} (ha:a < 1125899906842624) (hm:m < 64):IntKind.i64.wrap (Int.ofNat (BitVec.ofInt 64 (IntKind.i64.wrap ((a:Int) * 64)) ||| BitVec.ofInt 64 (m:Int)).toNat) = ((a * 64 + m:Nat):Int):=by
 have h1:IntKind.i64.wrap ((a:Int) * 64) = ((a * 64:Nat):Int):=by rw [Qp (by omega)]; omega
 rw [h1,orN (by omega) (by omega)]
 have:=Nat.shiftLeft_add_eq_or_of_lt (i:=6) (show m < 2 ^ 6 from hm) a
 rw [Nat.shiftLeft_eq] at this
 rw [show a * 64 = a * 2 ^ 6 from rfl,← this,Qp (by omega)]
theorem ZLs {x:Nat} (hx:x < 256):IntKind.i64.wrap (Int.ofNat (BitVec.ofInt 64 (IntKind.i64.wrap (x:Int)) &&& BitVec.ofInt 64 63).toNat) = ((x % 64:Nat):Int):=by
 rw [Qp (n:=(x:Int)) (by omega),show (63:Int) = ((63:Nat):Int) from rfl,Zy5 (by omega) (by omega),show (63:Nat) = 2 ^ 6 - 1 from rfl,Nat.and_two_pow_sub_one_eq_mod,Qp (by omega)]
theorem ZzT (k:Nat) {b:List Int} (hb:ZM b = true) {kk:Nat} (h2:2 ≤ kk) (h7:kk ≤ 7):∀ (d m i a g:Nat),i + d = kk → 1 ≤ i → d < m → a < 2 ^ (6 * i + 6) → g < 2 ^ (6 * i + 6) →
  Zs (fun L1 => Zbf k L1) m ((i:Int),(kk:Int),b,(a:Int),(g:Int)) = some (match cgL d (b.drop i) a g with
   | none => (0,0,2,())
   | some (a,g) => if g < 2 ^ XV (kk - 1) then (0,0,2,()) else if b.length < kk then (0,0,10,()) else ((a:Int),(kk:Int),0,()),()):=by
 intro d
 induction d with
 | zero =>
  intro m i a g hi h1 hm ha hg
  obtain ⟨m,rfl⟩:=Zv hm
  rw [Zj]
  simp only [Zbf]
  have e1:IntKind.i64.wrap ((kk:Int) - 1) = ((kk - 1:Nat):Int):=by rw [Qp (by omega)]; omega
  rw [Zk (by omega),e1,ZmP k (kk - 1) (by omega)]
  simp only [Qq,cgL]
  have hr:XV (kk - 1) ≤ 31:=by unfold XV; split <;> omega
  rw [Zc (by omega),Zk4 hr]
  by_cases hlt:g < 2 ^ XV (kk - 1)
  ·rw [Zc (by omega),if_pos hlt]
  ·rw [Zk (by omega),if_neg hlt]
   by_cases hl:b.length < kk
   ·rw [Zc (by simp only [QW]; omega),if_pos hl]
   ·rw [Zk (by simp only [QW]; omega),if_neg hl]
 | succ d ih =>
  intro m i a g hi h1 hm ha hg
  obtain ⟨m,rfl⟩:=Zv (show 0 < m by omega)
  rw [Zj]
  simp only [Zbf]
  have hpow:2 ^ (6 * i + 6) ≤ 2 ^ 42:=Nat.pow_le_pow_right (by omega) (by omega)
  have hnext:2 ^ (6 * (i + 1) + 6) = 64 * 2 ^ (6 * i + 6):=by rw [show 6 * (i + 1) + 6 = (6 * i + 6) + 6 by omega,Nat.pow_add]; omega
  have e2:IntKind.i64.wrap ((i:Int) + 1) = ((i + 1:Nat):Int):=by rw [Qp (by omega)]; rfl
  rw [Zc (by omega)]
  by_cases hlt:i < b.length
  ·obtain ⟨x,hx,hxe⟩:=KY hb hlt
   rw [Zc (by simp only [QW]; omega),Zc (by simp only [QW]; omega),WS,YZ hlt,hxe,List.drop_eq_getElem_cons hlt,hxe]
   have hd:((x:Nat):Int).fdiv 64 = ((x / 64:Nat):Int):=by rw [Int.fdiv_eq_ediv_of_nonneg _ (by omega)]; rfl
   rw [hd,ZY]
   simp only [cgL,WS]
   by_cases h64:x / 64 = 2
   ·rw [Zk (by omega),if_pos h64,Zc (by simp only [QW]; omega),ZLs hx,ZHM (by omega) (by omega),ZHM (by omega) (by omega),e2]
    exact ih m (i + 1) _ _ (by omega) (by omega) (by omega) (by omega) (by omega)
   ·rw [Zc (by omega),if_neg h64]
  ·rw [Zk (by simp only [QW]; omega),show (0:Int) = ((0:Nat):Int) from rfl,show (63:Int) = ((63:Nat):Int) from rfl,ZHM (by omega) (by omega),ZHM (by omega) (by omega),e2]
   have hd0:b.drop i = []:=List.drop_eq_nil_of_le (by omega)
   have hd1:b.drop (i + 1) = []:=List.drop_eq_nil_of_le (by omega)
   have:=ih m (i + 1) (a * 64 + 0) (g * 64 + 63) (by omega) (by omega) (by omega) (by omega) (by omega)
   rw [hd1] at this
   rw [hd0]
   exact this
theorem ZzU (k:Nat) {b:List Int} (hb:ZM b = true) (hk:20 < k):ZlT k (b,()) = some (((((Zaj b).1:Nat):Int),(((Zaj b).2.1:Nat):Int),(Zaj b).2.2,()),()):=by
 show Zej k (Zkp k) _ = _
 simp only [Zej]
 match b,hb with
 | [],_ => rfl
 | x :: xs,hb =>
  obtain ⟨y,hy,hye⟩:=KY hb (i:=0) (by simp)
  simp only [List.getElem_cons_zero] at hye
  subst hye
  rw [show (Int.ofNat ((y:Int) :: xs).length == (0:Int)) = false from by rw [ZP,WG]; simp only [QW,List.length_cons]; omega]
  simp only [cond_false]
  have hpos:(0:Int) ≤ 0 ∧ (0:Int) < Int.ofNat ((y:Int) :: xs).length:=by simp only [QW,List.length_cons]; omega
  rw [Zc hpos,show ((y:Int) :: xs).getD 0 0 = (y:Int) from rfl,ZAs k hy]
  simp only [Qq]
  unfold Zaj
  simp only [WS]
  have h8:=ZyN y
  rw [ZP]
  by_cases h0:YS y = 0
  ·rw [Zc (by omega),Zc hpos,if_pos h0,Qp (by omega)]
   rfl
  ·rw [Zk (by omega),if_neg h0,ZP]
   by_cases h1:YS y = 1
   ·rw [Zc (by omega),if_pos h1]
    rfl
   ·rw [Zk (by omega),if_neg h1]
    by_cases h7:7 < YS y
    ·rw [Zc (by omega),if_pos h7]
     rfl
    ·rw [Zk (by omega),if_neg h7,Zc hpos,Zc (by omega),Zc hpos,Zc (by omega)]
     have hm:=ZEA ⟨y,hy⟩ ⟨YS y,by omega⟩
     simp only at hm
     rw [hm]
     have hlt:y % 2 ^ (7 - YS y) < 2 ^ (6 * 1 + 6):=Nat.lt_of_le_of_lt (Nat.mod_le _ _) (by omega)
     refine (ZzT k hb (kk:=YS y) (by omega) (by omega) (YS y - 1) k 1 _ _ (by omega) (by omega) (by omega) hlt hlt).trans ?_
     rw [show ((y:Int) :: xs).drop 1 = xs from rfl]
     cases cgL (YS y - 1) xs (y % 2 ^ (7 - YS y)) (y % 2 ^ (7 - YS y)) with
     | none => rfl
     | some ag =>
      obtain ⟨a,g⟩:=ag
      simp only [List.length_cons]
      by_cases hg:g < 2 ^ XV (YS y - 1)
      ·rw [if_pos hg,if_pos hg]; rfl
      ·rw [if_neg hg,if_neg hg]
       by_cases hl:xs.length + 1 < YS y
       ·rw [if_pos hl,if_pos hl]; rfl
       ·rw [if_neg hl,if_neg hl]
def tgL (m x y:Int):Int:=if m = 9 then x + y else if m = 10 then (2 * x + y % 2 + y) / 2 else x
def tgR (m x y:Int):Int:=if m = 8 then x - y else if m = 10 then (2 * x + y % 2 - y) / 2 else y
theorem ZK9 {x y:Int} (hx:Qt x) (hy:Qt y):IntKind.i64.wrap (Int.ofNat (BitVec.ofInt 64 (IntKind.i64.wrap (x * 2)) ||| BitVec.ofInt 64 (IntKind.i64.wrap (Int.ofNat (BitVec.ofInt 64 y &&& BitVec.ofInt 64 1).toNat))).toNat) = 2 * x + y % 2:=by
 unfold Qt at hx hy
 have e1:IntKind.i64.wrap (Int.ofNat (BitVec.ofInt 64 y &&& BitVec.ofInt 64 1).toNat) = (((y % 2).toNat:Nat):Int):=by
  rw [BitVec.toNat_and,Ko,show (BitVec.ofInt 64 1).toNat = 1 from rfl,Nat.and_one_is_mod]
  have:KK y % 2 = (y % 2).toNat:=by unfold KK; omega
  rw [this,Qp (by simp only [QW]; omega)]
  rfl
 rw [e1,Qp (n:=x * 2) (by omega),BitVec.toNat_or,Ko,Ko]
 have e2:KK (((y % 2).toNat:Nat):Int) = (y % 2).toNat:=by unfold KK; omega
 obtain ⟨q,hq⟩:∃ q,KK (x * 2) = q * 2:=⟨KK (x * 2) / 2,by unfold KK; omega⟩
 have hb:(y % 2).toNat < 2 ^ 1:=by omega
 have:=Nat.shiftLeft_add_eq_or_of_lt hb q
 rw [Nat.shiftLeft_eq] at this
 rw [e2,hq,show q * 2 = q * 2 ^ 1 from rfl,← this]
 have h3:q * 2 = KK (x * 2):=hq.symm
 unfold KK at h3
 rw [IntKind.wrap_i64]
 simp only [QW]
 omega
def Ze8 (m:Int) (A B:List Int):List Int:=(A.zip B).map fun x => tgL m x.1 x.2
def Ze9 (m:Int) (A B:List Int):List Int:=(A.zip B).map fun x => tgR m x.1 x.2
def Yp (x:Int):Bool:=decide (-16777216 ≤ x ∧ x ≤ 16777216)
theorem ZHd (k:Nat) {L R:List Int} (hk:L.length < k) (h:L.length = R.length) (hn:L.length ≤ 8192) :
  ZmH k (L,R,()) = some (if (L.zip R).all (fun x => Yp x.1 && Yp x.2) = true then (ZdA L R,0,()) else ([],12,()),()):=by
 show Zbx k (ZmI k) _ = _
 simp only [Zbx]
 rw [show (Int.ofNat L.length != Int.ofNat R.length) = false from by rw [h]; simp]
 simp only [cond_false]
 rw [Zk (by simp only [QW]; omega)]
 have:=ZF (A:=List (Nat × Nat)) (step:=fun L1 => Kf k L1) (fun i acc => (Int.ofNat L.length,Int.ofNat i,L,R,acc)) (L.zip R)
  (fun l acc => some (if l.all (fun x => Yp x.1 && Yp x.2) = true then (acc ++ l.map (fun x => (FloatKind.f64.nearest x.1,FloatKind.f64.nearest x.2)),0,()) else ([],12,()),())) (fun i acc => acc.length = i)
  (fun L1 acc ha => by
   simp only [Kf]
   rw [List.length_zip,← h,Nat.min_self,Zk (W2 _)]
   simp)
  (fun L1 i hi acc ha hL1 => by
   have hi2:i < L.length:=by simp at hi; omega
   have hi3:i < R.length:=by omega
   simp only [Kf]
   rw [Zc (ltR hi2),Zc (inR hi2),Zc (inR hi3),ZW hi2,ZW hi3,List.all_cons,List.getElem_zip]
   have hok:∀ x:Int,Yp x = true ↔ (¬ x < -16777216 ∧ ¬ 16777216 < x):=by intro x; unfold Yp; rw [decide_eq_true_eq]; omega
   by_cases h1:L[i] < -16777216
   ·have:Yp L[i] = false:=by rw [Bool.eq_false_iff]; intro hh; exact ((hok _).1 hh).1 h1
    rw [Zc h1,this]; rfl
   ·rw [Zk h1]
    by_cases h2:16777216 < L[i]
    ·have:Yp L[i] = false:=by rw [Bool.eq_false_iff]; intro hh; exact ((hok _).1 hh).2 h2
     rw [Zc h2,this]; rfl
    ·have hl:Yp L[i] = true:=(hok _).2 ⟨h1,h2⟩
     rw [Zk h2]
     by_cases h3:R[i] < -16777216
     ·have:Yp R[i] = false:=by rw [Bool.eq_false_iff]; intro hh; exact ((hok _).1 hh).1 h3
      rw [Zc h3,hl,this]; rfl
     ·rw [Zk h3]
      by_cases h4:16777216 < R[i]
      ·have:Yp R[i] = false:=by rw [Bool.eq_false_iff]; intro hh; exact ((hok _).1 hh).2 h4
       rw [Zc h4,hl,this]; rfl
      ·have hr:Yp R[i] = true:=(hok _).2 ⟨h3,h4⟩
       rw [Zk h4,Zc (by simp; omega),QZ hi2 (by omega),hL1 _ (by simp [ha]),hl,hr]
       simp only [Bool.true_and,Bool.and_true,List.map_cons,List.append_assoc,List.singleton_append]) k 0 [] rfl (by simp; omega) (Nat.zero_le _)
 exact Eq.trans this (by rw [List.drop_zero]; rfl)
theorem ZE9 {m x y:Int} (hm:ZhH m) (hx:Qt x) (hy:Qt y) : -300000000 ≤ tgL m x y ∧ tgL m x y ≤ 300000000 ∧ -300000000 ≤ tgR m x y ∧ tgR m x y ≤ 300000000:=by
 unfold Qt at hx hy
 unfold tgL tgR
 rcases hm with rfl | rfl | rfl | rfl
 ·simp; omega
 ·simp; omega
 ·simp; omega
 ·simp; omega
def QR (m:Int) (A B:List Int):List (Nat × Nat) × Int :=
 if A.length ≠ B.length then ([],1) else if ((Ze8 m A B).zip (Ze9 m A B)).all (fun x => Yp x.1 && Yp x.2) = true then (ZdA (Ze8 m A B) (Ze9 m A B),0) else ([],12)
theorem Zvm {xs:List Int} {g:List Int} {i:Nat} {v:Int} (h:i < xs.length) (hx:∀ j (h:j < i),xs[j]? = g[j]?) (hv:g[i]? = some v):∀ j,j < i + 1 → (xs.set i v)[j]? = g[j]? := by
 intro j hj
 rw [List.getElem?_set]
 split
 ·rename_i e; subst e; rw [hv]; try rw [if_pos h]
 ·exact hx j (by omega)
theorem ZDK (k:Nat) {A B:List Int} {m:Int} (hm:ZhH m) (hn:A.length ≤ 600) (hk:1000 < k) (hA:∀ x ∈ A,Qt x) (hB:∀ x ∈ B,Qt x) :
  ZmE k (A,B,m,()) = some (((QR m A B).1,(QR m A B).2,()),()):=by
 show Zhc k (ZrG k) _ = _
 simp only [Zhc]
 rw [ZuM k hm]
 simp only [Qq,Bool.not_true,cond_false]
 by_cases hl:A.length = B.length
 case neg =>
  rw [ZY,Zc (by simp only [QW]; omega)]
  unfold QR
  rw [if_pos hl]
 rw [show (Int.ofNat A.length != Int.ofNat B.length) = false from by rw [hl]; simp]
 simp only [cond_false]
 rw [Zk (by simp only [QW]; omega),Zc (by simp only [QW]; omega),Zc (by simp only [QW]; omega)]
 have hzl:(A.zip B).length = A.length:=by rw [List.length_zip]; omega
 have hLl:(Ze8 m A B).length = A.length:=by unfold Ze8; rw [List.length_map,hzl]
 have hRl:(Ze9 m A B).length = A.length:=by unfold Ze9; rw [List.length_map,hzl]
 have hgL:∀ (i:Nat) (h:i < A.length),(Ze8 m A B)[i]? = some (tgL m A[i] (B[i]'(by omega))):=by
  intro i h
  rw [List.getElem?_eq_getElem (by omega)]
  unfold Ze8
  rw [List.getElem_map,List.getElem_zip]
 have hgR:∀ (i:Nat) (h:i < A.length),(Ze9 m A B)[i]? = some (tgR m A[i] (B[i]'(by omega))):=by
  intro i h
  rw [List.getElem?_eq_getElem (by omega)]
  unfold Ze9
  rw [List.getElem_map,List.getElem_zip]
 have:=ZF (A:=List Int × List Int) (R:=(List (Nat × Nat) × Int × Unit) × Unit) (step:=fun L1 => Zbw k L1)
  (fun i a => (Int.ofNat A.length,Int.ofNat i,A,B,m,a.1,a.2)) A
  (fun l' a => some (((QR m A B).1,(QR m A B).2,()),()))
  (fun i a => a.1.length = A.length ∧ a.2.length = A.length ∧ (∀ j,j < i → a.1[j]? = (Ze8 m A B)[j]?) ∧ (∀ j,j < i → a.2[j]? = (Ze9 m A B)[j]?))
  (fun L a ha => by
   simp only [Zbw]
   rw [Zk (W2 _)]
   have e1:a.1 = Ze8 m A B:=by
    apply List.ext_getElem?
    intro j
    by_cases hj:j < A.length
    ·exact ha.2.2.1 j hj
    ·rw [List.getElem?_eq_none (by omega),List.getElem?_eq_none (by omega)]
   have e2:a.2 = Ze9 m A B:=by
    apply List.ext_getElem?
    intro j
    by_cases hj:j < A.length
    ·exact ha.2.2.2 j hj
    ·rw [List.getElem?_eq_none (by omega),List.getElem?_eq_none (by omega)]
   rw [e1,e2,ZHd k (by omega) (by omega) (by omega)]
   simp only [Qq]
   unfold QR
   rw [if_neg (show ¬ A.length ≠ B.length from fun h => h hl)]
   split <;> rfl)
  (fun L i hi a ha hL => by
   have hi2:i < B.length:=by omega
   have hx:=hA A[i] (List.getElem_mem hi)
   have hy:=hB B[i] (List.getElem_mem hi2)
   have hbd:=ZE9 hm hx hy
   have key:Zbw k L (Int.ofNat A.length,Int.ofNat i,A,B,m,a.1,a.2) = L (Int.ofNat A.length,Int.ofNat (i + 1),A,B,m,a.1.set i (tgL m A[i] B[i]),a.2.set i (tgR m A[i] B[i])):=by
    have hor:=ZK9 hx hy
    unfold Qt at hx hy
    simp only [Zbw]
    rw [Zc (ltR hi),Zc (inR hi),Zc (inR hi2),ZW hi,ZW hi2,Zk (by split <;> omega),Zk (by split <;> omega)]
    have c1:(0:Int) ≤ Int.ofNat i ∧ Int.ofNat i < Int.ofNat a.1.length:=by rw [ha.1]; exact inR hi
    have c2:(0:Int) ≤ Int.ofNat i ∧ Int.ofNat i < Int.ofNat a.2.length:=by rw [ha.2.1]; exact inR hi
    have c3:(Int.ofNat i).toNat < a.1.length:=by rw [ha.1]; simpa using hi
    have c4:(Int.ofNat i).toNat < a.2.length:=by rw [ha.2.1]; simpa using hi
    rw [ZP,ZP,ZP,ZP]
    simp only [WH c1,WH c2,WH c3,WH c4,cond_true]
    rw [hor,QZ hi (by omega)]
    unfold tgL tgR
    rcases hm with rfl | rfl | rfl | rfl
    ·rfl
    ·rw [Qp (n:=A[i] - B[i]) (by omega)]; rfl
    ·rw [Qp (n:=A[i] + B[i]) (by omega)]; rfl
    ·rw [Qp (n:=2 * A[i] + B[i] % 2 + B[i]) (by omega),Qp (n:=2 * A[i] + B[i] % 2 - B[i]) (by omega),Int.fdiv_eq_ediv_of_nonneg _ (by omega),Int.fdiv_eq_ediv_of_nonneg _ (by omega)]
     rfl
   rw [key]
   exact hL (a.1.set i (tgL m A[i] B[i]),a.2.set i (tgR m A[i] B[i])) ⟨by simp [ha.1],by simp [ha.2.1],Zvm (by omega) ha.2.2.1 (hgL i hi),Zvm (by omega) ha.2.2.2 (hgR i hi)⟩)
  k 0 (List.replicate A.length 0,List.replicate A.length 0) ⟨by simp,by simp,fun j hj => by omega,fun j hj => by omega⟩ (by omega) (Nat.zero_le _)
 exact this
theorem ZDL (k:Nat) {p:List (Nat × Nat)} {L R:List Int} (hp:PP p L R) (hk:p.length + 4 < k) (hn:p.length ≤ 8192):ZmG k (p,()) = some ((L,R,0,()),()):=by
 show Zhd k _ = _
 simp only [Zhd]
 rw [ZmL k hp hk hn (.inl rfl)]
 have hlr:L.length = R.length:=by rw [← hp.hl,hp.hr]
 have e1:Ww 0 L R = L:=by
  unfold Ww
  show (L.zip R).map (fun x => x.1) = L
  exact List.map_fst_zip (by omega)
 have e2:Wx 0 L R = R:=by
  unfold Wx
  show (L.zip R).map (fun x => x.2) = R
  exact List.map_snd_zip (by omega)
 rw [e1,e2]
 rfl
end Go.Sh
namespace Go.Sh
open Go Go.Proofs
abbrev InT:=List Int × (List Int × Int × Unit) × Int × Unit
abbrev inp (b:List Int) (s:IS):InT:=(b,Y2 b s.1,s.2,())
theorem XK (k:Nat) {b:List Int} (hb:ZM b = true) (hn:b.length < 268435456) (hk:100 < k) {s:IS} (hs:Zl b s.1) {w:Nat} (hw:w ≤ 32) :
  We k (inp b s,(w:Int),()) = some ((((gI w s).1:Nat):Int),inp b (gI w s).2,()):=by
 show Zht k _ = _
 simp only [Zht]
 unfold gI
 rw [ZP]
 by_cases h:s.2 = 0
 ·rw [Zc h,if_pos h,Ye k hb (by omega) hs hw hk]
  rfl
 ·rw [Zk h,if_neg h]
  rfl
theorem Wd (k:Nat) {b:List Int} {s:IS} (ok:Bool) (code:Int):QT k (inp b s,ok,code,()) = some ((),inp b (mI ok s code),()):=by
 show Zhs k _ = _
 simp only [Zhs]
 unfold mI
 rw [ZP]
 by_cases h:s.2 = 0
 ·rw [Zc h]
  cases ok with
  | false => rw [if_pos ⟨h,rfl⟩]; rfl
  | true => rw [if_neg (by simp)]; rfl
 ·rw [Zk h,if_neg (fun hh => h hh.1)]
def ZbH (c:Int) (m:Nat):Bool:=if c = 1 then m == 0 else m == 1 || (decide (8 ≤ m) && decide (m ≤ 10))
theorem ZEe (k:Nat) (c d r:Int) (m:Nat):ZmS k ((c,d,r,()),(m:Int),()) = some (ZbH c m,()):=by
 show Zhu k _ = _
 simp only [Zhu]
 unfold ZbH
 rw [ZP,show ((m:Int) == (0:Int)) = (m == 0) from Wc m 0,show ((m:Int) == (1:Int)) = (m == 1) from Wc m 1]
 by_cases h:c = 1
 ·rw [Zc h,if_pos h]
 ·rw [Zk h,if_neg h]
  cases m == 1 with
  | true => rfl
  | false =>
   simp only [cond_false,Bool.false_or]
   by_cases h8:8 ≤ m
   ·rw [Zc (by omega),WH h8,Bool.true_and]
    by_cases h10:m ≤ 10
    ·rw [WH h10,WH (by omega)]
    ·rw [WG h10,WG (by omega)]
   ·rw [Zk (by omega),WG h8,Bool.false_and]
def Zp2:Nat → IS → IS
 | 0,s => s
 | n + 1,s => Zp2 n (gI 8 s).2
theorem ZnO {b:List Int}:∀ (n:Nat) (s:IS),Zl b s.1 → Zl b (Zp2 n s).1
 | 0,s,h => h
 | n + 1,s,h => ZnO n _ (QB h 8)
def ZbI (b:List Int) (s:IS):Nat × IS :=
 if s.2 ≠ 0 then (0,s) else ((Zaj (b.drop (ZR b s.1 / 8))).1,mI (decide ((Zaj (b.drop (ZR b s.1 / 8))).1 ≤ 2147483647)) (Zp2 (Zaj (b.drop (ZR b s.1 / 8))).2.1 (s.1,(Zaj (b.drop (ZR b s.1 / 8))).2.2)) 2)
theorem ZpK {b:List Int} {s:IS} (h:Zl b s.1):Zl b (ZbI b s).2.1:=by
 unfold ZbI
 split
 ·exact h
 ·exact Qz (ZnO (Zaj (b.drop (ZR b s.1 / 8))).2.1 (s.1,(Zaj (b.drop (ZR b s.1 / 8))).2.2) h) _ _
theorem Zjr {b:List Int} (h:ZM b = true) (i:Nat):ZM (b.drop i) = true :=
 List.all_eq_true.2 fun x hx => List.all_eq_true.1 h x (List.mem_of_mem_drop hx)
theorem Zao {b:List Int} (h:ZM b = true) (i:Nat):ZM (b.take i) = true :=
 List.all_eq_true.2 fun x hx => List.all_eq_true.1 h x (List.mem_of_mem_take hx)
theorem ZAM (b:List Int):(Zaj b).2.1 ≤ 8:=by
 unfold Zaj
 split
 ·simp
 ·rename_i x xs
  have:=ZyN x.toNat
  repeat' split
  all_goals simp
  all_goals omega
theorem ZEh (k:Nat) {b:List Int} (hb:ZM b = true) (hn:b.length < 268435456) (hk:1000 < k) {s:IS} (hs:Zl b s.1) :
  Zhv k (inp b s,()) = some ((((ZbI b s).1:Nat):Int),inp b (ZbI b s).2,()):=by
 show Zhw k (Zr7 k) _ = _
 simp only [Zhw]
 unfold ZbI
 rw [ZY]
 by_cases h:s.2 = 0
 ·rw [Zk (by simpa using h),if_neg (by simpa using h)]
  have e51:K4 k ((b,((ZR b s.1:Nat):Int),()),()) = some (((ZR b s.1:Nat):Int),Y2 b s.1,()):=rfl
  rw [e51]
  simp only [Qq]
  have hp:ZR b s.1 ≤ 8 * b.length:=by unfold ZR; omega
  rw [Zp7,Qp (n:=((ZR b s.1 / 8:Nat):Int)) (by omega),Zc (by simp only [QW]; omega),WS,show (Int.ofNat b.length).toNat = b.length from rfl,List.take_length]
  rw [ZzU k (Zjr hb _) (by omega)]
  simp only [Qq]
  have hu:=ZAM (b.drop (ZR b s.1 / 8))
  generalize Zaj (b.drop (ZR b s.1 / 8)) = c at hu
  have H:∀ (d m i:Nat) (t:IS),Zl b t.1 → d < m → i + d ≤ 8 →
    Zs (fun L1 => Zdq k L1) m (((i + d:Nat):Int),(i:Int),((c.1:Nat):Int),b,t.2,b,((ZR b t.1:Nat):Int)) = some (((c.1:Nat):Int),inp b (mI (decide (c.1 ≤ 2147483647)) (Zp2 d t) 2),()):=by
   intro d
   induction d with
   | zero =>
    intro m i t ht hm hi
    obtain ⟨m,rfl⟩:=Zv hm
    rw [Zj]
    simp only [Zdq]
    rw [Zk (by omega)]
    refine (Zg (Wd k (b:=b) (s:=t) _ _) _).trans ?_
    have:decide (((c.1:Nat):Int) ≤ 2147483647) = decide (c.1 ≤ 2147483647):=by
     by_cases h:c.1 ≤ 2147483647
     ·rw [WH h,WH (by omega)]
     ·rw [WG h,WG (by omega)]
    rw [this]
    rfl
   | succ d ih =>
    intro m i t ht hm hi
    obtain ⟨m,rfl⟩:=Zv (show 0 < m by omega)
    rw [Zj]
    simp only [Zdq]
    rw [Zc (by omega)]
    refine (Zg (XK k hb hn (by omega) ht (w:=8) (by omega)) _).trans ?_
    have e2:IntKind.i64.wrap ((i:Int) + 1) = ((i + 1:Nat):Int):=by rw [Qp (by omega)]; rfl
    rw [e2]
    have:=ih m (i + 1) (gI 8 t).2 (QB ht 8) (by omega) (by omega)
    rw [show i + 1 + d = i + (d + 1) by omega] at this
    exact this
  have:=H c.2.1 k 0 (s.1,c.2.2) hs (by omega) (by omega)
  rw [Nat.zero_add] at this
  exact this
 ·rw [Zc h,if_pos h]
  rfl
def KM (of:List Int → Nat) (b:List Int) (w:Nat) (s:IS):IS:=if (gI w s).2.2 ≠ 0 then (gI w s).2 else mI ((gI w s).1 == of (b.take (ZR b s.1 / 8))) (gI w s).2 16
theorem ZBe {of:List Int → Nat} {b:List Int} {s:IS} (h:Zl b s.1) (w:Nat):Zl b (KM of b w s).1:=by
 unfold KM
 split
 ·exact QB h _
 ·exact Qz (QB h _) _ _
theorem WP (s:IS) (code:Int):mI true s code = s:=by unfold mI; rw [if_neg (by simp)]
theorem Zuu (k:Nat) {b:List Int} (hb:ZM b = true) (hn:b.length < 268435456) (hk:b.length + 1000 < k) {s:IS} (hs:Zl b s.1) {w:Nat} (hw:w ≤ 32) :
  Zfe k (inp b s,(w:Int),(),()) = some ((),inp b (KM Zb5 b w s),()):=by
 show Zhb k _ = _
 simp only [Zhb]
 have e51:K4 k ((b,((ZR b s.1:Nat):Int),()),()) = some (((ZR b s.1:Nat):Int),Y2 b s.1,()):=rfl
 rw [e51]
 simp only [Qq]
 refine (Zg (XK k hb hn (by omega) hs hw) _).trans ?_
 unfold KM
 simp only
 rw [ZY]
 by_cases h:(gI w s).2.2 = 0
 ·rw [Zk (by simpa using h),if_neg (by simpa using h)]
  have hp:ZR b s.1 ≤ 8 * b.length:=by unfold ZR; omega
  rw [Zp7,Qp (n:=((ZR b s.1 / 8:Nat):Int)) (by omega),Zc (by simp only [QW]; omega),WS,List.drop_zero]
  have htl:(b.take (ZR b s.1 / 8)).length ≤ b.length:=by rw [List.length_take]; omega
  refine (Zg (Zuj k (b.take (ZR b s.1 / 8)) (Zao hb _) (by omega) (by omega)) _).trans ?_
  simp only
  rw [Wc]
  exact Zg (Wd k (b:=b) (s:=(gI w s).2) _ _) _
 ·rw [Zc h,if_pos h]
  refine (Zg (Wd k (b:=b) (s:=(gI w s).2) _ _) _).trans ?_
  rw [WP]
theorem Zv9 (k:Nat) {b:List Int} (hb:ZM b = true) (hn:b.length < 268435456) (hk:b.length + 1000 < k) {s:IS} (hs:Zl b s.1) {w:Nat} (hw:w ≤ 32) :
  ZgD k (inp b s,(w:Int),(),()) = some ((),inp b (KM Y4 b w s),()):=by
 show Zb7 k _ = _
 simp only [Zb7]
 have e51:K4 k ((b,((ZR b s.1:Nat):Int),()),()) = some (((ZR b s.1:Nat):Int),Y2 b s.1,()):=rfl
 rw [e51]
 simp only [Qq]
 refine (Zg (XK k hb hn (by omega) hs hw) _).trans ?_
 unfold KM
 simp only
 rw [ZY]
 by_cases h:(gI w s).2.2 = 0
 ·rw [Zk (by simpa using h),if_neg (by simpa using h)]
  have hp:ZR b s.1 ≤ 8 * b.length:=by unfold ZR; omega
  rw [Zp7,Qp (n:=((ZR b s.1 / 8:Nat):Int)) (by omega),Zc (by simp only [QW]; omega),WS,List.drop_zero]
  have htl:(b.take (ZR b s.1 / 8)).length ≤ b.length:=by rw [List.length_take]; omega
  refine (Zg (Zun k (b.take (ZR b s.1 / 8)) (Zao hb _) (by omega) (by omega)) _).trans ?_
  simp only
  rw [Wc]
  exact Zg (Wd k (b:=b) (s:=(gI w s).2) _ _) _
 ·rw [Zc h,if_pos h]
  refine (Zg (Wd k (b:=b) (s:=(gI w s).2) _ _) _).trans ?_
  rw [WP]
def hd1 (s:IS):IS:=mI ((gI 15 s).1 == 32764) (gI 15 s).2 11
def hd2 (s:IS):IS:=mI ((gI 1 s).1 == 0) (gI 1 s).2 2
def hd3 (s:IS):Nat × IS:=((gI 4 s).1,mI ((gI 4 s).1 == 6 || (gI 4 s).1 == 7) (gI 4 s).2 2)
def hd4 (s:IS):IS:=mI ((gI 4 s).1 == 0) (gI 4 s).2 2
def hd5 (c:Int) (s:IS):Nat × IS:=((gI 4 s).1,mI (ZbH c (gI 4 s).1) (gI 4 s).2 2)
def hd6 (kind:Nat) (s:IS):Nat × IS:=if s.2 = 0 then ((gI (8 * (kind - 5)) s).1 + 1,mI (decide ((gI (8 * (kind - 5)) s).1 + 1 ≤ 512)) (gI (8 * (kind - 5)) s).2 1) else (0,s)
abbrev HdT:=Nat × Nat × Nat × IS
def ZjV (b:List Int) (kind mode num:Nat) (s:IS):HdT:=(mode,num,(hd6 kind s).1,KM Zb5 b 8 (hd6 kind s).2)
def ZuY (b:List Int) (kind mode:Nat) (s:IS):HdT:=ZjV b kind mode (ZbI b s).1 (ZbI b s).2
def ZuX (c:Int) (b:List Int) (kind:Nat) (s:IS):HdT:=ZuY b kind (hd5 c s).1 (hd4 (hd5 c s).2)
def ZjU (c:Int) (b:List Int) (kind:Nat) (s:IS):HdT:=ZuX c b kind (hd4 s)
def KC (c:Int) (b:List Int) (s:IS):HdT:=ZjU c b (hd3 (hd2 (hd1 s))).1 (hd3 (hd2 (hd1 s))).2
abbrev ZLo:=(Int × Int × Int × Unit) × InT × Unit
def Zrz (k:Nat) (kind mode num:Int) (w:InT):Option ZLo :=
 bif w.2.2.1 == (0:Int) then (We k (w,IntKind.i64.wrap ((8:Int) * IntKind.i64.wrap (IntKind.i64.wrap (kind - (6:Int)) + (1:Int))),())).bind fun y => (QT k (y.2.1,decide (IntKind.i64.wrap (y.1 + (1:Int)) ≤ (512:Int)),1,())).bind fun y_10 => (Zfe k (y_10.2.1,8,(),())).bind fun y_11 => some ((mode,num,IntKind.i64.wrap (y.1 + (1:Int)),()),y_11.2.1,())
 else (QT k (w,decide ((0:Int) ≤ (512:Int)),1,())).bind fun y => (Zfe k (y.2.1,8,(),())).bind fun y => some ((mode,num,0,()),y.2.1,())
def Zry (k:Nat) (sh:Int × Int × Int × Unit) (kind:Int) (w:InT):Option ZLo :=
 (We k (w,4,())).bind fun y_2 => (QT k (y_2.2.1,y_2.1 == (0:Int),2,())).bind fun y_3 => (We k (y_3.2.1,4,())).bind fun y_4 => (ZmS k (sh,y_4.1,())).bind fun y_5 => (QT k (y_4.2.1,y_5.1,2,())).bind fun y_6 => (We k (y_6.2.1,4,())).bind fun y_7 => (QT k (y_7.2.1,y_7.1 == (0:Int),2,())).bind fun y_8 => (Zhv k (y_8.2.1,())).bind fun y_9 => Zrz k kind y_4.1 y_9.1 y_9.2.1
theorem ZAE (k:Nat) (w:InT) (sh:Int × Int × Int × Unit):Zpj k (w,sh,()) =
  (We k (w,15,())).bind fun y => (QT k (y.2.1,y.1 == (32764:Int),11,())).bind fun y => (We k (y.2.1,1,())).bind fun y => (QT k (y.2.1,y.1 == (0:Int),2,())).bind fun y => (We k (y.2.1,4,())).bind fun y =>
   bif y.1 == (6:Int) then (QT k (y.2.1,true,2,())).bind fun y_1 => Zry k sh y.1 y_1.2.1 else (QT k (y.2.1,y.1 == (7:Int),2,())).bind fun y_1 => Zry k sh y.1 y_1.2.1:=rfl
theorem Zsc {w:Nat} {s:IS} (h:(gI w s).2.2 = 0):s.2 = 0:=by
 unfold gI at h
 split at h
 ·rename_i h0; exact h0
 ·exact h
theorem ZpL {b:List Int} {s:IS} (h:(ZbI b s).2.2 = 0):s.2 = 0:=by
 unfold ZbI at h
 split at h
 ·exact h
 ·rename_i h0; simpa using h0
theorem Zm4 {s:IS} (h:(hd4 s).2 = 0):s.2 = 0:=Zsc ((ZaH (by decide)).1 h).1
theorem ZuW {c:Int} {s:IS} (h:(hd5 c s).2.2 = 0):s.2 = 0 ∧ ZbH c (hd5 c s).1 = true:=⟨Zsc ((ZaH (by decide)).1 h).1,((ZaH (by decide)).1 h).2⟩
theorem ZEu {s:IS} (h:(hd3 s).2.2 = 0):(hd3 s).1 = 6 ∨ (hd3 s).1 = 7:=by
 have:=((ZaH (by decide)).1 h).2
 show (gI 4 s).1 = 6 ∨ (gI 4 s).1 = 7
 simpa using this
theorem ZEw {b:List Int} {s:IS} (h:Zl b s.1) (kind:Nat):Zl b (hd6 kind s).2.1:=by
 unfold hd6
 split
 ·exact Qz (QB h _) _ _
 ·exact h
theorem Zur (k:Nat) {b:List Int} (hb:ZM b = true) (hn:b.length < 268435456) (hk:b.length + 1000 < k) {s:IS} (hs:Zl b s.1) {kind:Nat} (hkind:s.2 = 0 → kind = 6 ∨ kind = 7) (mode num:Nat) :
  Zrz k (kind:Int) (mode:Int) (num:Int) (inp b s) = some (((((ZjV b kind mode num s).1:Nat):Int),(((ZjV b kind mode num s).2.1:Nat):Int),(((ZjV b kind mode num s).2.2.1:Nat):Int),()),inp b (ZjV b kind mode num s).2.2.2,()):=by
 unfold Zrz ZjV hd6
 rw [ZP]
 by_cases h:s.2 = 0
 ·rw [Zc h]
  simp only [if_pos h]
  have e1:IntKind.i64.wrap ((8:Int) * IntKind.i64.wrap (IntKind.i64.wrap ((kind:Int) - (6:Int)) + (1:Int))) = ((8 * (kind - 5):Nat):Int):=by
   rcases hkind h with rfl | rfl <;> rfl
  have hw:8 * (kind - 5) ≤ 32:=by rcases hkind h with rfl | rfl <;> omega
  rw [e1]
  refine (Zg (XK k hb hn (by omega) hs hw) _).trans ?_
  have hlt:=ZMf (8 * (kind - 5)) s
  have r1:=QB hs (8 * (kind - 5))
  have h32:2 ^ (8 * (kind - 5)) ≤ 2 ^ 32:=Nat.pow_le_pow_right (by omega) hw
  generalize gI (8 * (kind - 5)) s = x at hlt r1 ⊢
  have e2:IntKind.i64.wrap (((x.1:Nat):Int) + 1) = ((x.1 + 1:Nat):Int):=by rw [Qp (by omega)]; rfl
  have e3:decide (((x.1 + 1:Nat):Int) ≤ 512) = decide (x.1 + 1 ≤ 512):=by
   by_cases h:x.1 + 1 ≤ 512
   ·rw [WH h,WH (by omega)]
   ·rw [WG h,WG (by omega)]
  simp only
  rw [e2,e3]
  refine (Zg (Wd k (b:=b) (s:=x.2) _ _) _).trans ?_
  refine (Zg (Zuu k hb hn hk (Qz r1 _ _) (w:=8) (by omega)) _).trans ?_
  rfl
 ·rw [Zk h]
  simp only [if_neg h]
  refine (Zg (Wd k (b:=b) (s:=s) _ _) _).trans ?_
  rw [show decide ((0:Int) ≤ 512) = true from rfl,WP]
  refine (Zg (Zuu k hb hn hk hs (w:=8) (by omega)) _).trans ?_
  rfl
theorem Zuq (k:Nat) {b:List Int} (hb:ZM b = true) (hn:b.length < 268435456) (hk:b.length + 1000 < k) {s:IS} (hs:Zl b s.1) {kind:Nat} (hkind:s.2 = 0 → kind = 6 ∨ kind = 7) (c d r:Int) :
  Zry k (c,d,r,()) (kind:Int) (inp b s) = some (((((ZjU c b kind s).1:Nat):Int),(((ZjU c b kind s).2.1:Nat):Int),(((ZjU c b kind s).2.2.1:Nat):Int),()),inp b (ZjU c b kind s).2.2.2,()):=by
 unfold Zry ZjU
 refine (Zg (XK k hb hn (by omega) hs (w:=4) (by omega)) _).trans ?_
 refine (Zg (Wd k (b:=b) (s:=(gI 4 s).2) _ _) _).trans ?_
 rw [show ((((gI 4 s).1:Nat):Int) == (0:Int)) = ((gI 4 s).1 == 0) from Wc _ 0]
 have r1:Zl b (hd4 s).1:=Qz (QB hs _) _ _
 have k1:=fun h => hkind (Zm4 (s:=s) h)
 change ((We k (inp b (hd4 s),4,())).bind _) = _
 generalize hd4 s = s1 at r1 k1 ⊢
 unfold ZuX
 refine (Zg (XK k hb hn (by omega) r1 (w:=4) (by omega)) _).trans ?_
 refine (Zg (ZEe k c d r (gI 4 s1).1) _).trans ?_
 refine (Zg (Wd k (b:=b) (s:=(gI 4 s1).2) _ _) _).trans ?_
 have r2:Zl b (hd5 c s1).2.1:=Qz (QB r1 _) _ _
 have k2:=fun h => k1 (ZuW (c:=c) (s:=s1) h).1
 change ((We k (inp b (hd5 c s1).2,4,())).bind fun y_7 => (QT k (y_7.2.1,y_7.1 == (0:Int),2,())).bind fun y_8 => (Zhv k (y_8.2.1,())).bind fun y_9 => Zrz k (kind:Int) (((hd5 c s1).1:Nat):Int) y_9.1 y_9.2.1) = _
 generalize (hd5 c s1).1 = mode
 generalize (hd5 c s1).2 = s2 at r2 k2 ⊢
 refine (Zg (XK k hb hn (by omega) r2 (w:=4) (by omega)) _).trans ?_
 refine (Zg (Wd k (b:=b) (s:=(gI 4 s2).2) _ _) _).trans ?_
 rw [show ((((gI 4 s2).1:Nat):Int) == (0:Int)) = ((gI 4 s2).1 == 0) from Wc _ 0]
 have r3:Zl b (hd4 s2).1:=Qz (QB r2 _) _ _
 have k3:=fun h => k2 (Zm4 (s:=s2) h)
 change ((Zhv k (inp b (hd4 s2),())).bind _) = _
 generalize hd4 s2 = s3 at r3 k3 ⊢
 unfold ZuY
 refine (Zg (ZEh k hb hn (by omega) r3) _).trans ?_
 exact Zur k hb hn hk (ZpK r3) (fun h => k3 (ZpL h)) mode (ZbI b s3).1
theorem ZDB (k:Nat) {b:List Int} (hb:ZM b = true) (hn:b.length < 268435456) (hk:b.length + 1000 < k) {s:IS} (hs:Zl b s.1) (c d r:Int) :
  Zpj k (inp b s,(c,d,r,()),()) = some (((((KC c b s).1:Nat):Int),(((KC c b s).2.1:Nat):Int),(((KC c b s).2.2.1:Nat):Int),()),inp b (KC c b s).2.2.2,()):=by
 rw [ZAE]
 unfold KC
 refine (Zg (XK k hb hn (by omega) hs (w:=15) (by omega)) _).trans ?_
 refine (Zg (Wd k (b:=b) (s:=(gI 15 s).2) _ _) _).trans ?_
 rw [show ((((gI 15 s).1:Nat):Int) == (32764:Int)) = ((gI 15 s).1 == 32764) from Wc _ 32764]
 have r1:Zl b (hd1 s).1:=Qz (QB hs _) _ _
 change ((We k (inp b (hd1 s),1,())).bind _) = _
 generalize hd1 s = s1 at r1 ⊢
 refine (Zg (XK k hb hn (by omega) r1 (w:=1) (by omega)) _).trans ?_
 refine (Zg (Wd k (b:=b) (s:=(gI 1 s1).2) _ _) _).trans ?_
 rw [show ((((gI 1 s1).1:Nat):Int) == (0:Int)) = ((gI 1 s1).1 == 0) from Wc _ 0]
 have r2:Zl b (hd2 s1).1:=Qz (QB r1 _) _ _
 change ((We k (inp b (hd2 s1),4,())).bind _) = _
 generalize hd2 s1 = s2 at r2 ⊢
 refine (Zg (XK k hb hn (by omega) r2 (w:=4) (by omega)) _).trans ?_
 simp only
 rw [show ((((gI 4 s2).1:Nat):Int) == (6:Int)) = ((gI 4 s2).1 == 6) from Wc _ 6,show ((((gI 4 s2).1:Nat):Int) == (7:Int)) = ((gI 4 s2).1 == 7) from Wc _ 7]
 have r3:Zl b (hd3 s2).2.1:=Qz (QB r2 _) _ _
 have fin:=Zuq k hb hn hk r3 (fun h => ZEu h) c d r
 unfold hd3 at fin ⊢
 cases h6:(gI 4 s2).1 == 6 with
 | true =>
  rw [h6] at fin
  simp only [cond_true]
  refine (Zg (Wd k (b:=b) (s:=(gI 4 s2).2) _ _) _).trans ?_
  exact fin
 | false =>
  rw [h6] at fin
  simp only [cond_false]
  refine (Zg (Wd k (b:=b) (s:=(gI 4 s2).2) _ _) _).trans ?_
  exact fin
end Go.Sh
namespace Go.Sh
open Go Go.Proofs
def Zgq (n:Nat):List Int → List Bool → List (List Int) → List (List Int) × Int × List Bool
 | [],r,acc => (acc,0,r)
 | d :: ds,r,acc => if (QI n d.toNat r).2.1 ≠ 0 then ([],(QI n d.toNat r).2.1,(QI n d.toNat r).2.2) else Zgq n ds (QI n d.toNat r).2.2 (acc ++ [(QI n d.toNat r).1])
abbrev RdR:=(Int × List (List Int)) × Int × Int
def Znp (c d r num:Int) (pos:Nat) (out:List (List Int)):RdR:=if Xc c d r num out ≠ 0 then ((0,[]),0,Xc c d r num out) else ((num,out),((pos / 8:Nat):Int),0)
def Zfk (c d r num:Int) (pos:Nat) (m:Int) (A B:List Int):RdR:=if (QR m A B).2 ≠ 0 then ((0,[]),0,(QR m A B).2) else Znp c d r num pos [Ze8 m A B,Ze9 m A B]
def ZmW (c d r:Int) (b:List Int) (mode num:Nat) (chs:List (List Int)) (rr:List Bool):RdR :=
 if (KM Y4 b 16 ((alS rr).2,(alS rr).1)).2 ≠ 0 then ((0,[]),0,(KM Y4 b 16 ((alS rr).2,(alS rr).1)).2)
 else if 1 < c then Zfk c d r num (ZR b (KM Y4 b 16 ((alS rr).2,(alS rr).1)).1) (if mode = 1 then 0 else mode) (chs.getD 0 []) (chs.getD 1 [])
 else Znp c d r num (ZR b (KM Y4 b 16 ((alS rr).2,(alS rr).1)).1) chs
def Zia (c d r:Int) (b:List Int) (h:HdT):RdR :=
 if h.2.2.2.2 ≠ 0 then ((0,[]),0,h.2.2.2.2)
 else if (Zgq h.2.2.1 (Qd c d h.1) h.2.2.2.1 []).2.1 ≠ 0 then ((0,[]),0,(Zgq h.2.2.1 (Qd c d h.1) h.2.2.2.1 []).2.1)
 else ZmW c d r b h.1 h.2.1 (Zgq h.2.2.1 (Qd c d h.1) h.2.2.2.1 []).1 (Zgq h.2.2.1 (Qd c d h.1) h.2.2.2.1 []).2.2
def Zfn (c d r:Int) (b:List Int):RdR:=if Zcn c d r = false then ((0,[]),0,2) else Zia c d r b (KC c b (ZT b,0))
def Znr (x:RdR):((Int × List (List Int) × Unit) × Int × Int × Unit) × Unit:=(((x.1.1,x.1.2,()),x.2.1,x.2.2,()),())
theorem Zvt {n d:Nat} {r:List Bool} (h:(QI n d r).2.1 = 0):(QI n d r).1.length ≤ 520 ∧ d ≤ 25 ∧ ∀ x ∈ (QI n d r).1,W9 x d = true:=by
 unfold QI at h ⊢
 split at h
 ·simp at h
 ·rename_i h1
  rw [if_neg h1]
  have h1:1 ≤ n ∧ n ≤ 512 ∧ 4 ≤ d ∧ d ≤ 25:=by simpa using h1
  have hz:=Zh2 (d:=d) (s:=(r,0))
  generalize ZS d (r,0) = hd at h hz ⊢
  obtain ⟨kind,kk,s1⟩:=hd
  simp only at h hz ⊢
  split at h
  ·rename_i h2; exact absurd h h2
  ·rename_i h2
   rw [if_neg h2]
   obtain ⟨hkd,hkind⟩:=hz (by simpa using h2)
   have hl:=Zop (kind:=kind) (n:=n) (d:=d - kk) (s:=s1) hkind
   generalize Wy kind n (d - kk) s1 = y at h hl ⊢
   split at h
   ·rename_i h3; exact absurd h h3
   ·rename_i h3
    rw [if_neg h3]
    split at h
    ·rename_i h4
     rw [if_pos h4]
     refine ⟨by simp; omega,by omega,fun x hx => ?_⟩
     obtain ⟨z,hz,rfl⟩:=List.mem_map.1 hx
     exact (ZyY hkd (by omega) (List.all_eq_true.1 h4 z hz)).1
    ·simp at h
theorem ZjB {x:Int} (h:Yp x = true):Qj x:=by
 unfold Yp at h
 rw [decide_eq_true_eq] at h
 exact h
abbrev ZLn:=((Int × List (List Int) × Unit) × Int × Int × Unit) × Unit
theorem ZxV (k:Nat) (hk:1000 < k) (c d r num:Int) (out:List (List Int)) {b:List Int} (hn:b.length < 268435456) (rr:List Bool) :
  ((Zfc k ((c,d,r,()),(num,out,()),())).bind fun y_3 => bif y_3.1 != (0:Int) then some (((((0:Int),[],()),0,y_3.1,()),()):ZLn) else (K4 k ((b,((ZR b rr:Nat):Int),()),())).bind fun y => some (((num,out,()),IntKind.i64.wrap (Int.tdiv y.1 (8:Int)),0,()),())) = some (Znr (Znp c d r num (ZR b rr) out)):=by
 refine (Zg (Zue k c d r num out (by omega)) _).trans ?_
 unfold Znp
 simp only
 rw [ZY]
 by_cases h:Xc c d r num out = 0
 ·rw [Zk (by simpa using h),if_neg (by simpa using h)]
  have e51:K4 k ((b,((ZR b rr:Nat):Int),()),()) = some (((ZR b rr:Nat):Int),Y2 b rr,()):=rfl
  refine (Zg e51 _).trans ?_
  have hp:ZR b rr ≤ 8 * b.length:=by unfold ZR; omega
  simp only
  rw [Zp7,Qp (n:=((ZR b rr / 8:Nat):Int)) (by omega)]
  rfl
 ·rw [Zc h,if_pos h]
  rfl
theorem Zt9 (k:Nat) (hk:2000 < k) (c d r num:Int) {A B:List Int} {m:Int} (hm:ZhH m) (hA:A.length ≤ 520 ∧ ∀ x ∈ A,Qt x) (hB:B.length ≤ 520 ∧ ∀ x ∈ B,Qt x) {b:List Int} (hn:b.length < 268435456) (rr:List Bool) :
  ((ZmE k (A,B,m,())).bind fun y_1 => bif y_1.1.2.1 != (0:Int) then some (((((0:Int),[],()),0,y_1.1.2.1,()),()):ZLn) else (ZmG k (y_1.1.1,())).bind fun y_2 => bif y_2.1.2.2.1 != (0:Int) then some ((((0:Int),[],()),0,y_2.1.2.2.1,()),()) else (Zfc k ((c,d,r,()),(num,[y_2.1.1,y_2.1.2.1],()),())).bind fun y_3 => bif y_3.1 != (0:Int) then some ((((0:Int),[],()),0,y_3.1,()),()) else (K4 k ((b,((ZR b rr:Nat):Int),()),())).bind fun y => some (((num,[y_2.1.1,y_2.1.2.1],()),IntKind.i64.wrap (Int.tdiv y.1 (8:Int)),0,()),())) =
   some (Znr (Zfk c d r num (ZR b rr) m A B)):=by
 refine (Zg (ZDK k hm (by omega) (by omega) hA.2 hB.2) _).trans ?_
 unfold Zfk
 have key:(QR m A B).2 = 0 → A.length = B.length ∧ (QR m A B).1 = ZdA (Ze8 m A B) (Ze9 m A B) ∧ ((Ze8 m A B).zip (Ze9 m A B)).all (fun x => Yp x.1 && Yp x.2) = true:=by
  unfold QR
  split
  ·intro h; simp at h
  ·rename_i h1
   split
   ·rename_i h2; exact fun _ => ⟨by simpa using h1,rfl,h2⟩
   ·intro h; simp at h
 simp only
 rw [ZY]
 by_cases h:(QR m A B).2 = 0
 ·rw [Zk (by simpa using h),if_neg (by simpa using h)]
  obtain ⟨hl,e1,e2⟩:=key h
  have hLl:(Ze8 m A B).length = A.length:=by unfold Ze8; rw [List.length_map,List.length_zip]; omega
  have hRl:(Ze9 m A B).length = A.length:=by unfold Ze9; rw [List.length_map,List.length_zip]; omega
  generalize Ze8 m A B = L at e1 e2 hLl ⊢
  generalize Ze9 m A B = R at e1 e2 hRl ⊢
  have hsm:(∀ x ∈ L,Qj x) ∧ ∀ x ∈ R,Qj x:=by
   have hall:=List.all_eq_true.1 e2
   constructor
   ·intro x hx
    obtain ⟨i,hi,rfl⟩:=List.getElem_of_mem hx
    have:=hall ((L.zip R)[i]'(by rw [List.length_zip]; omega)) (List.getElem_mem _)
    rw [List.getElem_zip,Bool.and_eq_true] at this
    exact ZjB this.1
   ·intro x hx
    obtain ⟨i,hi,rfl⟩:=List.getElem_of_mem hx
    have:=hall ((L.zip R)[i]'(by rw [List.length_zip]; omega)) (List.getElem_mem _)
    rw [List.getElem_zip,Bool.and_eq_true] at this
    exact ZjB this.2
  have hpp:=Zu4 (show L.length = R.length by omega) hsm.1 hsm.2
  rw [e1]
  have hjl:(ZdA L R).length ≤ 520:=by rw [hpp.hl]; omega
  refine (Zg (ZDL k hpp (by omega) (by omega)) _).trans ?_
  simp only
  rw [show ((0:Int) != 0) = false from rfl]
  simp only [cond_false]
  exact ZxV k (by omega) c d r num [L,R] hn rr
 ·rw [Zc h,if_pos h]
  rfl
theorem Zv3 (c d m:Int):(Qd c d m).length ≤ 2 ∧ (c ≠ 1 → (Qd c d m).length = 2) ∧ ((1 ≤ d ∧ d ≤ 24) → ∀ x ∈ Qd c d m,1 ≤ x):=by
 unfold Qd
 split
 ·exact ⟨by simp,fun h => by omega,fun h x hx => by simp at hx; omega⟩
 ·split
  ·exact ⟨by simp,fun h => by simp,fun h x hx => by simp at hx; omega⟩
  ·split
   ·exact ⟨by simp,fun h => by simp,fun h x hx => by simp at hx; omega⟩
   ·exact ⟨by simp,fun h => by simp,fun h x hx => by simp at hx; omega⟩
theorem ZDf (k:Nat) {b:List Int} (hb:ZM b = true) (hn:b.length < 268435456) (hk:8 * b.length + 50000 < k) {c d r:Int} (hc:c = 1 ∨ c = 2) {mode num n:Nat} (hm:ZbH c mode = true) (ds:List Int) (hd:∀ x ∈ ds,1 ≤ x) (hdl:ds.length ≤ 2) (hdl2:c ≠ 1 → ds.length = 2) (zz:Int) :
  ∀ (e j i:Nat) (rr:List Bool) (acc:List (List Int)),e < j → i + e = ds.length → acc.length = i → Zl b rr → (∀ l ∈ acc,l.length ≤ 520 ∧ ∀ x ∈ l,Qt x) →
  Zs (fun L1 => Zc4 k L1) j (((ds.length:Nat):Int),(i:Int),ds,(n:Int),(mode:Int),b,(0:Int),b,((ZR b rr:Nat):Int),zz,(num:Int),acc,c,d,r) =
   some (Znr (if (Zgq n (ds.drop i) rr acc).2.1 ≠ 0 then ((0,[]),0,(Zgq n (ds.drop i) rr acc).2.1) else ZmW c d r b mode num (Zgq n (ds.drop i) rr acc).1 (Zgq n (ds.drop i) rr acc).2.2)):=by
 intro e
 induction e with
 | zero =>
  intro j i rr acc hj hi ha hr hacc
  obtain ⟨j,rfl⟩:=Zv hj
  rw [Zj]
  simp only [Zc4]
  rw [Zk (by omega),List.drop_eq_nil_of_le (by omega)]
  show _ = some (Znr (if (0:Int) ≠ 0 then _ else ZmW c d r b mode num acc rr))
  rw [if_neg (by simp)]
  refine (Zg (ZDH k hb (by omega) hr (by omega)) _).trans ?_
  refine (Zg (Zv9 k hb hn (by omega) (s:=((alS rr).2,(alS rr).1)) (ZBo hr) (w:=16) (by omega)) _).trans ?_
  unfold ZmW
  generalize KM Y4 b 16 ((alS rr).2,(alS rr).1) = s
  simp only
  rw [ZY]
  by_cases h:s.2 = 0
  ·rw [Zk (by simpa using h),if_neg (by simpa using h)]
   rcases hc with rfl | rfl
   ·rw [Zk (by omega),if_neg (by omega)]
    exact ZxV k (by omega) 1 d r num acc hn s.1
   ·rw [Zc (by omega),if_pos (by omega)]
    have hlen:acc.length = 2:=by have:=hdl2 (by omega); omega
    match acc,hlen,hacc with
    | [A,B],_,hacc =>
     have hA:=hacc A (by simp)
     have hB:=hacc B (by simp)
     have p1:(0:Int) ≤ 0 ∧ (0:Int) < Int.ofNat [A,B].length:=by simp
     have p2:0 < [A,B].length:=by simp
     have p3:(0:Int) ≤ 1 ∧ (1:Int) < Int.ofNat [A,B].length:=by simp
     have p4:1 < [A,B].length:=by simp
     have hmd:ZhH (if mode = 1 then 0 else (mode:Int)):=by
      unfold ZbH at hm
      rw [if_neg (by omega)] at hm
      simp only [Bool.or_eq_true,beq_iff_eq,Bool.and_eq_true,decide_eq_true_eq] at hm
      unfold ZhH
      split <;> omega
     rw [Zc p1,Zc p2,Zc p3,Zc p4,Zc p1,Zc p2,Zc p3,Zc p4,show ((mode:Int) == (1:Int)) = (mode == 1) from Wc _ 1]
     by_cases h1:mode = 1
     ·rw [show (mode == 1) = true from by simp [h1]]
      rw [if_pos h1] at hmd ⊢
      exact Zt9 k (by omega) 2 d r num hmd hA hB hn s.1
     ·rw [show (mode == 1) = false from by simp [h1]]
      rw [if_neg h1] at hmd ⊢
      exact Zt9 k (by omega) 2 d r num hmd hA hB hn s.1
  ·rw [Zc h,if_pos h]
   rfl
 | succ e ih =>
  intro j i rr acc hj hi ha hr hacc
  obtain ⟨j,rfl⟩:=Zv (show 0 < j by omega)
  rw [Zj]
  simp only [Zc4]
  have hil:i < ds.length:=by omega
  rw [Zc (by omega),Zc (by simp only [QW]; omega),WS,YZ hil,List.drop_eq_getElem_cons hil]
  have hdi:=hd ds[i] (List.getElem_mem hil)
  have hde:ds[i] = ((ds[i].toNat:Nat):Int):=by omega
  have e46:=ZDE k hb hn hk hr n ds[i].toNat
  rw [← hde] at e46
  refine (Zg e46 _).trans ?_
  unfold Zgq
  have hok:=Zvt (n:=n) (d:=ds[i].toNat) (r:=rr)
  have hrr:=Zom hr n ds[i].toNat
  generalize QI n ds[i].toNat rr = q at hok hrr ⊢
  simp only
  rw [ZY]
  by_cases h:q.2.1 = 0
  ·rw [Zk (by simpa using h),Zc (by simp only [List.length_singleton]; omega)]
   have e2:IntKind.i64.wrap ((i:Int) + 1) = ((i + 1:Nat):Int):=by rw [Qp (by omega)]; rfl
   rw [e2]
   obtain ⟨o1,o2,o3⟩:=hok h
   have:=ih j (i + 1) q.2.2 (acc ++ [q.1]) (by omega) (by omega) (by simp; omega) hrr (by
    intro l hl
    rcases List.mem_append.1 hl with hl | hl
    ·exact hacc l hl
    ·rw [List.mem_singleton.1 hl]
     refine ⟨o1,fun x hx => ?_⟩
     have:=o3 x hx
     unfold W9 at this
     unfold Qt
     split at this
     ·simp only [decide_eq_true_eq] at this; omega
     ·rw [decide_eq_true_eq,Wi] at this
      have h24:2 ^ (ds[i].toNat - 1) ≤ 2 ^ 24:=Nat.pow_le_pow_right (by omega) (by omega)
      generalize 2 ^ (ds[i].toNat - 1) = Q at this h24
      omega)
   refine this.trans ?_
   simp only [if_neg (show ¬ q.2.1 ≠ 0 from fun hh => hh h)]
  ·rw [Zc h]
   simp only [if_pos h]
   rfl
theorem Zw2 {c:Int} {b:List Int} {s:IS} (h:(KC c b s).2.2.2.2 = 0):ZbH c (KC c b s).1 = true:=by
 unfold KC ZjU ZuX ZuY ZjV at h ⊢
 generalize (hd3 (hd2 (hd1 s))).1 = kind at h ⊢
 generalize hd4 (hd3 (hd2 (hd1 s))).2 = s3 at h ⊢
 simp only at h ⊢
 have h0:(hd6 kind (ZbI b (hd4 (hd5 c s3).2)).2).2.2 = 0:=by
  unfold KM at h
  split at h
  ·rename_i h1; exact absurd h h1
  ·exact Zsc ((ZaH (by decide)).1 h).1
 have h1:(ZbI b (hd4 (hd5 c s3).2)).2.2 = 0:=by
  unfold hd6 at h0
  split at h0
  ·rename_i hh; exact hh
  ·exact h0
 exact (ZuW (Zm4 (ZpL h1))).2
theorem Zmo (k:Nat) (c d r:Int) {b:List Int} (hb:ZM b = true) (hn:b.length < 268435456) (hk:8 * b.length + 50000 < k):Zmm k ((c,d,r,()),b,()) = some (Znr (Zfn c d r b)):=by
 show ZgV k (Zrm k) _ = _
 simp only [ZgV]
 rw [Ztw k c d r]
 simp only [Qq]
 unfold Zfn
 cases hs:Zcn c d r with
 | false => rfl
 | true =>
  have hsh:=of_decide_eq_true hs
  simp only [if_true,Bool.true_eq_false,if_false]
  rw [show ((0:Int) != 0) = false from rfl]
  simp only [cond_false]
  have e44:Zuo k (b,()) = some (inp b (ZT b,0) |>.2.1,()):=by
   show Zg8 k _ = _
   simp only [Zg8]
   have:Zpm k (b,()) = some (b,()):=by show Kt _ = _; unfold Kt; rw [Zc (by simp only; omega)]
   rw [this]
   have hp:ZR b (ZT b) = 0:=by unfold ZR; rw [Z3]; omega
   simp only [Qq]
   show some ((b,((0:Nat):Int),()),()) = some ((b,((ZR b (ZT b):Nat):Int),()),())
   rw [hp]
  refine (Zg e44 _).trans ?_
  refine (Zg (ZDB k hb hn (by omega) (s:=(ZT b,0)) (Zvg b) c d r) _).trans ?_
  unfold Zia
  have hmode:=Zw2 (c:=c) (b:=b) (s:=(ZT b,0))
  have hrest:Zl b (KC c b (ZT b,0)).2.2.2.1:=by
   unfold KC ZjU ZuX ZuY ZjV
   exact ZBe (ZEw (ZpK (Qz (QB (Qz (QB (Qz (QB (Qz (QB (Qz (QB (Qz (QB (Zvg b) _) _ _) _) _ _) _) _ _) _) _ _) _) _ _) _) _ _)) _) _
  generalize KC c b (ZT b,0) = h at hmode hrest ⊢
  obtain ⟨mode,num,n,s⟩:=h
  simp only at hmode hrest ⊢
  rw [ZY]
  by_cases he:s.2 = 0
  ·rw [Zk (by simpa using he),if_neg (by simpa using he)]
   have hm:=hmode he
   have hc:c = 1 ∨ c = 2:=by omega
   have hcm:c = 1 ∧ (mode:Int) = 0 ∨ c = 2:=by
    rcases hc with rfl | rfl
    ·unfold ZbH at hm
     rw [if_pos rfl,beq_iff_eq] at hm
     exact .inl ⟨rfl,by omega⟩
    ·exact .inr rfl
   refine (Zg (Zuk k (c:=c) (d:=d) (r:=r) (m:=(mode:Int)) hcm (by omega)) _).trans ?_
   have hdl:=Zv3 c d mode
   have:=ZDf k hb hn hk (c:=c) (d:=d) (r:=r) hc (mode:=mode) (num:=num) (n:=n) hm (Qd c d mode) (hdl.2.2 (by omega)) hdl.1 hdl.2.1 0 (Qd c d mode).length k 0 s.1 [] (by omega) (by omega) rfl hrest (by simp)
   rw [List.drop_zero] at this
   simp only
   rw [he]
   exact this
  ·rw [Zc he,if_pos he]
   rfl
end Go.Sh
