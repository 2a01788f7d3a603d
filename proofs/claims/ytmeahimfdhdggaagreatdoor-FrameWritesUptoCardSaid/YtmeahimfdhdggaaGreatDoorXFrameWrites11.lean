/-
  What the row needs, part 11.
-/
import Derived.Test.YtmeahimfdhdggaaGreatDoorXFrameWrites10
import Derived.Lib.ItoaNum
set_option linter.unusedSimpArgs false
set_option linter.unusedVariables false
set_option linter.unusedSectionVars false
namespace Go.Sh
open Go Go.Proofs
def Z5 (n:Int):Nat:=if n < 0 then (-2 * n - 1).toNat else (2 * n).toNat
theorem ZzZ {a:Int} {n:Int} (ha : -1152921504606846976 ≤ a ∧ a ≤ 1152921504606846976) (hn:(a < 0 ↔ n < 0)) (hn' : -1152921504606846976 ≤ n ∧ n ≤ 1152921504606846976) :
  IntKind.i64.wrap (Int.ofNat (BitVec.ofInt 64 a ^^^ BitVec.ofInt 64 (n.fdiv 9223372036854775808)).toNat) = if n < 0 then -a - 1 else a:=by
 by_cases h:n < 0
 ·have e1:n.fdiv 9223372036854775808 = -1:=by rw [Int.fdiv_eq_ediv_of_nonneg _ (by omega)]; omega
  rw [e1,if_pos h,show BitVec.ofInt 64 (-1) = BitVec.allOnes 64 from by decide,BitVec.xor_allOnes,BitVec.toNat_not,BitVec.toNat_ofInt]
  have:((a % ((2 ^ 64:Nat):Int)).toNat) = (a + 18446744073709551616).toNat:=by omega
  rw [this]
  have e2:Int.ofNat (2 ^ 64 - 1 - (a + 18446744073709551616).toNat) = -a - 1:=by simp only [Qh]; omega
  rw [e2,ZQ (by omega)]
 ·have e1:n.fdiv 9223372036854775808 = 0:=by rw [Int.fdiv_eq_ediv_of_nonneg _ (by omega)]; omega
  rw [e1,if_neg h,show BitVec.ofInt 64 0 = 0#64 from rfl,BitVec.xor_zero,BitVec.toNat_ofInt]
  have:Int.ofNat ((a % ((2 ^ 64:Nat):Int)).toNat) = a:=by simp only [Qh]; omega
  rw [this,ZQ (by omega)]
theorem Zr1 (k:Nat) {n:Int} (h:ZI n):ZbC k (n,()) = some ((((Z5 n:Nat):Int),0,()),()):=by
 show ZfF k _ = _
 simp only [ZfF]
 unfold ZI at h
 rw [Zi (by omega),Zi (by omega),ZQ (n:=n * 2) (by omega),ZzZ (by omega) (by omega) (by omega)]
 unfold Z5
 congr 3
 split <;> omega
theorem ZjQ {n:Int} (h:ZI n):Z5 n < 4294967296:=by
 unfold ZI at h
 unfold Z5
 split <;> omega
def Wb (n:Int):Nat:=Lib.bitLen (if n < 0 then (-n - 1).toNat else n.toNat) + 1
theorem ZdT {n:Int} (h:ZI n):Wb n ≤ 32:=by
 unfold ZI at h
 unfold Wb
 have:=Lib.bitLen_le (if n < 0 then (-n - 1).toNat else n.toNat) 31 (by omega) (by split <;> omega)
 omega
theorem Zrx {n:Int} (h:ZI n) {w:Nat} (hw:Wb n ≤ w):WU n w = true:=by
 unfold Wb at hw
 unfold WU
 unfold ZI at h
 rw [if_neg (by omega),decide_eq_true_eq]
 generalize hm:(if n < 0 then (-n - 1).toNat else n.toNat) = m at hw
 have hm':m < 2 ^ 64:=by rw [← hm]; split <;> omega
 have hlt:m < 2 ^ (w - 1):=by
  by_cases h0:m = 0
  ·rw [h0]; exact Nat.pow_pos (by omega)
  ·have:=(Lib.bitLenAux_bounds 64 m hm' h0).2.2
   exact Nat.lt_of_lt_of_le this (Nat.pow_le_pow_right (by omega) (by unfold Lib.bitLen at hw; omega))
 have hlt':(m:Int) < 2 ^ (w - 1):=by
  have:((2:Int) ^ (w - 1)) = ((2 ^ (w - 1):Nat):Int):=Qp _
  rw [this]; exact_mod_cast hlt
 generalize (2:Int) ^ (w - 1) = P at hlt'
 split at hm <;> omega
theorem ZFZ (k:Nat) {n:Int} (h:ZI n):Zpj k (n,()) = some (((Wb n:Nat):Int),()):=by
 show Zgv k _ = _
 simp only [Zgv]
 have hb:=ZdT h
 unfold ZI at h
 rw [ZzZ (by omega) (by omega) (by omega)]
 have e1:IntKind.u64.wrap (if n < 0 then -n - 1 else n) = (((if n < 0 then (-n - 1).toNat else n.toNat):Nat):Int):=by
  rw [IntKind.wrap_u64]; split <;> omega
 rw [e1]
 have e2:ZuU k ((((if n < 0 then (-n - 1).toNat else n.toNat):Nat):Int),()) = some (((Lib.bitLen (if n < 0 then (-n - 1).toNat else n.toNat):Nat):Int),()):=by
  show ZLk _ = _
  unfold ZLk
  rw [show (decide ((0:Int) ≤ (((if n < 0 then (-n - 1).toNat else n.toNat):Nat):Int)) && decide ((((if n < 0 then (-n - 1).toNat else n.toNat):Nat):Int) < 18446744073709551616)) = true from by
   rw [Bool.and_eq_true,decide_eq_true_eq,decide_eq_true_eq]; split <;> omega]
  rfl
 rw [e2]
 simp only [Qb]
 unfold Wb at hb ⊢
 rw [ZQ (by omega)]
 push_cast
 rfl
theorem ZEP (k:Nat) {m:Int} (h:m = 0 ∨ m = 1):ZaB k (m,()) = some (if m = 0 then 15 else 31,()):=by
 rcases h with rfl | rfl <;> rfl
def QP (m:Int):Nat:=if m = 0 then 15 else 31
theorem ZbV (k:Nat) {m:Int} (h:m = 0 ∨ m = 1):ZaB k (m,()) = some (((QP m:Nat):Int),()):=by
 rw [ZEP k h]; unfold QP; split <;> rfl
abbrev Prt:=Int × Int × Int × Unit
def Z7 (l:List Int):Nat:=l.foldl (fun w n => if n = 0 then w else max w (Wb n)) 0
def Zff:List Nat → Nat
 | [] => 0
 | x :: l => x + Zff l
def XO (l:List Int) (kk:Nat):Nat:=(kk + 1) * l.length + Zff (l.map fun n => Z5 n / 2 ^ kk)
def ZbH (l:List Int) (kk:Nat):Bool:=l.any fun n => decide (65536 < Z5 n / 2 ^ kk)
def ZaN (l:List Int) (B:Prt × Bool) (kk:Nat):Prt × Bool :=
 if ZbH l kk = false ∧ (B.2 = false ∨ ((XO l kk:Nat):Int) < B.1.2.2.1) then (((kk:Int),0,((XO l kk:Nat):Int),()),true) else B
def kF (l:List Int):Nat → Nat → Prt × Bool → Prt × Bool
 | 0,_,B => B
 | d + 1,kk,B => kF l d (kk + 1) (ZaN l B kk)
def Qv (l:List Int) (m:Int):Prt × Bool :=
 let B:=kF l (QP m) 0 ((0,0,0,()),false)
 if Z7 l ≤ 31 ∧ (B.2 = false ∨ ((5 + Z7 l * l.length:Nat):Int) < B.1.2.2.1) then (((QP m:Nat),((Z7 l:Nat):Int),((5 + Z7 l * l.length:Nat):Int),()),true) else B
theorem ZPw {l:List Nat} {b:Nat} (h:∀ x ∈ l,x ≤ b):Zff l ≤ l.length * b:=by
 induction l with
 | nil => simp [Zff]
 | cons x l ih =>
  have h1:=h x (List.mem_cons_self ..)
  have h2:=ih fun y hy => h y (List.mem_cons_of_mem _ hy)
  simp only [Zff,List.length_cons,Nat.add_mul,Nat.one_mul]
  omega
theorem ZdD:∀ (l:List Int) (w:Nat),(∀ x ∈ l,ZI x) → w ≤ 32 → w ≤ l.foldl (fun w n => if n = 0 then w else max w (Wb n)) w ∧ l.foldl (fun w n => if n = 0 then w else max w (Wb n)) w ≤ 32 ∧
   ∀ x ∈ l,x ≠ 0 → Wb x ≤ l.foldl (fun w n => if n = 0 then w else max w (Wb n)) w
 | [],w,_,hw => ⟨Nat.le_refl _,hw,by simp⟩
 | x :: l,w,hl,hw => by
  simp only [List.foldl_cons]
  have hx:=ZdT (hl x (List.mem_cons_self ..))
  have h1:(if x = 0 then w else max w (Wb x)) ≤ 32:=by split <;> omega
  obtain ⟨a,b,c⟩:=ZdD l _ (fun y hy => hl y (List.mem_cons_of_mem _ hy)) h1
  refine ⟨Nat.le_trans (by split <;> omega) a,b,fun y hy hne => ?_⟩
  rcases List.mem_cons.1 hy with rfl | hy
  ·rw [if_neg hne] at a ⊢
   omega
  ·exact c y hy hne
theorem Ztv {l:List Int} (hl:∀ x ∈ l,ZI x):∀ x ∈ l,WU x (Z7 l) = true:=by
 intro x hx
 obtain ⟨_,_,h⟩:=ZdD l 0 hl (by omega)
 by_cases h0:x = 0
 ·subst h0
  unfold WU
  split
  ·rfl
  ·rw [decide_eq_true_eq]
   have hp:(0:Int) < 2 ^ (Z7 l - 1):=Int.pow_pos (by omega)
   omega
 ·exact Zrx (hl x hx) (h x hx h0)
theorem ZsV {n:Int} (h:ZI n) (kk:Nat):Z5 n / 2 ^ kk ≤ 4294967295:=by
 have:=ZjQ h
 have:=Nat.div_le_self (Z5 n) (2 ^ kk)
 omega
theorem ZD5:KZ = ZaB:=ZrX
theorem ZT8:Zhw = ZbC:=ZrZ
theorem ZA0 (k:Nat) (L2:Int × Int × List Int × Bool × Int × Int × List Int × Int × Int × Int × Int × Int × Int → Option (((Int × Int × Int × Unit) × Bool × Unit) × Unit))
  {l:List Int} (hl:∀ x ∈ l,ZI x) (hn:l.length ≤ 512) (hk:l.length < k) {kk:Nat} (hkk:kk ≤ 31) (ok:Bool) (e w m b0 b1 b2 c0 c1 c2:Int) :
  ZiD k L2 (Int.ofNat l.length,(0:Int),((kk + 1) * l.length:Nat),(kk:Int),false,ok,(kk:Int),e,l,w,m,l.map fun n => ((Z5 n:Nat):Int),b0,b1,b2,c0,c1,c2) =
   L2 (e,((kk + 1:Nat):Int),l,(ZaN l ((b0,b1,b2,()),ok) kk).2,w,m,l.map fun n => ((Z5 n:Nat):Int),(ZaN l ((b0,b1,b2,()),ok) kk).1.1,(ZaN l ((b0,b1,b2,()),ok) kk).1.2.1,(ZaN l ((b0,b1,b2,()),ok) kk).1.2.2.1,c0,c1,c2):=by
 have hml:(l.map fun n => ((Z5 n:Nat):Int)).length = l.length:=by simp
 have:=Zu (A:=Int × Bool) (R:=((Int × Int × Int × Unit) × Bool × Unit) × Unit) (step:=fun L3 => Zaq k L2 L3) (fun i a => (Int.ofNat l.length,Int.ofNat i,a.1,(kk:Int),a.2,ok,(kk:Int),e,l,w,m,l.map (fun n => ((Z5 n:Nat):Int)),b0,b1,b2,c0,c1,c2)) l
  (fun l' a => bif !(a.2 || ZbH l' kk) then bif !ok then L2 (e,((kk + 1:Nat):Int),l,true,w,m,l.map (fun n => ((Z5 n:Nat):Int)),(kk:Int),0,a.1 + (Zff (l'.map fun n => Z5 n / 2 ^ kk):Nat),c0,c1,c2)
    else bif decide (a.1 + (Zff (l'.map fun n => Z5 n / 2 ^ kk):Nat) < b2) then L2 (e,((kk + 1:Nat):Int),l,true,w,m,l.map (fun n => ((Z5 n:Nat):Int)),(kk:Int),0,a.1 + (Zff (l'.map fun n => Z5 n / 2 ^ kk):Nat),c0,c1,c2)
    else L2 (e,((kk + 1:Nat):Int),l,ok,w,m,l.map (fun n => ((Z5 n:Nat):Int)),b0,b1,b2,c0,c1,c2)
   else L2 (e,((kk + 1:Nat):Int),l,ok,w,m,l.map (fun n => ((Z5 n:Nat):Int)),b0,b1,b2,c0,c1,c2))
  (fun i a => 0 ≤ a.1 ∧ a.1 ≤ 16384 + (i:Int) * 4294967296)
  (fun L a _ => by
   simp only [Zaq]
   rw [Zi (QV _),ZQ (n:=(kk:Int) + 1) (by omega)]
   simp only [ZbH,List.any_nil,Bool.or_false,List.map_nil,Zff,Int.natCast_zero,Int.add_zero]
   push_cast
   rfl)
  (fun L i hi a ha hL => by
   simp only [Zaq]
   have hx:=hl l[i] (List.getElem_mem hi)
   have hp:=ZsV hx kk
   have hg:(l.map fun n => ((Z5 n:Nat):Int)).getD (Int.toNat (Int.ofNat i)) 0 = ((Z5 l[i]:Nat):Int):=by
    rw [ZK (by rw [hml]; exact hi)]; simp
   rw [Zb (KU hi),Zb (by rw [hml]; exact Xx hi),Zb (by rw [hml]; simpa using hi),Zb (by omega),hg]
   simp only [QS,Nat.min_eq_left (show kk ≤ 64 by omega),KJ]
   have hfar:ZbH (l[i] :: l.drop (i + 1)) kk = (decide (65536 < Z5 l[i] / 2 ^ kk) || ZbH (l.drop (i + 1)) kk):=by unfold ZbH; rw [List.any_cons]
   have hsum:a.1 + ((Zff ((l[i] :: l.drop (i + 1)).map fun n => Z5 n / 2 ^ kk):Nat):Int) = a.1 + ((Z5 l[i] / 2 ^ kk:Nat):Int) + ((Zff ((l.drop (i + 1)).map fun n => Z5 n / 2 ^ kk):Nat):Int):=by
    simp only [List.map_cons,Zff]
    generalize Z5 l[i] / 2 ^ kk = q
    omega
   generalize Z5 l[i] / 2 ^ kk = q at hp hfar hsum ⊢
   have hi5:(i:Int) ≤ 512:=by omega
   rw [ZQ (n:=a.1 + ((q:Nat):Int)) (by omega),Qq hi (by omega)]
   rw [hfar,hsum]
   cases h4:a.2 with
   | true =>
    simp only [cond_true]
    rw [hL (a.1 + ((q:Nat):Int),true) ⟨by omega,by push_cast; omega⟩]
    simp
   | false =>
    simp only [cond_false]
    rw [Zb (by omega)]
    have hd:decide ((65536:Int) < ((q:Nat):Int)) = decide (65536 < q):=by
     by_cases hh:65536 < q
     ·rw [QX hh,QX (by omega)]
     ·rw [QN hh,QN (by omega)]
    rw [hd,hL (a.1 + ((q:Nat):Int),decide (65536 < q)) ⟨by omega,by push_cast; omega⟩]
    simp) k 0 ((((kk + 1) * l.length:Nat):Int),false) ⟨by omega,by
     have:(kk + 1) * l.length ≤ 32 * 512:=Nat.mul_le_mul (by omega) hn
     show (((kk + 1) * l.length:Nat):Int) ≤ 16384 + ((0:Nat):Int) * 4294967296
     generalize (kk + 1) * l.length = N at this ⊢
     omega⟩ (by omega) (Nat.zero_le _)
 refine Eq.trans this ?_
 rw [List.drop_zero]
 unfold ZaN
 have hsz:(((kk + 1) * l.length:Nat):Int) + ((Zff (l.map fun n => Z5 n / 2 ^ kk):Nat):Int) = ((XO l kk:Nat):Int):=by unfold XO; push_cast; rfl
 simp only [Bool.false_or,hsz]
 cases hfb:ZbH l kk with
 | true => simp
 | false =>
  simp only [Bool.not_false,cond_true,true_and]
  cases ok with
  | false => simp
  | true =>
   simp only [Bool.not_true,cond_false,Bool.true_eq_false,false_or]
   by_cases hlt:((XO l kk:Nat):Int) < b2
   ·rw [Zb hlt,if_pos hlt]
   ·rw [Zi hlt,if_neg hlt]
theorem ZIH (k:Nat) {l:List Int} (hl:∀ x ∈ l,ZI x) (hn:l.length ≤ 512) (hk:l.length < k) {m:Int} (hm:m = 0 ∨ m = 1) (c0 c1 c2:Int) (hw:Z7 l ≤ 32) :
  ∀ (d kk j:Nat) (B:Prt × Bool),kk + d = QP m → d < j →
  Zm (fun L2 => Zcd k (ZiD k L2) L2) j (((QP m:Nat):Int),(kk:Int),l,B.2,((Z7 l:Nat):Int),m,l.map (fun n => ((Z5 n:Nat):Int)),B.1.1,B.1.2.1,B.1.2.2.1,c0,c1,c2) =
   some ((let B:=kF l d kk B; if Z7 l ≤ 31 ∧ (B.2 = false ∨ ((5 + Z7 l * l.length:Nat):Int) < B.1.2.2.1) then ((((QP m:Nat):Int),((Z7 l:Nat):Int),((5 + Z7 l * l.length:Nat):Int),()),true,()) else (B.1,B.2,())),()):=by
 have he:QP m ≤ 31:=by unfold QP; split <;> omega
 intro d
 induction d with
 | zero =>
  intro kk j B hkk hj
  obtain ⟨j,rfl⟩:=Zn hj
  rw [Zd]
  simp only [Zcd]
  rw [Zi (by omega)]
  have hwl:Z7 l * l.length ≤ 32 * 512:=Nat.mul_le_mul hw hn
  have e1:IntKind.i64.wrap ((5:Int) + IntKind.i64.wrap (((Z7 l:Nat):Int) * Int.ofNat l.length)) = ((5 + Z7 l * l.length:Nat):Int):=by
   have:((Z7 l:Nat):Int) * Int.ofNat l.length = ((Z7 l * l.length:Nat):Int):=by simp only [Qh]; push_cast; rfl
   rw [this,ZQ (n:=((Z7 l * l.length:Nat):Int)) (by omega),ZQ (by omega)]
   push_cast; rfl
  rw [e1,ZD5,ZbV k hm]
  simp only [Qb]
  rw [show kF l 0 kk B = B from rfl]
  by_cases h31:Z7 l ≤ 31
  ·rw [Zb (by omega)]
   cases hB:B.2 with
   | false => simp only [Bool.not_false,cond_true]; rw [if_pos ⟨h31,.inl trivial⟩]
   | true =>
    simp only [Bool.not_true,cond_false,Bool.true_eq_false,false_or]
    by_cases hlt:((5 + Z7 l * l.length:Nat):Int) < B.1.2.2.1
    ·rw [Zb hlt,if_pos ⟨h31,hlt⟩]
    ·rw [Zi hlt,if_neg (fun h => hlt h.2)]
  ·rw [Zi (by omega),if_neg (fun h => h31 h.1)]
 | succ d ih =>
  intro kk j B hkk hj
  obtain ⟨j,rfl⟩:=Zn (show 0 < j by omega)
  rw [Zd]
  simp only [Zcd]
  rw [Zb (by omega)]
  have hkl:(kk + 1) * l.length ≤ 32 * 512:=Nat.mul_le_mul (by omega) hn
  have e1:IntKind.i64.wrap (IntKind.i64.wrap ((kk:Int) + 1) * Int.ofNat l.length) = (((kk + 1) * l.length:Nat):Int):=by
   have h1:IntKind.i64.wrap ((kk:Int) + 1) = ((kk + 1:Nat):Int):=by rw [ZQ (by omega)]; push_cast; rfl
   rw [h1]
   have:((kk + 1:Nat):Int) * Int.ofNat l.length = (((kk + 1) * l.length:Nat):Int):=by simp only [Qh]; rw [Int.natCast_mul]
   rw [this,ZQ (by omega)]
  rw [e1]
  have e2:Int.ofNat (l.map fun n => ((Z5 n:Nat):Int)).length = Int.ofNat l.length:=by simp
  rw [e2,ZA0 k _ hl hn hk (by omega)]
  rw [ih (kk + 1) j (ZaN l B kk) (by omega) (by omega)]
  rfl
theorem ZFA (k:Nat) {l:List Int} (hl:∀ x ∈ l,ZI x) (hn:l.length ≤ 512) (hk:l.length + 40 < k) {m:Int} (hm:m = 0 ∨ m = 1) :
  Zo8 k (l,m,()) = some (((Qv l m).1,(Qv l m).2,()),()):=by
 show Zgd k (Znj k) _ = _
 simp only [Zgd]
 rw [Zb (by simp only [Qh]; omega)]
 have hwid:=(ZdD l 0 hl (by omega)).2.1
 have he:QP m ≤ 31:=by unfold QP; split <;> omega
 have:=Zu (A:=Nat × List Int) (step:=fun L1 => Zcc k (ZiC k) L1) (fun i a => (Int.ofNat l.length,Int.ofNat i,l,((a.1:Nat):Int),m,l,false,a.2,0,0,0,0,0,0)) l
  (fun l' a => ZiC k (((QP m:Nat):Int),0,l,false,((l'.foldl (fun w n => if n = 0 then w else max w (Wb n)) a.1:Nat):Int),m,a.2.take (l.length - l'.length) ++ l'.map (fun n => ((Z5 n:Nat):Int)),0,0,0,0,0,0))
  (fun i a => a.1 ≤ 32 ∧ a.2.length = l.length)
  (fun L a ha => by
   simp only [Zcc]
   rw [Zi (QV _),ZD5,ZbV k hm]
   simp only [Qb,List.foldl_nil,List.map_nil,List.append_nil,List.length_nil,Nat.sub_zero]
   rw [List.take_of_length_le (by omega)])
  (fun L i hi a ha hL => by
   simp only [Zcc]
   have hx:=hl l[i] (List.getElem_mem hi)
   have hb:=ZdT hx
   rw [Zb (KU hi),Zb (Xx hi),ZK hi,ZT8,Zr1 k hx]
   simp only [Qb]
   rw [Zb (by rw [ha.2]; exact Xx hi),Zb (by rw [ha.2]; simpa using hi),ZT,Qq hi (by omega)]
   have hdl:(l.drop (i + 1)).length = l.length - (i + 1):=by simp
   have hset:(a.2.set (Int.ofNat i).toNat ((Z5 l[i]:Nat):Int)).take (l.length - (l.drop (i + 1)).length) ++ (l.drop (i + 1)).map (fun n => ((Z5 n:Nat):Int)) =
     a.2.take (l.length - (l[i] :: l.drop (i + 1)).length) ++ (l[i] :: l.drop (i + 1)).map (fun n => ((Z5 n:Nat):Int)):=by
    rw [hdl,List.length_cons,hdl,show l.length - (l.length - (i + 1)) = i + 1 by omega,show l.length - (l.length - (i + 1) + 1) = i by omega]
    rw [List.map_cons,List.take_add_one,List.take_set_of_le (by simp)]
    have:(a.2.set (Int.ofNat i).toNat ((Z5 l[i]:Nat):Int))[i]? = some ((Z5 l[i]:Nat):Int):=by
     rw [List.getElem?_set]; simp; omega
    rw [this]
    simp
   have hfold:(l[i] :: l.drop (i + 1)).foldl (fun w n => if n = 0 then w else max w (Wb n)) a.1 = (l.drop (i + 1)).foldl (fun w n => if n = 0 then w else max w (Wb n)) (if l[i] = 0 then a.1 else max a.1 (Wb l[i])):=rfl
   by_cases h0:l[i] = 0
   ·rw [Zi (by simpa using h0)]
    rw [hL (a.1,a.2.set (Int.ofNat i).toNat ((Z5 l[i]:Nat):Int)) ⟨ha.1,by simpa using ha.2⟩,hset,hfold,if_pos h0]
   ·rw [Zb h0,ZFZ k hx]
    simp only [Qb]
    have e1:(if ((a.1:Nat):Int) < ((Wb l[i]:Nat):Int) then ((Wb l[i]:Nat):Int) else ((a.1:Nat):Int)) = ((max a.1 (Wb l[i]):Nat):Int):=by split <;> omega
    rw [e1,hL (max a.1 (Wb l[i]),a.2.set (Int.ofNat i).toNat ((Z5 l[i]:Nat):Int)) ⟨by omega,by simpa using ha.2⟩,hset,hfold,if_neg h0])
  k 0 (0,List.replicate l.length 0) ⟨by omega,by simp⟩ (by omega) (Nat.zero_le _)
 rw [List.drop_zero] at this
 refine Eq.trans this ?_
 have:=ZIH k hl hn (by omega) hm 0 0 0 hwid (QP m) 0 k ((0,0,0,()),false) (by omega) (by omega)
 rw [Nat.sub_self,List.take_zero,List.nil_append]
 refine Eq.trans this ?_
 unfold Qv
 simp only
 split <;> rfl
end Go.Sh
namespace Go.Sh
open Go Go.Proofs
theorem ZQt:Zdf = ZaA:=ZrV
theorem ZVv:Zo7 = ZaD:=Zsh
theorem ZkJ (k:Nat) {m:Int} (h:m = 0 ∨ m = 1):ZaA k (m,()) = some (4 + m,()):=by
 rcases h with rfl | rfl <;> rfl
theorem ZFv (k:Nat) (x:Int):Zo6 k (x,()) = some (Qa x,()):=by
 show Zf9 k _ = _
 simp only [Zf9]
 unfold Qa
 by_cases h:x ≤ -2147483648
 ·rw [Zb h,QX (.inl h)]
 ·rw [Zi h]
  by_cases h2:2147483648 ≤ x
  ·rw [QX h2,QX (.inr h2)]
  ·rw [QN h2,QN (by omega)]
theorem Zxk (k:Nat) (c:List Int) (hk:c.length < k) (hn:c.length < 4294967296):Zd1 k (c,(),()) = some (c.any Qa,()):=by
 show Za4 k _ = _
 simp only [Za4]
 have key:∃ i:Int,Zed k (c,(),()) = some (i,()) ∧ (0 ≤ i ↔ c.any Qa = true):=by
  have:=XY (A:=Unit) (R:=Int × Unit) (step:=fun L1 => KC k L1) (fun i _ => (Int.ofNat c.length,Int.ofNat i,c)) c
   (fun l _ => some (if l.any Qa then Int.ofNat (c.length - l.length + (l.takeWhile (fun x => !Qa x)).length) else -1,()))
   (fun L _ => by simp only [KC]; rw [Zi (QV _)]; rfl)
   (fun L i hi _ hL => by
    simp only [KC]
    rw [Zb (KU hi),Zb (Xx hi),ZK hi,ZFv]
    simp only [Qb]
    have hlen:(List.drop (i + 1) c).length = c.length - (i + 1):=by simp
    cases hc:Qa c[i] with
    | false =>
     simp only [cond_false]
     rw [Qq hi (by omega),hL ()]
     simp only [List.any_cons,hc,Bool.false_or,List.takeWhile_cons,Bool.not_false,if_true,List.length_cons,hlen]
     split
     ·congr 3; omega
     ·rfl
    | true =>
     simp only [cond_true,List.any_cons,hc,Bool.true_or,if_true,List.takeWhile_cons,Bool.not_true,Bool.false_eq_true,if_false,List.length_cons,hlen,List.length_nil]
     congr 3; omega) k 0 () (by omega) (Nat.zero_le _)
  rw [List.drop_zero] at this
  refine ⟨_,this,?_⟩
  cases c.any Qa <;> simp
 obtain ⟨i,h1,h2⟩:=key
 rw [h1]
 simp only [Qb]
 cases hc:c.any Qa with
 | true => rw [QX (h2.2 hc)]
 | false => rw [QN (fun h => by have:=h2.1 h; rw [hc] at this; cases this)]
def KW (n o:Int):Bool:=decide (1 ≤ n ∧ n ≤ 512 ∧ 0 ≤ o ∧ o ≤ 8 ∧ o ≤ n)
theorem Zsg (k:Nat) (n o:Int):Zk4 k (n,o,()) = some (KW n o,()):=by
 show Zf8 k _ = _
 simp only [Zf8]
 unfold KW
 by_cases h1:1 ≤ n
 ·rw [Zb h1]
  by_cases h2:n ≤ 512
  ·rw [Zb h2]
   by_cases h3:0 ≤ o
   ·rw [Zb h3]
    congr 2
    by_cases h4:o ≤ 8 ∧ o ≤ n
    ·rw [QX (show 1 ≤ n ∧ n ≤ 512 ∧ 0 ≤ o ∧ o ≤ 8 ∧ o ≤ n by omega),QX (by split <;> omega)]
    ·rw [QN (show ¬ (1 ≤ n ∧ n ≤ 512 ∧ 0 ≤ o ∧ o ≤ 8 ∧ o ≤ n) by omega),QN (by split <;> omega)]
   ·rw [Zi h3,QN (by omega)]
  ·rw [Zi h2,QN (by omega)]
 ·rw [Zi h1,QN (by omega)]
def Xb (l:List Int) (o:Int):Int:=if o < 0 ∨ 8 < o then 1 else if KW ((l.length:Int) + o) o = false then 1 else if l.any Qa then 12 else 0
theorem ZrS (k:Nat) (l:List Int) (o:Int) (hk:l.length < k) (hn:l.length < 4294967296):ZkF k (l,o,()) = some (Xb l o,()):=by
 show ZfA k _ = _
 simp only [ZfA]
 unfold Xb
 by_cases h1:o < 0
 ·rw [Zb h1,if_pos (.inl h1)]
 ·rw [Zi h1]
  by_cases h2:8 < o
  ·rw [Zb h2,if_pos (.inr h2)]
  ·rw [Zi h2,if_neg (by omega),ZQ (by simp only [Qh]; omega),Zsg]
   simp only [Qb,Qh]
   cases hb:KW ((l.length:Int) + o) o with
   | false => rfl
   | true =>
    simp only [Bool.not_true,cond_false,Bool.true_eq_false,if_false]
    rw [Zxk k l hk hn]
    simp only [Qb]
    cases l.any Qa <;> rfl
theorem ZTM {p:Nat} (hp:p ≤ 31):IntKind.i64.wrap (IntKind.i64.wrap ((1:Int) * (2:Int) ^ min ((p:Int)).toNat 64) - 1) = ((2 ^ p - 1:Nat):Int):=by
 have h1:2 ^ p ≤ 2 ^ 31:=Nat.pow_le_pow_right (by omega) hp
 have h0:0 < 2 ^ p:=Nat.pow_pos (by omega)
 rw [QS,Nat.min_eq_left (by omega),Int.one_mul,Qp]
 rw [ZQ (n:=((2 ^ p:Nat):Int)) (by omega),ZQ (by omega)]
 omega
theorem Ko {p:Nat} (hp:p ≤ 31):IntKind.i64.wrap ((1:Int) * (2:Int) ^ min ((p:Int)).toNat 64) = ((2 ^ p:Nat):Int):=by
 have h1:2 ^ p ≤ 2 ^ 31:=Nat.pow_le_pow_right (by omega) hp
 rw [QS,Nat.min_eq_left (by omega),Int.one_mul,Qp]
 generalize 2 ^ p = Q at h1 ⊢
 rw [ZQ (by omega)]
theorem ZwP {n p:Nat} (hn:n < 4294967296) (hp:p ≤ 31):IntKind.i64.wrap (Int.ofNat (BitVec.ofInt 64 (n:Int) &&& BitVec.ofInt 64 (IntKind.i64.wrap (IntKind.i64.wrap ((1:Int) * (2:Int) ^ min ((p:Int)).toNat 64) - 1))).toNat) = ((n % 2 ^ p:Nat):Int):=by
 have h1:2 ^ p ≤ 2 ^ 31:=Nat.pow_le_pow_right (by omega) hp
 rw [ZTM hp,Zz8 (by omega) (by omega),Nat.and_two_pow_sub_one_eq_mod]
 have:n % 2 ^ p ≤ n:=Nat.mod_le _ _
 rw [ZQ (by omega)]
def ZcI (n o p:Nat):Bool:=decide (n % 2 ^ p = 0) && decide (o ≤ n / 2 ^ p)
theorem Zsi (k:Nat) {n o p:Nat} (hn:n < 4294967296) (hp:p ≤ 31):ZaD k ((n:Int),(o:Int),(p:Int),()) = some (ZcI n o p,()):=by
 show Zgb k _ = _
 simp only [Zgb]
 rw [Zb (by omega),ZwP hn hp,ZB,QS,Nat.min_eq_left (by omega),KJ]
 unfold ZcI
 by_cases h:n % 2 ^ p = 0
 ·rw [Zb (by omega),Zb (by omega),QX h,Bool.true_and]
  congr 2
  by_cases h2:o ≤ n / 2 ^ p
  ·rw [QX h2,QX (by omega)]
  ·rw [QN h2,QN (by omega)]
 ·rw [Zi (by omega),QN h,Bool.false_and]
def KX (size:Nat):Nat → List Int → List (List Int)
 | 0,_ => []
 | d + 1,r => r.take size :: KX size d (r.drop size)
def WV (l:List Int) (o p:Nat):List (List Int):=l.take ((l.length + o) / 2 ^ p - o) :: KX ((l.length + o) / 2 ^ p) (2 ^ p - 1) (l.drop ((l.length + o) / 2 ^ p - o))
theorem Zoi (size:Nat):∀ (d:Nat) (r:List Int),(KX size d r).length = d
 | 0,_ => rfl
 | d + 1,r => by simp [KX,Zoi size d]
theorem ZbO (l:List Int) (o p:Nat):(WV l o p).length = 2 ^ p:=by
 have h0:0 < 2 ^ p:=Nat.pow_pos (by omega)
 simp only [WV,List.length_cons,Zoi]
 omega
theorem Zoj {size:Nat}:∀ {d:Nat} {r c:List Int},c ∈ KX size d r → ∀ x ∈ c,x ∈ r
 | d + 1,r,c,h,x,hx => by
  rcases List.mem_cons.1 h with rfl | h
  ·exact List.mem_of_mem_take hx
  ·exact List.mem_of_mem_drop (Zoj h x hx)
theorem YF {l:List Int} {o p:Nat} {c:List Int} (h:c ∈ WV l o p):∀ x ∈ c,x ∈ l:=by
 intro x hx
 rcases List.mem_cons.1 h with rfl | h
 ·exact List.mem_of_mem_take hx
 ·exact List.mem_of_mem_drop (Zoj h x hx)
theorem ZrD {size:Nat}:∀ {d:Nat} {r c:List Int},c ∈ KX size d r → c.length ≤ r.length
 | d + 1,r,c,h => by
  rcases List.mem_cons.1 h with rfl | h
  ·rw [List.length_take]; omega
  ·have:=ZrD h
   rw [List.length_drop] at this
   omega
theorem ZaY {l:List Int} {o p:Nat} {c:List Int} (h:c ∈ WV l o p):c.length ≤ l.length:=by
 rcases List.mem_cons.1 h with rfl | h
 ·rw [List.length_take]; omega
 ·have:=ZrD h
  rw [List.length_drop] at this
  omega
theorem ZEO (k:Nat) {p size:Nat} (hp:p ≤ 15):∀ (d m:Nat) (r:List Int) (out:List (List Int)),d < m → out.length + d = 2 ^ p → r.length = d * size → r.length < 4294967296 →
  Zm (fun L1 => ZbU k L1) m ((p:Int),r,(size:Int),out) = some (out ++ KX size d r,()):=by
 have h15:2 ^ p ≤ 2 ^ 15:=Nat.pow_le_pow_right (by omega) hp
 intro d
 induction d with
 | zero =>
  intro m r out hm ho hr hn
  obtain ⟨m,rfl⟩:=Zn hm
  rw [Zd]
  simp only [ZbU]
  rw [Zb (by omega),Ko (by omega),Zi (by simp only [Qh]; omega)]
  simp [KX]
 | succ d ih =>
  intro m r out hm ho hr hn
  obtain ⟨m,rfl⟩:=Zn (show 0 < m by omega)
  rw [Zd]
  simp only [ZbU]
  have hs:(d + 1) * size = d * size + size:=by rw [Nat.add_mul,Nat.one_mul]
  have hle:size ≤ r.length:=by omega
  rw [Zb (by omega),Ko (by omega),Zb (by simp only [Qh]; omega),Zb (by simp only [Qh]; omega),
   Zb (by simp only [List.length_singleton]; omega),Zb (by simp only [Qh]; omega)]
  rw [QS,show (Int.ofNat r.length).toNat = r.length from rfl,List.take_length,List.drop_zero]
  rw [ih m (r.drop size) _ (by omega) (by rw [Wq,List.length_singleton]; omega) (by rw [List.length_drop]; omega) (by rw [List.length_drop]; omega)]
  simp [KX]
theorem ZrU (k:Nat) {l:List Int} {o p:Nat} (hp:p ≤ 15) (hn:l.length + o < 4294967296) (hk:32768 < k) (hf:ZcI (l.length + o) o p = true) :
  ZkH k (l,(o:Int),(p:Int),()) = some (WV l o p,()):=by
 show ZfE k (ZmK k) _ = _
 have h15:2 ^ p ≤ 2 ^ 15:=Nat.pow_le_pow_right (by omega) hp
 have h0:0 < 2 ^ p:=Nat.pow_pos (by omega)
 unfold ZcI at hf
 simp only [Bool.and_eq_true,decide_eq_true_eq] at hf
 obtain ⟨hm,ho⟩:=hf
 simp only [ZfE]
 have e1:IntKind.i64.wrap (Int.ofNat l.length + (o:Int)) = ((l.length + o:Nat):Int):=by rw [ZQ (by simp only [Qh]; omega)]; rfl
 have hd:(l.length + o) / 2 ^ p ≤ l.length + o:=Nat.div_le_self _ _
 have hmul:2 ^ p * ((l.length + o) / 2 ^ p) = l.length + o:=by have:=Nat.div_add_mod (l.length + o) (2 ^ p); omega
 unfold WV
 rw [e1]
 simp only [QS,Nat.min_eq_left (show p ≤ 64 by omega),KJ]
 generalize hsz:(l.length + o) / 2 ^ p = size at ho hd hmul
 have e2:IntKind.i64.wrap ((size:Int) - (o:Int)) = ((size - o:Nat):Int):=by rw [ZQ (by omega)]; omega
 have hle:size ≤ l.length + o:=hd
 have e3:(2 ^ p - 1) * size = 2 ^ p * size - size:=by rw [Nat.sub_mul,Nat.one_mul]
 rw [e2,Zb (by omega),Zb (by simp only [Qh]; omega),Zb (by simp only [Qh]; omega)]
 rw [QS,show (Int.ofNat l.length).toNat = l.length from rfl,List.take_length,List.drop_zero]
 have hps:size ≤ 2 ^ p * size:=Nat.le_mul_of_pos_left _ h0
 refine Eq.trans (ZEO k hp (2 ^ p - 1) k _ _ (by omega) (by rw [List.length_singleton]; omega) (by rw [List.length_drop,e3]; omega) (by rw [List.length_drop]; omega)) ?_
 rfl
end Go.Sh
namespace Go.Sh
open Go Go.Proofs
def KV (c:List Int) (m:Int) (y:Prt):Prop :=
 (∃ kk:Nat,kk < QP m ∧ ZbH c kk = false ∧ y = ((kk:Int),0,((XO c kk:Nat):Int),())) ∨
 (Z7 c ≤ 31 ∧ y = (((QP m:Nat):Int),((Z7 c:Nat):Int),((5 + Z7 c * c.length:Nat):Int),()))
theorem ZQl {c:List Int} {m:Int}:∀ (d kk:Nat) (B:Prt × Bool),kk + d = QP m → (B.2 = true → KV c m B.1) → ((kF c d kk B).2 = true → KV c m (kF c d kk B).1)
 | 0,_,B,_,hB => hB
 | d + 1,kk,B,hk,hB => by
  refine ZQl d (kk + 1) _ (by omega) fun h => ?_
  unfold ZaN at h ⊢
  split
  ·rename_i hc
   exact .inl ⟨kk,by omega,hc.1,rfl⟩
  ·rename_i hc
   rw [if_neg hc] at h
   exact hB h
theorem Zax {c:List Int} {m:Int} (h:(Qv c m).2 = true):KV c m (Qv c m).1:=by
 unfold Qv at h ⊢
 simp only at h ⊢
 split
 ·rename_i hc
  exact .inr ⟨hc.1,rfl⟩
 ·rename_i hc
  rw [if_neg hc] at h
  exact ZQl _ _ _ (by omega) (fun h => by cases h) h
theorem ZDF {c:List Int}:∀ (d kk:Nat) (B:Prt × Bool),B.2 = true → (kF c d kk B).2 = true
 | 0,_,B,hB => hB
 | d + 1,kk,B,hB => by
  refine ZDF d (kk + 1) _ ?_
  unfold ZaN
  split
  ·rfl
  ·exact hB
theorem ZDG {c:List Int} {j:Nat} (hj:ZbH c j = false):∀ (d kk:Nat) (B:Prt × Bool),kk ≤ j → j < kk + d → (kF c d kk B).2 = true
 | 0,_,B,h1,h2 => by omega
 | d + 1,kk,B,h1,h2 => by
  by_cases he:kk = j
  ·subst he
   refine ZDF d _ _ ?_
   unfold ZaN
   split
   ·rfl
   ·rename_i hc
    simp only [hj,true_and,not_or] at hc
    simpa using hc.1
  ·exact ZDG hj d (kk + 1) _ (by omega) (by omega)
theorem ZVf {c:List Int} (hc:∀ x ∈ c,ZI x):ZbH c 16 = false:=by
 unfold ZbH
 rw [List.any_eq_false]
 intro x hx
 have h1:=ZjQ (hc x hx)
 have:Z5 x / 2 ^ 16 < 65536:=by rw [Nat.div_lt_iff_lt_mul (by decide)]; omega
 simp only [decide_eq_true_eq]
 omega
theorem ZAd {c:List Int} (hc:∀ x ∈ c,ZI x):(Qv c 1).2 = true:=by
 unfold Qv
 simp only
 split
 ·rfl
 ·exact ZDG (ZVf hc) _ _ _ (by omega) (by decide)
theorem KV.size {c:List Int} {m:Int} {y:Prt} (h:KV c m y) (hc:∀ x ∈ c,ZI x) (hn:c.length ≤ 512):0 ≤ y.2.2.1 ∧ y.2.2.1 ≤ 4398046511104:=by
 have he:QP m ≤ 31:=by unfold QP; split <;> omega
 rcases h with ⟨kk,hk,_,rfl⟩ | ⟨hw,rfl⟩
 ·simp only
  have h1:(kk + 1) * c.length ≤ 32 * 512:=Nat.mul_le_mul (by omega) hn
  have h2:Zff (c.map fun n => Z5 n / 2 ^ kk) ≤ (c.map fun n => Z5 n / 2 ^ kk).length * 4294967295:=ZPw fun x hx => by
   obtain ⟨n,hn,rfl⟩:=List.mem_map.1 hx
   exact ZsV (hc n hn) kk
  rw [List.length_map] at h2
  unfold XO
  omega
 ·simp only
  have h1:Z7 c * c.length ≤ 31 * 512:=Nat.mul_le_mul hw hn
  omega
def Qc (m:Int):List (List Int) → List Prt → Int → List Prt × Int × Bool
 | [],ps,sz => (ps,sz,true)
 | c :: cs,ps,sz => if (Qv c m).2 = true then Qc m cs (ps ++ [(Qv c m).1]) (sz + (4 + m + (Qv c m).1.2.2.1)) else (ps,sz,false)
theorem Zds {m:Int} {c:List Int} (cs:List (List Int)) (ps:List Prt) (sz:Int) (h:(Qv c m).2 = true):Qc m (c :: cs) ps sz = Qc m cs (ps ++ [(Qv c m).1]) (sz + (4 + m + (Qv c m).1.2.2.1)):=by
 show (if (Qv c m).2 = true then _ else _) = _
 rw [if_pos h]
theorem ZgL {m:Int} {c:List Int} (cs:List (List Int)) (ps:List Prt) (sz:Int) (h:(Qv c m).2 = false):Qc m (c :: cs) ps sz = (ps,sz,false):=by
 show (if (Qv c m).2 = true then _ else _) = _
 rw [if_neg (by rw [h]; simp)]
abbrev WT:=Int × Int × Int × List Prt
def W0 (l:List Int) (o p:Nat) (m:Int) (B:WT):WT :=
 if (Qc m (WV l o p) [] 6).2.2 = true ∧ (B.2.2.1 < 0 ∨ (Qc m (WV l o p) [] 6).2.1 < B.2.2.1) then (m,(p:Int),(Qc m (WV l o p) [] 6).2.1,(Qc m (WV l o p) [] 6).1) else B
def Zbv (l:List Int) (o:Nat) (B:WT) (p:Nat):WT:=if ZcI (l.length + o) o p = true then W0 l o p 1 (W0 l o p 0 B) else B
def W6 (l:List Int) (o:Nat):Nat → Nat → WT → WT
 | 0,_,B => B
 | d + 1,p,B => W6 l o d (p + 1) (Zbv l o B p)
def Qx (l:List Int) (o:Nat):WT:=W6 l o 5 0 (0,0,-1,[])
theorem ZAz (k:Nat) (L1:Int × List Int × Int × Int × Int × Int × List (Int × Int × Int × Unit) × Int × Int × Int → Option ((Int × Int × List (Int × Int × Int × Unit) × Int × Unit) × Unit))
  (L2:Int × Int × List Int × Int × Int × Int × Int × List (Int × Int × Int × Unit) × Int × Int × Int → Option ((Int × Int × List (Int × Int × Int × Unit) × Int × Unit) × Unit))
  {cs:List (List Int)} (hcs:∀ c ∈ cs,(∀ x ∈ c,ZI x) ∧ c.length ≤ 512) (hn:cs.length ≤ 16) (hk:600 < k) {m:Int} (hm:m = 0 ∨ m = 1) (p:Int) (l:List Int) (o:Int) (B:WT) :
  Za8 k L1 L2 (Int.ofNat cs.length,(0:Int),cs,m,p,l,o,true,B.1,B.2.1,B.2.2.1,B.2.2.2,m,p,(6:Int),[],0,0,0) =
   L2 (m + 1,p,l,o,if (Qc m cs [] 6).2.2 = true ∧ (B.2.2.1 < 0 ∨ (Qc m cs [] 6).2.1 < B.2.2.1) then (m,p,(Qc m cs [] 6).2.1,(Qc m cs [] 6).1,0,0,0) else (B.1,B.2.1,B.2.2.1,B.2.2.2,0,0,0)):=by
 have hm1:IntKind.i64.wrap (m + 1) = m + 1:=by rcases hm with rfl | rfl <;> rfl
 have:=Zu (A:=Int × List Prt) (R:=(Int × Int × List (Int × Int × Int × Unit) × Int × Unit) × Unit) (step:=fun L3 => Zao k L1 L2 L3)
  (fun i a => (Int.ofNat cs.length,Int.ofNat i,cs,m,p,l,o,true,B.1,B.2.1,B.2.2.1,B.2.2.2,m,p,a.1,a.2,0,0,0)) cs
  (fun cs' a => L2 (m + 1,p,l,o,if (Qc m cs' a.2 a.1).2.2 = true ∧ (B.2.2.1 < 0 ∨ (Qc m cs' a.2 a.1).2.1 < B.2.2.1) then (m,p,(Qc m cs' a.2 a.1).2.1,(Qc m cs' a.2 a.1).1,0,0,0) else (B.1,B.2.1,B.2.2.1,B.2.2.2,0,0,0)))
  (fun i a => 0 ≤ a.1 ∧ a.1 ≤ 6 + (i:Int) * 8796093022208 ∧ a.2.length = i)
  (fun L a _ => by
   simp only [Zao]
   rw [Zi (QV _),hm1]
   simp only [cond_true,Qc,true_and]
   by_cases h1:B.2.2.1 < 0
   ·rw [Zb h1,if_pos (.inl h1)]
   ·rw [Zi h1]
    by_cases h2:a.1 < B.2.2.1
    ·rw [Zb h2,if_pos (.inr h2)]
    ·rw [Zi h2,if_neg (by omega)])
  (fun L i hi a ha hL => by
   simp only [Zao]
   obtain ⟨hc1,hc2⟩:=hcs cs[i] (List.getElem_mem hi)
   rw [Zb (KU hi),Zb (Xx hi),ZK hi,ZFA k hc1 hc2 (by omega) hm]
   simp only [Qb]
   cases hb:(Qv cs[i] m).2 with
   | false =>
    rw [ZgL _ _ _ hb]
    simp only [Bool.not_false,cond_true,cond_false,hm1,Bool.false_eq_true,if_false,false_and]
   | true =>
    rw [Zds _ _ _ hb]
    simp only [Bool.not_true,cond_false]
    have hs:=(Zax hb).size hc1 hc2
    have hi16:(i:Int) < 16:=by omega
    have hm01:0 ≤ m ∧ m ≤ 1:=by rcases hm with rfl | rfl <;> omega
    rw [Zb (by simp only [List.length_singleton]; omega),ZQt,ZkJ k hm]
    simp only [Qb]
    rw [Qq hi (by omega),ZQ (n:=4 + m + (Qv cs[i] m).1.2.2.1) (by omega),ZQ (by omega)]
    exact hL (a.1 + (4 + m + (Qv cs[i] m).1.2.2.1),a.2 ++ [(Qv cs[i] m).1]) ⟨by omega,by push_cast; omega,by simp; omega⟩)
  k 0 ((6:Int),[]) ⟨by omega,by simp,rfl⟩ (by omega) (Nat.zero_le _)
 rw [List.drop_zero] at this
 exact this
theorem ZEJ (k:Nat) (L1:Int × List Int × Int × Int × Int × Int × List (Int × Int × Int × Unit) × Int × Int × Int → Option ((Int × Int × List (Int × Int × Int × Unit) × Int × Unit) × Unit))
  {l:List Int} (hl:∀ x ∈ l,ZI x) {o p:Nat} (hn:l.length + o ≤ 512) (hp:p ≤ 4) (hk:40000 < k) (hf:ZcI (l.length + o) o p = true) (B:WT) :
  Zis k L1 ((0:Int),(p:Int),l,(o:Int),B.1,B.2.1,B.2.2.1,B.2.2.2,0,0,0) =
   L1 (((p + 1:Nat):Int),l,(o:Int),(W0 l o p 1 (W0 l o p 0 B)).1,(W0 l o p 1 (W0 l o p 0 B)).2.1,(W0 l o p 1 (W0 l o p 0 B)).2.2.1,(W0 l o p 1 (W0 l o p 0 B)).2.2.2,0,0,0):=by
 have hcs:∀ c ∈ WV l o p,(∀ x ∈ c,ZI x) ∧ c.length ≤ 512:=fun c hc => ⟨fun x hx => hl x (YF hc x hx),by have:=ZaY hc; omega⟩
 have hlen:(WV l o p).length ≤ 16:=by
  rw [ZbO]
  have:2 ^ p ≤ 2 ^ 4:=Nat.pow_le_pow_right (by omega) hp
  omega
 have hcut:=ZrU k (l:=l) (o:=o) (p:=p) (by omega) (by omega) (by omega) hf
 have one:∀ (j:Nat) (m:Int) (B:WT),m = 0 ∨ m = 1 → Zm (fun L2 => Yu k (Za8 k L1 L2) L1 L2) (j + 1) (m,(p:Int),l,(o:Int),B.1,B.2.1,B.2.2.1,B.2.2.2,0,0,0) =
   Zm (fun L2 => Yu k (Za8 k L1 L2) L1 L2) j (m + 1,(p:Int),l,(o:Int),(W0 l o p m B).1,(W0 l o p m B).2.1,(W0 l o p m B).2.2.1,(W0 l o p m B).2.2.2,0,0,0):=by
  intro j m B hm
  rw [Zd]
  simp only [Yu]
  rw [Zb (by rcases hm with rfl | rfl <;> omega),hcut]
  simp only [Qb]
  refine (ZAz k L1 _ hcs hlen (by omega) hm (p:Int) l (o:Int) B).trans ?_
  unfold W0
  split <;> rfl
 obtain ⟨j,rfl⟩:∃ j,k = j + 3:=⟨k - 3,by omega⟩
 show Zm (fun L2 => Yu (j + 3) (Za8 (j + 3) L1 L2) L1 L2) (j + 3) _ = _
 rw [one (j + 2) 0 B (.inl rfl),show (0:Int) + 1 = 1 from rfl,one (j + 1) 1 _ (.inr rfl),Zd]
 simp only [Yu]
 rw [Zi (by omega),ZQ (by omega)]
 rfl
theorem ZrT (k:Nat) {l:List Int} (hl:∀ x ∈ l,ZI x) {o:Nat} (hn:l.length + o ≤ 512) (hk:40000 < k) :
  ZkG k (l,(o:Int),()) = some (((Qx l o).1,(Qx l o).2.1,(Qx l o).2.2.2,(Qx l o).2.2.1,()),()):=by
 show ZfC k (ZmI k) _ = _
 simp only [ZfC]
 suffices H:∀ (d p m:Nat) (B:WT),d < m → p + d = 5 → Zm (fun L1 => ZbT k (Zis k L1) L1) m ((p:Int),l,(o:Int),B.1,B.2.1,B.2.2.1,B.2.2.2,0,0,0) =
   some (((W6 l o d p B).1,(W6 l o d p B).2.1,(W6 l o d p B).2.2.2,(W6 l o d p B).2.2.1,()),()) from H 5 0 k (0,0,-1,[]) (by omega) rfl
 intro d
 induction d with
 | zero =>
  intro p m B hm hp
  obtain ⟨m,rfl⟩:=Zn hm
  rw [Zd]
  simp only [ZbT]
  rw [Zi (by omega)]
  rfl
 | succ d ih =>
  intro p m B hm hp
  obtain ⟨m,rfl⟩:=Zn (show 0 < m by omega)
  rw [Zd]
  simp only [ZbT]
  have e1:IntKind.i64.wrap (Int.ofNat l.length + (o:Int)) = ((l.length + o:Nat):Int):=by rw [ZQ (by simp only [Qh]; omega)]; rfl
  rw [Zb (by omega),e1,ZVv,Zsi k (by omega) (by omega)]
  simp only [Qb]
  have e2:IntKind.i64.wrap ((p:Int) + 1) = ((p + 1:Nat):Int):=by rw [ZQ (by omega)]; rfl
  cases hf:ZcI (l.length + o) o p with
  | false =>
   simp only [Bool.not_false,cond_true]
   rw [e2,ih (p + 1) m B (by omega) (by omega)]
   simp only [W6,Zbv,hf,Bool.false_eq_true,if_false]
  | true =>
   simp only [Bool.not_true,cond_false]
   rw [ZEJ k _ hl hn (by omega) hk hf,ih (p + 1) m _ (by omega) (by omega)]
   simp only [W6,Zbv,hf,if_true]
structure RGood (l:List Int) (o:Nat) (R:WT) (p:Nat):Prop where
 hp:R.2.1 = (p:Int)
 p4:p ≤ 4
 fit:ZcI (l.length + o) o p = true
 hm:R.1 = 0 ∨ R.1 = 1
 parts:Qc R.1 (WV l o p) [] 6 = (R.2.2.2,R.2.2.1,true)
theorem ZlC {m:Int} (hm:0 ≤ m):∀ (cs:List (List Int)) (ps:List Prt) (sz:Int),(∀ c ∈ cs,(∀ x ∈ c,ZI x) ∧ c.length ≤ 512) → sz ≤ (Qc m cs ps sz).2.1
 | [],_,_,_ => Int.le_refl _
 | c :: cs,ps,sz,h => by
  unfold Qc
  split
  ·rename_i hb
   have h1:=h c (List.mem_cons_self ..)
   have h2:=(Zax hb).size h1.1 h1.2
   have:=ZlC hm cs (ps ++ [(Qv c m).1]) (sz + (4 + m + (Qv c m).1.2.2.1)) fun c hc => h c (List.mem_cons_of_mem _ hc)
   omega
  ·exact Int.le_refl _
theorem ZqF {l:List Int} {o p:Nat} {m:Int} {B:WT} (hm:m = 0 ∨ m = 1) (hp:p ≤ 4) (hf:ZcI (l.length + o) o p = true) (hB:B.2.2.1 < 0 ∨ ∃ q,RGood l o B q) :
  (W0 l o p m B).2.2.1 < 0 ∨ ∃ q,RGood l o (W0 l o p m B) q:=by
 unfold W0
 split
 ·rename_i hc
  right
  refine ⟨p,rfl,hp,hf,hm,?_⟩
  simp only
  rw [← hc.1]
 ·exact hB
theorem ZCc {l:List Int} {o p:Nat} {B:WT} (hp:p ≤ 4) (hB:B.2.2.1 < 0 ∨ ∃ q,RGood l o B q):(Zbv l o B p).2.2.1 < 0 ∨ ∃ q,RGood l o (Zbv l o B p) q:=by
 unfold Zbv
 split
 ·rename_i hf
  exact ZqF (.inr rfl) hp hf (ZqF (.inl rfl) hp hf hB)
 ·exact hB
theorem Zib {l:List Int} {o:Nat}:∀ (d p:Nat) (B:WT),p + d ≤ 5 → (B.2.2.1 < 0 ∨ ∃ q,RGood l o B q) → (W6 l o d p B).2.2.1 < 0 ∨ ∃ q,RGood l o (W6 l o d p B) q
 | 0,_,B,_,hB => hB
 | d + 1,p,B,h,hB => Zib d (p + 1) _ (by omega) (ZCc (by omega) hB)
theorem ZqG {l:List Int} {o p:Nat} {m:Int} {B:WT} (hl:∀ x ∈ l,ZI x) (hn:l.length ≤ 512) (hm:0 ≤ m) (hB:0 ≤ B.2.2.1):0 ≤ (W0 l o p m B).2.2.1:=by
 unfold W0
 split
 ·have:=ZlC hm (WV l o p) [] 6 fun c hc => ⟨fun x hx => hl x (YF hc x hx),by have:=ZaY hc; omega⟩
  simp only
  omega
 ·exact hB
theorem Zoh {l:List Int} {o:Nat} (hl:∀ x ∈ l,ZI x) (hn:l.length ≤ 512):∀ (d p:Nat) (B:WT),0 ≤ B.2.2.1 → 0 ≤ (W6 l o d p B).2.2.1
 | 0,_,B,hB => hB
 | d + 1,p,B,hB => Zoh hl hn d (p + 1) _ (by
  unfold Zbv
  split
  ·exact ZqG hl hn (by omega) (ZqG hl hn (by omega) hB)
  ·exact hB)
theorem Zs9 {m:Int}:∀ (cs:List (List Int)) (ps:List Prt) (sz:Int),(∀ c ∈ cs,(Qv c m).2 = true) → (Qc m cs ps sz).2.2 = true
 | [],_,_,_ => rfl
 | c :: cs,ps,sz,h => by
  unfold Qc
  rw [if_pos (h c (List.mem_cons_self ..))]
  exact Zs9 cs _ _ fun c hc => h c (List.mem_cons_of_mem _ hc)
theorem XR {l:List Int} {o:Nat} (hl:∀ x ∈ l,ZI x) (hn:l.length + o ≤ 512) (ho:o ≤ l.length + o):0 ≤ (Qx l o).2.2.1 ∧ ∃ q,RGood l o (Qx l o) q:=by
 have hnn:0 ≤ (Qx l o).2.2.1:=by
  show 0 ≤ (W6 l o 4 1 (Zbv l o (0,0,-1,[]) 0)).2.2.1
  refine Zoh hl (by omega) 4 1 _ ?_
  unfold Zbv
  have hf:ZcI (l.length + o) o 0 = true:=by unfold ZcI; simp [Nat.mod_one]
  rw [if_pos hf]
  generalize W0 l o 0 0 (0,0,-1,[]) = B
  by_cases hB:0 ≤ B.2.2.1
  ·exact ZqG hl (by omega) (by omega) hB
  ·unfold W0
   have hok:=Zs9 (m:=1) (WV l o 0) [] 6 fun c hc => ZAd fun x hx => hl x (YF hc x hx)
   rw [if_pos ⟨hok,.inl (by omega)⟩]
   have:=ZlC (m:=1) (by omega) (WV l o 0) [] 6 fun c hc => ⟨fun x hx => hl x (YF hc x hx),by have:=ZaY hc; omega⟩
   simp only
   omega
 refine ⟨hnn,?_⟩
 rcases Zib (l:=l) (o:=o) 5 0 (0,0,-1,[]) (by omega) (.inl (by show (-1:Int) < 0; omega)) with h | h
 ·exact absurd h (by unfold Qx at hnn; omega)
 ·exact h
end Go.Sh
namespace Go.Sh
open Go Go.Proofs
theorem ZFr (k:Nat) {l:List Int} (hl:l.length ≤ 512) {o:Nat} (hk:40000 < k) :
  Zo1 k (l,(o:Int),()) = some ((if Xb l o = 0 then ((Qx l o).2.2.1,0,()) else (0,Xb l o,())),()):=by
 show Zf5 k _ = _
 simp only [Zf5]
 rw [ZrS k l o (by omega) (by omega)]
 simp only [Qb]
 rw [ZT]
 by_cases h:Xb l o = 0
 ·rw [Zi (by simpa using h),if_pos h]
  have hc:KW ((l.length:Int) + o) o = true ∧ l.any Qa = false:=by
   unfold Xb at h
   split at h
   ·omega
   ·split at h
    ·omega
    ·rename_i hb
     split at h
     ·omega
     ·rename_i hw
      exact ⟨by simpa using hb,by simpa using hw⟩
  have hb:=of_decide_eq_true hc.1
  rw [ZrT k (X2 hc.2) (by omega) hk]
  rfl
 ·rw [Zb h,if_neg h]
theorem Zbq {l:List Int} {o:Nat}:Xb l o = 0 ↔ (1 ≤ l.length + o ∧ l.length + o ≤ 512 ∧ o ≤ 8) ∧ l.any Qa = false:=by
 unfold Xb
 constructor
 ·intro h
  split at h
  ·omega
  ·split at h
   ·omega
   ·rename_i h1 h2
    split at h
    ·omega
    ·rename_i hw
     have:=of_decide_eq_true (by simpa using h2:KW ((l.length:Int) + o) o = true)
     exact ⟨by omega,by simpa using hw⟩
 ·rintro ⟨h1,h2⟩
  rw [if_neg (by omega),if_neg,if_neg (by simp [h2])]
  unfold KW
  rw [QX (by omega)]
  simp
def Zdp (kk:Nat) (n:Int):List Bool:=(List.replicate (Z5 n / 2 ^ kk) false ++ [true]) ++ Zg (Z5 n % 2 ^ kk) kk
def XK (m:Int) (y:Prt) (c:List Int):List Bool:=if y.1 = (QP m:Int) then c.flatMap (fun n => WL n y.2.1.toNat) else c.flatMap (Zdp y.1.toNat)
def Xi (m:Int) (x:List Int × Prt):List Bool:=Zg x.2.1.toNat (4 + m.toNat) ++ ((if x.2.1 = (QP m:Int) then Zg x.2.2.1.toNat 5 else []) ++ XK m x.2 x.1)
def ZcO (l:List Int) (o:Nat) (R:WT):List Bool:=(Zg R.1.toNat 2 ++ Zg R.2.1.toNat 4) ++ ((WV l o R.2.1.toNat).zip R.2.2.2).flatMap (Xi R.1)
def YV (l:List Int) (o:Nat):List Bool:=ZcO l o (Qx l o)
theorem Zbl (kk:Nat) (n:Int):(Zdp kk n).length = Z5 n / 2 ^ kk + 1 + kk:=by
 simp [Zdp,Zl]
 omega
theorem Zy3 (k:Nat) (L1:Int × Int × List (List Int) × Int × List Int × Int × Int × List (Int × Int × Int × Unit) × Int → Option (Int × (List Int × Int × Unit) × Unit))
  {c:List Int} (hc:∀ x ∈ c,ZI x) (hn:c.length ≤ 512) (hk:70000 < k) {m:Int} (hm:m = 0 ∨ m = 1) {y:Prt} (hy:KV c m y) (v3 v4:Int) (v5:List (List Int)) (v12:Int) (v13:List Prt) (v14:Int)
  (hv3:0 ≤ v3 ∧ v3 ≤ 65536) (bs:List Bool) (hb:bs.length ≤ 2147483648) :
  Zlm k L1 (Int.ofNat c.length,(0:Int),c,v3,v4,v5,(bs.length:Int),ZY bs,y.1,y.2.1,y.2.2.1,m,v12,v13,v14) =
   L1 (v4,v3 + 1,v5,((bs ++ XK m y c).length:Int),ZY (bs ++ XK m y c),m,v12,v13,v14):=by
 have he:QP m ≤ 31:=by unfold QP; split <;> omega
 have hfin:∀ (g:Int → List Bool),(∀ x ∈ c,(g x).length ≤ 70000) →
   (∀ (L:Int × Int × List Int × Int × Int × List (List Int) × Int × List Int × Int × Int × Int × Int × Int × List (Int × Int × Int × Unit) × Int → Option (Int × (List Int × Int × Unit) × Unit)) (i:Nat) (hi:i < c.length) (a:List Bool),a.length ≤ 2147483648 + i * 70000 →
    KI k L1 L (Int.ofNat c.length,Int.ofNat i,c,v3,v4,v5,(a.length:Int),ZY a,y.1,y.2.1,y.2.2.1,m,v12,v13,v14) =
    L (Int.ofNat c.length,Int.ofNat (i + 1),c,v3,v4,v5,((a ++ g c[i]).length:Int),ZY (a ++ g c[i]),y.1,y.2.1,y.2.2.1,m,v12,v13,v14)) →
   Zlm k L1 (Int.ofNat c.length,(0:Int),c,v3,v4,v5,(bs.length:Int),ZY bs,y.1,y.2.1,y.2.2.1,m,v12,v13,v14) =
   L1 (v4,v3 + 1,v5,((bs ++ c.flatMap g).length:Int),ZY (bs ++ c.flatMap g),m,v12,v13,v14):=by
  intro g hg hstep
  have:=Zu (A:=List Bool) (R:=Int × (List Int × Int × Unit) × Unit) (step:=fun L2 => KI k L1 L2)
   (fun i a => (Int.ofNat c.length,Int.ofNat i,c,v3,v4,v5,(a.length:Int),ZY a,y.1,y.2.1,y.2.2.1,m,v12,v13,v14)) c
   (fun c' a => L1 (v4,v3 + 1,v5,((a ++ c'.flatMap g).length:Int),ZY (a ++ c'.flatMap g),m,v12,v13,v14))
   (fun i a => a.length ≤ 2147483648 + i * 70000)
   (fun L a _ => by
    simp only [KI]
    rw [Zi (QV _),ZQ (by omega)]
    simp)
   (fun L i hi a ha hL => by
    rw [hstep L i hi a ha,hL (a ++ g c[i]) (by
     have:=hg c[i] (List.getElem_mem hi)
     rw [Wq]; omega)]
    rw [List.flatMap_cons,List.append_assoc])
   k 0 bs (by omega) (by omega) (Nat.zero_le _)
  rw [List.drop_zero] at this
  exact this
 unfold XK
 rcases hy with ⟨kk,hkk,hfar,rfl⟩ | ⟨hw,rfl⟩
 ·simp only
  rw [if_neg (by omega)]
  have hq:∀ x ∈ c,Z5 x / 2 ^ kk ≤ 65536:=by
   intro x hx
   unfold ZbH at hfar
   rw [List.any_eq_false] at hfar
   have:=hfar x hx
   simp only [decide_eq_true_eq] at this
   omega
  rw [QS]
  refine hfin (Zdp kk) (fun x hx => by have:=hq x hx; rw [Zbl]; omega) ?_
  intro L i hi a ha
  have hx:=hc c[i] (List.getElem_mem hi)
  have hxq:=hq c[i] (List.getElem_mem hi)
  simp only [KI]
  rw [Zb (KU hi),Zb (Xx hi),ZD5,ZbV k hm]
  simp only [Qb]
  rw [ZB,Zi (by omega),ZK hi,ZT8,Zr1 k hx]
  simp only [Qb]
  have hf32:=ZjQ hx
  rw [Zb (by omega),ZwP (by omega) (by omega)]
  simp only [QS,Nat.min_eq_left (show kk ≤ 64 by omega),KJ]
  rw [show ((ZY a,((a.length:Nat):Int),()):List Int × Int × Unit) = wst a from rfl,Zy1 k a _ (by omega) hxq (by omega)]
  simp only [Qb]
  rw [Zb (by omega)]
  have hlen:(a ++ (List.replicate (Z5 c[i] / 2 ^ kk) false ++ [true])).length = a.length + (Z5 c[i] / 2 ^ kk + 1):=by simp
  rw [QU k (a ++ (List.replicate (Z5 c[i] / 2 ^ kk) false ++ [true])) _ kk (by omega) (by omega) (Nat.mod_lt _ (Nat.pow_pos (by omega))) (by rw [hlen]; omega)]
  simp only [Qb]
  rw [Qq hi (by omega)]
  unfold Zdp
  simp only [List.append_assoc]
 ·simp only
  rw [if_pos trivial,QS]
  refine hfin (fun n => WL n (Z7 c)) (fun x hx => by simp only [YA]; omega) ?_
  intro L i hi a ha
  have hx:=Ztv hc c[i] (List.getElem_mem hi)
  simp only [KI]
  rw [Zb (KU hi),Zb (Xx hi),ZD5,ZbV k hm]
  simp only [Qb]
  rw [ZB,Zb rfl,ZK hi]
  rw [show ((ZY a,((a.length:Nat):Int),()):List Int × Int × Unit) = wst a from rfl,ZrR k a _ (Z7 c) (by omega) (by omega) hx (by omega)]
  simp only [Qb]
  rw [Qq hi (by omega)]
theorem ZeX {c:List Int} (hc:∀ x ∈ c,ZI x) (hn:c.length ≤ 512) {m:Int} {y:Prt} (hy:KV c m y):(XK m y c).length ≤ c.length * 70000:=by
 have he:QP m ≤ 31:=by unfold QP; split <;> omega
 have key:∀ (g:Int → List Bool) (l:List Int),(∀ x ∈ l,(g x).length ≤ 70000) → (l.flatMap g).length ≤ l.length * 70000:=by
  intro g l
  induction l with
  | nil => intro _; simp
  | cons a l ih =>
   intro h
   have h1:=h a (List.mem_cons_self ..)
   have h2:=ih fun x hx => h x (List.mem_cons_of_mem _ hx)
   rw [List.flatMap_cons,Wq,List.length_cons]
   omega
 unfold XK
 rcases hy with ⟨kk,hkk,hfar,rfl⟩ | ⟨hw,rfl⟩
 ·simp only
  rw [if_neg (by omega)]
  refine key _ c fun x hx => ?_
  unfold ZbH at hfar
  rw [List.any_eq_false] at hfar
  have:=hfar x hx
  simp only [decide_eq_true_eq] at this
  rw [Zbl,QS]
  omega
 ·simp only
  rw [if_pos trivial]
  refine key _ c fun x hx => ?_
  rw [YA,QS]
  omega
def Zaa (m:Int):List (List Int) → List Prt → Prop
 | [],[] => True
 | c :: cs,y :: ys => KV c m y ∧ Zaa m cs ys
 | _,_ => False
theorem Zbp {m:Int}:∀ (cs:List (List Int)) (ps:List Prt) (sz:Int),(Qc m cs ps sz).2.2 = true → ∃ ys,(Qc m cs ps sz).1 = ps ++ ys ∧ Zaa m cs ys ∧ ys = cs.map fun c => (Qv c m).1
 | [],ps,sz,_ => ⟨[],by simp [Qc],trivial,rfl⟩
 | c :: cs,ps,sz,h => by
  unfold Qc at h ⊢
  split at h
  ·rename_i hb
   rw [if_pos hb]
   obtain ⟨ys,h1,h2,h3⟩:=Zbp cs _ _ h
   refine ⟨(Qv c m).1 :: ys,by rw [h1]; simp,⟨Zax hb,h2⟩,by rw [h3]; rfl⟩
  ·cases h
theorem Zaa.len {m:Int}:∀ {cs:List (List Int)} {ys:List Prt},Zaa m cs ys → ys.length = cs.length
 | [],[],_ => rfl
 | c :: cs,y :: ys,h => by simp [Zaa.len h.2]
theorem Zaa.get {m:Int}:∀ {cs:List (List Int)} {ys:List Prt},Zaa m cs ys → ∀ (i:Nat) (h1:i < cs.length) (h2:i < ys.length),KV cs[i] m ys[i]
 | c :: cs,y :: ys,h,0,_,_ => h.1
 | c :: cs,y :: ys,h,i + 1,h1,h2 => by
  simp only [List.getElem_cons_succ]
  exact Zaa.get h.2 i (by simpa using h1) (by simpa using h2)
theorem RGood.ys {l:List Int} {o p:Nat} {R:WT} (h:RGood l o R p):Zaa R.1 (WV l o p) R.2.2.2:=by
 obtain ⟨ys,h1,h2,_⟩:=Zbp (m:=R.1) (WV l o p) [] 6 (by rw [h.parts])
 rw [h.parts] at h1
 simp only [List.nil_append] at h1
 rw [h1]; exact h2
theorem ZqC {c:List Int} {m:Int} (hm:m = 0 ∨ m = 1) {y:Prt} (hy:KV c m y):∃ a w:Nat,y.1 = (a:Int) ∧ a < 2 ^ (4 + m.toNat) ∧ y.2.1 = (w:Int) ∧ w ≤ 31:=by
 rcases hy with ⟨kk,hkk,hfar,rfl⟩ | ⟨hw,rfl⟩
 ·refine ⟨kk,0,rfl,?_,rfl,by omega⟩
  rcases hm with rfl | rfl
  ·have:QP 0 = 15:=rfl
   rw [this] at hkk
   show kk < 16
   omega
  ·have:QP 1 = 31:=rfl
   rw [this] at hkk
   show kk < 32
   omega
 ·refine ⟨QP m,Z7 c,rfl,?_,rfl,hw⟩
  rcases hm with rfl | rfl <;> decide
theorem Zy4 (k:Nat) {l:List Int} {o:Nat} (hk:70000 < k) (h:Xb l o = 0) (bs:List Bool) (hb:bs.length ≤ 1073741824) :
  ZgZ k (wst bs,l,(o:Int),()) = some (0,wst (bs ++ YV l o),()):=by
 show Zju k (ZvR k) _ = _
 have ⟨h1,h2⟩:=Zbq.1 h
 have hl:=X2 h2
 obtain ⟨hsz,q,hg⟩:=XR hl (o:=o) (by omega) (by omega)
 simp only [Zju]
 rw [ZrS k l o (by omega) (by omega),h]
 simp only [Qb]
 rw [show ((0:Int) != 0) = false from rfl]
 simp only [cond_false]
 rw [ZrT k hl (by omega) (by omega)]
 simp only [Qb]
 unfold YV ZcO
 generalize Qx l o = R at hg hsz
 have hys:=hg.ys
 obtain ⟨m,p,sz,ys⟩:=R
 obtain ⟨hp,p4,hfit,hm,hparts⟩:=hg
 simp only at hp hm hparts hys
 subst hp
 simp only [QS]
 have hmn:m = ((m.toNat:Nat):Int):=by rcases hm with rfl | rfl <;> rfl
 have hm2:m.toNat < 2 ^ 2:=by rcases hm with rfl | rfl <;> decide
 have e1:=QU k bs m.toNat 2 (by omega) (by omega) hm2 (by omega)
 rw [← hmn] at e1
 rw [show ((ZY bs,((bs.length:Nat):Int),()):List Int × Int × Unit) = wst bs from rfl,show (2:Int) = ((2:Nat):Int) from rfl,e1]
 simp only [Qb]
 have hl1:(bs ++ Zg m.toNat 2).length = bs.length + 2:=by rw [Wq,Zl]
 have e2:=QU k (bs ++ Zg m.toNat 2) q 4 (by omega) (by omega) (by omega) (by rw [hl1]; omega)
 rw [show (4:Int) = ((4:Nat):Int) from rfl,e2]
 simp only [Qb]
 rw [ZrU k (by omega) (by omega) (by omega) hfit]
 simp only [Qb]
 have hcs:∀ c ∈ WV l o q,(∀ x ∈ c,ZI x) ∧ c.length ≤ 512:=fun c hc => ⟨fun x hx => hl x (YF hc x hx),by have:=ZaY hc; omega⟩
 have hclen:(WV l o q).length ≤ 16:=by
  rw [ZbO]
  have:2 ^ q ≤ 2 ^ 4:=Nat.pow_le_pow_right (by omega) p4
  omega
 have hyl:=hys.len
 generalize WV l o q = cs at hcs hclen hys hyl
 have hzl:(cs.zip ys).length = cs.length:=by rw [List.length_zip]; omega
 have hl2:(bs ++ Zg m.toNat 2 ++ Zg q 4).length = bs.length + 6:=by rw [Wq,hl1,Zl]
 have:=Zu (A:=List Bool) (R:=Int × (List Int × Int × Unit) × Unit) (step:=fun L1 => ZeG k (Zlm k L1) L1)
  (fun i a => (Int.ofNat cs.length,Int.ofNat i,cs,(a.length:Int),ZY a,m,(q:Int),ys,sz)) (cs.zip ys)
  (fun l' a => some (0,wst (a ++ l'.flatMap (Xi m)),()))
  (fun i a => a.length ≤ 1073741900 + i * 35900000)
  (fun L a _ => by
   simp only [ZeG]
   rw [hzl,Zi (QV _)]
   simp)
  (fun L i hi a ha hL => by
   have hi1:i < cs.length:=by omega
   have hi2:i < ys.length:=by omega
   obtain ⟨hc1,hc2⟩:=hcs cs[i] (List.getElem_mem hi1)
   have hy:=hys.get i hi1 hi2
   have hzi:(cs.zip ys)[i] = (cs[i],ys[i]):=by rw [List.getElem_zip]
   simp only [ZeG]
   rw [Zb (KU hi1),Zb (Xx hi1),Zb (Xx hi2),ZQt,ZkJ k hm]
   simp only [Qb]
   rw [ZK hi1,ZK hi2]
   obtain ⟨b,w,hb1,hb2,hw1,hw2⟩:=ZqC hm hy
   have hll:=ZeX hc1 hc2 hy
   have e4:(4:Int) + m = ((4 + m.toNat:Nat):Int):=by rcases hm with rfl | rfl <;> rfl
   have hm1:m.toNat ≤ 1:=by rcases hm with rfl | rfl <;> decide
   rw [hb1,hw1,e4,show ((ZY a,((a.length:Nat):Int),()):List Int × Int × Unit) = wst a from rfl,QU k a b (4 + m.toNat) (by omega) (by omega) hb2 (by omega)]
   simp only [Qb]
   rw [ZD5,ZbV k hm]
   simp only [Qb]
   have hla:(a ++ Zg b (4 + m.toNat)).length = a.length + (4 + m.toNat):=by rw [Wq,Zl]
   have hI:((i:Nat):Int) ≤ 16:=by omega
   have hout:Xi m (cs[i],ys[i]) = Zg b (4 + m.toNat) ++ ((if (b:Int) = (QP m:Int) then Zg w 5 else []) ++ XK m ys[i] cs[i]):=by
    unfold Xi
    simp only [hb1,hw1,QS]
   rw [hzi,List.flatMap_cons,hout,ZB]
   have hnext:Int.ofNat i + 1 = Int.ofNat (i + 1):=rfl
   by_cases hesc:(b:Int) = (QP m:Int)
   ·rw [Zb hesc,if_pos hesc]
    have h5:w < 2 ^ 5:=by omega
    rw [show ((5:Int)) = ((5:Nat):Int) from rfl,QU k (a ++ Zg b (4 + m.toNat)) w 5 (by omega) (by omega) h5 (by omega)]
    simp only [Qb]
    have hlb:(a ++ Zg b (4 + m.toNat) ++ Zg w 5).length = a.length + (4 + m.toNat) + 5:=by rw [Wq,hla,Zl]
    have:=Zy3 k L hc1 hc2 (by omega) hm hy (Int.ofNat i) (Int.ofNat cs.length) cs (q:Int) ys sz (by simp only [Qh]; omega) (a ++ Zg b (4 + m.toNat) ++ Zg w 5) (by omega)
    rw [hb1,hw1] at this
    refine Eq.trans this ?_
    rw [hnext,hL _ (by rw [Wq,hlb]; omega)]
    simp
   ·rw [Zi hesc,if_neg hesc]
    have:=Zy3 k L hc1 hc2 (by omega) hm hy (Int.ofNat i) (Int.ofNat cs.length) cs (q:Int) ys sz (by simp only [Qh]; omega) (a ++ Zg b (4 + m.toNat)) (by omega)
    rw [hb1,hw1] at this
    refine Eq.trans this ?_
    rw [hnext,hL _ (by rw [Wq,hla]; omega)]
    simp)
  k 0 (bs ++ Zg m.toNat 2 ++ Zg q 4) (by omega) (by omega) (Nat.zero_le _)
 rw [List.drop_zero] at this
 refine Eq.trans this ?_
 simp
end Go.Sh
namespace Go.Sh
open Go Go.Proofs
theorem Zzc (k:Nat) (n d:Int):ZsO k (n,d,()) = some (decide (1 ≤ n ∧ n ≤ 512 ∧ 4 ≤ d ∧ d ≤ 25),()):=by
 show ZjJ k _ = _
 simp only [ZjJ]
 by_cases h1:1 ≤ n
 ·rw [Zb h1]
  by_cases h2:n ≤ 512
  ·rw [Zb h2]
   by_cases h3:4 ≤ d
   ·rw [Zb h3]
    congr 2
    by_cases h4:d ≤ 25
    ·rw [QX h4,QX (by omega)]
    ·rw [QN h4,QN (by omega)]
   ·rw [Zi h3,QN (by omega)]
  ·rw [Zi h2,QN (by omega)]
 ·rw [Zi h1,QN (by omega)]
theorem Zzf (k:Nat) (x:Int) {d:Nat} (h1:1 ≤ d) (h2:d ≤ 64):ZsP k (x,(d:Int),()) = some (WU x d,()):=by
 show ZjM k _ = _
 simp only [ZjM]
 have e1:IntKind.i64.wrap ((d:Int) - 1) = ((d - 1:Nat):Int):=by rw [ZQ (by omega)]; omega
 rw [e1,ZzM x (by omega)]
 simp only [QS,Nat.min_eq_left (show d - 1 ≤ 64 by omega)]
 rw [Zb (by omega),Zb (by omega)]
 cases x.fdiv (2 ^ (d - 1)) == 0 <;> rfl
theorem ZEx (k:Nat) (x:Int) {d:Nat} (h1:1 ≤ d) (h2:d ≤ 64):ZoA k (x,((d:Int),()),()) = some (!WU x d,((d:Int),()),()):=by
 show Zfr k _ = _
 simp only [Zfr]
 rw [Zzf k x h1 h2]
 rfl
theorem Zxi (k:Nat) (c:List Int) {d:Nat} (h1:1 ≤ d) (h2:d ≤ 64) (hk:c.length < k) (hn:c.length < 4294967296) :
  ZdZ k (c,(((d:Int),()),()),()) = some (!c.all (WU · d),((d:Int),()),()):=by
 show Za0 k _ = _
 simp only [Za0]
 have key:∃ i:Int,Zea k (c,(((d:Int),()),()),()) = some (i,((d:Int),()),()) ∧ (0 ≤ i ↔ c.all (WU · d) = false):=by
  have:=XY (A:=Unit) (R:=Int × (Int × Unit) × Unit) (step:=fun L1 => Kz k L1) (fun i _ => (Int.ofNat c.length,Int.ofNat i,c,(d:Int))) c
   (fun l _ => some (if l.all (WU · d) then -1 else Int.ofNat (c.length - l.length + (l.takeWhile (fun x => WU x d)).length),((d:Int),()),()))
   (fun L _ => by simp only [Kz]; rw [Zi (QV _)]; rfl)
   (fun L i hi _ hL => by
    simp only [Kz]
    rw [Zb (KU hi),Zb (Xx hi),ZK hi,ZEx k _ h1 h2]
    simp only [Qb]
    have hlen:(List.drop (i + 1) c).length = c.length - (i + 1):=by simp
    cases hc:WU c[i] d with
    | true =>
     simp only [Bool.not_true,cond_false]
     rw [Qq hi (by omega),hL ()]
     simp only [List.all_cons,hc,Bool.true_and,List.takeWhile_cons,if_true,List.length_cons,hlen]
     split
     ·rfl
     ·congr 3; omega
    | false =>
     simp only [Bool.not_false,cond_true,List.all_cons,hc,Bool.false_and,Bool.false_eq_true,if_false,List.takeWhile_cons,List.length_cons,hlen,List.length_nil]
     congr 3; omega) k 0 () (by omega) (Nat.zero_le _)
  rw [List.drop_zero] at this
  refine ⟨_,this,?_⟩
  cases c.all (WU · d) <;> simp
 obtain ⟨i,h1,h2⟩:=key
 rw [h1]
 simp only [Qb]
 cases hc:c.all (WU · d) with
 | false => rw [QX (h2.2 hc)]; rfl
 | true => rw [QN (fun h => by have:=h2.1 h; rw [hc] at this; cases this)]; rfl
def Zdw (s:List Int) (d:Int):Int:=if 1 ≤ s.length ∧ s.length ≤ 512 ∧ 4 ≤ d ∧ d ≤ 25 then (if s.all (WU · d.toNat) = true then 0 else 12) else 1
theorem ZKx (k:Nat) (s:List Int) (d:Int) (hk:1000 < k):ZsI k (s,d,()) = some (Zdw s d,()):=by
 show Zjp k _ = _
 simp only [Zjp]
 rw [Zzc]
 simp only [Qb]
 unfold Zdw
 by_cases h:1 ≤ s.length ∧ s.length ≤ 512 ∧ 4 ≤ d ∧ d ≤ 25
 ·rw [if_pos h,QX (by simp only [Qh]; omega)]
  simp only [Bool.not_true,cond_false]
  obtain ⟨e,rfl⟩:=Int.eq_ofNat_of_zero_le (show 0 ≤ d by omega)
  rw [Zxi k s (by omega) (by omega) (by omega) (by omega),QS]
  simp only [Qb]
  cases s.all (WU · e) <;> rfl
 ·rw [if_neg h,QN (by simp only [Qh]; omega)]
  rfl
def KM (x:Int):Nat:=(x % 18446744073709551616).toNat
def ZdL (s:List Int):Nat:=s.foldl (fun v x => v ||| KM x) 0
def Zq (s:List Int):Nat:=if ZdL s = 0 then 0 else Lib.ctz 64 (ZdL s)
theorem Zwi (x:Int):KM x < 2 ^ 64:=by unfold KM; omega
theorem XL (x:Int):(BitVec.ofInt 64 x).toNat = KM x:=by rw [BitVec.toNat_ofInt]; rfl
theorem Zlw {n:Nat} (h:n < 2 ^ 64):KM (IntKind.i64.wrap (n:Int)) = n:=by
 unfold KM
 rw [IntKind.wrap_i64]
 omega
theorem Zqz:∀ (s:List Int) (v:Nat),v < 2 ^ 64 → s.foldl (fun v x => v ||| KM x) v < 2 ^ 64
 | [],_,h => h
 | x :: s,v,h => Zqz s _ (Nat.or_lt_two_pow h (Zwi x))
theorem ZCn (s:List Int):ZdL s < 2 ^ 64:=Zqz s 0 (by decide)
theorem ZEz (k:Nat) (s:List Int) (hk:s.length < k) (hn:s.length < 4294967296):ZoB k (s,()) = some (((Zq s:Nat):Int),()):=by
 show Zfs k (Zmz k) _ = _
 simp only [Zfs]
 have:=Zu (A:=Nat) (R:=Int × Unit) (step:=fun L1 => ZbS k L1) (fun i v => (Int.ofNat s.length,Int.ofNat i,s,IntKind.i64.wrap (v:Int))) s
  (fun s' v => some ((((if s'.foldl (fun v x => v ||| KM x) v = 0 then 0 else Lib.ctz 64 (s'.foldl (fun v x => v ||| KM x) v)):Nat):Int),()))
  (fun i v => v < 2 ^ 64)
  (fun L v hv => by
   simp only [ZbS]
   rw [Zi (QV _),ZB,List.foldl_nil]
   by_cases h0:v = 0
   ·subst h0; rfl
   ·have hne:¬ IntKind.i64.wrap (v:Int) = 0:=by
     intro h
     have:=Zlw hv
     rw [h] at this
     exact h0 this.symm
    rw [Zi hne,if_neg h0]
    have hu:IntKind.u64.wrap (IntKind.i64.wrap (v:Int)) = (v:Int):=by
     rw [IntKind.wrap_u64,IntKind.wrap_i64]; omega
    rw [hu]
    show (tzF _).bind _ = _
    unfold tzF
    rw [show (decide ((0:Int) ≤ (v:Int)) && decide ((v:Int) < 18446744073709551616)) = true from by
     rw [Bool.and_eq_true,decide_eq_true_eq,decide_eq_true_eq]; omega]
    rfl)
  (fun L i hi v hv hL => by
   simp only [ZbS]
   rw [Zb (KU hi),Zb (Xx hi),ZK hi,BitVec.toNat_or,XL,XL,Zlw hv,Qq hi (by omega),List.foldl_cons]
   exact hL (v ||| KM s[i]) (Nat.or_lt_two_pow hv (Zwi _)))
  k 0 0 (by decide) (by omega) (Nat.zero_le _)
 rw [List.drop_zero] at this
 exact this
theorem ZzB {a b k:Nat} (h:(a ||| b) % 2 ^ k = 0):a % 2 ^ k = 0 ∧ b % 2 ^ k = 0:=by
 rw [Nat.or_mod_two_pow] at h
 have h1:a % 2 ^ k ≤ a % 2 ^ k ||| b % 2 ^ k:=Nat.left_le_or
 have h2:b % 2 ^ k ≤ a % 2 ^ k ||| b % 2 ^ k:=Nat.right_le_or
 omega
theorem Zj0 {k:Nat}:∀ (s:List Int) (v:Nat),(s.foldl (fun v x => v ||| KM x) v) % 2 ^ k = 0 → v % 2 ^ k = 0 ∧ ∀ x ∈ s,KM x % 2 ^ k = 0
 | [],v,h => ⟨h,by simp⟩
 | x :: s,v,h => by
  obtain ⟨h1,h2⟩:=Zj0 s _ h
  obtain ⟨h3,h4⟩:=ZzB h1
  refine ⟨h3,fun y hy => ?_⟩
  rcases List.mem_cons.1 hy with rfl | hy
  ·exact h4
  ·exact h2 y hy
theorem ZPb {x : Int} {k : Nat} (hk : k ≤ 64) (h : KM x % 2 ^ k = 0) : ((2 : Int) ^ k) ∣ x := by
  have := Zma x k 64 hk
  unfold KM at h
  rw [show (18446744073709551616 : Int) = 2 ^ 64 from rfl, this] at h
  have h0 : 0 ≤ x % 2 ^ k := Int.emod_nonneg _ (by have : (0 : Int) < 2 ^ k := Int.pow_pos (by omega)
                                                   omega)
  exact Int.dvd_of_emod_eq_zero (by omega)
theorem Zmh {s:List Int} (h:ZdL s ≠ 0):∃ m,ZdL s = 2 ^ Zq s * (2 * m + 1) ∧ Zq s < 64:=by
 unfold Zq Lib.ctz
 rw [if_neg h,if_neg h]
 exact Lib.ctzFrom_spec 64 (ZdL s) (by omega) (ZCn s)
theorem ZdC {s:List Int}:∀ x ∈ s,((2:Int) ^ Zq s) ∣ x:=by
 intro x hx
 by_cases h:ZdL s = 0
 ·unfold Zq
  rw [if_pos h]
  exact Int.one_dvd _
 ·obtain ⟨m,hm,hlt⟩:=Zmh h
  have:ZdL s % 2 ^ Zq s = 0:=by rw [hm]; exact Nat.mul_mod_right _ _
  exact ZPb (by omega) ((Zj0 s 0 this).2 x hx)
theorem ZwQ:∀ (s:List Int) (v:Nat),v = 0 → (∀ x ∈ s,x = 0) → s.foldl (fun v x => v ||| KM x) v = 0
 | [],v,h,_ => h
 | x :: s,v,h,hx => by
  refine ZwQ s _ ?_ fun y hy => hx y (List.mem_cons_of_mem _ hy)
  rw [h,hx x (List.mem_cons_self ..)]
  rfl
theorem Zc2 {s:List Int} {d:Nat} (hd:1 ≤ d) (hs:∀ x ∈ s,WU x d = true):Zq s < d:=by
 by_cases h:ZdL s = 0
 ·unfold Zq
  rw [if_pos h]
  omega
 ·have:∃ x ∈ s,x ≠ 0:=by
   apply Classical.byContradiction
   intro hc
   refine h (ZwQ s 0 rfl fun x hx => ?_)
   apply Classical.byContradiction
   intro hne
   exact hc ⟨x,hx,hne⟩
  obtain ⟨x,hx,hne⟩:=this
  have h1:=hs x hx
  unfold WU at h1
  rw [if_neg (by omega),decide_eq_true_eq] at h1
  have h2:=Int.natAbs_dvd_natAbs.2 (ZdC x hx)
  rw [Int.natAbs_pow] at h2
  have h3:=Nat.le_of_dvd (by omega) h2
  have h4:x.natAbs ≤ 2 ^ (d - 1):=by
   rw [Qp] at h1
   generalize 2 ^ (d - 1) = Q at h1 ⊢
   omega
  have h5:2 ^ Zq s ≤ 2 ^ (d - 1):=Nat.le_trans h3 h4
  have:=(Nat.pow_le_pow_iff_right (by omega:1 < 2)).1 h5
  omega
def QO (s:List Int):List Int:=s.map fun x => x.fdiv (2 ^ Zq s)
theorem Zat (s:List Int):(QO s).length = s.length:=by simp [QO]
theorem Zqb {x:Int} {k:Nat} (h:((2:Int) ^ k) ∣ x):x.fdiv (2 ^ k) * 2 ^ k = x:=by
 rw [Int.fdiv_eq_ediv_of_nonneg _ (Int.pow_nonneg (by omega))]
 exact Int.ediv_mul_cancel h
theorem ZGI {x:Int} {d k:Nat} (hk:k < d) (h:((2:Int) ^ k) ∣ x) (hx:WU x d = true):WU (x.fdiv (2 ^ k)) (d - k) = true:=by
 have he:=Zqb h
 generalize x.fdiv (2 ^ k) = y at he
 unfold WU at hx ⊢
 rw [if_neg (by omega),decide_eq_true_eq] at hx
 rw [if_neg (by omega),decide_eq_true_eq]
 have hp:(0:Int) < 2 ^ k:=Int.pow_pos (by omega)
 have e:(2:Int) ^ (d - 1) = 2 ^ (d - k - 1) * 2 ^ k:=by rw [← Int.pow_add]; congr 1; omega
 rw [e,← he,← Int.neg_mul] at hx
 exact ⟨Int.le_of_mul_le_mul_right hx.1 hp,Int.lt_of_mul_lt_mul_right hx.2 (by omega)⟩
theorem Zh1 {s:List Int} {d:Nat} (hd:1 ≤ d) (hs:∀ x ∈ s,WU x d = true):∀ x ∈ QO s,WU x (d - Zq s) = true:=by
 intro y hy
 obtain ⟨x,hx,rfl⟩:=List.mem_map.1 hy
 exact ZGI (Zc2 hd hs) (ZdC x hx) (hs x hx)
theorem Zh0 {x:Int} {d:Nat} (hd:d ≤ 31) (h:WU x d = true):ZI x:=by
 unfold WU at h
 unfold ZI
 split at h
 ·simp only [decide_eq_true_eq] at h; omega
 ·rw [decide_eq_true_eq,Qp] at h
  have:2 ^ (d - 1) ≤ 2 ^ 30:=Nat.pow_le_pow_right (by omega) (by omega)
  generalize 2 ^ (d - 1) = Q at h this
  omega
end Go.Sh
namespace Go.Sh
open Go Go.Proofs
abbrev Wn:=Int × List Int × Int × List Int × Int
def ZdN (s:List Int) (d:Nat) (kind:Int) (c:List Int) (sh head:Int):Option Wn :=
 if (QK c sh s).2 = 0 then some (kind,c,sh,(QK c sh s).1,head + (c.length:Int) * (d:Int) + (Qx (QK c sh s).1 c.length).2.2.1) else none
def Qt (b:Option Wn) (x:Option Wn):Option Wn :=
 match x with
 | none => b
 | some x => match b with
  | none => some x
  | some b => if x.2.2.2.2 < b.2.2.2.2 then some x else some b
abbrev FPl:=Int × Int × Int × List Int × List Int × Int × List Int × Int × Unit
abbrev SPl:=Int × Int × Int × List Int × (List Int × Int × Unit) × List Int × Int × Unit
def Qz (kk d:Int) (s:List Int):Option Wn → FPl
 | none => (0,0,0,[],[],0,[],-1,())
 | some (kind,c,sh,r,sz) => (kind,kk,d,s,c,sh,r,sz,())
abbrev ZTS (kk d:Int) (s:List Int) (x:Wn):SPl:=(x.1,kk,d,s,(x.2.1,x.2.2.1,()),x.2.2.2.1,x.2.2.2.2,())
def nnC (b:Option Wn):Prop := ∀ c,b = some c → 0 ≤ c.2.2.2.2
theorem ZcZ {b x:Option Wn} (hb:nnC b) (hx:nnC x):nnC (Qt b x):=by
 intro c hc
 unfold Qt at hc
 match x,b,hc with
 | none,b,hc => exact hb c hc
 | some x,none,hc => exact hx c hc
 | some x,some b,hc =>
  simp only at hc
  split at hc
  ·exact hx c hc
  ·exact hb c hc
theorem ZoC (k:Nat) (kk d:Int) (s:List Int) (x:Wn) (b:Option Wn) (hb:nnC b) :
  ZbB k (ZTS kk d s x,true,Qz kk d s b,()) = some ((),Qz kk d s (Qt b (some x)),()):=by
 match b with
 | none => rfl
 | some b =>
  have h0:=hb b rfl
  show (bif decide (b.2.2.2.2 < 0) then _ else bif decide (x.2.2.2.2 < b.2.2.2.2) then _ else _) = _
  rw [Zi (by omega)]
  unfold Qt
  simp only
  by_cases h:x.2.2.2.2 < b.2.2.2.2
  ·rw [Zb h,if_pos h]; rfl
  ·rw [Zi h,if_neg h]; rfl
theorem Zic {l:List Int} {o:Nat} (hl:∀ x ∈ l,ZI x) (hn:l.length + o ≤ 512):0 ≤ (Qx l o).2.2.1 ∧ (Qx l o).2.2.1 ≤ 281474976710656:=by
 obtain ⟨h1,q,hg⟩:=XR hl hn (by omega)
 refine ⟨h1,?_⟩
 have key:∀ (cs:List (List Int)) (ps:List Prt) (sz m:Int),(m = 0 ∨ m = 1) → (∀ c ∈ cs,(∀ x ∈ c,ZI x) ∧ c.length ≤ 512) → (Qc m cs ps sz).2.1 ≤ sz + (cs.length:Int) * 8796093022208:=by
  intro cs
  induction cs with
  | nil => intro ps sz m _ _; simp [Qc]
  | cons c cs ih =>
   intro ps sz m hm h
   cases hb:(Qv c m).2 with
   | false => rw [ZgL _ _ _ hb]; simp only [List.length_cons]; omega
   | true =>
    rw [Zds _ _ _ hb]
    have h1:=h c (List.mem_cons_self ..)
    have h2:=(Zax hb).size h1.1 h1.2
    have:=ih (ps ++ [(Qv c m).1]) (sz + (4 + m + (Qv c m).1.2.2.1)) m hm fun c hc => h c (List.mem_cons_of_mem _ hc)
    simp only [List.length_cons]
    omega
 have:=key (WV l o q) [] 6 _ hg.hm fun c hc => ⟨fun x hx => hl x (YF hc x hx),by have:=ZaY hc; omega⟩
 rw [hg.parts,ZbO] at this
 have h16:2 ^ q ≤ 2 ^ 4:=Nat.pow_le_pow_right (by omega) hg.p4
 generalize 2 ^ q = Q at this h16
 simp only at this
 omega
theorem Ze9 {c s:List Int} {sh:Int} (h:(QK c sh s).2 = 0):(QK c sh s).1 = ZaR c sh s ∧ c.length ≤ s.length ∧ Kc c sh = true:=by
 unfold QK at h ⊢
 split at h
 ·simp at h
 ·split at h
  ·simp at h
  ·split at h
   ·simp at h
   ·split at h
    ·simp at h
    ·rename_i h1 h2 h3 h4
     rw [if_neg h1,if_neg h2,if_neg h3,if_neg h4]
     refine ⟨rfl,by omega,by simpa using h1⟩
theorem ZbL {c s:List Int} {sh:Int} (h:(QK c sh s).2 = 0) (h1:1 ≤ s.length) (h2:s.length ≤ 512):(QK c sh s).1.length + c.length = s.length ∧ c.length ≤ 8 ∧ Xb (QK c sh s).1 (c.length:Nat) = 0:=by
 have hz:=Ze9 h
 have hlen:(QK c sh s).1.length + c.length = s.length:=by rw [hz.1,ZaR,ZqQ]; omega
 have h8:=(KP hz.2.2).1
 refine ⟨hlen,h8,Zbq.2 ⟨⟨by omega,by omega,h8⟩,?_⟩⟩
 rw [List.any_eq_false]
 intro x hx
 have:=WS c sh s x hx
 unfold ZI at this
 unfold Qa
 simp only [decide_eq_true_eq]
 omega
def ZTN (p:SPl) (kk d:Int) (s:List Int):Option Wn → SPl × Bool × Unit
 | none => (p,false,())
 | some x => (ZTS kk d s x,true,())
theorem ZED (k:Nat) (hk:40000 < k) {s:List Int} (h1:1 ≤ s.length) (h2:s.length ≤ 512) {d:Nat} (hd:d ≤ 25) {head:Int} (hh:0 ≤ head ∧ head ≤ 1000) (kind:Int) (c:List Int) (sh a0 a1 a5:Int) (a4 a6:List Int) (a7:Int) :
  Zht k ((a0,a1,(d:Int),s,(a4,a5,()),a6,a7,()),kind,(c,sh,()),head,()) = some (ZTN (a0,a1,(d:Int),s,(a4,a5,()),a6,a7,()) a1 d s (ZdN s d kind c sh head),()):=by
 show Zfv k _ = _
 simp only [Zfv]
 rw [Zsb k c sh s (by omega) (by omega)]
 simp only [Qb]
 rw [ZT]
 unfold ZdN
 by_cases h:(QK c sh s).2 = 0
 ·rw [Zi (by simpa using h),if_pos h]
  obtain ⟨hl,h8,hr⟩:=ZbL h h1 h2
  have hc:=ZFr k (l:=(QK c sh s).1) (o:=c.length) (by omega) hk
  rw [if_pos hr] at hc
  rw [show Int.ofNat c.length = ((c.length:Nat):Int) from rfl,hc]
  simp only [Qb]
  rw [show ((0:Int) != 0) = false from rfl]
  simp only [cond_false]
  have hsz:=Zic (WS c sh s) (o:=c.length) (by omega)
  have hcd:c.length * d ≤ 8 * 25:=Nat.mul_le_mul h8 hd
  have e1:((c.length:Nat):Int) * (d:Int) = ((c.length * d:Nat):Int):=by push_cast; rfl
  rw [e1,ZQ (n:=((c.length * d:Nat):Int)) (by omega),ZQ (n:=head + ((c.length * d:Nat):Int)) (by omega),ZQ (by omega)]
  rfl
 ·rw [Zb h,if_neg h]
  rfl
theorem Zxj (k:Nat) {s:List Int} (h1:1 ≤ s.length) (h2:s.length ≤ 512) (hk:1000 < k) (a0 a1 a2 a5 a7:Int) (a4 a6:List Int) :
  Zd0 k (s,((a0,a1,a2,s,a4,a5,a6,a7,()),()),()) = some (!s.all (fun x => decide (x = s.headD 0)),(a0,a1,a2,s,a4,a5,a6,a7,()),()):=by
 show Za1 k _ = _
 simp only [Za1]
 have hhd:s.getD 0 0 = s.headD 0:=by cases s <;> rfl
 have key:∃ i:Int,Zeb k (s,((a0,a1,a2,s,a4,a5,a6,a7,()),()),()) = some (i,(a0,a1,a2,s,a4,a5,a6,a7,()),()) ∧ (0 ≤ i ↔ s.all (fun x => decide (x = s.headD 0)) = false):=by
  have:=XY (A:=Unit) (R:=Int × FPl × Unit) (step:=fun L1 => KA k L1) (fun i _ => (Int.ofNat s.length,Int.ofNat i,s,a0,a1,a2,s,a4,a5,a6,a7)) s
   (fun l _ => some (if l.all (fun x => decide (x = s.headD 0)) then -1 else Int.ofNat (s.length - l.length + (l.takeWhile (fun x => decide (x = s.headD 0))).length),(a0,a1,a2,s,a4,a5,a6,a7,()),()))
   (fun L _ => by simp only [KA]; rw [Zi (QV _)]; rfl)
   (fun L i hi _ hL => by
    simp only [KA]
    have e:ZoD k (s[i],(a0,a1,a2,s,a4,a5,a6,a7,()),()) = some (s[i] != s.headD 0,(a0,a1,a2,s,a4,a5,a6,a7,()),()):=by
     show Zft k _ = _
     simp only [Zft]
     rw [Zb (by simp only [Qh]; omega),hhd]
    rw [Zb (KU hi),Zb (Xx hi),ZK hi,e]
    simp only [Qb]
    have hlen:(List.drop (i + 1) s).length = s.length - (i + 1):=by simp
    rw [ZT]
    by_cases hc:s[i] = s.headD 0
    ·rw [Zi (by simpa using hc),Qq hi (by omega),hL ()]
     simp only [List.all_cons,hc,decide_true,Bool.true_and,List.takeWhile_cons,if_true,List.length_cons,hlen]
     split
     ·rfl
     ·congr 3; omega
    ·rw [Zb hc]
     simp only [List.all_cons,hc,decide_false,Bool.false_and,Bool.false_eq_true,if_false,List.takeWhile_cons,List.length_cons,hlen,List.length_nil]
     congr 3; omega) k 0 () (by omega) (Nat.zero_le _)
  rw [List.drop_zero] at this
  refine ⟨_,this,?_⟩
  cases s.all (fun x => decide (x = s.headD 0)) <;> simp
 obtain ⟨i,h1,h2⟩:=key
 rw [h1]
 simp only [Qb]
 cases hc:s.all (fun x => decide (x = s.headD 0)) with
 | false => rw [QX (h2.2 hc)]; rfl
 | true => rw [QN (fun h => by have:=h2.1 h; rw [hc] at this; cases this)]; rfl
def Zdj (s:List Int) (d:Nat):Option Wn:=if s.all (fun x => decide (x = s.headD 0)) = true then some (0,[],0,[],(d:Int)) else none
def ZGj (s:List Int) (d:Nat) (o:Nat):Option Wn:=ZdN s d (8 + (o:Int)) (Xp o) 0 0
def YZ (s:List Int) (d:Nat) (o:Nat):Option Wn:=if o < s.length then ZdN s d (31 + (o:Int)) (Xw s o) 4 (9 + 12 * (o:Int)) else none
def ZD4 (s:List Int) (d:Nat):Option Wn:=some (1,[],0,[],(s.length:Int) * (d:Int))
def ZhJ (s:List Int) (d:Nat):Nat → Nat → Option Wn → Option Wn
 | 0,_,b => b
 | e + 1,o,b => ZhJ s d e (o + 1) (Qt b (ZGj s d o))
def Zia (s:List Int) (d:Nat):Option Wn :=
 Qt (Qt (Qt (Qt (ZhJ s d (min 4 s.length + 1) 0 (Qt none (Zdj s d))) (YZ s d 2)) (YZ s d 4)) (YZ s d 8)) (ZD4 s d)
theorem ZDJ {s:List Int} {d:Nat} {kind:Int} {c:List Int} {sh head:Int} (h1:1 ≤ s.length) (h2:s.length ≤ 512) (hh:0 ≤ head):nnC (ZdN s d kind c sh head):=by
 intro x hx
 unfold ZdN at hx
 split at hx
 ·rename_i h
  obtain rfl:=(Option.some.inj hx).symm
  obtain ⟨hl,h8,_⟩:=ZbL h h1 h2
  have:=(Zic (WS c sh s) (o:=c.length) (by omega)).1
  have e1:((c.length:Nat):Int) * (d:Int) = ((c.length * d:Nat):Int):=by push_cast; rfl
  simp only
  rw [e1]
  omega
 ·cases hx
theorem Zwn:nnC none:=fun _ h => by cases h
theorem ZGi (s:List Int) (d:Nat):nnC (Zdj s d):=by
 intro x hx
 unfold Zdj at hx
 split at hx
 ·obtain rfl:=(Option.some.inj hx).symm
  simp only
  omega
 ·cases hx
theorem ZDA {s:List Int} {d o:Nat} (h1:1 ≤ s.length) (h2:s.length ≤ 512):nnC (ZGj s d o):=ZDJ h1 h2 (Int.le_refl _)
theorem Zwj {s:List Int} {d o:Nat} (h1:1 ≤ s.length) (h2:s.length ≤ 512):nnC (YZ s d o):=by
 unfold YZ
 split
 ·exact ZDJ h1 h2 (by omega)
 ·exact Zwn
theorem ZDB {s:List Int} {d:Nat} (h1:1 ≤ s.length) (h2:s.length ≤ 512):∀ (e o:Nat) (b:Option Wn),nnC b → nnC (ZhJ s d e o b)
 | 0,_,b,h => h
 | e + 1,o,b,h => ZDB h1 h2 e (o + 1) _ (ZcZ h (ZDA h1 h2))
theorem Ztt (k:Nat) (hk:40000 < k) {s:List Int} (h1:1 ≤ s.length) (h2:s.length ≤ 512) {d:Nat} (hd:d ≤ 25) {head:Int} (hh:0 ≤ head ∧ head ≤ 1000) (kind:Int) (c:List Int) (sh a0 a1 a5:Int) (a4 a6:List Int) (a7:Int) {b:Option Wn} (hb:nnC b)
  {R:Type} (K:Unit × FPl × Unit → Option R) :
  ((Zht k ((a0,a1,(d:Int),s,(a4,a5,()),a6,a7,()),kind,(c,sh,()),head,())).bind fun y =>
   (ZbB k ((y.1.1.1,y.1.1.2.1,y.1.1.2.2.1,y.1.1.2.2.2.1,(y.1.1.2.2.2.2.1.1,y.1.1.2.2.2.2.1.2.1,()),y.1.1.2.2.2.2.2.1,y.1.1.2.2.2.2.2.2.1,()),y.1.2.1,((Qz a1 d s b).1,(Qz a1 d s b).2.1,(Qz a1 d s b).2.2.1,(Qz a1 d s b).2.2.2.1,(Qz a1 d s b).2.2.2.2.1,(Qz a1 d s b).2.2.2.2.2.1,(Qz a1 d s b).2.2.2.2.2.2.1,(Qz a1 d s b).2.2.2.2.2.2.2.1,()),())).bind K) =
  K ((),Qz a1 d s (Qt b (ZdN s d kind c sh head)),()):=by
 rw [ZED k hk h1 h2 hd hh]
 simp only [Qb]
 cases hm:ZdN s d kind c sh head with
 | none => rfl
 | some x =>
  have:=ZoC k a1 d s x b hb
  exact (congrArg (fun z => z.bind K) this).trans rfl
end Go.Sh
namespace Go.Sh
open Go Go.Proofs
theorem Zf {α β:Type} {x:Option α} {a:α} (h:x = some a) (K:α → Option β):x.bind K = K a:=by rw [h]; rfl
theorem ZOK (k:Nat) (hk:40000 < k) {s:List Int} (h1:1 ≤ s.length) (h2:s.length ≤ 512) {d:Nat} (hd:d ≤ 25) (kk:Int) :
  ∀ (e o j:Nat) (b:Option Wn),e < j → o + e ≤ 5 → nnC b →
  Zm (fun L2 => ZeB k (Zlj k) L2) j (((o + e:Nat):Int),(o:Int),Int.ofNat s.length,(Qz kk d s b).1,(Qz kk d s b).2.1,(Qz kk d s b).2.2.1,(Qz kk d s b).2.2.2.1,(Qz kk d s b).2.2.2.2.1,(Qz kk d s b).2.2.2.2.2.1,(Qz kk d s b).2.2.2.2.2.2.1,(Qz kk d s b).2.2.2.2.2.2.2.1,
    0,kk,(d:Int),s,[],0,[],0,0,kk,(d:Int),0,(d:Int),s,0,0,0,0,0) =
   (fun b => Zlj k ((0:Int),(2:Int),(4:Int),(8:Int),Int.ofNat s.length,0,kk,(d:Int),s,[],0,[],0,(Qz kk d s b).1,(Qz kk d s b).2.1,(Qz kk d s b).2.2.1,(Qz kk d s b).2.2.2.1,(Qz kk d s b).2.2.2.2.1,(Qz kk d s b).2.2.2.2.2.1,(Qz kk d s b).2.2.2.2.2.2.1,(Qz kk d s b).2.2.2.2.2.2.2.1,
    0,kk,(d:Int),0,(d:Int),s,0,0,0,0,0)) (ZhJ s d e o b):=by
 intro e
 induction e with
 | zero =>
  intro o j b hj ho hb
  obtain ⟨j,rfl⟩:=Zn hj
  rw [Zd]
  simp only [ZeB]
  rw [Zi (by omega)]
  rfl
 | succ e ih =>
  intro o j b hj ho hb
  obtain ⟨j,rfl⟩:=Zn (show 0 < j by omega)
  rw [Zd]
  simp only [ZeB]
  rw [Zb (by omega),ZkD k o (by omega) (by omega)]
  simp only [Qb]
  have e1:IntKind.i64.wrap ((8:Int) + (o:Int)) = 8 + (o:Int):=by rw [ZQ (by omega)]
  have e2:IntKind.i64.wrap ((o:Int) + 1) = ((o + 1:Nat):Int):=by rw [ZQ (by omega)]; rfl
  rw [e1,e2]
  refine (Ztt k hk h1 h2 hd (show (0:Int) ≤ 0 ∧ (0:Int) ≤ 1000 by omega) (8 + (o:Int)) (Xp o) 0 0 kk 0 [] [] 0 hb _).trans ?_
  have:=ih (o + 1) j (Qt b (ZGj s d o)) (by omega) (by omega) (ZcZ hb (ZDA h1 h2))
  rw [show o + 1 + e = o + (e + 1) by omega] at this
  exact this
theorem ZOL (k:Nat) (hk:40000 < k) {s:List Int} (h1:1 ≤ s.length) (h2:s.length ≤ 512) (hs:∀ x ∈ s,ZI x) {d:Nat} (hd:d ≤ 25) (kk:Int) (b:Option Wn) (hb:nnC b) :
  Zlj k ((0:Int),(2:Int),(4:Int),(8:Int),Int.ofNat s.length,0,kk,(d:Int),s,[],0,[],0,(Qz kk d s b).1,(Qz kk d s b).2.1,(Qz kk d s b).2.2.1,(Qz kk d s b).2.2.2.1,(Qz kk d s b).2.2.2.2.1,(Qz kk d s b).2.2.2.2.2.1,(Qz kk d s b).2.2.2.2.2.2.1,(Qz kk d s b).2.2.2.2.2.2.2.1,
    0,kk,(d:Int),0,(d:Int),s,0,0,0,0,0) =
   (fun b => some (((Qz kk d s b).1,(Qz kk d s b).2.1,(Qz kk d s b).2.2.1,(Qz kk d s b).2.2.2.1,((Qz kk d s b).2.2.2.2.1,(Qz kk d s b).2.2.2.2.2.1,()),(Qz kk d s b).2.2.2.2.2.2.1,(Qz kk d s b).2.2.2.2.2.2.2.1,()),()))
    (Qt (Qt (Qt (Qt b (YZ s d 2)) (YZ s d 4)) (YZ s d 8)) (ZD4 s d)):=by
 have one:∀ (j i o:Nat) (b:Option Wn),(i = 0 ∧ o = 2 ∨ i = 1 ∧ o = 4 ∨ i = 2 ∧ o = 8) → nnC b →
   Zm (fun L3 => ZcC k L3) (j + 1) ((i:Int),(2:Int),(4:Int),(8:Int),Int.ofNat s.length,0,kk,(d:Int),s,[],0,[],0,(Qz kk d s b).1,(Qz kk d s b).2.1,(Qz kk d s b).2.2.1,(Qz kk d s b).2.2.2.1,(Qz kk d s b).2.2.2.2.1,(Qz kk d s b).2.2.2.2.2.1,(Qz kk d s b).2.2.2.2.2.2.1,(Qz kk d s b).2.2.2.2.2.2.2.1,
    0,kk,(d:Int),0,(d:Int),s,0,0,0,0,0) =
   (fun b => Zm (fun L3 => ZcC k L3) j (((i + 1:Nat):Int),(2:Int),(4:Int),(8:Int),Int.ofNat s.length,0,kk,(d:Int),s,[],0,[],0,(Qz kk d s b).1,(Qz kk d s b).2.1,(Qz kk d s b).2.2.1,(Qz kk d s b).2.2.2.1,(Qz kk d s b).2.2.2.2.1,(Qz kk d s b).2.2.2.2.2.1,(Qz kk d s b).2.2.2.2.2.2.1,(Qz kk d s b).2.2.2.2.2.2.2.1,
    0,kk,(d:Int),0,(d:Int),s,0,0,0,0,0)) (Qt b (YZ s d o)):=by
  intro j i o b hio hb
  rw [Zd]
  simp only [ZcC]
  have ho:o = 2 ∨ o = 4 ∨ o = 8:=by omega
  have hg:[(2:Int),4,8].getD ((i:Int)).toNat 0 = (o:Int):=by
   rcases hio with ⟨rfl,rfl⟩ | ⟨rfl,rfl⟩ | ⟨rfl,rfl⟩ <;> rfl
  have e2:IntKind.i64.wrap ((i:Int) + 1) = ((i + 1:Nat):Int):=by rw [ZQ (by omega)]; rfl
  rw [Zb (by omega),Zb (by omega),hg,e2]
  unfold YZ
  by_cases hlt:o < s.length
  ·rw [Zb (by simp only [Qh]; omega),if_pos hlt,ZEI k s o ho (by omega) hs (by omega) (by omega)]
   simp only [Qb]
   have e1:IntKind.i64.wrap ((31:Int) + (o:Int)) = 31 + (o:Int):=by rw [ZQ (by omega)]
   have e3:IntKind.i64.wrap ((9:Int) + IntKind.i64.wrap ((12:Int) * (o:Int))) = 9 + 12 * (o:Int):=by rw [ZQ (n:=12 * (o:Int)) (by omega),ZQ (by omega)]
   rw [e1,e3]
   exact Ztt k hk h1 h2 hd (show (0:Int) ≤ 9 + 12 * (o:Int) ∧ 9 + 12 * (o:Int) ≤ 1000 by omega) (31 + (o:Int)) (Xw s o) 4 0 kk 0 [] [] 0 hb _
  ·rw [Zi (by simp only [Qh]; omega),if_neg hlt]
   rfl
 obtain ⟨j,rfl⟩:∃ j,k = j + 4:=⟨k - 4,by omega⟩
 have nn1:=ZcZ hb (Zwj (o:=2) (d:=d) h1 h2)
 have nn2:=ZcZ nn1 (Zwj (o:=4) (d:=d) h1 h2)
 have nn3:=ZcZ nn2 (Zwj (o:=8) (d:=d) h1 h2)
 refine (one (j + 3) 0 2 b (by omega) hb).trans ((one (j + 2) 1 4 _ (by omega) nn1).trans ((one (j + 1) 2 8 _ (by omega) nn2).trans ?_))
 generalize Qt (Qt (Qt b (YZ s d 2)) (YZ s d 4)) (YZ s d 8) = b3 at nn3
 simp only
 rw [Zd]
 simp only [ZcC]
 rw [Zi (by omega)]
 have hmul:s.length * d ≤ 512 * 25:=Nat.mul_le_mul h2 hd
 have e1:IntKind.i64.wrap (Int.ofNat s.length * (d:Int)) = (s.length:Int) * (d:Int):=by
  have:Int.ofNat s.length * (d:Int) = ((s.length * d:Nat):Int):=by simp only [Qh]; push_cast; rfl
  rw [this,ZQ (by omega)]; push_cast; rfl
 rw [e1]
 have:=ZoC (j + 4) kk d s (1,[],0,[],(s.length:Int) * (d:Int)) b3 nn3
 exact Zf this _
theorem ZKB (k:Nat) (hk:40000 < k) {s:List Int} (h1:1 ≤ s.length) (h2:s.length ≤ 512) {d:Nat} (hd1:1 ≤ d) (hd:d ≤ 25) (hs:∀ x ∈ s,WU x d = true) :
  ZsJ k (s,(d:Int),()) = (fun b => some (((Qz (Zq s:Nat) ((d - Zq s:Nat):Int) (QO s) b).1,(Qz (Zq s:Nat) ((d - Zq s:Nat):Int) (QO s) b).2.1,(Qz (Zq s:Nat) ((d - Zq s:Nat):Int) (QO s) b).2.2.1,(Qz (Zq s:Nat) ((d - Zq s:Nat):Int) (QO s) b).2.2.2.1,((Qz (Zq s:Nat) ((d - Zq s:Nat):Int) (QO s) b).2.2.2.2.1,(Qz (Zq s:Nat) ((d - Zq s:Nat):Int) (QO s) b).2.2.2.2.2.1,()),(Qz (Zq s:Nat) ((d - Zq s:Nat):Int) (QO s) b).2.2.2.2.2.2.1,(Qz (Zq s:Nat) ((d - Zq s:Nat):Int) (QO s) b).2.2.2.2.2.2.2.1,()),()))
   (Zia (QO s) (d - Zq s)):=by
 show Zjq k (ZvL k) _ = _
 simp only [Zjq]
 rw [ZEz k s (by omega) (by omega)]
 simp only [Qb]
 have hw:=Zc2 hd1 hs
 have hsg:=Zh1 hd1 hs
 have hsl:=Zat s
 have e1:IntKind.i64.wrap ((d:Int) - ((Zq s:Nat):Int)) = ((d - Zq s:Nat):Int):=by rw [ZQ (by omega)]; omega
 rw [e1]
 generalize hkk:Zq s = kk at hw hsg
 generalize hdd:d - kk = dd at hsg
 have:=Zu (A:=List Int) (R:=SPl × Unit) (step:=fun L1 => KH k (Zli k) L1)
  (fun i a => (Int.ofNat s.length,Int.ofNat i,s,(kk:Int),(0:Int),(kk:Int),(dd:Int),(0:Int),(0:Int),a,(0:Int),(0:Int),(0:Int),(0:Int),(0:Int))) s
  (fun s' a => KH k (Zli k) (fun _ => none) (Int.ofNat s.length,Int.ofNat s.length,s,(kk:Int),(0:Int),(kk:Int),(dd:Int),(0:Int),(0:Int),a ++ s'.map (fun x => x.fdiv (2 ^ kk)),(0:Int),(0:Int),(0:Int),(0:Int),(0:Int)))
  (fun i a => a.length = i)
  (fun L a _ => by
   simp only [KH]
   rw [Zi (QV _),Zi (QV _)]
   simp)
  (fun L i hi a ha hL => by
   have key:KH k (Zli k) L (Int.ofNat s.length,Int.ofNat i,s,(kk:Int),(0:Int),(kk:Int),(dd:Int),(0:Int),(0:Int),a,(0:Int),(0:Int),(0:Int),(0:Int),(0:Int)) =
     L (Int.ofNat s.length,Int.ofNat (i + 1),s,(kk:Int),(0:Int),(kk:Int),(dd:Int),(0:Int),(0:Int),a ++ [s[i].fdiv (2 ^ kk)],(0:Int),(0:Int),(0:Int),(0:Int),(0:Int)):=by
    simp only [KH]
    rw [Zb (KU hi),Zb (Xx hi),Zb (by omega),Zb (by simp only [List.length_singleton]; omega),ZK hi,QS,Nat.min_eq_left (by omega),Qq hi (by omega)]
   rw [key,hL _ (by simp; omega),List.map_cons,List.append_assoc]
   rfl)
  k 0 [] rfl (by omega) (Nat.zero_le _)
 rw [List.drop_zero,List.nil_append] at this
 refine Eq.trans this ?_
 have hsh:s.map (fun x => x.fdiv (2 ^ kk)) = QO s:=by unfold QO; rw [hkk]
 rw [hsh]
 generalize QO s = t at hsg hsl
 simp only [KH]
 rw [Zi (QV _),Zxj k (by omega) (by omega) (by omega)]
 simp only [Qb,Bool.not_not]
 have nar:∀ x ∈ t,ZI x:=fun x hx => Zh0 (by omega) (hsg x hx)
 have hfirst:ZbB k (((0:Int),(kk:Int),(dd:Int),t,([],0,()),[],(dd:Int),()),t.all (fun x => decide (x = t.headD 0)),(0,0,0,[],[],0,[],(-1:Int),()),()) = some ((),Qz kk dd t (Qt none (Zdj t dd)),()):=by
  unfold Zdj
  cases t.all (fun x => decide (x = t.headD 0)) with
  | false => rfl
  | true => exact ZoC k kk dd t (0,[],0,[],(dd:Int)) none Zwn
 rw [hfirst]
 simp only [Qb]
 have e4:IntKind.i64.wrap ((if Int.ofNat t.length < (4:Int) then Int.ofNat t.length else (4:Int)) + (1:Int)) = ((0 + (min 4 t.length + 1):Nat):Int):=by
  have:(if Int.ofNat t.length < (4:Int) then Int.ofNat t.length else (4:Int)) = ((min 4 t.length:Nat):Int):=by
   simp only [Qh]; split <;> omega
  rw [this,ZQ (by omega)]
  omega
 rw [e4]
 have nn0:nnC (Qt none (Zdj t dd)):=ZcZ Zwn (ZGi t dd)
 refine (ZOK k hk (by omega) (by omega) (show dd ≤ 25 by omega) kk (min 4 t.length + 1) 0 k _ (by omega) (by omega) nn0).trans ?_
 exact ZOL k hk (by omega) (by omega) nar (by omega) kk _ (ZDB (by omega) (by omega) _ _ _ nn0)
end Go.Sh
namespace Go.Sh
open Go Go.Proofs
theorem Wl (w:Nat):∀ c:List Int,(c.flatMap fun n => WL n w).length = w * c.length
 | [] => rfl
 | a :: c => by rw [List.flatMap_cons,Wq,YA,Wl w c,List.length_cons,Nat.mul_add,Nat.mul_one]; omega
theorem ZjP (kk:Nat):∀ c:List Int,(c.flatMap (Zdp kk)).length = XO c kk
 | [] => rfl
 | a :: c => by
  rw [List.flatMap_cons,Wq,Zbl,ZjP kk c]
  unfold XO
  simp only [List.length_cons,List.map_cons,Zff,Nat.mul_add,Nat.mul_one]
  omega
theorem Zwr {c:List Int} {m:Int} (hm:m = 0 ∨ m = 1) {y:Prt} (hy:KV c m y):((Xi m (c,y)).length:Int) = 4 + m + y.2.2.1:=by
 have hmn:((m.toNat:Nat):Int) = m:=by rcases hm with rfl | rfl <;> rfl
 unfold Xi XK
 rcases hy with ⟨kk,hkk,hfar,rfl⟩ | ⟨hw,rfl⟩
 ·simp only
  rw [if_neg (by omega),if_neg (by omega)]
  simp only [Wq,Zl,List.length_nil,QS,ZjP]
  omega
 ·simp only
  rw [if_pos trivial,if_pos trivial]
  simp only [Wq,Zl,QS,Wl]
  omega
theorem Zta {m:Int} (hm:m = 0 ∨ m = 1):∀ (cs:List (List Int)) (ps:List Prt) (sz:Int),(Qc m cs ps sz).2.2 = true →
  ((((cs.zip (cs.map fun c => (Qv c m).1)).flatMap (Xi m)).length:Nat):Int) = (Qc m cs ps sz).2.1 - sz
 | [],ps,sz,_ => by simp [Qc]
 | c :: cs,ps,sz,h => by
  cases hb:(Qv c m).2 with
  | false => rw [ZgL _ _ _ hb] at h; cases h
  | true =>
   rw [Zds _ _ _ hb] at h ⊢
   have h1:=Zwr hm (Zax hb)
   have h2:=Zta hm cs _ _ h
   simp only [List.map_cons,List.zip_cons_cons,List.flatMap_cons,Wq]
   omega
theorem RGood.map {l:List Int} {o p:Nat} {R:WT} (h:RGood l o R p):R.2.2.2 = (WV l o p).map fun c => (Qv c R.1).1:=by
 obtain ⟨ys,h1,h2,h3⟩:=Zbp (m:=R.1) (WV l o p) [] 6 (by rw [h.parts])
 rw [h.parts] at h1
 simp only [List.nil_append] at h1
 rw [h1,h3]
theorem RGood.len {l:List Int} {o p:Nat} {R:WT} (h:RGood l o R p):((ZcO l o R).length:Int) = R.2.2.1:=by
 have h1:=Zta h.hm (WV l o p) [] 6 (by rw [h.parts])
 rw [h.parts,← h.map] at h1
 unfold ZcO
 rw [h.hp,QS]
 simp only [Wq,Zl]
 simp only at h1
 omega
theorem Zwx {l:List Int} {o:Nat} (hl:∀ x ∈ l,ZI x) (hn:l.length + o ≤ 512):((YV l o).length:Int) = (Qx l o).2.2.1:=by
 obtain ⟨_,q,hg⟩:=XR hl hn (by omega)
 exact hg.len
def Zbx (s:List Int) (d:Nat) (x:Wn):Prop :=
 (x = (0,[],0,[],(d:Int)) ∧ s.all (fun x => decide (x = s.headD 0)) = true) ∨ x = (1,[],0,[],(s.length:Int) * (d:Int)) ∨
 (∃ o,o ≤ 4 ∧ o ≤ s.length ∧ ZGj s d o = some x) ∨ (∃ o,(o = 2 ∨ o = 4 ∨ o = 8) ∧ o < s.length ∧ ZdN s d (31 + (o:Int)) (Xw s o) 4 (9 + 12 * (o:Int)) = some x)
def Zav (s:List Int) (d:Nat) (b:Option Wn):Prop := ∀ x,b = some x → Zbx s d x
theorem ZzS {b x:Option Wn} {y:Wn} (h:Qt b x = some y):b = some y ∨ x = some y:=by
 unfold Qt at h
 match x,b,h with
 | none,b,h => exact .inl h
 | some x,none,h => exact .inr h
 | some x,some b,h =>
  simp only at h
  split at h
  ·exact .inr h
  ·exact .inl h
theorem Yf {s:List Int} {d:Nat} {b x:Option Wn} (hb:Zav s d b) (hx:Zav s d x):Zav s d (Qt b x):=fun y hy => by
 rcases ZzS hy with h | h
 ·exact hb y h
 ·exact hx y h
theorem ZLN {b x:Option Wn}:(∀ y,b = some y → ∃ z,Qt b x = some z ∧ z.2.2.2.2 ≤ y.2.2.2.2) ∧ (∀ y,x = some y → ∃ z,Qt b x = some z ∧ z.2.2.2.2 ≤ y.2.2.2.2):=by
 unfold Qt
 match x,b with
 | none,b => exact ⟨fun y hy => ⟨y,hy,Int.le_refl _⟩,fun y hy => by cases hy⟩
 | some x,none => exact ⟨fun y hy => (by cases hy),fun y hy => ⟨y,hy,Int.le_refl _⟩⟩
 | some x,some b =>
  simp only
  split
  ·exact ⟨fun y hy => by cases hy; exact ⟨x,rfl,by omega⟩,fun y hy => by cases hy; exact ⟨x,rfl,Int.le_refl _⟩⟩
  ·exact ⟨fun y hy => by cases hy; exact ⟨b,rfl,Int.le_refl _⟩,fun y hy => by cases hy; exact ⟨b,rfl,by omega⟩⟩
theorem Zwb {s:List Int} {d:Nat}:∀ (e o:Nat) (b:Option Wn),o + e ≤ min 4 s.length + 1 → Zav s d b → Zav s d (ZhJ s d e o b)
 | 0,_,b,_,h => h
 | e + 1,o,b,he,h => Zwb e (o + 1) _ (by omega) (Yf h fun x hx => .inr (.inr (.inl ⟨o,by omega,by omega,hx⟩)))
theorem ZgK {s:List Int} {d o:Nat} (ho:o = 2 ∨ o = 4 ∨ o = 8):Zav s d (YZ s d o):=by
 intro x hx
 unfold YZ at hx
 split at hx
 ·exact .inr (.inr (.inr ⟨o,ho,by omega,hx⟩))
 ·cases hx
theorem ZAo (s:List Int) (d:Nat):∃ x,Zia s d = some x ∧ Zbx s d x ∧ x.2.2.2.2 ≤ (s.length:Int) * (d:Int):=by
 obtain ⟨z,h1,h2⟩:=(ZLN (b:=Qt (Qt (Qt (ZhJ s d (min 4 s.length + 1) 0 (Qt none (Zdj s d))) (YZ s d 2)) (YZ s d 4)) (YZ s d 8)) (x:=ZD4 s d)).2 _ rfl
 refine ⟨z,h1,?_,h2⟩
 refine Yf (Yf (Yf (Yf (Zwb _ _ _ (by omega) (Yf (fun x hx => by cases hx) ?_)) (ZgK (.inl rfl))) (ZgK (.inr (.inl rfl)))) (ZgK (.inr (.inr rfl)))) ?_ z h1
 ·intro x hx
  unfold Zdj at hx
  split at hx
  ·rename_i h
   exact .inl ⟨(Option.some.inj hx).symm,h⟩
  ·cases hx
 ·intro x hx
  exact .inr (.inl (Option.some.inj hx).symm)
def Q3 (s:List Int) (d:Nat) (x:Wn):List Bool :=
 if x.1 = 0 then (s.take 1).flatMap (fun n => WL n d) else if x.1 = 1 then s.flatMap (fun n => WL n d)
 else (s.take x.2.1.length).flatMap (fun n => WL n d) ++ ((if 31 < x.1 then Zg 11 4 ++ (Zg x.2.2.1.toNat 5 ++ x.2.1.flatMap (fun n => WL n 12)) else []) ++ YV x.2.2.2.1 x.2.1.length)
def XJ (kind:Int) (kk:Nat):List Bool:=Zg kind.toNat 7 ++ (if 0 < kk then [true] ++ (List.replicate (kk - 1) false ++ [true]) else [false])
def QT (s:List Int) (d:Nat):List Bool:=match Zia (QO s) (d - Zq s) with
 | none => []
 | some x => XJ x.1 (Zq s) ++ Q3 (QO s) (d - Zq s) x
theorem YP (kind:Int) (kk:Nat):(XJ kind kk).length = 8 + kk:=by
 unfold XJ
 rw [Wq,Zl]
 split
 ·simp; omega
 ·simp; omega
theorem Wz {s:List Int} {d:Nat} {kind:Int} {c:List Int} {sh head:Int} {x:Wn} (h1:1 ≤ s.length) (h2:s.length ≤ 512) (h:ZdN s d kind c sh head = some x) :
  x.1 = kind ∧ x.2.1 = c ∧ x.2.2.1 = sh ∧ x.2.2.2.1 = ZaR c sh s ∧ x.2.2.2.2 = head + (c.length:Int) * (d:Int) + ((YV (ZaR c sh s) c.length).length:Int) ∧ Xb (ZaR c sh s) (c.length:Nat) = 0 ∧ c.length ≤ s.length ∧ c.length ≤ 8 ∧ Kc c sh = true ∧
   (QK c sh s).2 = 0:=by
 unfold ZdN at h
 split at h
 ·rename_i hz
  obtain rfl:=(Option.some.inj h).symm
  obtain ⟨hl,h8,hr⟩:=ZbL hz h1 h2
  obtain ⟨e1,e2,e3⟩:=Ze9 hz
  have:=Zwx (WS c sh s) (o:=c.length) (by omega)
  rw [e1] at hr this ⊢
  exact ⟨rfl,rfl,rfl,rfl,by simp only; omega,hr,e2,h8,e3,hz⟩
 ·cases h
theorem Xm (s:List Int) (d j:Nat) (h:j ≤ s.length):((s.take j).flatMap (fun n => WL n d)).length = d * j:=by
 rw [Wl,List.length_take,Nat.min_eq_left h]
theorem ZBP (o:Nat) (h:o ≤ 4):(Xp o).length = o:=by
 obtain rfl | rfl | rfl | rfl | rfl:o = 0 ∨ o = 1 ∨ o = 2 ∨ o = 3 ∨ o = 4:=by omega
 all_goals rfl
theorem Zac {s:List Int} {d:Nat} {x:Wn} (h1:1 ≤ s.length) (h2:s.length ≤ 512) (h:Zbx s d x):((Q3 s d x).length:Int) = x.2.2.2.2:=by
 unfold Q3
 rcases h with ⟨rfl,_⟩ | rfl | ⟨o,ho,hos,hx⟩ | ⟨o,ho,hos,hx⟩
 ·simp only
  rw [if_pos trivial,Xm _ _ _ h1]
  omega
 ·simp only
  rw [if_neg (by omega),if_pos trivial,Wl]
  push_cast
  rw [Int.mul_comm]
 ·obtain ⟨e1,e2,e3,e4,e5,e6,e7,e8,e9,_⟩:=Wz h1 h2 hx
  rw [e1,e2,e3,e4,e5,if_neg (by omega),if_neg (by omega),if_neg (by omega)]
  simp only [Wq,List.length_nil,Xm _ _ _ e7]
  push_cast
  rw [Int.mul_comm (d:Int)]
  omega
 ·obtain ⟨e1,e2,e3,e4,e5,e6,e7,e8,e9,_⟩:=Wz h1 h2 hx
  have hsl:=(ZqX s o ho).1
  rw [e1,e2,e3,e4,e5,if_neg (by omega),if_neg (by omega),if_pos (by omega)]
  simp only [Wq,Xm _ _ _ e7,Zl,Wl]
  rw [hsl]
  push_cast
  rw [Int.mul_comm (d:Int)]
  omega
theorem Zdy (s:List Int) (d:Nat) (h1:1 ≤ s.length) (h2:s.length ≤ 512):∃ x,Zia (QO s) (d - Zq s) = some x ∧ Zbx (QO s) (d - Zq s) x ∧ QT s d = XJ x.1 (Zq s) ++ Q3 (QO s) (d - Zq s) x ∧
  ((QT s d).length:Int) = 8 + (Zq s:Int) + x.2.2.2.2 ∧ x.2.2.2.2 ≤ (s.length:Int) * ((d - Zq s:Nat):Int):=by
 obtain ⟨x,h3,h4,h5⟩:=ZAo (QO s) (d - Zq s)
 have hb:=Zac (by rw [Zat]; exact h1) (by rw [Zat]; exact h2) h4
 rw [Zat] at h5
 have e:QT s d = XJ x.1 (Zq s) ++ Q3 (QO s) (d - Zq s) x:=by unfold QT; rw [h3]
 refine ⟨x,h3,h4,e,?_,h5⟩
 rw [e,Wq,YP]
 omega
theorem ZzP {s:List Int} {d:Nat} (h1:1 ≤ s.length) (h2:s.length ≤ 512) (hw:Zq s < d):(QT s d).length ≤ 8 + s.length * d:=by
 obtain ⟨x,_,_,_,h4,h5⟩:=Zdy s d h1 h2
 have e:(s.length:Int) * ((d - Zq s:Nat):Int) = ((s.length * d - s.length * Zq s:Nat):Int):=by
  rw [← Nat.mul_sub]; push_cast; rfl
 have h6:Zq s ≤ s.length * Zq s:=Nat.le_mul_of_pos_left _ h1
 have h7:s.length * Zq s ≤ s.length * d:=Nat.mul_le_mul_left _ (by omega)
 omega
end Go.Sh
namespace Go.Sh
open Go Go.Proofs
theorem ZeF (k:Nat) {l:List Int} {w:Nat} (hk:10000 < k) (hl:l.length ≤ 8192) (hw:w ≤ 32) (hs:∀ x ∈ l,WU x w = true) (bs:List Bool) (hb:bs.length ≤ 2147483648) :
  K5 k (wst bs,l,(w:Int),()) = some ((),wst (bs ++ l.flatMap (fun n => WL n w)),()):=by
 show Zjs k (ZvP k) _ = _
 simp only [Zjs]
 have:=Zu (A:=List Bool) (R:=Unit × (List Int × Int × Unit) × Unit) (step:=fun L1 => ZeE k L1)
  (fun i a => (Int.ofNat l.length,Int.ofNat i,l,(w:Int),(a.length:Int),ZY a)) l
  (fun l' a => some ((),wst (a ++ l'.flatMap (fun n => WL n w)),()))
  (fun i a => a.length ≤ 2147483648 + i * 32)
  (fun L a _ => by
   simp only [ZeE]
   rw [Zi (QV _)]
   simp)
  (fun L i hi a ha hL => by
   simp only [ZeE]
   rw [Zb (KU hi),Zb (Xx hi),ZK hi]
   rw [show ((ZY a,((a.length:Nat):Int),()):List Int × Int × Unit) = wst a from rfl,ZrR k a _ w (by omega) hw (hs _ (List.getElem_mem hi)) (by omega)]
   simp only [Qb]
   rw [Qq hi (by omega),hL (a ++ WL l[i] w) (by rw [Wq,YA]; omega),List.flatMap_cons,List.append_assoc])
  k 0 bs (by omega) (by omega) (Nat.zero_le _)
 rw [List.drop_zero] at this
 exact this
noncomputable def ZiX (k:Nat) (p:SPl) (w:List Int × Int × Unit):Option (Int × (List Int × Int × Unit) × Unit) :=
 bif p.1 == (0:Int) then bif decide ((0:Int) ≤ (0:Int) ∧ (0:Int) ≤ (1:Int) ∧ (1:Int) ≤ Int.ofNat (List.length p.2.2.2.1)) then (K5 k (w,List.drop (0:Nat) (List.take (1:Nat) p.2.2.2.1),p.2.2.1,())).bind fun y => some (0,(y.2.1.1,y.2.1.2.1,()),()) else none
 else bif p.1 == (1:Int) then (K5 k (w,p.2.2.2.1,p.2.2.1,())).bind fun y => some (0,(y.2.1.1,y.2.1.2.1,()),())
 else bif decide ((0:Int) ≤ (0:Int) ∧ (0:Int) ≤ Int.ofNat (List.length p.2.2.2.2.1.1) ∧ Int.ofNat (List.length p.2.2.2.2.1.1) ≤ Int.ofNat (List.length p.2.2.2.1)) then
  (K5 k (w,List.drop (0:Nat) (List.take (Int.ofNat (List.length p.2.2.2.2.1.1)).toNat p.2.2.2.1),p.2.2.1,())).bind fun y_4 =>
   bif decide ((31:Int) < p.1) then (QQ k ((y_4.2.1.1,y_4.2.1.2.1,()),11,4,())).bind fun y_5 => (QQ k ((y_5.2.1.1,y_5.2.1.2.1,()),p.2.2.2.2.1.2.1,5,())).bind fun y_6 => (K5 k ((y_6.2.1.1,y_6.2.1.2.1,()),p.2.2.2.2.1.1,12,())).bind fun y_7 => (ZgZ k ((y_7.2.1.1,y_7.2.1.2.1,()),p.2.2.2.2.2.1,Int.ofNat (List.length p.2.2.2.2.1.1),())).bind fun y => some (y.1,(y.2.1.1,y.2.1.2.1,()),())
   else (ZgZ k ((y_4.2.1.1,y_4.2.1.2.1,()),p.2.2.2.2.2.1,Int.ofNat (List.length p.2.2.2.2.1.1),())).bind fun y => some (y.1,(y.2.1.1,y.2.1.2.1,()),())
 else none
theorem ZGb (k:Nat) (w:List Int × Int × Unit) (s:List Int) (d:Int):ZsB k (w,s,d,()) =
  (ZsI k (s,d,())).bind fun y => bif y.1 != (0:Int) then some (y.1,w,()) else (ZsJ k (s,d,())).bind fun y => (QQ k (w,y.1.1,7,())).bind fun y_1 =>
   bif decide ((0:Int) < y.1.2.1) then (QQ k ((y_1.2.1.1,y_1.2.1.2.1,()),1,1,())).bind fun y_2 => (Zl3 k ((y_2.2.1.1,y_2.2.1.2.1,()),IntKind.i64.wrap (y.1.2.1 - (1:Int)),())).bind fun y_3 => ZiX k y.1 (y_3.2.1.1,y_3.2.1.2.1,())
   else (QQ k ((y_1.2.1.1,y_1.2.1.2.1,()),0,1,())).bind fun y_2 => ZiX k y.1 (y_2.2.1.1,y_2.2.1.2.1,()):=rfl
theorem ZgW (k:Nat) (hk:70000 < k) {s:List Int} (h1:1 ≤ s.length) (h2:s.length ≤ 512) {d:Nat} (hd1:1 ≤ d) (hd:d ≤ 25) (hs:∀ x ∈ s,WU x d = true) {x:Wn} (hx:Zbx s d x) (kk:Int) (bs:List Bool) (hb:bs.length ≤ 1000000000) :
  ZiX k (ZTS kk d s x) (wst bs) = some (0,wst (bs ++ Q3 s d x),()):=by
 unfold ZiX Q3
 rcases hx with ⟨rfl,_⟩ | rfl | ⟨o,ho,hos,hx⟩ | ⟨o,ho,hos,hx⟩
 ·simp only
  rw [ZB,Zb rfl,Zb (by simp only [Qh]; omega),if_pos trivial,List.drop_zero]
  rw [ZeF k (by omega) (by rw [List.length_take]; omega) (by omega) (fun y hy => hs y (List.mem_of_mem_take hy)) bs (by omega)]
  rfl
 ·simp only
  rw [ZB,Zi (by omega),ZB,Zb rfl,if_neg (by omega),if_pos trivial]
  rw [ZeF k (by omega) (by omega) (by omega) hs bs (by omega)]
  rfl
 ·obtain ⟨e1,e2,e3,e4,e5,e6,e7,e8,e9,_⟩:=Wz h1 h2 hx
  obtain ⟨kind,c,sh,r,sz⟩:=x
  simp only at e1 e2 e3 e4 e5
  subst e1; subst e2; subst e3; subst e4
  simp only
  rw [ZB,Zi (by omega),ZB,Zi (by omega),Zb (by simp only [Qh]; omega),if_neg (by omega),if_neg (by omega),if_neg (by omega),List.drop_zero]
  rw [show (Int.ofNat (Xp o).length).toNat = (Xp o).length from rfl]
  rw [ZeF k (by omega) (by rw [List.length_take]; omega) (by omega) (fun y hy => hs y (List.mem_of_mem_take hy)) bs (by omega)]
  simp only [Qb]
  rw [Zi (by omega),show Int.ofNat (Xp o).length = ((Xp o).length:Nat) from rfl]
  have hlen:=Xm s d (Xp o).length e7
  have hmul:d * (Xp o).length ≤ 25 * 8:=Nat.mul_le_mul hd e8
  refine (Zf (Zy4 k (by omega) e6 (bs ++ (s.take (Xp o).length).flatMap (fun n => WL n d)) (by rw [Wq]; omega)) _).trans ?_
  simp only [List.nil_append,List.append_assoc]
 ·obtain ⟨e1,e2,e3,e4,e5,e6,e7,e8,e9,_⟩:=Wz h1 h2 hx
  obtain ⟨hsl,hsr⟩:=ZqX s o ho
  obtain ⟨kind,c,sh,r,sz⟩:=x
  simp only at e1 e2 e3 e4 e5
  subst e1; subst e2; subst e3; subst e4
  simp only
  rw [ZB,Zi (by omega),ZB,Zi (by omega),Zb (by simp only [Qh]; omega),if_neg (by omega),if_neg (by omega),if_pos (by omega),List.drop_zero]
  generalize Xw s o = c at hsl hsr e6 e7 e8 e9
  rw [show (Int.ofNat c.length).toNat = c.length from rfl]
  rw [ZeF k (by omega) (by rw [List.length_take]; omega) (by omega) (fun y hy => hs y (List.mem_of_mem_take hy)) bs (by omega)]
  simp only [Qb]
  rw [Zb (by omega),show Int.ofNat c.length = (c.length:Nat) from rfl]
  have hlen:=Xm s d c.length e7
  have hmul:d * c.length ≤ 25 * 8:=Nat.mul_le_mul hd e8
  generalize hW:(s.take c.length).flatMap (fun n => WL n d) = W at hlen
  have l1:(bs ++ W).length = bs.length + d * c.length:=by rw [Wq,hlen]
  refine (Zf (QU k (bs ++ W) 11 4 (by omega) (by omega) (by omega) (by omega)) _).trans ?_
  have l2:(bs ++ W ++ Zg 11 4).length = bs.length + d * c.length + 4:=by rw [Wq,l1,Zl]
  refine (Zf (QU k (bs ++ W ++ Zg 11 4) 4 5 (by omega) (by omega) (by omega) (by omega)) _).trans ?_
  have l3:(bs ++ W ++ Zg 11 4 ++ Zg 4 5).length = bs.length + d * c.length + 9:=by rw [Wq,l2,Zl]
  refine (Zf (ZeF k (l:=c) (w:=12) (by omega) (by omega) (by omega) (fun y hy => by
   have:=hsr y hy
   unfold WU
   rw [if_neg (by omega),decide_eq_true_eq]
   omega) (bs ++ W ++ Zg 11 4 ++ Zg 4 5) (by omega)) _).trans ?_
  have l4:(bs ++ W ++ Zg 11 4 ++ Zg 4 5 ++ c.flatMap (fun n => WL n 12)).length = bs.length + d * c.length + 9 + 12 * c.length:=by rw [Wq,l3,Wl]
  refine (Zf (Zy4 k (by omega) e6 (bs ++ W ++ Zg 11 4 ++ Zg 4 5 ++ c.flatMap (fun n => WL n 12)) (by omega)) _).trans ?_
  show some _ = some _
  simp only [List.append_assoc]
  rfl
theorem Zbx.kind {s:List Int} {d:Nat} {x:Wn} (h1:1 ≤ s.length) (h2:s.length ≤ 512) (h:Zbx s d x):∃ n:Nat,x.1 = (n:Int) ∧ n < 2 ^ 7:=by
 rcases h with ⟨rfl,_⟩ | rfl | ⟨o,ho,hos,hx⟩ | ⟨o,ho,hos,hx⟩
 ·exact ⟨0,rfl,by omega⟩
 ·exact ⟨1,rfl,by omega⟩
 ·exact ⟨8 + o,by rw [(Wz h1 h2 hx).1]; omega,by omega⟩
 ·exact ⟨31 + o,by rw [(Wz h1 h2 hx).1]; omega,by omega⟩
theorem Zbt {s:List Int} {d:Nat}:Zdw s (d:Int) = 0 ↔ (1 ≤ s.length ∧ s.length ≤ 512 ∧ 4 ≤ d ∧ d ≤ 25) ∧ ∀ x ∈ s,WU x d = true:=by
 unfold Zdw
 rw [QS]
 constructor
 ·intro h
  split at h
  ·split at h
   ·rename_i h1 h2
    exact ⟨by omega,List.all_eq_true.1 h2⟩
   ·omega
  ·omega
 ·rintro ⟨h1,h2⟩
  rw [if_pos (by omega),if_pos (List.all_eq_true.2 h2)]
theorem ZJI (k:Nat) (hk:70000 < k) {s:List Int} {d:Nat} (h:Zdw s (d:Int) = 0) (bs:List Bool) (hb:bs.length ≤ 900000000) :
  ZsB k (wst bs,s,(d:Int),()) = some (0,wst (bs ++ QT s d),()):=by
 obtain ⟨⟨h1,h2,h3,h4⟩,hs⟩:=Zbt.1 h
 rw [ZGb,ZKx k s d (by omega),h]
 simp only [Qb]
 rw [show ((0:Int) != 0) = false from rfl]
 simp only [cond_false]
 rw [ZKB k (by omega) h1 h2 (by omega) h4 hs]
 obtain ⟨x,hx,hok,hsub,hlen,_⟩:=Zdy s d h1 h2
 rw [hx,hsub]
 have hw:=Zc2 (by omega) hs
 have hsg:=Zh1 (by omega) hs
 have hsl:=Zat s
 generalize Zq s = kk at hw hsg hok ⊢
 generalize QO s = t at hsg hsl hok ⊢
 generalize hdd:d - kk = dd at hsg hok ⊢
 obtain ⟨kn,hk1,hk2⟩:=hok.kind (by omega) (by omega)
 show (QQ k (wst bs,x.1,7,())).bind _ = _
 unfold XJ
 rw [hk1,QS]
 refine (Zf (QU k bs kn 7 (by omega) (by omega) hk2 (by omega)) _).trans ?_
 have l1:(bs ++ Zg kn 7).length = bs.length + 7:=by rw [Wq,Zl]
 show (bif decide ((0:Int) < (kk:Int)) then _ else _) = _
 by_cases h0:0 < kk
 ·rw [Zb (by omega),if_pos h0]
  refine (Zf (QU k (bs ++ Zg kn 7) 1 1 (by omega) (by omega) (by omega) (by omega)) _).trans ?_
  have l2:(bs ++ Zg kn 7 ++ Zg 1 1).length = bs.length + 8:=by rw [Wq,l1,Zl]
  show (Zl3 k (wst (bs ++ Zg kn 7 ++ Zg 1 1),IntKind.i64.wrap ((kk:Int) - 1),())).bind _ = _
  have e1:IntKind.i64.wrap ((kk:Int) - 1) = ((kk - 1:Nat):Int):=by rw [ZQ (by omega)]; omega
  rw [e1]
  refine (Zf (Zy1 k (bs ++ Zg kn 7 ++ Zg 1 1) (kk - 1) (by omega) (by omega) (by omega)) _).trans ?_
  have l3:(bs ++ Zg kn 7 ++ Zg 1 1 ++ (List.replicate (kk - 1) false ++ [true])).length = bs.length + 8 + kk:=by
   rw [Wq,l2]; simp; omega
  have:=ZgW k hk (by omega) (by omega) (d:=dd) (by omega) (by omega) hsg hok (kk:Int) (bs ++ Zg kn 7 ++ Zg 1 1 ++ (List.replicate (kk - 1) false ++ [true])) (by omega)
  refine Eq.trans this ?_
  rw [show Zg 1 1 = [true] from rfl]
  simp only [List.append_assoc]
 ·rw [Zi (by omega),if_neg h0]
  refine (Zf (QU k (bs ++ Zg kn 7) 0 1 (by omega) (by omega) (by omega) (by omega)) _).trans ?_
  have l2:(bs ++ Zg kn 7 ++ Zg 0 1).length = bs.length + 8:=by rw [Wq,l1,Zl]
  have:=ZgW k hk (by omega) (by omega) (d:=dd) (by omega) (by omega) hsg hok (kk:Int) (bs ++ Zg kn 7 ++ Zg 0 1) (by omega)
  refine Eq.trans this ?_
  rw [show Zg 0 1 = [false] from rfl]
  simp only [List.append_assoc]
end Go.Sh
namespace Go.Sh
open Go Go.Proofs
def Q7 (n:Nat):Nat:=if 256 < n then 7 else 6
def WI (mode num n:Nat):List Bool :=
 Zg 16382 14 ++ (Zg (Q7 n) 6 ++ (Zg mode 8 ++ (Zg 0 4 ++ ((Qs num).flatMap (fun x => Zg x 8) ++ Zg (n - 1) (8 * (Q7 n - 5))))))
def ZbJ (mode num n:Nat):List Bool:=WI mode num n ++ Zg (Zw8 (ZY (WI mode num n))) 8
def Xn (ls:List (List Int)) (ds:List Int):List Bool:=(ls.zip ds).flatMap fun x => QT x.1 x.2.toNat
def WR (bs:List Bool):List Bool:=bs ++ List.replicate (Zdr bs.length) false
def Yh (bs:List Bool):List Bool:=WR bs ++ Zg (Ys (ZY (WR bs))) 16
def K4 (c d r n:Int) (ch:List (List Int)):List Int × Int :=
 if XC c d r n ch = 0 then (ZY (Yh (ZbJ (Yk ch).2.toNat n.toNat (ch.headD []).length ++ Xn (Yk ch).1 (Z9 c d (Yk ch).2))),0) else ([],XC c d r n ch)
theorem Zdc {c d r n:Int} {ch:List (List Int)} (h:XC c d r n ch = 0):(1 ≤ c ∧ c ≤ 2 ∧ 4 ≤ d ∧ d ≤ 24 ∧ 1 ≤ r ∧ r ≤ 655350) ∧ (0 ≤ n ∧ n ≤ 2147483647) ∧ (ch.length:Int) = c ∧
  (∀ l ∈ ch,l.length = (ch.headD []).length ∧ 1 ≤ l.length ∧ l.length ≤ 512) ∧ (∀ l ∈ ch,∀ x ∈ l,WU x d.toNat = true):=by
 unfold XC at h
 split at h
 ·omega
 ·rename_i h1
  split at h
  ·omega
  ·rename_i h2
   split at h
   ·omega
   ·rename_i h3
    split at h
    ·omega
    ·rename_i h4
     refine ⟨of_decide_eq_true (by simpa [YW] using h1),by omega,by omega,?_,?_⟩
     ·intro l hl
      have h3:ch.all (K1 (ch.headD []).length) = true:=by simpa using h3
      have:=of_decide_eq_true (List.all_eq_true.1 h3 l hl)
      exact ⟨this.1,by omega,by omega⟩
     ·intro l hl x hx
      have h4:ch.all (fun l => l.all fun x => WU x d.toNat) = true:=by simpa using h4
      exact List.all_eq_true.1 (List.all_eq_true.1 h4 l hl) x hx
theorem YB {x:Int} {d:Nat} (hd:d ≤ 24) (h:WU x d = true):Z0 x:=by
 unfold WU at h
 unfold Z0
 split at h
 ·simp only [decide_eq_true_eq] at h; omega
 ·rw [decide_eq_true_eq,Qp] at h
  have:2 ^ (d - 1) ≤ 2 ^ 23:=Nat.pow_le_pow_right (by omega) (by omega)
  generalize 2 ^ (d - 1) = Q at h this
  omega
theorem Zj9 {l r:Int} {d:Nat} (h1:1 ≤ d) (hl:WU l d = true) (hr:WU r d = true):WU (l - r) (d + 1) = true ∧ WU ((l + r) / 2) d = true:=by
 unfold WU at hl hr ⊢
 rw [if_neg (by omega),decide_eq_true_eq] at hl hr
 rw [if_neg (by omega),decide_eq_true_eq,if_neg (by omega),decide_eq_true_eq]
 have e:(2:Int) ^ (d + 1 - 1) = 2 * 2 ^ (d - 1):=by
  rw [show d + 1 - 1 = (d - 1) + 1 by omega,Int.pow_succ,Int.mul_comm]
 rw [e]
 generalize (2:Int) ^ (d - 1) = Q at hl hr ⊢
 omega
structure LayOk (n d:Nat) (ls:List (List Int)) (ds:List Int):Prop where
 len:ls.length = ds.length
 two:ls.length = 1 ∨ ls.length = 2
 all:∀ (i:Nat) (h1:i < ls.length) (h2:i < ds.length),ls[i].length = n ∧ (ds[i] = (d:Int) ∨ ds[i] = (d:Int) + 1) ∧ ∀ x ∈ ls[i],WU x ds[i].toNat = true
theorem ZBV {c d r n:Int} {ch:List (List Int)} (h:XC c d r n ch = 0):LayOk (ch.headD []).length d.toNat (Yk ch).1 (Z9 c d (Yk ch).2) ∧ (∃ m:Nat,(Yk ch).2 = (m:Int) ∧ (m = 0 ∧ c = 1 ∨ c = 2 ∧ (m = 1 ∨ m = 8 ∨ m = 9 ∨ m = 10))) ∧ ((Yk ch).1.headD []).length = (ch.headD []).length:=by
 obtain ⟨hs,hn,hc,hlen,hsg⟩:=Zdc h
 obtain ⟨dn,rfl⟩:=Int.eq_ofNat_of_zero_le (show 0 ≤ d by omega)
 simp only [QS] at hsg ⊢
 match ch,hc,hlen,hsg with
 | [],hc,_,_ => simp at hc; omega
 | [l],hc,hlen,hsg =>
  have hc:c = 1:=by simp at hc; omega
  subst hc
  refine ⟨⟨rfl,.inl rfl,?_⟩,⟨0,rfl,.inl ⟨rfl,rfl⟩⟩,rfl⟩
  intro i h1 h2
  obtain rfl:i = 0:=by simp [Yk] at h1; omega
  exact ⟨rfl,.inl rfl,hsg l (by simp)⟩
 | [l,r'],hc,hlen,hsg =>
  have hc:c = 2:=by simp at hc; omega
  subst hc
  have hr:=(hlen r' (by simp)).1
  simp only [List.headD_cons] at hr
  have hsl:=hsg l (by simp)
  have hsr:=hsg r' (by simp)
  have hmd:=Zhl l r'
  show LayOk _ _ [XA (ZU l r') l r',XB (ZU l r') l r'] (Z9 2 dn (if ZU l r' = 0 then 1 else ZU l r')) ∧ _ ∧ _
  refine ⟨?_,?_,(ZbN hr.symm).1⟩
  ·have e:Z9 2 (dn:Int) (if ZU l r' = 0 then 1 else ZU l r') = Z9 2 dn (ZU l r'):=by
    rcases hmd with h | h | h | h <;> rw [h] <;> rfl
   rw [e]
   obtain ⟨la,lb⟩:=ZbN (m:=ZU l r') hr.symm
   have hz:∀ x ∈ l.zip r',WU x.1 dn = true ∧ WU x.2 dn = true:=fun x hx => ⟨hsl _ (List.of_mem_zip hx).1,hsr _ (List.of_mem_zip hx).2⟩
   generalize ZU l r' = m at hmd la lb ⊢
   have hA:∀ y ∈ XA m l r',∃ a b,y = apA m a b ∧ WU a dn = true ∧ WU b dn = true:=by
    intro y hy
    obtain ⟨x,hx,rfl⟩:=List.mem_map.1 hy
    exact ⟨_,_,rfl,(hz x hx).1,(hz x hx).2⟩
   have hB:∀ y ∈ XB m l r',∃ a b,y = apB m a b ∧ WU a dn = true ∧ WU b dn = true:=by
    intro y hy
    obtain ⟨x,hx,rfl⟩:=List.mem_map.1 hy
    exact ⟨_,_,rfl,(hz x hx).1,(hz x hx).2⟩
   have hdn:1 ≤ dn:=by omega
   have eN:((dn:Int) + 1).toNat = dn + 1:=by omega
   rcases hmd with rfl | rfl | rfl | rfl
   ·refine ⟨rfl,.inr rfl,fun i h1 h2 => ?_⟩
    obtain rfl | rfl:i = 0 ∨ i = 1:=by simp at h1; omega
    ·exact ⟨la,.inl rfl,fun y hy => by obtain ⟨a,b,rfl,ha,hb⟩:=hA y hy; simpa [apA,Z9] using ha⟩
    ·exact ⟨by simpa [hr] using lb,.inl rfl,fun y hy => by obtain ⟨a,b,rfl,ha,hb⟩:=hB y hy; simpa [apB,Z9] using hb⟩
   ·refine ⟨rfl,.inr rfl,fun i h1 h2 => ?_⟩
    obtain rfl | rfl:i = 0 ∨ i = 1:=by simp at h1; omega
    ·exact ⟨la,.inl rfl,fun y hy => by obtain ⟨a,b,rfl,ha,hb⟩:=hA y hy; simpa [apA,Z9] using ha⟩
    ·exact ⟨by simpa [hr] using lb,.inr rfl,fun y hy => by obtain ⟨a,b,rfl,ha,hb⟩:=hB y hy; simpa [apB,Z9,eN] using (Zj9 hdn ha hb).1⟩
   ·refine ⟨rfl,.inr rfl,fun i h1 h2 => ?_⟩
    obtain rfl | rfl:i = 0 ∨ i = 1:=by simp at h1; omega
    ·exact ⟨la,.inr rfl,fun y hy => by obtain ⟨a,b,rfl,ha,hb⟩:=hA y hy; simpa [apA,Z9,eN] using (Zj9 hdn ha hb).1⟩
    ·exact ⟨by simpa [hr] using lb,.inl rfl,fun y hy => by obtain ⟨a,b,rfl,ha,hb⟩:=hB y hy; simpa [apB,Z9] using hb⟩
   ·refine ⟨rfl,.inr rfl,fun i h1 h2 => ?_⟩
    obtain rfl | rfl:i = 0 ∨ i = 1:=by simp at h1; omega
    ·exact ⟨la,.inl rfl,fun y hy => by obtain ⟨a,b,rfl,ha,hb⟩:=hA y hy; simpa [apA,Z9] using (Zj9 hdn ha hb).2⟩
    ·exact ⟨by simpa [hr] using lb,.inr rfl,fun y hy => by obtain ⟨a,b,rfl,ha,hb⟩:=hB y hy; simpa [apB,Z9,eN] using (Zj9 hdn ha hb).1⟩
  ·rcases hmd with h | h | h | h
   ·exact ⟨1,by simp [Yk,h],.inr ⟨rfl,by omega⟩⟩
   ·exact ⟨8,by simp [Yk,h],.inr ⟨rfl,by omega⟩⟩
   ·exact ⟨9,by simp [Yk,h],.inr ⟨rfl,by omega⟩⟩
   ·exact ⟨10,by simp [Yk,h],.inr ⟨rfl,by omega⟩⟩
 | _ :: _ :: _ :: _,hc,_,_ => simp at hc; omega
theorem ZrG:∀ (i n:Nat),(Ku n i).length = i
 | 0,_ => rfl
 | i + 1,n => by simp [Ku,ZrG i]
theorem Zw5:∀ (i n:Nat),∀ x ∈ Ku n i,x < 256
 | 0,_,x,h => by simp [Ku] at h
 | i + 1,n,x,h => by
  rcases List.mem_append.1 h with h | h
  ·exact Zw5 i _ x h
  ·simp at h; omega
theorem Zwg (n:Nat):1 ≤ Xq n ∧ Xq n ≤ 7:=by
 unfold Xq
 repeat' split
 all_goals omega
theorem ZGh {k m:Nat} (hm:m < 64):ZhI k m < 256:=by
 unfold ZhI
 exact Nat.or_lt_two_pow (n:=8) (Nat.mod_lt _ (by omega)) (by omega)
theorem Zkt (n:Nat):1 ≤ (Qs n).length ∧ (Qs n).length ≤ 7:=by
 unfold Qs
 have:=Zwg n
 split
 ·simp
 ·simp only [List.length_cons,ZrG]; omega
theorem Zs0 {n:Nat} (h:n < 2 ^ 36) (h2:128 ≤ n):2 ≤ Xq n ∧ n < 2 ^ Q9 (Xq n):=by
 obtain ⟨r2,r3,r4,r5,r6,r7⟩:=ZqV
 unfold Xq
 rw [if_neg (by omega)]
 repeat' split
 all_goals simp only [r2,r3,r4,r5,r6,r7]
 all_goals omega
theorem Zok {n:Nat} (h:n < 2 ^ 36):∀ x ∈ Qs n,x < 256:=by
 intro x hx
 unfold Qs at hx
 split at hx
 ·simp at hx; omega
 ·rcases List.mem_cons.1 hx with rfl | hx
  ·obtain ⟨h1,h2⟩:=Zs0 h (by omega)
   exact ZGh (ZhL h1 (Zwg n).2 h2)
  ·exact Zw5 _ _ x hx
theorem ZgH:∀ l:List Nat,(l.flatMap fun x => Zg x 8).length = 8 * l.length
 | [] => rfl
 | a :: l => by rw [List.flatMap_cons,Wq,Zl,ZgH l,List.length_cons]; omega
theorem Ze3 (mode num n:Nat):(WI mode num n).length = 32 + 8 * (Qs num).length + 8 * (Q7 n - 5):=by
 unfold WI
 simp only [Wq,Zl,ZgH]
 omega
theorem ZjV (n:Nat):Q7 n = 6 ∨ Q7 n = 7:=by unfold Q7; split <;> omega
theorem ZGp {l:List Nat} {i:Nat} (h:i < (Wi l).length):(Wi l)[i] = ((l[i]'(by simpa [Wi] using h):Nat):Int):=by simp [Wi]
theorem ZcK (l:List Nat):(Wi l).length = l.length:=by simp [Wi]
end Go.Sh
namespace Go.Sh
open Go Go.Proofs
theorem Zhk {n d:Nat} {ls:List (List Int)} {ds:List Int} (h:LayOk n d ls ds) (hn:1 ≤ n) (hn2:n ≤ 512) (hd1:4 ≤ d) (hd2:d ≤ 24):(Xn ls ds).length ≤ 30000:=by
 have one:∀ (i:Nat) (h1:i < ls.length) (h2:i < ds.length),(QT ls[i] ds[i].toNat).length ≤ 13000:=by
  intro i h1 h2
  obtain ⟨a,b,c⟩:=h.all i h1 h2
  have hw:=Zc2 (d:=ds[i].toNat) (by omega) c
  have:=ZzP (s:=ls[i]) (by omega) (by omega) hw
  have hm:ls[i].length * ds[i].toNat ≤ 512 * 25:=Nat.mul_le_mul (by omega) (by omega)
  omega
 unfold Xn
 have hl:=h.len
 rcases h.two with h2 | h2
 ·match ls,ds,h2,hl,one with
  | [a],[x],_,_,one =>
   have:=one 0 (by simp) (by simp)
   simp at this ⊢
   omega
 ·match ls,ds,h2,hl,one with
  | [a,b],[x,y],_,_,one =>
   have h1:=one 0 (by simp) (by simp)
   have h2:=one 1 (by simp) (by simp)
   simp at h1 h2 ⊢
   omega
theorem Zx2 (k:Nat) (hk:100000 < k) {n d:Nat} {ls:List (List Int)} {ds:List Int} (h:LayOk n d ls ds) (hn:1 ≤ n) (hn2:n ≤ 512) (hd1:4 ≤ d) (hd2:d ≤ 24) (bs:List Bool) (hb:bs.length ≤ 200) :
  ZhA k (Int.ofNat ds.length,(0:Int),ds,ls,(bs.length:Int),ZY bs) = some ((ZY (Yh (bs ++ Xn ls ds)),0,()),()):=by
 have hdl:ds.length ≤ 2:=by have:=h.len; have:=h.two; omega
 have hall:(bs ++ Xn ls ds).length ≤ 30200:=by have:=Zhk h hn hn2 hd1 hd2; rw [Wq]; omega
 have hpart:∀ i,(bs ++ ((ls.zip ds).take i).flatMap (fun x => QT x.1 x.2.toNat)).length ≤ 30200:=by
  intro i
  refine Nat.le_trans ?_ hall
  unfold Xn
  conv => rhs; rw [← List.take_append_drop i (ls.zip ds),List.flatMap_append]
  simp only [Wq]
  omega
 have hzl:(ls.zip ds).length = ds.length:=by rw [List.length_zip]; have:=h.len; omega
 have hend:∀ L,Zca k L (Int.ofNat ds.length,Int.ofNat ds.length,ds,ls,(((bs ++ Xn ls ds).length:Nat):Int),ZY (bs ++ Xn ls ds)) = some ((ZY (Yh (bs ++ Xn ls ds)),0,()),()):=by
  intro L
  generalize bs ++ Xn ls ds = B at hall
  simp only [Zca]
  rw [Zi (QV _)]
  have hp:Zdr B.length < 8:=by unfold Zdr; omega
  have hpl:(WR B).length ≤ 30210:=by unfold WR; rw [Wq,List.length_replicate]; omega
  refine (Zf (ZJJ k B (by omega)) _).trans ?_
  refine (Zf (ZpE k (WR B) (by omega)) _).trans ?_
  have hb16:=Ke (WR B)
  have hpk:(ZY (WR B)).length ≤ 4000:=by rw [Q6]; omega
  refine (Zf (ZyG k (ZY (WR B)) hb16 (by omega) (by omega)) _).trans ?_
  refine (Zf (QU k (WR B) (Ys (ZY (WR B))) 16 (by omega) (by omega) (Zon hb16) (by omega)) _).trans ?_
  have hcl:(Yh B).length ≤ 30300:=by unfold Yh; rw [Wq,Zl]; omega
  refine (Zf (ZpE k (Yh B) (by omega)) _).trans ?_
  rfl
 have:=Zu (A:=List Bool) (R:=(List Int × Int × Unit) × Unit) (step:=fun L2 => Zca k L2)
  (fun i a => (Int.ofNat ds.length,Int.ofNat i,ds,ls,(a.length:Int),ZY a)) (ls.zip ds)
  (fun l' a => some ((ZY (Yh (a ++ l'.flatMap fun x => QT x.1 x.2.toNat)),0,()),()))
  (fun i a => a = bs ++ ((ls.zip ds).take i).flatMap (fun x => QT x.1 x.2.toNat))
  (fun L a ha => by
   rw [List.take_length] at ha
   have:=hend L
   unfold Xn at this
   rw [← ha] at this
   rw [hzl,List.flatMap_nil,List.append_nil]
   exact this)
  (fun L i hi a ha hL => by
   have h1:i < ls.length:=by have:=h.len; omega
   have h2:i < ds.length:=by omega
   obtain ⟨o1,o2,o3⟩:=h.all i h1 h2
   have hal:a.length ≤ 30200:=by rw [ha]; exact hpart i
   simp only [Zca]
   rw [Zb (KU h2),Zb (Xx h2),Zb (Xx h1),ZK h1,ZK h2]
   have hds:ds[i] = ((ds[i].toNat:Nat):Int):=by omega
   have hsc:Zdw ls[i] ((ds[i].toNat:Nat):Int) = 0:=Zbt.2 ⟨by omega,o3⟩
   have e:=ZJI k (by omega) hsc a (by omega)
   rw [← hds] at e
   refine (Zf e _).trans ?_
   have hzi:(ls.zip ds)[i] = (ls[i],ds[i]):=by rw [List.getElem_zip]
   have hnext:a ++ QT ls[i] ds[i].toNat = bs ++ ((ls.zip ds).take (i + 1)).flatMap (fun x => QT x.1 x.2.toNat):=by
    rw [ha,List.take_add_one,List.getElem?_eq_getElem hi,hzi,List.flatMap_append]
    simp
   have:=hL (a ++ QT ls[i] ds[i].toNat) hnext
   show L (Int.ofNat ds.length,IntKind.i64.wrap (Int.ofNat i + 1),ds,ls,(((a ++ QT ls[i] ds[i].toNat).length:Nat):Int),ZY (a ++ QT ls[i] ds[i].toNat)) = _
   rw [Qq h2 (by omega),this,hzi,List.flatMap_cons,List.append_assoc])
  k 0 bs (by simp) (by omega) (Nat.zero_le _)
 rw [List.drop_zero] at this
 exact this
theorem Zx1 (k:Nat) (hk:100000 < k) {c d r:Int} {mode num n dn:Nat} (hnum:num < 2 ^ 31) (hd:d = (dn:Int)) {ls:List (List Int)} (hc:c = 1 ∧ mode = 0 ∨ c = 2) (hn:1 ≤ n) (hn2:n ≤ 512) (hd1:4 ≤ dn) (hd2:dn ≤ 24)
  (h:LayOk n dn ls (Z9 c d (mode:Int))) (bs:List Bool) (hb:bs = Zg 16382 14 ++ (Zg (Q7 n) 6 ++ (Zg mode 8 ++ Zg 0 4))) :
  Zk0 k (Int.ofNat (Wi (Qs num)).length,(0:Int),Wi (Qs num),(n:Int),((Q7 n:Nat):Int),(mode:Int),ls,(bs.length:Int),ZY bs,c,d,r) =
   some ((ZY (Yh (ZbJ mode num n ++ Xn ls (Z9 c d (mode:Int)))),0,()),()):=by
 have hbl:bs.length = 32:=by rw [hb]; simp only [Wq,Zl]
 have hcl:=Zkt num
 have hlt:=Zok (n:=num) (by omega)
 have hkn:=ZjV n
 have:=Zu (A:=List Bool) (R:=(List Int × Int × Unit) × Unit) (step:=fun L1 => KE k (ZhA k) L1)
  (fun i a => (Int.ofNat (Wi (Qs num)).length,Int.ofNat i,Wi (Qs num),(n:Int),((Q7 n:Nat):Int),(mode:Int),ls,(a.length:Int),ZY a,c,d,r)) (Qs num)
  (fun l' a => KE k (ZhA k) (fun _ => none) (Int.ofNat (Qs num).length,Int.ofNat (Qs num).length,Wi (Qs num),(n:Int),((Q7 n:Nat):Int),(mode:Int),ls,(((a ++ l'.flatMap fun x => Zg x 8).length:Nat):Int),ZY (a ++ l'.flatMap fun x => Zg x 8),c,d,r))
  (fun i a => a.length ≤ 32 + 8 * i)
  (fun L a ha => by
   rw [ZcK]
   simp only [KE]
   rw [Zi (QV _),Zi (QV _)]
   simp)
  (fun L i hi a ha hL => by
   have hi2:i < (Wi (Qs num)).length:=by rw [ZcK]; exact hi
   have key:KE k (ZhA k) L (Int.ofNat (Wi (Qs num)).length,Int.ofNat i,Wi (Qs num),(n:Int),((Q7 n:Nat):Int),(mode:Int),ls,(a.length:Int),ZY a,c,d,r) =
     L (Int.ofNat (Wi (Qs num)).length,Int.ofNat (i + 1),Wi (Qs num),(n:Int),((Q7 n:Nat):Int),(mode:Int),ls,(((a ++ Zg (Qs num)[i] 8).length:Nat):Int),ZY (a ++ Zg (Qs num)[i] 8),c,d,r):=by
    simp only [KE]
    rw [Zb (KU hi2),Zb (Xx hi2),ZK hi2,ZGp hi2]
    have hx:=hlt _ (List.getElem_mem hi)
    have hil:=ZcK (Qs num)
    rw [ZQ (by omega)]
    refine (Zf (QU k a (Qs num)[i] 8 (by omega) (by omega) (by omega) (by omega)) _).trans ?_
    rw [Qq hi2 (by omega)]
   rw [key,hL _ (by rw [Wq,Zl]; omega),List.flatMap_cons,List.append_assoc])
  k 0 bs (by omega) (by omega) (Nat.zero_le _)
 rw [List.drop_zero] at this
 refine Eq.trans this ?_
 have hpre:bs ++ (Qs num).flatMap (fun x => Zg x 8) ++ Zg (n - 1) (8 * (Q7 n - 5)) = WI mode num n:=by
  rw [hb]
  unfold WI
  simp only [List.append_assoc]
 have hprel:=Ze3 mode num n
 have hB:(bs ++ (Qs num).flatMap (fun x => Zg x 8)).length ≤ 100:=by rw [Wq,ZgH]; omega
 generalize bs ++ (Qs num).flatMap (fun x => Zg x 8) = B at hpre hB
 simp only [KE]
 rw [Zi (QV _)]
 have e1:IntKind.i64.wrap ((n:Int) - 1) = ((n - 1:Nat):Int):=by rw [ZQ (by omega)]; omega
 have e2:IntKind.i64.wrap ((8:Int) * IntKind.i64.wrap (IntKind.i64.wrap (((Q7 n:Nat):Int) - (6:Int)) + (1:Int))) = ((8 * (Q7 n - 5):Nat):Int):=by
  rcases hkn with h | h <;> rw [h] <;> rfl
 have hw:n - 1 < 2 ^ (8 * (Q7 n - 5)):=by
  unfold Q7
  split
  ·show n - 1 < 2 ^ 16; omega
  ·show n - 1 < 2 ^ 8; omega
 rw [e1,e2]
 refine (Zf (QU k B (n - 1) (8 * (Q7 n - 5)) (by omega) (by omega) hw (by omega)) _).trans ?_
 rw [hpre]
 refine (Zf (ZpE k (WI mode num n) (by omega)) _).trans ?_
 have hb8:=Ke (WI mode num n)
 refine (Zf (ZyC k (ZY (WI mode num n)) hb8 (by rw [Q6]; omega) (by rw [Q6]; omega)) _).trans ?_
 refine (Zf (QU k (WI mode num n) (Zw8 (ZY (WI mode num n))) 8 (by omega) (by omega) (ZCr hb8) (by omega)) _).trans ?_
 refine (Zf (ZyD k (c:=c) (d:=d) (r:=r) (m:=(mode:Int)) (by omega) (by omega)) _).trans ?_
 exact Zx2 k hk h hn hn2 hd1 hd2 (ZbJ mode num n) (by unfold ZbJ; rw [Wq,Zl]; omega)
theorem Zx3 (k:Nat) (hk:100000 < k) (c d r n:Int) (ch:List (List Int)):Zsc k ((c,d,r,()),(n,ch,()),()) = some (((K4 c d r n ch).1,(K4 c d r n ch).2,()),()):=by
 show ZiB k (Zk0 k) _ = _
 simp only [ZiB]
 rw [Zyx k c d r n ch (by omega)]
 simp only [Qb]
 unfold K4
 rw [ZT]
 by_cases h:XC c d r n ch = 0
 ·rw [Zi (by simpa using h),if_pos h]
  obtain ⟨hs,hn,hc,hlen,hsg⟩:=Zdc h
  obtain ⟨hlay,⟨mode,hm,hmc⟩,hn0⟩:=ZBV h
  have hch:ch.length = 1 ∨ (∃ L R,ch = [L,R] ∧ L.length = R.length ∧ L.length ≤ 8192 ∧ (∀ x ∈ L,Z0 x) ∧ ∀ x ∈ R,Z0 x):=by
   match ch,hc,hlen,hsg with
   | [],hc,_,_ => simp at hc; omega
   | [_],_,_,_ => exact .inl rfl
   | [l,r'],_,hlen,hsg =>
    refine .inr ⟨l,r',rfl,?_,?_,?_,?_⟩
    ·have:=(hlen r' (by simp)).1; simpa using this.symm
    ·have:=(hlen l (by simp)).2.2; omega
    ·exact fun x hx => YB (by omega) (hsg l (by simp) x hx)
    ·exact fun x hx => YB (by omega) (hsg r' (by simp) x hx)
   | _ :: _ :: _ :: _,hc,_,_ => simp at hc; omega
  refine (Zf (ZJB k n ch (by omega) hch) _).trans ?_
  rw [show ((0:Int) != 0) = false from rfl]
  simp only [cond_false]
  have hbig:∃ l0,(Yk ch).1.getD 0 [] = l0 ∧ l0.length = (ch.headD []).length ∧ 0 < (Yk ch).1.length:=by
   have:=hlay.two
   match hh:(Yk ch).1,this with
   | [],h => simp at h
   | l :: ls,_ => rw [hh] at hn0; exact ⟨l,rfl,hn0,by simp⟩
  obtain ⟨l0,hl0,hl0n,hpos⟩:=hbig
  rw [Zb (by simp only [Qh]; omega),hl0,hl0n]
  have hn1:1 ≤ (ch.headD []).length ∧ (ch.headD []).length ≤ 512:=by
   obtain ⟨a,b,c⟩:=hlay.all 0 hpos (by rw [← hlay.len]; exact hpos)
   have:0 < ch.length:=by omega
   match ch,this with
   | l :: _,_ => exact (hlen l (by simp)).2
  rw [hm] at hlay ⊢
  obtain ⟨num,hnum⟩:=Int.eq_ofNat_of_zero_le hn.1
  obtain ⟨dn,hdn⟩:=Int.eq_ofNat_of_zero_le (show 0 ≤ d by omega)
  subst hnum
  rw [QS,QS]
  have hdt:d.toNat = dn:=by omega
  rw [hdt] at hlay
  have hmode:mode < 2 ^ 8:=by omega
  have e14:(16382:Int) = ((16382:Nat):Int):=rfl
  generalize hN:(ch.headD []).length = N at hn1 hlay
  have l1:(([]:List Bool) ++ Zg 16382 14).length = 14:=by rw [Wq,Zl]; rfl
  have fin:∀ kd:Nat,kd = Q7 N → ((Zpz k ()).bind fun y_1 => (QQ k ((y_1.1.1,y_1.1.2.1,()),16382,14,())).bind fun y_2 => (QQ k ((y_2.2.1.1,y_2.2.1.2.1,()),(kd:Int),6,())).bind fun y_3 => (QQ k ((y_3.2.1.1,y_3.2.1.2.1,()),(mode:Int),8,())).bind fun y_4 => (QQ k ((y_4.2.1.1,y_4.2.1.2.1,()),0,4,())).bind fun y_5 => (ZpA k ((num:Int),())).bind fun y_6 => bif y_6.1.2.1 != (0:Int) then some (([],y_6.1.2.1,()),()) else Zk0 k (Int.ofNat (List.length y_6.1.1),(0:Int),y_6.1.1,(N:Int),(kd:Int),(mode:Int),(Yk ch).1,y_5.2.1.2.1,y_5.2.1.1,c,d,r)) =
    some ((ZY (Yh (ZbJ mode num N ++ Xn (Yk ch).1 (Z9 c d (mode:Int)))),0,()),()):=by
   rintro kd rfl
   have hkn:=ZjV N
   refine (Zf (ZJC k) _).trans ?_
   refine (Zf (QU k [] 16382 14 (by omega) (by omega) (by omega) (by simp)) _).trans ?_
   refine (Zf (QU k ([] ++ Zg 16382 14) (Q7 N) 6 (by omega) (by omega) (by omega) (by omega)) _).trans ?_
   have l2:([] ++ Zg 16382 14 ++ Zg (Q7 N) 6).length = 20:=by rw [Wq,l1,Zl]
   refine (Zf (QU k ([] ++ Zg 16382 14 ++ Zg (Q7 N) 6) mode 8 (by omega) (by omega) hmode (by omega)) _).trans ?_
   have l3:([] ++ Zg 16382 14 ++ Zg (Q7 N) 6 ++ Zg mode 8).length = 28:=by rw [Wq,l2,Zl]
   refine (Zf (QU k ([] ++ Zg 16382 14 ++ Zg (Q7 N) 6 ++ Zg mode 8) 0 4 (by omega) (by omega) (by omega) (by omega)) _).trans ?_
   refine (Zf (ZJH k (by omega) (n:=num) (by omega)) _).trans ?_
   exact Zx1 k hk (by omega) hdn (hmc.elim (fun h => .inl ⟨h.2,h.1⟩) (fun h => .inr h.1)) hn1.1 hn1.2 (by omega) (by omega) hlay _ (by simp only [List.nil_append,List.append_assoc])
  by_cases h256:256 < N
  ·rw [Zb (by simp only [Qh]; omega)]
   exact fin 7 (by unfold Q7; rw [if_pos h256])
  ·rw [Zi (by simp only [Qh]; omega)]
   exact fin 6 (by unfold Q7; rw [if_neg h256])
 ·rw [Zb h,if_neg h]
end Go.Sh
namespace Go.Sh
open Go Go.Proofs
def QL (b:List Int):List Bool:=b.flatMap fun x => Zg x.toNat 8
theorem Wu:∀ b:List Int,(QL b).length = 8 * b.length
 | [] => rfl
 | a :: b => by
  have:=Wu b
  unfold QL at this ⊢
  rw [List.flatMap_cons,Wq,Zl,this,List.length_cons]; omega
theorem Zhh (a:Int) (b:List Int):QL (a :: b) = Zg a.toNat 8 ++ QL b:=by unfold QL; rw [List.flatMap_cons]
theorem ZtH (a b:List Int):QL (a ++ b) = QL a ++ QL b:=by unfold QL; rw [List.flatMap_append]
theorem Zn6:∀ (b:List Int) (i:Nat),(QL b).drop (8 * i) = QL (b.drop i)
 | b,0 => rfl
 | [],i + 1 => by simp [QL]
 | a :: b,i + 1 => by
  rw [List.drop_succ_cons,Zhh,List.drop_append,Zl,List.drop_eq_nil_of_le (by rw [Zl]; omega),List.nil_append,show 8 * (i + 1) - 8 = 8 * i by omega]
  exact Zn6 b i
theorem Zn7 (n:Nat):∀ (w i:Nat) (h:i < (Zg n w).length),(Zg n w)[i] = n.testBit (w - 1 - i)
 | w + 1,0,_ => by simp [Zg]
 | w + 1,i + 1,h => by
  simp only [Zg,List.getElem_cons_succ]
  rw [Zn7 n w i (by simpa [Zg] using h)]
  congr 1
  omega
theorem Zkr {b:List Int} {i:Nat} (h:i < 8 * b.length):(QL b)[i]'(by rw [Wu]; exact h) = (b[i / 8]'(by omega)).toNat.testBit (7 - i % 8):=by
 have h1:i / 8 < b.length:=by omega
 have h2:(QL b)[i]'(by rw [Wu]; exact h) = (QL (b.drop (i / 8)))[i % 8]'(by rw [Wu,List.length_drop]; omega):=by
  simp only [← Zn6,List.getElem_drop]
  congr 1
  omega
 rw [h2]
 have h3:b.drop (i / 8) = b[i / 8] :: b.drop (i / 8 + 1):=List.drop_eq_getElem_cons h1
 simp only [h3,Zhh]
 rw [List.getElem_append_left (by rw [Zl]; omega),Zn7]
def Z4 (b:List Int) (r:List Bool):Nat:=8 * b.length - r.length
abbrev Kq (b:List Int) (r:List Bool):List Int × Int × Unit:=(b,((Z4 b r:Nat):Int),())
def Zs (b:List Int) (r:List Bool):Prop:=r <:+ QL b
theorem Zs.len {b:List Int} {r:List Bool} (h:Zs b r):r.length ≤ 8 * b.length:=by
 have:=h.length_le
 rwa [Wu] at this
theorem Zs.eq {b:List Int} {r:List Bool} (h:Zs b r):r = (QL b).drop (Z4 b r):=by
 have:=List.suffix_iff_eq_drop.1 h
 unfold Z4
 rwa [Wu] at this
theorem Zs.drop {b:List Int} {r:List Bool} (h:Zs b r) (i:Nat):Zs b (r.drop i):=(List.drop_suffix i r).trans h
theorem Zs.get {b:List Int} {r:List Bool} (h:Zs b r) {i:Nat} (hi:i < r.length):(QL b)[Z4 b r + i]'(by have:=h.len; rw [Wu]; unfold Z4; omega) = r[i]:=by
 have:=h.eq
 have h2:r[i] = ((QL b).drop (Z4 b r))[i]'(by rw [← this]; exact hi):=by congr 1
 rw [h2,List.getElem_drop]
theorem ZgM {b:List Int} {r:List Bool} (h:Zs b r) {i:Nat} (hi:i ≤ r.length):Z4 b (r.drop i) = Z4 b r + i:=by
 have:=h.len
 unfold Z4
 rw [List.length_drop]
 omega
theorem ZzI (b:List Int):Zs b (QL b):=List.suffix_refl _
theorem ZUc (v:Fin 256) (r:Fin 8):IntKind.i64.wrap (Int.ofNat (BitVec.ofInt 64 (IntKind.i64.wrap (Int.fdiv (v.val:Int) ((2:Int) ^ min (7 - r.val) 8))) &&& BitVec.ofInt 64 1).toNat) = if v.val.testBit (7 - r.val) then 1 else 0:=by
 revert v r
 decide +kernel
theorem Zqa (k:Nat) {b:List Int} (hb:ZW b = true) (hn:b.length < 536870912) (at_:Int) {i:Nat} (hi:i < 8 * b.length) :
  Zp9 k ((b,at_,()),(i:Int),()) = some (if (QL b)[i]'(by rw [Wu]; exact hi) then 1 else 0,(b,at_,()),()):=by
 show ZjN k _ = _
 simp only [ZjN]
 rw [Zts,ZQr,ZQ (n:=((i / 8:Nat):Int)) (by omega)]
 have h1:i / 8 < b.length:=by omega
 rw [Zb (by simp only [Qh]; omega)]
 have e1:IntKind.i64.wrap ((7:Int) - ((i % 8:Nat):Int)) = ((7 - i % 8:Nat):Int):=by rw [ZQ (by omega)]; omega
 rw [e1,Zb (by omega),Zkr hi]
 obtain ⟨x,hx,hxe⟩:=Yg hb h1
 have hg:b.getD (((i / 8:Nat):Int)).toNat 0 = (x:Int):=by rw [QS,WZ h1,hxe]
 rw [hg,hxe,QS,QS]
 have:=ZUc ⟨x,hx⟩ ⟨i % 8,Nat.mod_lt _ (by omega)⟩
 simp only at this
 rw [this]
def Zc9 (l:List Bool):Nat:=l.foldl (fun a b => 2 * a + b.toNat) 0
theorem ZdS:∀ (l:List Bool) (a:Nat),l.foldl (fun a b => 2 * a + b.toNat) a = a * 2 ^ l.length + Zc9 l
 | [],a => by simp [Zc9]
 | x :: l,a => by
  unfold Zc9
  rw [List.foldl_cons,List.foldl_cons,ZdS l (2 * a + x.toNat),ZdS l (2 * 0 + x.toNat),List.length_cons,Nat.pow_succ]
  rw [Nat.add_mul,Nat.mul_zero,Nat.zero_add,Nat.mul_comm 2 a,Nat.mul_assoc a 2,Nat.mul_comm 2 (2 ^ _)]
  omega
theorem Zkq:∀ (l:List Bool),Zc9 l < 2 ^ l.length
 | [] => by simp [Zc9]
 | x :: l => by
  have:=Zkq l
  unfold Zc9
  rw [List.foldl_cons,ZdS,List.length_cons,Nat.pow_succ]
  cases x <;> simp <;> omega
def ZX (w:Nat) (r:List Bool):Nat × Int × List Bool:=if w ≤ r.length then (Zc9 (r.take w),0,r.drop w) else (0,10,r)
theorem Qj {b:List Int} {r:List Bool} (h:Zs b r) (w:Nat):Zs b (ZX w r).2.2:=by
 unfold ZX
 split
 ·exact h.drop w
 ·exact h
theorem ZgJ (w:Nat) (r:List Bool):(ZX w r).1 < 2 ^ w:=by
 unfold ZX
 split
 ·rename_i h
  have:=Zkq (r.take w)
  rwa [List.length_take,Nat.min_eq_left h] at this
 ·exact Nat.pow_pos (by omega)
theorem ZE0 (k:Nat) {b:List Int} (hb:ZW b = true) (hn:b.length < 536870912):∀ (w m i v:Nat) (r:List Bool),Zs b r → w ≤ r.length → w < m → i + w ≤ 32 → v < 2 ^ i →
  Zm (fun L1 => Zb1 k L1) m (((i + w:Nat):Int),(i:Int),(v:Int),b,((Z4 b r:Nat):Int)) = some (((((r.take w).foldl (fun a b => 2 * a + b.toNat) v:Nat):Int),0,()),Kq b (r.drop w),()):=by
 intro w
 induction w with
 | zero =>
  intro m i v r hr hw hm hi hv
  obtain ⟨m,rfl⟩:=Zn hm
  rw [Zd]
  simp only [Zb1]
  rw [Zi (by omega)]
  simp
 | succ w ih =>
  intro m i v r hr hw hm hi hv
  obtain ⟨m,rfl⟩:=Zn (show 0 < m by omega)
  rw [Zd]
  simp only [Zb1]
  have hl:=hr.len
  have hp:Z4 b r < 8 * b.length:=by unfold Z4; omega
  rw [Zb (by omega),Zqa k hb hn _ hp]
  simp only [Qb]
  have hg:=hr.get (i:=0) (by omega)
  simp only [Nat.add_zero] at hg
  rw [hg]
  have hv2:v < 2 ^ 32:=Nat.lt_of_lt_of_le hv (Nat.pow_le_pow_right (by omega) (by omega))
  have hcons:r = r[0] :: r.drop 1:=by
   have:=List.drop_eq_getElem_cons (l:=r) (i:=0) (by omega)
   rwa [List.drop_zero] at this
  have e1:IntKind.i64.wrap (Int.ofNat (BitVec.ofInt 64 (IntKind.i64.wrap ((v:Int) * 2)) ||| BitVec.ofInt 64 (if r[0] = true then 1 else 0)).toNat) = ((2 * v + r[0].toNat:Nat):Int):=by
   have h1:IntKind.i64.wrap ((v:Int) * 2) = ((v * 2:Nat):Int):=by rw [ZQ (by omega)]; omega
   have h2:(if r[0] = true then (1:Int) else 0) = ((r[0].toNat:Nat):Int):=by cases r[0] <;> rfl
   have hb1:r[0].toNat < 2 ^ 1:=by cases r[0] <;> decide
   rw [h1,h2,orN (by omega) (by omega)]
   have:=Nat.shiftLeft_add_eq_or_of_lt hb1 v
   rw [Nat.shiftLeft_eq] at this
   rw [show v * 2 = v * 2 ^ 1 from rfl,← this,ZQ (by omega)]
   omega
  rw [e1]
  have e2:IntKind.i64.wrap ((i:Int) + 1) = ((i + 1:Nat):Int):=by rw [ZQ (by omega)]; rfl
  have e3:IntKind.i64.wrap (((Z4 b r:Nat):Int) + 1) = ((Z4 b (r.drop 1):Nat):Int):=by
   rw [ZgM hr (by omega),ZQ (by omega)]; rfl
  rw [e2,e3]
  have hp2:2 * v + r[0].toNat < 2 ^ (i + 1):=by
   rw [Nat.pow_succ]
   cases r[0] <;> simp <;> omega
  have:=ih m (i + 1) (2 * v + r[0].toNat) (r.drop 1) (hr.drop 1) (by rw [List.length_drop]; omega) (by omega) (by omega) hp2
  rw [show i + 1 + w = i + (w + 1) by omega] at this
  rw [this]
  have e4:(r.drop 1).drop w = r.drop (w + 1):=by rw [List.drop_drop]; congr 1; omega
  have e5:r.take (w + 1) = r[0] :: (r.drop 1).take w:=by
   conv => lhs; rw [hcons]
   rfl
  rw [e4,e5,List.foldl_cons]
theorem Yw (k:Nat) {b:List Int} (hb:ZW b = true) (hn:b.length < 536870912) {r:List Bool} (hr:Zs b r) {w:Nat} (hw:w ≤ 32) (hk:100 < k) :
  YG k (Kq b r,(w:Int),()) = some (((((ZX w r).1:Nat):Int),(ZX w r).2.1,()),Kq b (ZX w r).2.2,()):=by
 show ZfO k (ZmW k) _ = _
 simp only [ZfO]
 rw [ZpW k w hw]
 simp only [Qb,cond_false]
 have hl:=hr.len
 have e1:Zpe k ((b,((Z4 b r:Nat):Int),()),()) = some ((r.length:Int),(b,((Z4 b r:Nat):Int),()),()):=by
  show Zgp k _ = _
  simp only [Zgp]
  have:IntKind.i64.wrap (IntKind.i64.wrap ((8:Int) * Int.ofNat b.length) - ((Z4 b r:Nat):Int)) = (r.length:Int):=by
   unfold Z4
   simp only [Qh]
   rw [ZQ (n:=(8:Int) * (b.length:Int)) (by omega),ZQ (by omega)]
   omega
  rw [this]
 rw [e1]
 simp only [Qb]
 unfold ZX
 by_cases h:w ≤ r.length
 ·rw [Zi (by omega),if_pos h]
  have:=ZE0 k hb hn w k 0 0 r hr h (by omega) (by omega) (by simp)
  rw [Nat.zero_add] at this
  exact this
 ·rw [Zb (by omega),if_neg h]
  rfl
def ZVm (w v:Nat):Int:=if 0 < w ∧ 2 ^ (w - 1) ≤ v then (v:Int) - 2 ^ w else v
def XH (w:Nat) (r:List Bool):Int × Int × List Bool:=if w ≤ r.length then (ZVm w (Zc9 (r.take w)),0,r.drop w) else (0,10,r)
theorem Zdl {b:List Int} {r:List Bool} (h:Zs b r) (w:Nat):Zs b (XH w r).2.2:=by
 unfold XH
 split
 ·exact h.drop w
 ·exact h
theorem Zsp (k:Nat) {b:List Int} (hb:ZW b = true) (hn:b.length < 536870912) {r:List Bool} (hr:Zs b r) {w:Nat} (hw:w ≤ 32) (hk:100 < k) :
  Zla k (Kq b r,(w:Int),()) = some (((XH w r).1,(XH w r).2.1,()),Kq b (XH w r).2.2,()):=by
 show Zgq k _ = _
 simp only [Zgq]
 rw [Yw k hb hn hr hw hk]
 simp only [Qb]
 unfold ZX XH
 by_cases h:w ≤ r.length
 ·rw [if_pos h,if_pos h]
  simp only
  rw [show ((0:Int) == 0) = true from rfl]
  simp only [cond_true]
  have hlt:=Zkq (r.take w)
  rw [List.length_take,Nat.min_eq_left h] at hlt
  generalize Zc9 (r.take w) = v at hlt
  unfold ZVm
  by_cases h0:0 < w
  ·have e1:IntKind.i64.wrap ((w:Int) - 1) = ((w - 1:Nat):Int):=by rw [ZQ (by omega)]; omega
   rw [Zb (by omega),e1,Zb (by omega),QS,Nat.min_eq_left (by omega),KJ,ZB]
   have hpw:2 ^ w = 2 * 2 ^ (w - 1):=by rw [show w = (w - 1) + 1 by omega,Nat.pow_succ,Nat.add_sub_cancel]; omega
   have hq:v / 2 ^ (w - 1) = if 2 ^ (w - 1) ≤ v then 1 else 0:=by
    split
    ·rename_i hle
     rw [Nat.div_eq_iff (Nat.pow_pos (by omega))]
     omega
    ·rename_i hle
     exact Nat.div_eq_of_lt (by omega)
   rw [hq]
   have h32:2 ^ w ≤ 2 ^ 32:=Nat.pow_le_pow_right (by omega) hw
   by_cases hle:2 ^ (w - 1) ≤ v
   ·rw [if_pos hle,Zb (show ((1:Nat):Int) = 1 from rfl),if_pos ⟨h0,hle⟩,Zb (by omega),Nat.min_eq_left (by omega:((w:Int)).toNat ≤ 64),QS,Int.one_mul,Qp]
    generalize 2 ^ w = Q at h32 hlt ⊢
    rw [ZQ (n:=(Q:Int)) (by omega),ZQ (by omega)]
   ·rw [if_neg hle,Zi (by omega),if_neg (by omega)]
  ·rw [Zi (by omega),if_neg (by omega)]
 ·rw [if_neg h,if_neg h]
  rfl
end Go.Sh
namespace Go.Sh
open Go Go.Proofs
def Zmg:Nat → List Bool → Option (Nat × List Bool)
 | _,[] => none
 | n,true :: r => some (n,r)
 | n,false :: r => Zmg (n + 1) r
def unS (r:List Bool):Nat × Int × List Bool:=match Zmg 0 r with
 | some (n,r') => (n,0,r')
 | none => (0,10,r)
theorem ZdB:∀ (r:List Bool) (n m:Nat) (r':List Bool),Zmg n r = some (m,r') → r' <:+ r ∧ m + 1 + r'.length = n + r.length
 | true :: r,n,m,r',h => by
  simp only [Zmg,Option.some.injEq,Prod.mk.injEq] at h
  obtain ⟨rfl,rfl⟩:=h
  exact ⟨List.suffix_cons _ _,by simp; omega⟩
 | false :: r,n,m,r',h => by
  obtain ⟨h1,h2⟩:=ZdB r (n + 1) m r' h
  exact ⟨h1.trans (List.suffix_cons _ _),by simp; omega⟩
theorem Zc1 {b:List Int} {r:List Bool} (h:Zs b r):Zs b (unS r).2.2:=by
 unfold unS
 split
 ·rename_i n r' hu
  exact (ZdB r 0 n r' hu).1.trans h
 ·exact h
theorem ZLS {r:List Bool}:(unS r).1 ≤ r.length:=by
 unfold unS
 split
 ·rename_i n r' hu
  have:=(ZdB r 0 n r' hu).2
  simp only
  omega
 ·exact Nat.zero_le _
theorem ZE6 (k:Nat) {b:List Int} (hb:ZW b = true) (hn:b.length < 536870912) {r0:List Bool} (hr0:Zs b r0):∀ (r:List Bool) (m n:Nat),Zs b r → r.length < m → n + r.length = r0.length →
  Zm (fun L1 => Zb4 k L1) m (((Z4 b r:Nat):Int),b,((Z4 b r0:Nat):Int)) = some (((match Zmg n r with | some (n,r') => (n:Int) | none => 0),(match Zmg n r with | some (n,r') => 0 | none => 10),()),Kq b (match Zmg n r with | some (n,r') => r' | none => r0),()):=by
 intro r
 induction r with
 | nil =>
  intro m n hr hm hl
  obtain ⟨m,rfl⟩:=Zn hm
  rw [Zd]
  simp only [Zb4]
  have e1:IntKind.i64.wrap ((8:Int) * Int.ofNat b.length) = ((8 * b.length:Nat):Int):=by simp only [Qh]; rw [ZQ (by omega)]; omega
  rw [e1,Zi (by unfold Z4; simp)]
  rfl
 | cons x r ih =>
  intro m n hr hm hl
  obtain ⟨m,rfl⟩:=Zn (show 0 < m by omega)
  rw [Zd]
  simp only [Zb4]
  have e1:IntKind.i64.wrap ((8:Int) * Int.ofNat b.length) = ((8 * b.length:Nat):Int):=by simp only [Qh]; rw [ZQ (by omega)]; omega
  have hlen:=hr.len
  have hlen0:=hr0.len
  simp only [List.length_cons] at hlen hl hm
  have hp:Z4 b (x :: r) < 8 * b.length:=by unfold Z4; simp only [List.length_cons]; omega
  rw [e1,Zb (by omega),Zqa k hb hn _ hp]
  simp only [Qb]
  have hg:=hr.get (i:=0) (by simp)
  simp only [Nat.add_zero,List.getElem_cons_zero] at hg
  rw [hg]
  have e2:IntKind.i64.wrap (((Z4 b (x :: r):Nat):Int) + 1) = ((Z4 b r:Nat):Int):=by
   have:=ZgM hr (i:=1) (by simp)
   rw [List.drop_one,List.tail_cons] at this
   rw [this,ZQ (by omega)]; rfl
  have hr':Zs b r:=by have:=hr.drop 1; rwa [List.drop_one,List.tail_cons] at this
  rw [e2,ZB]
  cases x with
  | true =>
   rw [if_pos rfl,Zb rfl]
   have e3:IntKind.i64.wrap (((Z4 b (true :: r):Nat):Int) - ((Z4 b r0:Nat):Int)) = (n:Int):=by
    unfold Z4 at hp ⊢
    simp only [List.length_cons] at hp ⊢
    rw [ZQ (by omega)]
    omega
   rw [e3]
   rfl
  | false =>
   rw [if_neg (by simp),Zi (by omega)]
   exact ih m (n + 1) hr' (by omega) (by omega)
theorem Zr9 (k:Nat) {b:List Int} (hb:ZW b = true) (hn:b.length < 536870912) {r:List Bool} (hr:Zs b r) (hk:8 * b.length < k) :
  Zhz k (Kq b r,()) = some (((((unS r).1:Nat):Int),(unS r).2.1,()),Kq b (unS r).2.2,()):=by
 show ZfT k (Zm0 k) _ = _
 simp only [ZfT]
 have hl:=hr.len
 refine (ZE6 k hb hn hr r k 0 hr (by omega) (by omega)).trans ?_
 unfold unS
 cases Zmg 0 r with
 | none => rfl
 | some x => rfl
def alS (r:List Bool):Int × List Bool:=if (r.take (r.length % 8)).all (fun x => !x) then (0,r.drop (r.length % 8)) else (2,r)
theorem ZGX {b:List Int} {r:List Bool} (h:Zs b r):Zs b (alS r).2:=by
 unfold alS
 split
 ·exact h.drop _
 ·exact h
theorem up8 {n:Nat} (h:n < 4294967296):IntKind.i64.wrap (Int.ofNat (BitVec.ofInt 64 (IntKind.i64.wrap ((n:Int) + 7)) &&& ~~~BitVec.ofInt 64 7).toNat) = (((n + 7) / 8 * 8:Nat):Int):=by
 rw [ZQ (n:=(n:Int) + 7) (by omega),show (n:Int) + 7 = ((n + 7:Nat):Int) from rfl]
 have e:(BitVec.ofInt 64 ((n + 7:Nat):Int) &&& ~~~BitVec.ofInt 64 7).toNat = (n + 7) / 8 * 8:=by
  have h1:BitVec.ofInt 64 ((n + 7:Nat):Int) &&& ~~~BitVec.ofInt 64 7 = ((BitVec.ofNat 64 (n + 7)) >>> 3) <<< 3:=by
   rw [BitVec.ofInt_natCast,show ~~~BitVec.ofInt 64 7 = BitVec.ofNat 64 18446744073709551608 from by decide]
   apply BitVec.eq_of_getLsbD_eq
   intro i hi
   simp only [BitVec.getLsbD_and,BitVec.getLsbD_shiftLeft,BitVec.getLsbD_ushiftRight]
   have hm:=(by decide +kernel:∀ j:Fin 64,(BitVec.ofNat 64 18446744073709551608).getLsbD j.val = decide (3 ≤ j.val)) ⟨i,hi⟩
   simp only at hm
   rw [hm]
   by_cases h3:3 ≤ i
   ·rw [QX h3,Bool.and_true,show 3 + (i - 3) = i by omega]
    simp [hi]
    omega
   ·rw [QN h3,Bool.and_false]
    simp
    omega
  rw [h1,BitVec.toNat_shiftLeft,BitVec.toNat_ushiftRight,BitVec.toNat_ofNat,Nat.shiftRight_eq_div_pow,Nat.shiftLeft_eq,Nat.mod_eq_of_lt (by omega),Nat.mod_eq_of_lt (by omega)]
 rw [e,ZQ (by simp only [Qh]; omega)]
 rfl
theorem ZKf (k:Nat) {b:List Int} (hb:ZW b = true) (hn:b.length < 536870912) {r0:List Bool}:∀ (p m:Nat) (r:List Bool),Zs b r → p ≤ r.length → p < m →
  Zm (fun L1 => Zew k L1) m (((Z4 b r:Nat):Int),((Z4 b r + p:Nat):Int),b,((Z4 b r0:Nat):Int)) = some (if (r.take p).all (fun x => !x) then (0,Kq b (r.drop p),()) else (2,Kq b r0,())):=by
 intro p
 induction p with
 | zero =>
  intro m r hr hp hm
  obtain ⟨m,rfl⟩:=Zn hm
  rw [Zd]
  simp only [Zew]
  rw [Zi (by omega)]
  simp
 | succ p ih =>
  intro m r hr hp hm
  obtain ⟨m,rfl⟩:=Zn (show 0 < m by omega)
  rw [Zd]
  simp only [Zew]
  have hlen:=hr.len
  have hpos:Z4 b r < 8 * b.length:=by unfold Z4; omega
  rw [Zb (by omega),Zqa k hb hn _ hpos]
  simp only [Qb]
  have hg:=hr.get (i:=0) (by omega)
  simp only [Nat.add_zero] at hg
  rw [hg,ZB]
  have hcons:r = r[0] :: r.drop 1:=by
   have:=List.drop_eq_getElem_cons (l:=r) (i:=0) (by omega)
   rwa [List.drop_zero] at this
  have e5:r.take (p + 1) = r[0] :: (r.drop 1).take p:=by
   conv => lhs; rw [hcons]
   rfl
  rw [e5,List.all_cons]
  cases hx:r[0] with
  | true =>
   rw [if_pos rfl,Zb rfl]
   simp
  | false =>
   rw [if_neg (by simp),Zi (by omega)]
   have e3:IntKind.i64.wrap (((Z4 b r:Nat):Int) + 1) = ((Z4 b (r.drop 1):Nat):Int):=by
    rw [ZgM hr (by omega),ZQ (by omega)]; rfl
   have e4:Z4 b r + (p + 1) = Z4 b (r.drop 1) + p:=by rw [ZgM hr (by omega)]; omega
   rw [e3,e4,ih m (r.drop 1) (hr.drop 1) (by rw [List.length_drop]; omega) (by omega)]
   have e6:(r.drop 1).drop p = r.drop (p + 1):=by rw [List.drop_drop]; congr 1; omega
   rw [e6]
   simp only [Bool.not_false,Bool.true_and]
theorem ZKg (k:Nat) {b:List Int} (hb:ZW b = true) (hn:b.length < 536870912) {r:List Bool} (hr:Zs b r) (hk:10 < k) :
  ZyT k (Kq b r,()) = some ((alS r).1,Kq b (alS r).2,()):=by
 show Zje k (Zvt k) _ = _
 simp only [Zje]
 have hlen:=hr.len
 have hp:Z4 b r ≤ 8 * b.length:=by unfold Z4; omega
 rw [up8 (by omega)]
 have e:(Z4 b r + 7) / 8 * 8 = Z4 b r + r.length % 8:=by unfold Z4; omega
 rw [e]
 refine (ZKf k hb hn (r.length % 8) k r hr (Nat.mod_le _ _) (by omega)).trans ?_
 unfold alS
 split <;> rfl
def ZwK (f:Nat):Int:=if f % 2 = 1 then -((f:Int) + 1) / 2 else (f:Int) / 2
theorem ZF8 (k:Nat) {f:Nat} (h:f < 4294967296):Zpu k ((f:Int),()) = some ((ZwK f,0,()),()):=by
 show ZgF k _ = _
 simp only [ZgF]
 rw [Zi (by omega),Zi (by omega),show (1:Int) = ((1:Nat):Int) from rfl,Zz8 (by omega) (by omega),Nat.and_one_is_mod,ZQ (n:=((f % 2:Nat):Int)) (by omega)]
 have hd:((f:Nat):Int).fdiv 2 = ((f / 2:Nat):Int):=by rw [Int.fdiv_eq_ediv_of_nonneg _ (by omega)]; rfl
 rw [hd]
 unfold ZwK
 by_cases h1:f % 2 = 1
 ·rw [if_pos h1,h1,show IntKind.i64.wrap ((0:Int) - ((1:Nat):Int)) = -1 from rfl,show BitVec.ofInt 64 (-1) = BitVec.allOnes 64 from by decide,BitVec.xor_allOnes,BitVec.toNat_not,Zw1 (by omega)]
  have e2:IntKind.i64.wrap (Int.ofNat (2 ^ 64 - 1 - f / 2)) = -((f:Int) + 1) / 2:=by
   simp only [Qh]
   rw [IntKind.wrap_i64]
   omega
  rw [e2]
 ·rw [if_neg h1,show f % 2 = 0 by omega,show IntKind.i64.wrap ((0:Int) - ((0:Nat):Int)) = 0 from rfl,show BitVec.ofInt 64 0 = 0#64 from rfl,BitVec.xor_zero,Zw1 (by omega)]
  rw [ZQ (by simp only [Qh]; omega)]
  rfl
def Ze2 (kk:Nat) (r:List Bool):Int × Int × List Bool :=
 if (unS r).2.1 ≠ 0 then (0,(unS r).2.1,(unS r).2.2)
 else if (ZX kk (unS r).2.2).2.1 ≠ 0 then (0,(ZX kk (unS r).2.2).2.1,(ZX kk (unS r).2.2).2.2)
 else if 4294967295 ≤ (unS r).1 * 2 ^ kk + (ZX kk (unS r).2.2).1 then (0,12,(ZX kk (unS r).2.2).2.2)
 else (ZwK ((unS r).1 * 2 ^ kk + (ZX kk (unS r).2.2).1),0,(ZX kk (unS r).2.2).2.2)
theorem Zs6 {b:List Int} {r:List Bool} (h:Zs b r) (kk:Nat):Zs b (Ze2 kk r).2.2:=by
 unfold Ze2
 split
 ·exact Zc1 h
 ·split
  ·exact Qj (Zc1 h) kk
  ·split
   ·exact Qj (Zc1 h) kk
   ·exact Qj (Zc1 h) kk
theorem ZTW {q d kk:Nat} (hq:q < 4294967296) (hk:kk ≤ 30) (hd:d < 2 ^ kk):IntKind.i64.wrap (Int.ofNat (BitVec.ofInt 64 (IntKind.i64.wrap ((q:Int) * (2:Int) ^ min ((kk:Int)).toNat 64)) ||| BitVec.ofInt 64 (d:Int)).toNat) = ((q * 2 ^ kk + d:Nat):Int):=by
 have h1:2 ^ kk ≤ 2 ^ 30:=Nat.pow_le_pow_right (by omega) hk
 have h2:q * 2 ^ kk ≤ 4294967295 * 1073741824:=Nat.mul_le_mul (by omega) (by omega)
 rw [QS,Nat.min_eq_left (by omega),Qp,← Int.natCast_mul]
 have h3:=Nat.shiftLeft_add_eq_or_of_lt hd q
 rw [Nat.shiftLeft_eq] at h3
 rw [ZQ (n:=((q * 2 ^ kk:Nat):Int)) (by generalize q * 2 ^ kk = X at h2; omega),orN (by generalize q * 2 ^ kk = X at h2; omega) (by omega),← h3]
 generalize q * 2 ^ kk = X at h2 ⊢
 rw [ZQ (by omega)]
theorem ZF6 (k:Nat) {b:List Int} (hb:ZW b = true) (hn:b.length < 268435456) {r:List Bool} (hr:Zs b r) {kk:Nat} (hkk:kk ≤ 30) (hk:8 * b.length + 100 < k) :
  Zpq k (Kq b r,(kk:Int),()) = some (((Ze2 kk r).1,(Ze2 kk r).2.1,()),Kq b (Ze2 kk r).2.2,()):=by
 show ZgC k _ = _
 simp only [ZgC]
 rw [Zr9 k hb (by omega) hr (by omega)]
 simp only [Qb]
 unfold Ze2
 have hu:=ZLS (r:=r)
 have hl:=hr.len
 rw [ZT]
 by_cases h1:(unS r).2.1 = 0
 ·rw [Zi (by simpa using h1),if_neg (by simpa using h1),Yw k hb (by omega) (Zc1 hr) (by omega) (by omega)]
  simp only [Qb]
  rw [ZT]
  by_cases h2:(ZX kk (unS r).2.2).2.1 = 0
  ·rw [Zi (by simpa using h2),if_neg (by simpa using h2),Zb (by omega),ZTW (by omega) hkk (ZgJ kk _)]
   by_cases h3:4294967295 ≤ (unS r).1 * 2 ^ kk + (ZX kk (unS r).2.2).1
   ·rw [Zb (by omega),if_pos h3]
   ·rw [Zi (by omega),if_neg h3,ZF8 k (by omega)]
    rfl
  ·rw [Zb h2,if_pos h2]
 ·rw [Zb h1,if_pos h1]
end Go.Sh
namespace Go.Sh
open Go Go.Proofs
abbrev ZGT:=List Bool → Int × Int × List Bool
def ZaJ (one:ZGT):Nat → List Bool → List Int → List Int × Int × List Bool
 | 0,r,acc => (acc,0,r)
 | n + 1,r,acc => if (one r).2.1 ≠ 0 then ([],(one r).2.1,(one r).2.2) else ZaJ one n (one r).2.2 (acc ++ [(one r).1])
theorem ZhN {b:List Int} {one:ZGT} (h1:∀ r,Zs b r → Zs b (one r).2.2):∀ (n:Nat) (r:List Bool) (acc:List Int),Zs b r → Zs b (ZaJ one n r acc).2.2
 | 0,r,acc,h => h
 | n + 1,r,acc,h => by
  unfold ZaJ
  split
  ·exact h1 r h
  ·exact ZhN h1 n _ _ (h1 r h)
theorem Zlu {one:ZGT}:∀ (n:Nat) (r:List Bool) (acc:List Int),(ZaJ one n r acc).1.length ≤ acc.length + n
 | 0,r,acc => Nat.le_refl _
 | n + 1,r,acc => by
  unfold ZaJ
  split
  ·simp
  ·have:=Zlu (one:=one) n (one r).2.2 (acc ++ [(one r).1])
   rw [Wq,List.length_singleton] at this
   omega
theorem ZNU (k:Nat) (L2:Int × Int × List Int × Int × Int × List Int → Option ((List Int × Int × Unit) × (List Int × Int × Unit) × Unit)) {b:List Int} (hb:ZW b = true) (hn:b.length < 268435456) (hk:8 * b.length + 100 < k) {w:Nat} (hw:w ≤ 32) :
  ∀ (d m i:Nat) (r:List Bool) (acc:List Int),Zs b r → d < m → i + d ≤ 4096 → acc.length ≤ i →
  Zm (fun L1 => Zck k L1) m (((i + d:Nat):Int),(i:Int),b,((Z4 b r:Nat):Int),(w:Int),acc) = some (((ZaJ (XH w) d r acc).1,(ZaJ (XH w) d r acc).2.1,()),Kq b (ZaJ (XH w) d r acc).2.2,()):=by
 intro d
 induction d with
 | zero =>
  intro m i r acc hr hm hi ha
  obtain ⟨m,rfl⟩:=Zn hm
  rw [Zd]
  simp only [Zck]
  rw [Zi (by omega)]
  rfl
 | succ d ih =>
  intro m i r acc hr hm hi ha
  obtain ⟨m,rfl⟩:=Zn (show 0 < m by omega)
  rw [Zd]
  simp only [Zck]
  have e:Zpr k (((b,((Z4 b r:Nat):Int),()),()),((w:Int),()),()) = some (((XH w r).1,(XH w r).2.1,()),((Kq b (XH w r).2.2),()),((w:Int),()),()):=by
   show ZgD k _ = _
   simp only [ZgD]
   rw [Zsp k hb (by omega) hr hw (by omega)]
   rfl
  rw [Zb (by omega),e]
  simp only [Qb]
  unfold ZaJ
  rw [ZT]
  by_cases h:(XH w r).2.1 = 0
  ·rw [Zi (by simpa using h),Zb (by simp only [List.length_singleton]; omega),if_neg (by simpa using h)]
   have e2:IntKind.i64.wrap ((i:Int) + 1) = ((i + 1:Nat):Int):=by rw [ZQ (by omega)]; rfl
   rw [e2]
   have:=ih m (i + 1) (XH w r).2.2 (acc ++ [(XH w r).1]) (Zdl hr w) (by omega) (by omega) (by simp; omega)
   rw [show i + 1 + d = i + (d + 1) by omega] at this
   exact this
  ·rw [Zb h,if_pos h]
theorem ZI6 (k:Nat) {b:List Int} (hb:ZW b = true) (hn:b.length < 268435456) (hk:8 * b.length + 100 < k) {w:Nat} (hw:w ≤ 30) :
  ∀ (d m i:Nat) (r:List Bool) (acc:List Int),Zs b r → d < m → i + d ≤ 4096 → acc.length ≤ i →
  Zm (fun L2 => Zcl k L2) m (((i + d:Nat):Int),(i:Int),b,((Z4 b r:Nat):Int),(w:Int),acc) = some (((ZaJ (Ze2 w) d r acc).1,(ZaJ (Ze2 w) d r acc).2.1,()),Kq b (ZaJ (Ze2 w) d r acc).2.2,()):=by
 intro d
 induction d with
 | zero =>
  intro m i r acc hr hm hi ha
  obtain ⟨m,rfl⟩:=Zn hm
  rw [Zd]
  simp only [Zcl]
  rw [Zi (by omega)]
  rfl
 | succ d ih =>
  intro m i r acc hr hm hi ha
  obtain ⟨m,rfl⟩:=Zn (show 0 < m by omega)
  rw [Zd]
  simp only [Zcl]
  have e:Zpo k (((b,((Z4 b r:Nat):Int),()),()),((w:Int),()),()) = some (((Ze2 w r).1,(Ze2 w r).2.1,()),((Kq b (Ze2 w r).2.2),()),((w:Int),()),()):=by
   show ZgB k _ = _
   simp only [ZgB]
   rw [ZF6 k hb (by omega) hr hw (by omega)]
   rfl
  rw [Zb (by omega),e]
  simp only [Qb]
  unfold ZaJ
  rw [ZT]
  by_cases h:(Ze2 w r).2.1 = 0
  ·rw [Zi (by simpa using h),Zb (by simp only [List.length_singleton]; omega),if_neg (by simpa using h)]
   have e2:IntKind.i64.wrap ((i:Int) + 1) = ((i + 1:Nat):Int):=by rw [ZQ (by omega)]; rfl
   rw [e2]
   have:=ih m (i + 1) (Ze2 w r).2.2 (acc ++ [(Ze2 w r).1]) (Zs6 hr w) (by omega) (by omega) (by simp; omega)
   rw [show i + 1 + d = i + (d + 1) by omega] at this
   exact this
  ·rw [Zb h,if_pos h]
def Y2 (m count : Nat) (r : List Bool) : List Int × Int × List Bool :=
  if (ZX (4 + m) r).2.1 ≠ 0 then ([], (ZX (4 + m) r).2.1, (ZX (4 + m) r).2.2)
  else if (ZX (4 + m) r).1 = QP m then
    (if (ZX 5 (ZX (4 + m) r).2.2).2.1 ≠ 0 then ([], (ZX 5 (ZX (4 + m) r).2.2).2.1, (ZX 5 (ZX (4 + m) r).2.2).2.2)
     else ZaJ (XH (ZX 5 (ZX (4 + m) r).2.2).1) count (ZX 5 (ZX (4 + m) r).2.2).2.2 [])
  else ZaJ (Ze2 (ZX (4 + m) r).1) count (ZX (4 + m) r).2.2 []
theorem ZhS {b:List Int} {r:List Bool} (h:Zs b r) (m count:Nat):Zs b (Y2 m count r).2.2:=by
 unfold Y2
 split
 ·exact Qj h _
 ·split
  ·split
   ·exact Qj (Qj h _) _
   ·exact ZhN (fun r h => Zdl h _) _ _ _ (Qj (Qj h _) _)
  ·exact ZhN (fun r h => Zs6 h _) _ _ _ (Qj h _)
theorem Zs8 (m count:Nat) (r:List Bool):(Y2 m count r).1.length ≤ count:=by
 unfold Y2
 split
 ·simp
 ·split
  ·split
   ·simp
   ·have:=Zlu (one:=XH (ZX 5 (ZX (4 + m) r).2.2).1) count (ZX 5 (ZX (4 + m) r).2.2).2.2 []
    simpa using this
  ·have:=Zlu (one:=Ze2 (ZX (4 + m) r).1) count (ZX (4 + m) r).2.2 []
   simpa using this
theorem ZFV (k:Nat) {b:List Int} (hb:ZW b = true) (hn:b.length < 268435456) {r:List Bool} (hr:Zs b r) (hk:8 * b.length + 5000 < k) {m count:Nat} (hm:m = 0 ∨ m = 1) (hc:count ≤ 4096) :
  ZhE k (Kq b r,(m:Int),(count:Int),()) = some (((Y2 m count r).1,(Y2 m count r).2.1,()),Kq b (Y2 m count r).2.2,()):=by
 show Zgr k (Zny k) (ZiK k) _ = _
 simp only [Zgr]
 have hmi:(m:Int) = 0 ∨ (m:Int) = 1:=by omega
 rw [ZQt,ZkJ k hmi]
 simp only [Qb]
 have e4:(4:Int) + (m:Int) = ((4 + m:Nat):Int):=rfl
 rw [e4,Yw k hb (by omega) hr (by omega) (by omega)]
 simp only [Qb]
 unfold Y2
 have hlt:=ZgJ (4 + m) r
 rw [ZT]
 by_cases h1:(ZX (4 + m) r).2.1 = 0
 ·rw [Zi (by simpa using h1),if_neg (by simpa using h1),ZD5,ZbV k hmi]
  simp only [Qb]
  rw [ZB]
  by_cases h2:(ZX (4 + m) r).1 = QP m
  ·rw [Zb (by omega),if_pos h2,show (5:Int) = ((5:Nat):Int) from rfl,Yw k hb (by omega) (Qj hr _) (by omega) (by omega)]
   simp only [Qb]
   rw [ZT]
   by_cases h3:(ZX 5 (ZX (4 + m) r).2.2).2.1 = 0
   ·rw [Zi (by simpa using h3),if_neg (by simpa using h3)]
    have hlt5:=ZgJ 5 (ZX (4 + m) r).2.2
    have:=ZNU k (ZiK k) hb hn (by omega) (w:=(ZX 5 (ZX (4 + m) r).2.2).1) (by omega) count k 0 (ZX 5 (ZX (4 + m) r).2.2).2.2 [] (Qj (Qj hr _) _) (by omega) (by omega) (by simp)
    rw [Nat.zero_add] at this
    exact this
   ·rw [Zb h3,if_pos h3]
  ·rw [Zi (by omega),if_neg h2]
   have h30:(ZX (4 + m) r).1 ≤ 30:=by
    rcases hm with rfl | rfl
    ·have:(ZX (4 + 0) r).1 < 16:=hlt
     omega
    ·have h32:(ZX (4 + 1) r).1 < 32:=hlt
     have:QP (1:Nat) = 31:=rfl
     omega
   have:=ZI6 k hb hn (by omega) h30 count k 0 (ZX (4 + m) r).2.2 [] (Qj hr _) (by omega) (by omega) (by simp)
   rw [Nat.zero_add] at this
   exact this
 ·rw [Zb h1,if_pos h1]
def Xs (m n o p:Nat):Nat → Nat → List Bool → List Int → List Int × Int × List Bool
 | 0,_,r,acc => (acc,0,r)
 | d + 1,i,r,acc => if (Y2 m (n / 2 ^ p - if i = 0 then o else 0) r).2.1 ≠ 0 then ([],(Y2 m (n / 2 ^ p - if i = 0 then o else 0) r).2.1,(Y2 m (n / 2 ^ p - if i = 0 then o else 0) r).2.2)
  else Xs m n o p d (i + 1) (Y2 m (n / 2 ^ p - if i = 0 then o else 0) r).2.2 (acc ++ (Y2 m (n / 2 ^ p - if i = 0 then o else 0) r).1)
theorem Zh8 {b:List Int} {m n o p:Nat}:∀ (d i:Nat) (r:List Bool) (acc:List Int),Zs b r → Zs b (Xs m n o p d i r acc).2.2
 | 0,_,r,acc,h => h
 | d + 1,i,r,acc,h => by
  unfold Xs
  generalize (n / 2 ^ p - if i = 0 then o else 0) = cnt
  split
  ·exact ZhS h _ _
  ·exact Zh8 d (i + 1) _ _ (ZhS h _ _)
theorem ZFc (k:Nat) {b:List Int} (hb:ZW b = true) (hn:b.length < 268435456) (hk:8 * b.length + 5000 < k) {m n o p:Nat} (hm:m = 0 ∨ m = 1) (hnn:n ≤ 512) (hp:p ≤ 15) (ho:o ≤ n / 2 ^ p) :
  ∀ (d j i:Nat) (r:List Bool) (acc:List Int),Zs b r → d < j → i + d ≤ 32768 → acc.length ≤ i * 512 →
  Zm (fun L1 => Zap k L1) j (((i + d:Nat):Int),(i:Int),(n:Int),(p:Int),(o:Int),(m:Int),b,((Z4 b r:Nat):Int),acc) = some (((Xs m n o p d i r acc).1,(Xs m n o p d i r acc).2.1,()),Kq b (Xs m n o p d i r acc).2.2,()):=by
 intro d
 have hdiv:n / 2 ^ p ≤ n:=Nat.div_le_self _ _
 induction d with
 | zero =>
  intro j i r acc hr hj hi ha
  obtain ⟨j,rfl⟩:=Zn hj
  rw [Zd]
  simp only [Zap]
  rw [Zi (by omega)]
  rfl
 | succ d ih =>
  intro j i r acc hr hj hi ha
  obtain ⟨j,rfl⟩:=Zn (show 0 < j by omega)
  rw [Zd]
  simp only [Zap,QS,Nat.min_eq_left (show p ≤ 64 by omega),KJ]
  have e2:IntKind.i64.wrap ((i:Int) + 1) = ((i + 1:Nat):Int):=by rw [ZQ (by omega)]; rfl
  have e3:IntKind.i64.wrap (((n / 2 ^ p:Nat):Int) - (o:Int)) = ((n / 2 ^ p - o:Nat):Int):=by generalize n / 2 ^ p = q at hdiv ho ⊢; rw [ZQ (by omega)]; omega
  have fin:∀ cnt:Nat,cnt = (n / 2 ^ p - if i = 0 then o else 0) → ((ZhE k ((b,((Z4 b r:Nat):Int),()),(m:Int),(cnt:Int),())).bind fun y => bif y.1.2.1 != (0:Int) then some (([],y.1.2.1,()),(y.2.1.1,y.2.1.2.1,()),()) else bif decide (acc.length + List.length y.1.1 < (2147483648:Nat)) then Zm (fun L1 => Zap k L1) j (((i + (d + 1):Nat):Int),IntKind.i64.wrap ((i:Int) + 1),(n:Int),(p:Int),(o:Int),(m:Int),y.2.1.1,y.2.1.2.1,acc ++ y.1.1) else none) =
    some (((Xs m n o p (d + 1) i r acc).1,(Xs m n o p (d + 1) i r acc).2.1,()),Kq b (Xs m n o p (d + 1) i r acc).2.2,()):=by
   intro cnt hcnt
   have hcl:cnt ≤ 512:=by omega
   refine (Zf (ZFV k hb hn hr hk hm (by omega)) _).trans ?_
   simp only
   unfold Xs
   rw [← hcnt,ZT]
   have hlen:=Zs8 m cnt r
   by_cases h:(Y2 m cnt r).2.1 = 0
   ·rw [Zi (by simpa using h),Zb (by omega),if_neg (by simpa using h),e2]
    have:=ih j (i + 1) (Y2 m cnt r).2.2 (acc ++ (Y2 m cnt r).1) (ZhS hr _ _) (by omega) (by omega) (by rw [Wq]; omega)
    rw [show i + 1 + d = i + (d + 1) by omega] at this
    exact this
   ·rw [Zb h,if_pos h]
  rw [Zb (by omega),Zb (by omega),ZB]
  by_cases h0:i = 0
  ·rw [Zb (by omega),e3]
   exact fin _ (by rw [if_pos h0])
  ·rw [Zi (by omega)]
   exact fin _ (by rw [if_neg h0,Nat.sub_zero])
def K9 (n o:Nat) (r:List Bool):List Int × Int × List Bool :=
 if KW n o = false then ([],1,r)
 else if (ZX 2 r).2.1 ≠ 0 then ([],(ZX 2 r).2.1,(ZX 2 r).2.2)
 else if 1 < (ZX 2 r).1 then ([],2,(ZX 2 r).2.2)
 else if (ZX 4 (ZX 2 r).2.2).2.1 ≠ 0 then ([],(ZX 4 (ZX 2 r).2.2).2.1,(ZX 4 (ZX 2 r).2.2).2.2)
 else if ZcI n o (ZX 4 (ZX 2 r).2.2).1 = false then ([],2,(ZX 4 (ZX 2 r).2.2).2.2)
 else Xs (ZX 2 r).1 n o (ZX 4 (ZX 2 r).2.2).1 (2 ^ (ZX 4 (ZX 2 r).2.2).1) 0 (ZX 4 (ZX 2 r).2.2).2.2 []
theorem ZqU {b:List Int} {r:List Bool} (h:Zs b r) (n o:Nat):Zs b (K9 n o r).2.2:=by
 unfold K9
 repeat' split
 all_goals first | exact h | exact Qj h _ | exact Qj (Qj h _) _ | exact Zh8 _ _ _ _ (Qj (Qj h _) _)
theorem ZFd (k:Nat) {b:List Int} (hb:ZW b = true) (hn:b.length < 268435456) {r:List Bool} (hr:Zs b r) (hk:8 * b.length + 50000 < k) (n o:Nat) :
  ZbD k (Kq b r,(n:Int),(o:Int),()) = some (((K9 n o r).1,(K9 n o r).2.1,()),Kq b (K9 n o r).2.2,()):=by
 show ZfX k (Zm6 k) _ = _
 simp only [ZfX]
 rw [Zsg]
 simp only [Qb]
 unfold K9
 cases hbl:KW n o with
 | false => rfl
 | true =>
  have hbb:=of_decide_eq_true hbl
  simp only [Bool.not_true,cond_false,Bool.true_eq_false,if_false]
  have g2:YG k (Kq b r,2,()) = _:=Yw k hb (by omega) hr (w:=2) (by omega) (by omega)
  rw [g2]
  simp only [Qb]
  rw [ZT]
  have hlt2:=ZgJ 2 r
  by_cases h1:(ZX 2 r).2.1 = 0
  ·rw [Zi (by simpa using h1),if_neg (by simpa using h1)]
   by_cases h2:1 < (ZX 2 r).1
   ·rw [Zb (by omega),if_pos h2]
   ·have g4:YG k (Kq b (ZX 2 r).2.2,4,()) = _:=Yw k hb (by omega) (Qj hr _) (w:=4) (by omega) (by omega)
    rw [Zi (by omega),if_neg h2,g4]
    simp only [Qb]
    rw [ZT]
    have hlt4:=ZgJ 4 (ZX 2 r).2.2
    by_cases h3:(ZX 4 (ZX 2 r).2.2).2.1 = 0
    ·rw [Zi (by simpa using h3),if_neg (by simpa using h3),Zsi k (by omega) (by omega)]
     simp only [Qb]
     cases hf:ZcI n o (ZX 4 (ZX 2 r).2.2).1 with
     | false => rfl
     | true =>
      simp only [Bool.not_true,cond_false,Bool.true_eq_false,if_false]
      have hfit:=hf
      unfold ZcI at hfit
      simp only [Bool.and_eq_true,decide_eq_true_eq] at hfit
      rw [Zb (by omega),Ko (by omega)]
      have h15:2 ^ (ZX 4 (ZX 2 r).2.2).1 ≤ 2 ^ 15:=Nat.pow_le_pow_right (by omega) (by omega)
      have:=ZFc k hb hn (by omega) (m:=(ZX 2 r).1) (n:=n) (o:=o) (p:=(ZX 4 (ZX 2 r).2.2).1) (by omega) (by omega) (by omega) hfit.2 (2 ^ (ZX 4 (ZX 2 r).2.2).1) k 0 (ZX 4 (ZX 2 r).2.2).2.2 [] (Qj (Qj hr _) _) (by omega) (by omega) (by simp)
      rw [Nat.zero_add] at this
      exact this
    ·rw [Zb h3,if_pos h3]
  ·rw [Zb h1,if_pos h1]
theorem ZVF:∀ n:Fin 513,Zgz 0 (1,(n.val:Int),()) = some ((0,(n.val:Int),()),()):=by decide +kernel
theorem ZI2 (k:Nat) {n:Nat} (hn:n ≤ 512):Zpf k (1,(n:Int),()) = some ((0,(n:Int),()),()):=by
 have:=ZVF ⟨n,by omega⟩
 simp only at this
 show (Zgz 0 (1,(n:Int),())).bind _ = _
 rw [this]
 rfl
theorem ZE8 (k:Nat) (x:Int) {n:Nat} (hn:n ≤ 512):∀ (d m i:Nat),i + d = n → d < m → 1 ≤ i →
  Zm (fun L1 => ZfV k L1) m ((i:Int),List.replicate i x ++ List.replicate d 0) = some (List.replicate n x,()):=by
 intro d
 induction d using Nat.strongRecOn with
 | ind d ih =>
  intro m i hi hm h1
  obtain ⟨m,rfl⟩:=Zn (show 0 < m by omega)
  rw [Zd]
  simp only [ZfV]
  have hlen:(List.replicate i x ++ List.replicate d (0:Int)).length = n:=by simp; omega
  rw [hlen]
  by_cases h0:d = 0
  ·subst h0
   rw [Zi (by simp only [Qh]; omega)]
   obtain rfl:i = n:=by omega
   simp
  ·rw [Zb (by simp only [Qh]; omega),Zb (by simp only [Qh]; omega),Zb (by simp only [Qh]; omega)]
   simp only [QS,show (Int.ofNat n).toNat = n from rfl]
   rw [Zb (by omega),Zb (by omega),List.drop_zero]
   have ht:(List.replicate i x ++ List.replicate d (0:Int)).take i = List.replicate i x:=by
    rw [List.take_append_of_le_length (by simp)]
    simp
   rw [ht,List.length_replicate]
   have e1:IntKind.i64.wrap ((i:Int) + Int.ofNat (min i (n - i))) = ((i + min i (n - i):Nat):Int):=by simp only [Qh]; rw [ZQ (by omega)]; omega
   have e2:List.replicate i x ++ List.take (n - i) (List.replicate i x) ++ List.drop (i + min i (n - i)) (List.replicate i x ++ List.replicate d (0:Int)) = List.replicate (i + min i (n - i)) x ++ List.replicate (d - min i (n - i)) 0:=by
    rw [List.take_replicate,List.replicate_append_replicate,List.drop_append]
    simp
    omega
   rw [e1,e2]
   exact ih (d - min i (n - i)) (by omega) m _ (by omega) (by omega) (by omega)
theorem ZE9 (k:Nat) (x:Int) {n:Nat} (h1:1 ≤ n) (hn:n ≤ 512) (hk:1000 < k):ZoM k ([x],(n:Int),()) = some (List.replicate n x,()):=by
 show ZfU k (Zm2 k) _ = _
 simp only [ZfU]
 have e1:IntKind.u64.wrap (Int.ofNat [x].length) = 1:=rfl
 have e2:IntKind.u64.wrap (n:Int) = (n:Int):=by rw [IntKind.wrap_u64]; omega
 rw [Zi (by omega),e1,e2,ZI2 k hn]
 simp only [Qb]
 have e3:IntKind.i64.wrap (n:Int) = (n:Int):=by rw [ZQ (by omega)]
 rw [Zi (by omega),Zi (by omega),e3,Zb (by omega)]
 simp only [QS,List.length_replicate,List.length_singleton,Nat.sub_zero,List.take_zero,List.nil_append,Nat.zero_add]
 rw [Nat.min_eq_left h1,List.take_of_length_le (by simp; omega),List.drop_replicate]
 exact ZE8 k x hn (n - 1) k 1 (by omega) (by omega) (by omega)
end Go.Sh
namespace Go.Sh
open Go Go.Proofs
def ZqR (c:List Int) (sh:Int):List Int → List Int → List Int × Int
 | [],out => (out,0)
 | x :: xs,out => if Qa (x + ZcP c sh out) = true then ([],12) else ZqR c sh xs (out ++ [x + ZcP c sh out])
def ZcU (c:List Int) (sh:Int) (warm res:List Int):List Int × Int :=
 if Kc c sh = false then ([],2) else if warm.length ≠ c.length then ([],1) else if warm.any Qa = true then ([],12) else if res.any Qa = true then ([],12) else ZqR c sh res warm
theorem Ztg {c:List Int} {sh:Int}:∀ (xs out:List Int),(ZqR c sh xs out).1.length ≤ out.length + xs.length
 | [],out => Nat.le_refl _
 | x :: xs,out => by
  unfold ZqR
  split
  ·simp
  ·have:=Ztg (c:=c) (sh:=sh) xs (out ++ [x + ZcP c sh out])
   rw [Wq,List.length_singleton] at this
   rw [List.length_cons]
   omega
theorem ZzY {x:Int} (h:Qa x = false):ZI x:=by
 unfold Qa at h
 rw [decide_eq_false_iff_not] at h
 unfold ZI
 omega
theorem ZFf (k:Nat) {c warm res:List Int} {sh:Int} (hk:1000 < k) (hc:c.length ≤ 8192) (hw:warm.length ≤ 900) (hr:res.length ≤ 900) :
  ZbE k ((c,sh,()),warm,res,()) = some (((ZcU c sh warm res).1,(ZcU c sh warm res).2,()),()):=by
 show ZfY k (Zm8 k) _ = _
 simp only [ZfY]
 rw [Zsq k c sh (by omega)]
 simp only [Qb]
 unfold ZcU
 cases hm:Kc c sh with
 | false => rfl
 | true =>
  simp only [if_true,Bool.true_eq_false,if_false]
  rw [show ((0:Int) != 0) = false from rfl]
  simp only [cond_false]
  rw [ZT]
  by_cases hl:warm.length = c.length
  ·rw [Zi (by simp [hl]),if_neg (by simpa using hl),Za3 k warm (by omega) (by omega)]
   simp only [Qb]
   cases hw1:warm.any Qa with
   | true => rfl
   | false =>
    simp only [cond_false,Bool.false_eq_true,if_false]
    rw [Za3 k res (by omega) (by omega)]
    simp only [Qb]
    cases hr1:res.any Qa with
    | true => rfl
    | false =>
     simp only [cond_false,Bool.false_eq_true,if_false]
     have ecl:Zk3 k (warm,()) = some (warm,()):=by show KY _ = _; unfold KY; rw [Zb (by simp only; omega)]
     rw [ecl]
     simp only [Qb]
     obtain ⟨h8,hsh,hco⟩:=KP hm
     have:=Zu (A:=List Int) (R:=(List Int × Int × Unit) × Unit) (step:=fun L1 => Zb7 k L1)
      (fun i out => (Int.ofNat res.length,Int.ofNat i,res,c,sh,out)) res
      (fun l' out => some (((ZqR c sh l' out).1,(ZqR c sh l' out).2,()),()))
      (fun i out => c.length ≤ out.length ∧ out.length = warm.length + i ∧ ∀ x ∈ out,ZI x)
      (fun L out _ => by simp only [Zb7]; rw [Zi (QV _)]; rfl)
      (fun L i hi out ho hL => by
       simp only [Zb7]
       rw [Zb (KU hi),Zb (Xx hi),Zsr k (by omega) h8 ho.1 (by omega) hsh hco ho.2.2,ZK hi]
       simp only [Qb]
       have hx:=X2 hr1 res[i] (List.getElem_mem hi)
       have hp:=Ze4 (sh:=sh) hco ho.2.2 h8
       unfold ZI at hx
       rw [ZQ (n:=res[i] + ZcP c sh out) (by omega),Zk1]
       simp only [Qb]
       unfold ZqR
       cases hwi:Qa (res[i] + ZcP c sh out) with
       | true => rfl
       | false =>
        simp only [cond_false,Bool.false_eq_true,if_false]
        rw [Zb (by simp only [List.length_singleton]; omega),Qq hi (by omega)]
        exact hL _ ⟨by simp; omega,by simp; omega,fun x hx => by
         rcases List.mem_append.1 hx with h | h
         ·exact ho.2.2 x h
         ·rw [List.mem_singleton.1 h]; exact ZzY hwi⟩)
      k 0 warm ⟨by omega,by omega,X2 hw1⟩ (by omega) (Nat.zero_le _)
     rw [List.drop_zero] at this
     exact this
  ·rw [Zb (by simp only [Qh]; omega),if_pos hl]
abbrev IS:=List Bool × Int
def gI (w:Nat) (s:IS):Nat × IS:=if s.2 = 0 then ((ZX w s.1).1,(ZX w s.1).2.2,(ZX w s.1).2.1) else (0,s)
def mI (ok:Bool) (s:IS) (code:Int):IS:=if s.2 = 0 ∧ ok = false then (s.1,code) else s
theorem QH {b:List Int} {s:IS} (h:Zs b s.1) (w:Nat):Zs b (gI w s).2.1:=by
 unfold gI
 split
 ·exact Qj h w
 ·exact h
theorem QD {b:List Int} {s:IS} (h:Zs b s.1) (ok:Bool) (code:Int):Zs b (mI ok s code).1:=by
 unfold mI
 split
 ·exact h
 ·exact h
theorem ZVg (w:Nat) (s:IS):(gI w s).1 < 2 ^ w:=by
 unfold gI
 split
 ·exact ZgJ w _
 ·exact Nat.pow_pos (by omega)
theorem Zb3 (k:Nat) {b:List Int} (hb:ZW b = true) (hn:b.length < 268435456) (hk:100 < k) {s:IS} (hs:Zs b s.1) {w:Nat} (hw:w ≤ 32) :
  YH k ((Kq b s.1,s.2,()),(w:Int),()) = some ((((gI w s).1:Nat):Int),(Kq b (gI w s).2.1,(gI w s).2.2,()),()):=by
 show ZfR k _ = _
 simp only [ZfR]
 unfold gI
 rw [ZB]
 by_cases h:s.2 = 0
 ·rw [Zb h,if_pos h,Yw k hb (by omega) hs hw hk]
  rfl
 ·rw [Zi h,if_neg h]
  rfl
theorem Yx (k:Nat) {b:List Int} {s:IS} (ok:Bool):W8 k ((Kq b s.1,s.2,()),ok,()) = some ((),(Kq b (mI ok s 2).1,(mI ok s 2).2,()),()):=by
 show ZfQ k _ = _
 simp only [ZfQ]
 unfold mI
 rw [ZB]
 by_cases h:s.2 = 0
 ·rw [Zb h]
  cases ok with
  | false => rw [if_pos ⟨h,rfl⟩]; rfl
  | true => rw [if_neg (by simp)]; rfl
 ·rw [Zi h,if_neg (fun hh => h hh.1)]
def Zqm (n:Nat):Bool:=n = 0 ∨ n = 1 ∨ 8 ≤ n ∧ n ≤ 12 ∨ 32 ≤ n ∧ n ≤ 39
theorem ZE4 (k n:Nat):ZoL k ((n:Int),()) = some (Zqm n,()):=by
 show ZfS k _ = _
 simp only [ZfS]
 unfold Zqm
 rw [ZB,ZB]
 by_cases h0:n = 0
 ·rw [Zb (by omega),QX (by omega)]
 ·rw [Zi (by omega)]
  by_cases h1:n = 1
  ·rw [Zb (by omega),QX (by omega)]
  ·rw [Zi (by omega)]
   by_cases h8:8 ≤ n
   ·rw [Zb (by omega)]
    by_cases h12:n ≤ 12
    ·rw [Zb (by omega),QX (by omega)]
    ·rw [Zi (by omega)]
     by_cases h31:31 < n
     ·rw [Zb (by omega)]
      by_cases h39:n ≤ 39
      ·rw [QX (by omega),QX (by omega)]
      ·rw [QN (by omega),QN (by omega)]
     ·rw [Zi (by omega),QN (by omega)]
   ·rw [Zi (by omega),Zi (by omega),QN (by omega)]
def K2 (w:Nat):Nat → IS → List Int → List Int × IS
 | 0,s,acc => (acc,s)
 | n + 1,s,acc => if s.2 = 0 then K2 w n ((XH w s.1).2.2,(XH w s.1).2.1) (acc ++ [(XH w s.1).1]) else K2 w n s (acc ++ [0])
theorem X0 {b:List Int} {w:Nat}:∀ (n:Nat) (s:IS) (acc:List Int),Zs b s.1 → Zs b (K2 w n s acc).2.1
 | 0,s,acc,h => h
 | n + 1,s,acc,h => by
  unfold K2
  split
  ·exact X0 n _ _ (Zdl h w)
  ·exact X0 n _ _ h
theorem KN {w:Nat}:∀ (n:Nat) (s:IS) (acc:List Int),(K2 w n s acc).1.length = acc.length + n
 | 0,s,acc => rfl
 | n + 1,s,acc => by
  unfold K2
  split
  ·rw [KN n,Wq,List.length_singleton]; omega
  ·rw [KN n,Wq,List.length_singleton]; omega
theorem Zb6 (k:Nat) {b:List Int} (hb:ZW b = true) (hn:b.length < 268435456) (hk:1000 < k) {s:IS} (hs:Zs b s.1) {w n:Nat} (hw:w ≤ 32) (hnn:n ≤ 512) :
  ZaC k ((Kq b s.1,s.2,()),(n:Int),(w:Int),()) = some ((K2 w n s []).1,(Kq b (K2 w n s []).2.1,(K2 w n s []).2.2,()),()):=by
 show ZfW k (Zm4 k) _ = _
 simp only [ZfW]
 suffices H:∀ (d m i:Nat) (s:IS) (acc:List Int),Zs b s.1 → d < m → i + d ≤ 512 → acc.length = i →
   Zm (fun L1 => Zb5 k L1) m (((i + d:Nat):Int),(i:Int),(w:Int),s.2,b,((Z4 b s.1:Nat):Int),acc) = some ((K2 w d s acc).1,(Kq b (K2 w d s acc).2.1,(K2 w d s acc).2.2,()),()) by
  have:=H n k 0 s [] hs (by omega) (by omega) rfl
  rw [Nat.zero_add] at this
  exact this
 intro d
 induction d with
 | zero =>
  intro m i s acc hs hm hi ha
  obtain ⟨m,rfl⟩:=Zn hm
  rw [Zd]
  simp only [Zb5]
  rw [Zi (by omega)]
  rfl
 | succ d ih =>
  intro m i s acc hs hm hi ha
  obtain ⟨m,rfl⟩:=Zn (show 0 < m by omega)
  rw [Zd]
  simp only [Zb5]
  have e2:IntKind.i64.wrap ((i:Int) + 1) = ((i + 1:Nat):Int):=by rw [ZQ (by omega)]; rfl
  rw [Zb (by omega),ZB]
  unfold K2
  by_cases h:s.2 = 0
  ·rw [Zb h,if_pos h,Zsp k hb (by omega) hs hw (by omega)]
   simp only [Qb]
   rw [Zb (by simp only [List.length_singleton]; omega),e2]
   have:=ih m (i + 1) ((XH w s.1).2.2,(XH w s.1).2.1) (acc ++ [(XH w s.1).1]) (Zdl hs w) (by omega) (by omega) (by simp; omega)
   rw [show i + 1 + d = i + (d + 1) by omega] at this
   exact this
  ·rw [Zi h,if_neg h,Zb (by omega),e2]
   have:=ih m (i + 1) s (acc ++ [0]) hs (by omega) (by omega) (by simp; omega)
   rw [show i + 1 + d = i + (d + 1) by omega] at this
   exact this
def Zg9 (s:IS):IS:=mI ((gI 1 s).1 == 0) (gI 1 s).2 2
def Zbw (s:IS):Nat × IS:=((gI 6 s).1,mI (Zqm (gI 6 s).1) (gI 6 s).2 2)
def ZzQ (kind depth:Nat) (s:IS):Nat × Nat × IS :=
 if (gI 1 s).1 = 1 ∧ (gI 1 s).2.2 = 0 then (kind,(unS (gI 1 s).2.1).1 + 1,mI (decide ((unS (gI 1 s).2.1).1 + 1 < depth)) ((unS (gI 1 s).2.1).2.2,(unS (gI 1 s).2.1).2.1) 2)
 else (kind,0,mI (decide (0 < depth)) (gI 1 s).2 2)
def Z2 (depth:Nat) (s:IS):Nat × Nat × IS:=ZzQ (Zbw (Zg9 s)).1 depth (Zbw (Zg9 s)).2
theorem WB (a b:Nat):((a:Int) == (b:Int)) = (a == b):=by
 rw [Bool.eq_iff_iff,beq_iff_eq,beq_iff_eq]
 omega
theorem ZCe {b:List Int} {s:IS} (h:Zs b s.1) (kind d:Nat):Zs b (ZzQ kind d s).2.2.1:=by
 unfold ZzQ
 split
 ·exact QD (s:=(_,_)) (Zc1 (QH h _)) _ _
 ·exact QD (QH h _) _ _
theorem Zq1 {b:List Int} {s:IS} (h:Zs b s.1):Zs b (Zg9 s).1:=QD (QH h _) _ _
theorem Zq2 {b:List Int} {s:IS} (h:Zs b s.1):Zs b (Zbw s).2.1:=QD (QH h _) _ _
theorem Zkd {b:List Int} {s:IS} (h:Zs b s.1) (d:Nat):Zs b (Z2 d s).2.2.1:=ZCe (Zq2 (Zq1 h)) _ _
theorem ZK6 (k:Nat) {b:List Int} (hb:ZW b = true) (hn:b.length < 268435456) (hk:8 * b.length + 1000 < k) {s:IS} (hs:Zs b s.1) (d:Nat) :
  Zzd k ((Kq b s.1,s.2,()),(d:Int),()) = some (((((Z2 d s).1:Nat):Int),(((Z2 d s).2.1:Nat):Int),()),(Kq b (Z2 d s).2.2.1,(Z2 d s).2.2.2,()),()):=by
 show ZjK k _ = _
 simp only [ZjK]
 refine (Zf (Zb3 k hb hn (by omega) hs (w:=1) (by omega)) _).trans ?_
 refine (Zf (Yx k (s:=(gI 1 s).2) _) _).trans ?_
 rw [show ((((gI 1 s).1:Nat):Int) == (0:Int)) = ((gI 1 s).1 == 0) from WB _ 0]
 have r2:=Zq1 hs
 unfold Z2
 change ((YH k ((Kq b (Zg9 s).1,(Zg9 s).2,()),6,())).bind _) = _
 generalize Zg9 s = s1 at r2 ⊢
 refine (Zf (Zb3 k hb hn (by omega) r2 (w:=6) (by omega)) _).trans ?_
 refine (Zf (ZE4 k (gI 6 s1).1) _).trans ?_
 refine (Zf (Yx k (s:=(gI 6 s1).2) _) _).trans ?_
 have r4:=Zq2 r2
 change ((YH k ((Kq b (Zbw s1).2.1,(Zbw s1).2.2,()),1,())).bind fun y_3 => bif y_3.1 == (1:Int) then bif y_3.2.1.2.1 == (0:Int) then (Zhz k ((y_3.2.1.1.1,y_3.2.1.1.2.1,()),())).bind fun y_4 => (W8 k (((y_4.2.1.1,y_4.2.1.2.1,()),y_4.1.2.1,()),decide (IntKind.i64.wrap (y_4.1.1 + (1:Int)) < d),())).bind fun y_5 => some (((((Zbw s1).1:Nat):Int),IntKind.i64.wrap (y_4.1.1 + (1:Int)),()),((y_5.2.1.1.1,y_5.2.1.1.2.1,()),y_5.2.1.2.1,()),())
  else (W8 k (((y_3.2.1.1.1,y_3.2.1.1.2.1,()),y_3.2.1.2.1,()),decide ((0:Int) < d),())).bind fun y_4 => some (((((Zbw s1).1:Nat):Int),0,()),((y_4.2.1.1.1,y_4.2.1.1.2.1,()),y_4.2.1.2.1,()),())
  else (W8 k (((y_3.2.1.1.1,y_3.2.1.1.2.1,()),y_3.2.1.2.1,()),decide ((0:Int) < d),())).bind fun y_4 => some (((((Zbw s1).1:Nat):Int),0,()),((y_4.2.1.1.1,y_4.2.1.1.2.1,()),y_4.2.1.2.1,()),())) = _
 generalize (Zbw s1).1 = kind
 generalize (Zbw s1).2 = s2 at r4 ⊢
 unfold ZzQ
 have r5:=QH r4 1
 refine (Zf (Zb3 k hb hn (by omega) r4 (w:=1) (by omega)) _).trans ?_
 simp only
 rw [show ((((gI 1 s2).1:Nat):Int) == (1:Int)) = ((gI 1 s2).1 == 1) from WB _ 1]
 have fin0:((W8 k ((Kq b (gI 1 s2).2.1,(gI 1 s2).2.2,()),decide ((0:Int) < (d:Int)),())).bind fun y_4 => some ((((kind:Nat):Int),0,()),((y_4.2.1.1.1,y_4.2.1.1.2.1,()),y_4.2.1.2.1,()),())) =
   some ((((kind:Nat):Int),(((0:Nat):Int)),()),(Kq b (mI (decide (0 < d)) (gI 1 s2).2 2).1,(mI (decide (0 < d)) (gI 1 s2).2 2).2,()),()):=by
  refine (Zf (Yx k (s:=(gI 1 s2).2) _) _).trans ?_
  have:decide ((0:Int) < (d:Int)) = decide (0 < d):=by
   by_cases h:0 < d
   ·rw [QX h,QX (by omega)]
   ·rw [QN h,QN (by omega)]
  rw [this]
  rfl
 by_cases h1:(gI 1 s2).1 = 1
 ·rw [show ((gI 1 s2).1 == 1) = true from by simp [h1]]
  simp only [cond_true]
  rw [ZB]
  by_cases h2:(gI 1 s2).2.2 = 0
  ·rw [Zb h2,if_pos ⟨h1,h2⟩]
   refine (Zf (Zr9 k hb (by omega) r5 (by omega)) _).trans ?_
   have hu:=ZLS (r:=(gI 1 s2).2.1)
   have hl:=r5.len
   have e1:IntKind.i64.wrap ((((unS (gI 1 s2).2.1).1:Nat):Int) + 1) = (((unS (gI 1 s2).2.1).1 + 1:Nat):Int):=by rw [ZQ (by omega)]; rfl
   simp only
   rw [e1]
   refine (Zf (Yx k (b:=b) (s:=((unS (gI 1 s2).2.1).2.2,(unS (gI 1 s2).2.1).2.1)) _) _).trans ?_
   have:decide ((((unS (gI 1 s2).2.1).1 + 1:Nat):Int) < (d:Int)) = decide ((unS (gI 1 s2).2.1).1 + 1 < d):=by
    by_cases h:(unS (gI 1 s2).2.1).1 + 1 < d
    ·rw [QX h,QX (by omega)]
    ·rw [QN h,QN (by omega)]
   rw [this]
  ·rw [Zi h2,if_neg (fun h => h2 h.2)]
   exact fin0
 ·rw [show ((gI 1 s2).1 == 1) = false from by simp [h1]]
  simp only [cond_false]
  rw [if_neg (fun h => h1 h.1)]
  exact fin0
end Go.Sh
namespace Go.Sh
open Go Go.Proofs
def ZgT (coefs:List Int) (sh:Int) (c n:Nat) (warm:List Int) (s:IS):List Int × IS :=
 if (K9 n c s.1).2.1 ≠ 0 then ([],((K9 n c s.1).2.2,(K9 n c s.1).2.1))
 else ((ZcU coefs sh warm (K9 n c s.1).1).1,((K9 n c s.1).2.2,(ZcU coefs sh warm (K9 n c s.1).1).2))
def Zid (s:IS):IS:=mI ((gI 4 s).1 == 11) (gI 4 s).2 2
def Zaz (s:IS):Nat × IS:=((gI 5 s).1,mI (decide ((gI 5 s).1 ≤ 15)) (gI 5 s).2 2)
def Zw0 (c n:Nat) (warm:List Int) (sh:Nat) (x:List Int × IS):List Int × IS :=
 if x.2.2 ≠ 0 then ([],x.2) else ZgT x.1 sh c n warm x.2
def ZrB (num:Bool) (c n:Nat) (w:List Int × IS):List Int × IS :=
 if num = true then Zw0 c n w.1 (Zaz (Zid w.2)).1 (K2 12 c (Zaz (Zid w.2)).2 [])
 else if w.2.2 ≠ 0 then ([],w.2) else ZgT (Xp (min 4 c)) 0 c n w.1 w.2
def ZlR (num:Bool) (c n depth:Nat) (s:IS):List Int × IS :=
 if (mI (decide (c ≤ n)) s 2).2 ≠ 0 then ([],mI (decide (c ≤ n)) s 2) else ZrB num c n (K2 depth c (mI (decide (c ≤ n)) s 2) [])
def Kt (kind n depth:Nat) (s:IS):List Int × IS :=
 if kind = 0 then (List.replicate n ((K2 depth 1 s []).1.headD 0),(K2 depth 1 s []).2)
 else if kind = 1 then K2 depth n s []
 else if 31 < kind then ZlR true (kind - 31) n depth s else ZlR false (kind - 8) n depth s
theorem ZlQ {m n o p:Nat}:∀ (d i:Nat) (r:List Bool) (acc:List Int),(Xs m n o p d i r acc).1.length ≤ acc.length + d * (n / 2 ^ p)
 | 0,_,r,acc => by simp [Xs]
 | d + 1,i,r,acc => by
  unfold Xs
  have hle:(n / 2 ^ p - if i = 0 then o else 0) ≤ n / 2 ^ p:=Nat.sub_le _ _
  generalize (n / 2 ^ p - if i = 0 then o else 0) = cnt at hle ⊢
  have h1:=Zs8 m cnt r
  rw [Nat.add_mul,Nat.one_mul]
  split
  ·simp
  ·have:=ZlQ (m:=m) (n:=n) (o:=o) (p:=p) d (i + 1) (Y2 m cnt r).2.2 (acc ++ (Y2 m cnt r).1)
   rw [Wq] at this
   omega
theorem Zth {n o:Nat} (r:List Bool):(K9 n o r).1.length ≤ n:=by
 unfold K9
 repeat' split
 all_goals try simp
 rename_i hf
 have hf:ZcI n o (ZX 4 (ZX 2 r).2.2).1 = true:=by simpa using hf
 unfold ZcI at hf
 simp only [Bool.and_eq_true,decide_eq_true_eq] at hf
 have:=ZlQ (m:=(ZX 2 r).1) (n:=n) (o:=o) (p:=(ZX 4 (ZX 2 r).2.2).1) (2 ^ (ZX 4 (ZX 2 r).2.2).1) 0 (ZX 4 (ZX 2 r).2.2).2.2 []
 rw [List.length_nil,Nat.zero_add] at this
 refine Nat.le_trans this ?_
 rw [Nat.mul_comm]
 exact Nat.div_mul_le_self _ _
theorem Zbk {ok:Bool} {s:IS} {code:Int} (hc:code ≠ 0):(mI ok s code).2 = 0 ↔ s.2 = 0 ∧ ok = true:=by
 unfold mI
 split
 ·rename_i h
  exact ⟨fun e => absurd e hc,fun e => by rw [h.2] at e; exact absurd e.2 (by simp)⟩
 ·rename_i h
  constructor
  ·intro e
   refine ⟨e,?_⟩
   cases ok with
   | true => rfl
   | false => exact absurd ⟨e,rfl⟩ h
  ·exact fun e => e.1
theorem Zke {d:Nat} {s:IS} (h:(Z2 d s).2.2.2 = 0):(Z2 d s).2.1 < d ∧ Zqm (Z2 d s).1 = true:=by
 unfold Z2 at h ⊢
 have hk:(Zbw (Zg9 s)).2.2 = 0 → Zqm (Zbw (Zg9 s)).1 = true:=fun h => ((Zbk (by decide)).1 h).2
 generalize (Zbw (Zg9 s)).1 = kind at h hk ⊢
 generalize (Zbw (Zg9 s)).2 = s2 at h hk ⊢
 have g0:(gI 1 s2).2.2 = 0 → s2.2 = 0:=by
  unfold gI
  split
  ·rename_i h; exact fun _ => h
  ·exact fun e => e
 unfold ZzQ at h ⊢
 split
 ·rename_i hc
  rw [if_pos hc] at h
  have:=(Zbk (by decide)).1 h
  exact ⟨of_decide_eq_true this.2,hk (g0 hc.2)⟩
 ·rename_i hc
  rw [if_neg hc] at h
  have:=(Zbk (by decide)).1 h
  exact ⟨of_decide_eq_true this.2,hk (g0 this.1)⟩
theorem Zn9 {b:List Int} {coefs warm:List Int} {sh:Int} {c n:Nat} {s:IS} (h:Zs b s.1):Zs b (ZgT coefs sh c n warm s).2.1:=by
 unfold ZgT
 split
 ·exact ZqU h _ _
 ·exact ZqU h _ _
theorem ZrC {coefs warm:List Int} {sh:Int} {c n:Nat} {s:IS}:(ZgT coefs sh c n warm s).1.length ≤ warm.length + n:=by
 unfold ZgT
 split
 ·simp
 ·have h1:=Zth (n:=n) (o:=c) s.1
  simp only
  unfold ZcU
  repeat' split
  all_goals try simp
  have:=Ztg (c:=coefs) (sh:=sh) (K9 n c s.1).1 warm
  omega
theorem Zol {b:List Int} {s:IS} (h:Zs b s.1):Zs b (Zid s).1:=QD (QH h _) _ _
theorem Zom {b:List Int} {s:IS} (h:Zs b s.1):Zs b (Zaz s).2.1:=QD (QH h _) _ _
theorem ZAi {b:List Int} {c n:Nat} {warm:List Int} {sh:Nat} {x:List Int × IS} (h:Zs b x.2.1):Zs b (Zw0 c n warm sh x).2.1:=by
 unfold Zw0
 split
 ·exact h
 ·exact Zn9 h
theorem ZAj {b:List Int} {num:Bool} {c n:Nat} {w:List Int × IS} (h:Zs b w.2.1):Zs b (ZrB num c n w).2.1:=by
 unfold ZrB
 split
 ·exact ZAi (X0 _ _ _ (Zom (Zol h)))
 ·split
  ·exact h
  ·exact Zn9 h
theorem Zn8 {b:List Int} {num:Bool} {c n d:Nat} {s:IS} (h:Zs b s.1):Zs b (ZlR num c n d s).2.1:=by
 unfold ZlR
 split
 ·exact QD h _ _
 ·exact ZAj (X0 _ _ _ (QD h _ _))
theorem ZAh {b:List Int} {kind n d:Nat} {s:IS} (h:Zs b s.1):Zs b (Kt kind n d s).2.1:=by
 unfold Kt
 split
 ·exact X0 _ _ _ h
 ·split
  ·exact X0 _ _ _ h
  ·split
   ·exact Zn8 h
   ·exact Zn8 h
theorem ZrA {num:Bool} {c n d:Nat} {s:IS} (hc:c ≤ 8):(ZlR num c n d s).1.length ≤ 8 + n:=by
 unfold ZlR
 split
 ·simp
 ·have hl:=KN (w:=d) c (mI (decide (c ≤ n)) s 2) []
  generalize K2 d c (mI (decide (c ≤ n)) s 2) [] = w at hl
  simp only [List.length_nil,Nat.zero_add] at hl
  unfold ZrB Zw0
  repeat' split
  all_goals try simp
  ·have:=ZrC (coefs:=(K2 12 c (Zaz (Zid w.2)).2 []).1) (warm:=w.1) (sh:=((Zaz (Zid w.2)).1:Nat)) (c:=c) (n:=n) (s:=(K2 12 c (Zaz (Zid w.2)).2 []).2)
   omega
  ·have:=ZrC (coefs:=Xp (min 4 c)) (warm:=w.1) (sh:=0) (c:=c) (n:=n) (s:=w.2)
   omega
theorem Zrz {kind n d:Nat} {s:IS} (hk:Zqm kind = true):(Kt kind n d s).1.length ≤ 8 + n:=by
 have hk:=of_decide_eq_true hk
 unfold Kt
 split
 ·simp
 ·split
  ·rw [KN]; simp
  ·split
   ·exact ZrA (by omega)
   ·exact ZrA (by omega)
abbrev BT:=List Int × ((List Int × Int × Unit) × Int × Unit) × Unit
theorem ZQg (k:Nat) {b:List Int} (hb:ZW b = true) (hn:b.length < 268435456) (hk:8 * b.length + 50000 < k) {s:IS} (hs:Zs b s.1) {coefs warm:List Int} (hco:coefs.length ≤ 8192) (hw:warm.length ≤ 8) {sh:Int} {n c:Nat} (hnn:n ≤ 512) :
  ((ZbD k (Kq b s.1,(n:Int),(c:Int),())).bind fun y_2 => bif y_2.1.2.1 != (0:Int) then some (([],((y_2.2.1.1,y_2.2.1.2.1,()),y_2.1.2.1,()),()):BT) else (ZbE k ((coefs,sh,()),warm,y_2.1.1,())).bind fun y => some (y.1.1,((y_2.2.1.1,y_2.2.1.2.1,()),y.1.2.1,()),())) =
   some ((ZgT coefs sh c n warm s).1,(Kq b (ZgT coefs sh c n warm s).2.1,(ZgT coefs sh c n warm s).2.2,()),()):=by
 refine (Zf (ZFd k hb hn hs hk n c) _).trans ?_
 unfold ZgT
 simp only
 rw [ZT]
 by_cases h:(K9 n c s.1).2.1 = 0
 ·rw [Zi (by simpa using h),if_neg (by simpa using h)]
  have hl:=Zth (n:=n) (o:=c) s.1
  exact Zf (ZFf k (by omega) hco (by omega) (by omega)) _
 ·rw [Zb h,if_pos h]
theorem ZK7 (k:Nat) {b:List Int} (hb:ZW b = true) (hn:b.length < 268435456) (hk:8 * b.length + 50000 < k) {s:IS} (hs:Zs b s.1) {kind n d:Nat} (hkd:Zqm kind = true) (h1:1 ≤ n) (hnn:n ≤ 512) (hd:d ≤ 32) :
  Zze k ((Kq b s.1,s.2,()),(kind:Int),(n:Int),(d:Int),()) = some ((Kt kind n d s).1,(Kq b (Kt kind n d s).2.1,(Kt kind n d s).2.2,()),()):=by
 show ZjL k _ = _
 simp only [ZjL]
 have hkd:=of_decide_eq_true hkd
 unfold Kt
 rw [ZB,ZB]
 by_cases h0:kind = 0
 ·rw [Zb (by omega),if_pos h0]
  refine (Zf (Zb6 k hb hn (by omega) hs (w:=d) (n:=1) hd (by omega)) _).trans ?_
  have hl:=KN (w:=d) 1 s []
  generalize K2 d 1 s [] = w at hl
  obtain ⟨w1,w2⟩:=w
  match w1,hl with
  | [x],_ =>
   refine (Zf (ZE9 k x h1 hnn (by omega)) _).trans ?_
   rfl
 ·rw [Zi (by omega),if_neg h0]
  by_cases hk1:kind = 1
  ·rw [Zb (by omega),if_pos hk1]
   exact Zf (Zb6 k hb hn (by omega) hs (w:=d) (n:=n) hd hnn) _
  ·rw [Zi (by omega),if_neg hk1]
   by_cases h31:31 < kind
   ·simp only [Zb (show (31:Int) < (kind:Int) by omega)]
    rw [if_pos h31]
    have ec:IntKind.i64.wrap ((kind:Int) - 31) = ((kind - 31:Nat):Int):=by rw [ZQ (by omega)]; omega
    simp only [ec]
    have hc8:kind - 31 ≤ 8:=by omega
    generalize kind - 31 = c at hc8
    have edn:decide ((c:Int) ≤ (n:Int)) = decide (c ≤ n):=by
     by_cases h:c ≤ n
     ·rw [QX h,QX (by omega)]
     ·rw [QN h,QN (by omega)]
    rw [edn]
    refine (Zf (Yx k (s:=s) _) _).trans ?_
    unfold ZlR
    have r1:=QD hs (decide (c ≤ n)) 2
    generalize mI (decide (c ≤ n)) s 2 = s1 at r1 ⊢
    simp only
    rw [ZT]
    by_cases he:s1.2 = 0
    ·rw [Zi (by simpa using he),if_neg (show ¬ s1.2 ≠ 0 by simpa using he)]
     refine (Zf (Zb6 k hb hn (by omega) r1 (w:=d) (n:=c) hd (by omega)) _).trans ?_
     have r2:=X0 (w:=d) c s1 [] r1
     have hl:=KN (w:=d) c s1 []
     generalize K2 d c s1 [] = w at r2 hl ⊢
     simp only [List.length_nil,Nat.zero_add] at hl
     have e4:(if (4:Int) < (c:Int) then (4:Int) else (c:Int)) = ((min 4 c:Nat):Int):=by split <;> omega
     simp only
     rw [e4]
     refine (Zf (ZkD k (min 4 c) (by omega) (by omega)) _).trans ?_
     unfold ZrB
     rw [if_pos rfl]
     refine (Zf (Zb3 k hb hn (by omega) r2 (w:=4) (by omega)) _).trans ?_
     refine (Zf (Yx k (s:=(gI 4 w.2).2) _) _).trans ?_
     rw [show ((((gI 4 w.2).1:Nat):Int) == (11:Int)) = ((gI 4 w.2).1 == 11) from WB _ 11]
     have r3:=Zol r2
     change ((YH k ((Kq b (Zid w.2).1,(Zid w.2).2,()),5,())).bind _) = _
     generalize Zid w.2 = s3 at r3 ⊢
     refine (Zf (Zb3 k hb hn (by omega) r3 (w:=5) (by omega)) _).trans ?_
     refine (Zf (Yx k (s:=(gI 5 s3).2) _) _).trans ?_
     have e15:decide ((((gI 5 s3).1:Nat):Int) ≤ 15) = decide ((gI 5 s3).1 ≤ 15):=by
      by_cases h:(gI 5 s3).1 ≤ 15
      ·rw [QX h,QX (by omega)]
      ·rw [QN h,QN (by omega)]
     rw [e15]
     have r4:=Zom r3
     change ((ZaC k ((Kq b (Zaz s3).2.1,(Zaz s3).2.2,()),(c:Int),12,())).bind fun y_6 => bif y_6.2.1.2.1 != (0:Int) then some (([],((y_6.2.1.1.1,y_6.2.1.1.2.1,()),y_6.2.1.2.1,()),()):BT) else (ZbD k ((y_6.2.1.1.1,y_6.2.1.1.2.1,()),(n:Int),(c:Int),())).bind fun y_7 => bif y_7.1.2.1 != (0:Int) then some ([],((y_7.2.1.1,y_7.2.1.2.1,()),y_7.1.2.1,()),()) else (ZbE k ((y_6.1,(((Zaz s3).1:Nat):Int),()),w.1,y_7.1.1,())).bind fun y => some (y.1.1,((y_7.2.1.1,y_7.2.1.2.1,()),y.1.2.1,()),())) = _
     generalize (Zaz s3).1 = sh
     generalize (Zaz s3).2 = s4 at r4 ⊢
     refine (Zf (Zb6 k hb hn (by omega) r4 (w:=12) (n:=c) (by omega) (by omega)) _).trans ?_
     have r5:=X0 (w:=12) c s4 [] r4
     have hl5:=KN (w:=12) c s4 []
     generalize K2 12 c s4 [] = x at r5 hl5 ⊢
     simp only [List.length_nil,Nat.zero_add] at hl5
     unfold Zw0
     simp only
     rw [ZT]
     by_cases hx:x.2.2 = 0
     ·rw [Zi (by simpa using hx),if_neg (by simpa using hx)]
      exact ZQg k hb hn hk r5 (by omega) (by omega) hnn
     ·rw [Zb hx,if_pos hx]
    ·rw [Zb he,if_pos he]
   ·simp only [Zi (show ¬ (31:Int) < (kind:Int) by omega)]
    rw [if_neg h31]
    have ec:IntKind.i64.wrap ((kind:Int) - 8) = ((kind - 8:Nat):Int):=by rw [ZQ (by omega)]; omega
    simp only [ec]
    have hc8:kind - 8 ≤ 4:=by omega
    generalize kind - 8 = c at hc8
    have edn:decide ((c:Int) ≤ (n:Int)) = decide (c ≤ n):=by
     by_cases h:c ≤ n
     ·rw [QX h,QX (by omega)]
     ·rw [QN h,QN (by omega)]
    rw [edn]
    refine (Zf (Yx k (s:=s) _) _).trans ?_
    unfold ZlR
    have r1:=QD hs (decide (c ≤ n)) 2
    generalize mI (decide (c ≤ n)) s 2 = s1 at r1 ⊢
    simp only
    rw [ZT]
    by_cases he:s1.2 = 0
    ·rw [Zi (by simpa using he),if_neg (show ¬ s1.2 ≠ 0 by simpa using he)]
     refine (Zf (Zb6 k hb hn (by omega) r1 (w:=d) (n:=c) hd (by omega)) _).trans ?_
     have r2:=X0 (w:=d) c s1 [] r1
     have hl:=KN (w:=d) c s1 []
     generalize K2 d c s1 [] = w at r2 hl ⊢
     simp only [List.length_nil,Nat.zero_add] at hl
     have e4:(if (4:Int) < (c:Int) then (4:Int) else (c:Int)) = ((min 4 c:Nat):Int):=by split <;> omega
     simp only
     rw [e4]
     refine (Zf (ZkD k (min 4 c) (by omega) (by omega)) _).trans ?_
     unfold ZrB
     rw [if_neg (by simp)]
     simp only
     rw [ZT]
     by_cases hx:w.2.2 = 0
     ·rw [Zi (by simpa using hx),if_neg (by simpa using hx)]
      exact ZQg k hb hn hk r2 (by rw [ZBP _ (by omega)]; omega) (by omega) hnn
     ·rw [Zb hx,if_pos hx]
    ·rw [Zb he,if_pos he]
def Wf (n d:Nat) (r:List Bool):List Int × Int × List Bool :=
 if ¬ (1 ≤ n ∧ n ≤ 512 ∧ 4 ≤ d ∧ d ≤ 25) then ([],1,r)
 else if (Z2 d (r,0)).2.2.2 ≠ 0 then ([],(Z2 d (r,0)).2.2.2,(Z2 d (r,0)).2.2.1)
 else if (Kt (Z2 d (r,0)).1 n (d - (Z2 d (r,0)).2.1) (Z2 d (r,0)).2.2).2.2 ≠ 0 then ([],(Kt (Z2 d (r,0)).1 n (d - (Z2 d (r,0)).2.1) (Z2 d (r,0)).2.2).2.2,(Kt (Z2 d (r,0)).1 n (d - (Z2 d (r,0)).2.1) (Z2 d (r,0)).2.2).2.1)
 else if (Kt (Z2 d (r,0)).1 n (d - (Z2 d (r,0)).2.1) (Z2 d (r,0)).2.2).1.all (WU · (d - (Z2 d (r,0)).2.1)) = true then
  ((Kt (Z2 d (r,0)).1 n (d - (Z2 d (r,0)).2.1) (Z2 d (r,0)).2.2).1.map (fun x => x * 2 ^ (Z2 d (r,0)).2.1),0,(Kt (Z2 d (r,0)).1 n (d - (Z2 d (r,0)).2.1) (Z2 d (r,0)).2.2).2.1)
 else ([],12,(Kt (Z2 d (r,0)).1 n (d - (Z2 d (r,0)).2.1) (Z2 d (r,0)).2.2).2.1)
theorem Zrv {b:List Int} {r:List Bool} (h:Zs b r) (n d:Nat):Zs b (Wf n d r).2.2:=by
 unfold Wf
 have h1:=Zkd (s:=(r,0)) h d
 repeat' split
 all_goals first | exact h | exact h1 | exact ZAh h1
theorem ZDY {x:Int} {d k:Nat} (hk:k < d) (hd:d ≤ 32) (h:WU x (d - k) = true):WU (x * 2 ^ k) d = true ∧ -9223372036854775808 ≤ x * 2 ^ k ∧ x * 2 ^ k ≤ 9223372036854775807:=by
 unfold WU at h ⊢
 rw [if_neg (by omega),decide_eq_true_eq] at h
 rw [if_neg (by omega),decide_eq_true_eq]
 have hp:(0:Int) < 2 ^ k:=Int.pow_pos (by omega)
 have e:(2:Int) ^ (d - 1) = 2 ^ (d - k - 1) * 2 ^ k:=by rw [← Int.pow_add]; congr 1; omega
 have h1 : -(2 ^ (d - 1):Int) ≤ x * 2 ^ k:=by rw [e,← Int.neg_mul]; exact Int.mul_le_mul_of_nonneg_right h.1 (by omega)
 have h2:x * 2 ^ k < 2 ^ (d - 1):=by rw [e]; exact Int.mul_lt_mul_of_pos_right h.2 hp
 refine ⟨⟨h1,h2⟩,?_⟩
 rw [Qp (d - 1)] at h1 h2
 have:2 ^ (d - 1) ≤ 2 ^ 31:=Nat.pow_le_pow_right (by omega) (by omega)
 generalize 2 ^ (d - 1) = Q at h1 h2 this
 omega
theorem ZKd (k:Nat) {b:List Int} (hb:ZW b = true) (hn:b.length < 268435456) (hk:8 * b.length + 50000 < k) {r:List Bool} (hr:Zs b r) (n d:Nat) :
  ZyS k (Kq b r,(n:Int),(d:Int),()) = some (((Wf n d r).1,(Wf n d r).2.1,()),Kq b (Wf n d r).2.2,()):=by
 show Zjd k (Zvr k) _ = _
 simp only [Zjd]
 rw [Zzc]
 simp only [Qb]
 unfold Wf
 by_cases h:1 ≤ n ∧ n ≤ 512 ∧ 4 ≤ d ∧ d ≤ 25
 ·rw [if_neg (by simpa using h),QX (by omega)]
  simp only [Bool.not_true,cond_false]
  refine (Zf (ZK6 k hb hn (by omega) (s:=(r,0)) hr d) _).trans ?_
  have hz:=Zke (d:=d) (s:=(r,0))
  have r1:=Zkd (s:=(r,0)) hr d
  generalize Z2 d (r,0) = hd at hz r1 ⊢
  obtain ⟨kind,kk,s1⟩:=hd
  simp only at hz r1 ⊢
  rw [ZT]
  by_cases he:s1.2 = 0
  ·rw [Zi (by simpa using he),if_neg (by simpa using he)]
   obtain ⟨hkd,hkind⟩:=hz he
   have e1:IntKind.i64.wrap ((d:Int) - (kk:Int)) = ((d - kk:Nat):Int):=by rw [ZQ (by omega)]; omega
   rw [e1]
   refine (Zf (ZK7 k hb hn hk r1 hkind h.1 h.2.1 (d:=d - kk) (by omega)) _).trans ?_
   have hl:=Zrz (kind:=kind) (n:=n) (d:=d - kk) (s:=s1) hkind
   generalize Kt kind n (d - kk) s1 = y at hl ⊢
   simp only
   rw [ZT]
   by_cases hy:y.2.2 = 0
   ·rw [Zi (by simpa using hy),if_neg (by simpa using hy)]
    have:=Zu (A:=List Int) (R:=(List Int × Int × Unit) × (List Int × Int × Unit) × Unit) (step:=fun L1 => Zev k L1)
     (fun i out => (Int.ofNat y.1.length,Int.ofNat i,y.1,(d:Int),(kk:Int),b,((Z4 b y.2.1:Nat):Int),out)) y.1
     (fun l' out => some (if l'.all (WU · (d - kk)) = true then ((out ++ l'.map (fun x => x * 2 ^ kk),0,()),Kq b y.2.1,()) else (([],12,()),Kq b y.2.1,())))
     (fun i out => out.length = i)
     (fun L out _ => by simp only [Zev]; rw [Zi (QV _)]; simp)
     (fun L i hi out ho hL => by
      simp only [Zev]
      rw [Zb (KU hi),Zb (Xx hi),ZK hi,e1,Zzf k _ (by omega) (by omega)]
      simp only [Qb]
      rw [List.all_cons]
      cases hs:WU y.1[i] (d - kk) with
      | false => simp
      | true =>
       simp only [Bool.not_true,cond_false,Bool.true_and]
       have hsh:=(ZDY hkd (by omega) hs).2
       rw [Zb (by omega),QS,Nat.min_eq_left (by omega),ZQ hsh,Zb (by simp only [List.length_singleton]; omega),Qq hi (by omega),hL _ (by simp; omega)]
       simp only [List.map_cons,List.append_assoc,List.singleton_append])
     k 0 [] rfl (by omega) (Nat.zero_le _)
    rw [List.drop_zero] at this
    refine Eq.trans this ?_
    split <;> simp
   ·rw [Zb hy,if_pos hy]
  ·rw [Zb he,if_pos he]
 ·rw [if_pos h,QN (by omega)]
  rfl
end Go.Sh
namespace Go.Sh
open Go Go.Proofs
def K3 (x:Nat):Nat:=if x < 128 then 0 else if x < 192 then 1 else if x < 224 then 2 else if x < 240 then 3 else if x < 248 then 4 else if x < 252 then 5 else if x < 254 then 6 else if x < 255 then 7 else 8
theorem ZLt:∀ x:Fin 256,Zk9 0 (IntKind.u8.wrap (Int.ofNat (BitVec.ofInt 8 255 ^^^ BitVec.ofInt 8 (x.val:Int)).toNat),()) = some (((K3 x.val:Nat):Int),()):=by decide +kernel
theorem ZFS (k:Nat) {x:Nat} (h:x < 256):Zk9 k (IntKind.u8.wrap (Int.ofNat (BitVec.ofInt 8 255 ^^^ BitVec.ofInt 8 (x:Int)).toNat),()) = some (((K3 x:Nat):Int),()):=ZLt ⟨x,h⟩
theorem ZDM (x:Nat):K3 x ≤ 8:=by
 unfold K3
 repeat' split
 all_goals omega
theorem ZLm:∀ (x:Fin 256) (k:Fin 8),IntKind.i64.wrap (Int.ofNat (BitVec.ofInt 64 (IntKind.i64.wrap (x.val:Int)) &&& BitVec.ofInt 64 (Int.fdiv (127:Int) ((2:Int) ^ min k.val 64))).toNat) = ((x.val % 2 ^ (7 - k.val):Nat):Int):=by decide +kernel
def cgL:Nat → List Int → Nat → Nat → Option (Nat × Nat)
 | 0,_,a,g => some (a,g)
 | n + 1,[],a,g => cgL n [] (a * 64) (g * 64 + 63)
 | n + 1,x :: xs,a,g => if x.toNat / 64 = 2 then cgL n xs (a * 64 + x.toNat % 64) (g * 64 + x.toNat % 64) else none
def Zlr (b:List Int):Nat × Nat × Int:=match b with
 | [] => (0,0,10)
 | x :: xs => if K3 x.toNat = 0 then (x.toNat,1,0) else if K3 x.toNat = 1 then (0,0,2) else if 7 < K3 x.toNat then (0,0,2)
  else match cgL (K3 x.toNat - 1) xs (x.toNat % 2 ^ (7 - K3 x.toNat)) (x.toNat % 2 ^ (7 - K3 x.toNat)) with
   | none => (0,0,2)
   | some (a,g) => if g < 2 ^ Q9 (K3 x.toNat - 1) then (0,0,2) else if xs.length + 1 < K3 x.toNat then (0,0,10) else (a,K3 x.toNat,0)
theorem ZPm {a m:Nat} (ha:a < 1125899906842624) (hm:m < 64):IntKind.i64.wrap (Int.ofNat (BitVec.ofInt 64 (IntKind.i64.wrap ((a:Int) * 64)) ||| BitVec.ofInt 64 (m:Int)).toNat) = ((a * 64 + m:Nat):Int):=by
 have h1:IntKind.i64.wrap ((a:Int) * 64) = ((a * 64:Nat):Int):=by rw [ZQ (by omega)]; omega
 rw [h1,orN (by omega) (by omega)]
 have:=Nat.shiftLeft_add_eq_or_of_lt (i:=6) (show m < 2 ^ 6 from hm) a
 rw [Nat.shiftLeft_eq] at this
 rw [show a * 64 = a * 2 ^ 6 from rfl,← this,ZQ (by omega)]
theorem ZUb {x:Nat} (hx:x < 256):IntKind.i64.wrap (Int.ofNat (BitVec.ofInt 64 (IntKind.i64.wrap (x:Int)) &&& BitVec.ofInt 64 63).toNat) = ((x % 64:Nat):Int):=by
 rw [ZQ (n:=(x:Int)) (by omega),show (63:Int) = ((63:Nat):Int) from rfl,Zz8 (by omega) (by omega),show (63:Nat) = 2 ^ 6 - 1 from rfl,Nat.and_two_pow_sub_one_eq_mod,ZQ (by omega)]
theorem ZE2 (k:Nat) {b:List Int} (hb:ZW b = true) {kk:Nat} (h2:2 ≤ kk) (h7:kk ≤ 7):∀ (d m i a g:Nat),i + d = kk → 1 ≤ i → d < m → a < 2 ^ (6 * i + 6) → g < 2 ^ (6 * i + 6) →
  Zm (fun L1 => Zb2 k L1) m ((i:Int),(kk:Int),b,(a:Int),(g:Int)) = some (match cgL d (b.drop i) a g with
   | none => (0,0,2,())
   | some (a,g) => if g < 2 ^ Q9 (kk - 1) then (0,0,2,()) else if b.length < kk then (0,0,10,()) else ((a:Int),(kk:Int),0,()),()):=by
 intro d
 induction d with
 | zero =>
  intro m i a g hi h1 hm ha hg
  obtain ⟨m,rfl⟩:=Zn hm
  rw [Zd]
  simp only [Zb2]
  have e1:IntKind.i64.wrap ((kk:Int) - 1) = ((kk - 1:Nat):Int):=by rw [ZQ (by omega)]; omega
  rw [Zi (by omega),e1,ZpY k (kk - 1) (by omega)]
  simp only [Qb,cgL]
  have hr:Q9 (kk - 1) ≤ 31:=by unfold Q9; split <;> omega
  rw [Zb (by omega),Ko hr]
  by_cases hlt:g < 2 ^ Q9 (kk - 1)
  ·rw [Zb (by omega),if_pos hlt]
  ·rw [Zi (by omega),if_neg hlt]
   by_cases hl:b.length < kk
   ·rw [Zb (by simp only [Qh]; omega),if_pos hl]
   ·rw [Zi (by simp only [Qh]; omega),if_neg hl]
 | succ d ih =>
  intro m i a g hi h1 hm ha hg
  obtain ⟨m,rfl⟩:=Zn (show 0 < m by omega)
  rw [Zd]
  simp only [Zb2]
  have hpow:2 ^ (6 * i + 6) ≤ 2 ^ 42:=Nat.pow_le_pow_right (by omega) (by omega)
  have hnext:2 ^ (6 * (i + 1) + 6) = 64 * 2 ^ (6 * i + 6):=by rw [show 6 * (i + 1) + 6 = (6 * i + 6) + 6 by omega,Nat.pow_add]; omega
  have e2:IntKind.i64.wrap ((i:Int) + 1) = ((i + 1:Nat):Int):=by rw [ZQ (by omega)]; rfl
  rw [Zb (by omega)]
  by_cases hlt:i < b.length
  ·obtain ⟨x,hx,hxe⟩:=Yg hb hlt
   rw [Zb (by simp only [Qh]; omega),Zb (by simp only [Qh]; omega),QS,WZ hlt,hxe,List.drop_eq_getElem_cons hlt,hxe]
   have hd:((x:Nat):Int).fdiv 64 = ((x / 64:Nat):Int):=by rw [Int.fdiv_eq_ediv_of_nonneg _ (by omega)]; rfl
   rw [hd,ZT]
   simp only [cgL,QS]
   by_cases h64:x / 64 = 2
   ·rw [Zi (by omega),if_pos h64,Zb (by simp only [Qh]; omega),ZUb hx,ZPm (by omega) (by omega),ZPm (by omega) (by omega),e2]
    exact ih m (i + 1) _ _ (by omega) (by omega) (by omega) (by omega) (by omega)
   ·rw [Zb (by omega),if_neg h64]
  ·rw [Zi (by simp only [Qh]; omega),show (0:Int) = ((0:Nat):Int) from rfl,show (63:Int) = ((63:Nat):Int) from rfl,ZPm (by omega) (by omega),ZPm (by omega) (by omega),e2]
   have hd0:b.drop i = []:=List.drop_eq_nil_of_le (by omega)
   have hd1:b.drop (i + 1) = []:=List.drop_eq_nil_of_le (by omega)
   have:=ih m (i + 1) (a * 64 + 0) (g * 64 + 63) (by omega) (by omega) (by omega) (by omega) (by omega)
   rw [hd1] at this
   rw [hd0]
   exact this
theorem ZE3 (k:Nat) {b:List Int} (hb:ZW b = true) (hk:20 < k):ZoK k (b,()) = some (((((Zlr b).1:Nat):Int),(((Zlr b).2.1:Nat):Int),(Zlr b).2.2,()),()):=by
 show ZfP k (ZmX k) _ = _
 simp only [ZfP]
 match b,hb with
 | [],_ => rfl
 | x :: xs,hb =>
  obtain ⟨y,hy,hye⟩:=Yg hb (i:=0) (by simp)
  simp only [List.getElem_cons_zero] at hye
  subst hye
  rw [show (Int.ofNat ((y:Int) :: xs).length == (0:Int)) = false from by rw [ZB,QN]; simp only [Qh,List.length_cons]; omega]
  simp only [cond_false]
  have hpos:(0:Int) ≤ 0 ∧ (0:Int) < Int.ofNat ((y:Int) :: xs).length:=by simp only [Qh,List.length_cons]; omega
  rw [Zb hpos,show ((y:Int) :: xs).getD 0 0 = (y:Int) from rfl,ZFS k hy]
  simp only [Qb]
  unfold Zlr
  simp only [QS]
  have h8:=ZDM y
  rw [ZB]
  by_cases h0:K3 y = 0
  ·rw [Zb (by omega),Zb hpos,if_pos h0,ZQ (by omega)]
   rfl
  ·rw [Zi (by omega),if_neg h0,ZB]
   by_cases h1:K3 y = 1
   ·rw [Zb (by omega),if_pos h1]
    rfl
   ·rw [Zi (by omega),if_neg h1]
    by_cases h7:7 < K3 y
    ·rw [Zb (by omega),if_pos h7]
     rfl
    ·rw [Zi (by omega),if_neg h7,Zb hpos,Zb (by omega),Zb hpos,Zb (by omega)]
     have hm:=ZLm ⟨y,hy⟩ ⟨K3 y,by omega⟩
     simp only at hm
     rw [hm]
     have hlt:y % 2 ^ (7 - K3 y) < 2 ^ (6 * 1 + 6):=Nat.lt_of_le_of_lt (Nat.mod_le _ _) (by omega)
     refine (ZE2 k hb (kk:=K3 y) (by omega) (by omega) (K3 y - 1) k 1 _ _ (by omega) (by omega) (by omega) hlt hlt).trans ?_
     rw [show ((y:Int) :: xs).drop 1 = xs from rfl]
     cases cgL (K3 y - 1) xs (y % 2 ^ (7 - K3 y)) (y % 2 ^ (7 - K3 y)) with
     | none => rfl
     | some ag =>
      obtain ⟨a,g⟩:=ag
      simp only [List.length_cons]
      by_cases hg:g < 2 ^ Q9 (K3 y - 1)
      ·rw [if_pos hg,if_pos hg]; rfl
      ·rw [if_neg hg,if_neg hg]
       by_cases hl:xs.length + 1 < K3 y
       ·rw [if_pos hl,if_pos hl]; rfl
       ·rw [if_neg hl,if_neg hl]
def tgL (m x y:Int):Int:=if m = 9 then x + y else if m = 10 then (2 * x + y % 2 + y) / 2 else x
def tgR (m x y:Int):Int:=if m = 8 then x - y else if m = 10 then (2 * x + y % 2 - y) / 2 else y
theorem ZTO {x y:Int} (hx:Qk x) (hy:Qk y):IntKind.i64.wrap (Int.ofNat (BitVec.ofInt 64 (IntKind.i64.wrap (x * 2)) ||| BitVec.ofInt 64 (IntKind.i64.wrap (Int.ofNat (BitVec.ofInt 64 y &&& BitVec.ofInt 64 1).toNat))).toNat) = 2 * x + y % 2:=by
 unfold Qk at hx hy
 have e1:IntKind.i64.wrap (Int.ofNat (BitVec.ofInt 64 y &&& BitVec.ofInt 64 1).toNat) = (((y % 2).toNat:Nat):Int):=by
  rw [BitVec.toNat_and,XL,show (BitVec.ofInt 64 1).toNat = 1 from rfl,Nat.and_one_is_mod]
  have:KM y % 2 = (y % 2).toNat:=by unfold KM; omega
  rw [this,ZQ (by simp only [Qh]; omega)]
  rfl
 rw [e1,ZQ (n:=x * 2) (by omega),BitVec.toNat_or,XL,XL]
 have e2:KM (((y % 2).toNat:Nat):Int) = (y % 2).toNat:=by unfold KM; omega
 obtain ⟨q,hq⟩:∃ q,KM (x * 2) = q * 2:=⟨KM (x * 2) / 2,by unfold KM; omega⟩
 have hb:(y % 2).toNat < 2 ^ 1:=by omega
 have:=Nat.shiftLeft_add_eq_or_of_lt hb q
 rw [Nat.shiftLeft_eq] at this
 rw [e2,hq,show q * 2 = q * 2 ^ 1 from rfl,← this]
 have h3:q * 2 = KM (x * 2):=hq.symm
 unfold KM at h3
 rw [IntKind.wrap_i64]
 simp only [Qh]
 omega
def Zkg (m:Int) (A B:List Int):List Int:=(A.zip B).map fun x => tgL m x.1 x.2
def Zkh (m:Int) (A B:List Int):List Int:=(A.zip B).map fun x => tgR m x.1 x.2
def Y1 (x:Int):Bool:=decide (-16777216 ≤ x ∧ x ≤ 16777216)
theorem ZOG (k:Nat) {L R:List Int} (hk:L.length < k) (h:L.length = R.length) (hn:L.length ≤ 8192) :
  ZpP k (L,R,()) = some (if (L.zip R).all (fun x => Y1 x.1 && Y1 x.2) = true then (ZeW L R,0,()) else ([],12,()),()):=by
 show Zcz k (ZpQ k) _ = _
 simp only [Zcz]
 rw [show (Int.ofNat L.length != Int.ofNat R.length) = false from by rw [h]; simp]
 simp only [cond_false]
 rw [Zi (by simp only [Qh]; omega)]
 have:=Zu (A:=List (Nat × Nat)) (step:=fun L1 => KG k L1) (fun i acc => (Int.ofNat L.length,Int.ofNat i,L,R,acc)) (L.zip R)
  (fun l acc => some (if l.all (fun x => Y1 x.1 && Y1 x.2) = true then (acc ++ l.map (fun x => (FloatKind.f64.nearest x.1,FloatKind.f64.nearest x.2)),0,()) else ([],12,()),())) (fun i acc => acc.length = i)
  (fun L1 acc ha => by
   simp only [KG]
   rw [List.length_zip,← h,Nat.min_self,Zi (QV _)]
   simp)
  (fun L1 i hi acc ha hL1 => by
   have hi2:i < L.length:=by simp at hi; omega
   have hi3:i < R.length:=by omega
   simp only [KG]
   rw [Zb (KU hi2),Zb (Xx hi2),Zb (Xx hi3),ZK hi2,ZK hi3,List.all_cons,List.getElem_zip]
   have hok:∀ x:Int,Y1 x = true ↔ (¬ x < -16777216 ∧ ¬ 16777216 < x):=by intro x; unfold Y1; rw [decide_eq_true_eq]; omega
   by_cases h1:L[i] < -16777216
   ·have:Y1 L[i] = false:=by rw [Bool.eq_false_iff]; intro hh; exact ((hok _).1 hh).1 h1
    rw [Zb h1,this]; rfl
   ·rw [Zi h1]
    by_cases h2:16777216 < L[i]
    ·have:Y1 L[i] = false:=by rw [Bool.eq_false_iff]; intro hh; exact ((hok _).1 hh).2 h2
     rw [Zb h2,this]; rfl
    ·have hl:Y1 L[i] = true:=(hok _).2 ⟨h1,h2⟩
     rw [Zi h2]
     by_cases h3:R[i] < -16777216
     ·have:Y1 R[i] = false:=by rw [Bool.eq_false_iff]; intro hh; exact ((hok _).1 hh).1 h3
      rw [Zb h3,hl,this]; rfl
     ·rw [Zi h3]
      by_cases h4:16777216 < R[i]
      ·have:Y1 R[i] = false:=by rw [Bool.eq_false_iff]; intro hh; exact ((hok _).1 hh).2 h4
       rw [Zb h4,hl,this]; rfl
      ·have hr:Y1 R[i] = true:=(hok _).2 ⟨h3,h4⟩
       rw [Zi h4,Zb (by simp; omega),Qq hi2 (by omega),hL1 _ (by simp [ha]),hl,hr]
       simp only [Bool.true_and,Bool.and_true,List.map_cons,List.append_assoc,List.singleton_append]) k 0 [] rfl (by simp; omega) (Nat.zero_le _)
 exact Eq.trans this (by rw [List.drop_zero]; rfl)
theorem ZLP {m x y:Int} (hm:ZjU m) (hx:Qk x) (hy:Qk y) : -300000000 ≤ tgL m x y ∧ tgL m x y ≤ 300000000 ∧ -300000000 ≤ tgR m x y ∧ tgR m x y ≤ 300000000:=by
 unfold Qk at hx hy
 unfold tgL tgR
 rcases hm with rfl | rfl | rfl | rfl
 ·simp; omega
 ·simp; omega
 ·simp; omega
 ·simp; omega
def WA (m:Int) (A B:List Int):List (Nat × Nat) × Int :=
 if A.length ≠ B.length then ([],1) else if ((Zkg m A B).zip (Zkh m A B)).all (fun x => Y1 x.1 && Y1 x.2) = true then (ZeW (Zkg m A B) (Zkh m A B),0) else ([],12)
theorem ZzL {xs:List Int} {g:List Int} {i:Nat} {v:Int} (h:i < xs.length) (hx:∀ j (h:j < i),xs[j]? = g[j]?) (hv:g[i]? = some v):∀ j,j < i + 1 → (xs.set i v)[j]? = g[j]? := by
 intro j hj
 rw [List.getElem?_set]
 split
 ·rename_i e; subst e; rw [hv]; try rw [if_pos h]
 ·exact hx j (by omega)
theorem ZKj (k:Nat) {A B:List Int} {m:Int} (hm:ZjU m) (hn:A.length ≤ 600) (hk:1000 < k) (hA:∀ x ∈ A,Qk x) (hB:∀ x ∈ B,Qk x) :
  ZpM k (A,B,m,()) = some (((WA m A B).1,(WA m A B).2,()),()):=by
 show Zjg k (Zvw k) _ = _
 simp only [Zjg]
 rw [Zzh k hm]
 simp only [Qb,Bool.not_true,cond_false]
 by_cases hl:A.length = B.length
 case neg =>
  rw [ZT,Zb (by simp only [Qh]; omega)]
  unfold WA
  rw [if_pos hl]
 rw [show (Int.ofNat A.length != Int.ofNat B.length) = false from by rw [hl]; simp]
 simp only [cond_false]
 rw [Zi (by simp only [Qh]; omega),Zb (by simp only [Qh]; omega),Zb (by simp only [Qh]; omega)]
 have hzl:(A.zip B).length = A.length:=by rw [List.length_zip]; omega
 have hLl:(Zkg m A B).length = A.length:=by unfold Zkg; rw [List.length_map,hzl]
 have hRl:(Zkh m A B).length = A.length:=by unfold Zkh; rw [List.length_map,hzl]
 have hgL:∀ (i:Nat) (h:i < A.length),(Zkg m A B)[i]? = some (tgL m A[i] (B[i]'(by omega))):=by
  intro i h
  rw [List.getElem?_eq_getElem (by omega)]
  unfold Zkg
  rw [List.getElem_map,List.getElem_zip]
 have hgR:∀ (i:Nat) (h:i < A.length),(Zkh m A B)[i]? = some (tgR m A[i] (B[i]'(by omega))):=by
  intro i h
  rw [List.getElem?_eq_getElem (by omega)]
  unfold Zkh
  rw [List.getElem_map,List.getElem_zip]
 have:=Zu (A:=List Int × List Int) (R:=(List (Nat × Nat) × Int × Unit) × Unit) (step:=fun L1 => Zcy k L1)
  (fun i a => (Int.ofNat A.length,Int.ofNat i,A,B,m,a.1,a.2)) A
  (fun l' a => some (((WA m A B).1,(WA m A B).2,()),()))
  (fun i a => a.1.length = A.length ∧ a.2.length = A.length ∧ (∀ j,j < i → a.1[j]? = (Zkg m A B)[j]?) ∧ (∀ j,j < i → a.2[j]? = (Zkh m A B)[j]?))
  (fun L a ha => by
   simp only [Zcy]
   rw [Zi (QV _)]
   have e1:a.1 = Zkg m A B:=by
    apply List.ext_getElem?
    intro j
    by_cases hj:j < A.length
    ·exact ha.2.2.1 j hj
    ·rw [List.getElem?_eq_none (by omega),List.getElem?_eq_none (by omega)]
   have e2:a.2 = Zkh m A B:=by
    apply List.ext_getElem?
    intro j
    by_cases hj:j < A.length
    ·exact ha.2.2.2 j hj
    ·rw [List.getElem?_eq_none (by omega),List.getElem?_eq_none (by omega)]
   rw [e1,e2,ZOG k (by omega) (by omega) (by omega)]
   simp only [Qb]
   unfold WA
   rw [if_neg (show ¬ A.length ≠ B.length from fun h => h hl)]
   split <;> rfl)
  (fun L i hi a ha hL => by
   have hi2:i < B.length:=by omega
   have hx:=hA A[i] (List.getElem_mem hi)
   have hy:=hB B[i] (List.getElem_mem hi2)
   have hbd:=ZLP hm hx hy
   have key:Zcy k L (Int.ofNat A.length,Int.ofNat i,A,B,m,a.1,a.2) = L (Int.ofNat A.length,Int.ofNat (i + 1),A,B,m,a.1.set i (tgL m A[i] B[i]),a.2.set i (tgR m A[i] B[i])):=by
    have hor:=ZTO hx hy
    unfold Qk at hx hy
    simp only [Zcy]
    rw [Zb (KU hi),Zb (Xx hi),Zb (Xx hi2),ZK hi,ZK hi2,Zi (by split <;> omega),Zi (by split <;> omega)]
    have c1:(0:Int) ≤ Int.ofNat i ∧ Int.ofNat i < Int.ofNat a.1.length:=by rw [ha.1]; exact Xx hi
    have c2:(0:Int) ≤ Int.ofNat i ∧ Int.ofNat i < Int.ofNat a.2.length:=by rw [ha.2.1]; exact Xx hi
    have c3:(Int.ofNat i).toNat < a.1.length:=by rw [ha.1]; simpa using hi
    have c4:(Int.ofNat i).toNat < a.2.length:=by rw [ha.2.1]; simpa using hi
    rw [ZB,ZB,ZB,ZB]
    simp only [QX c1,QX c2,QX c3,QX c4,cond_true]
    rw [hor,Qq hi (by omega)]
    unfold tgL tgR
    rcases hm with rfl | rfl | rfl | rfl
    ·rfl
    ·rw [ZQ (n:=A[i] - B[i]) (by omega)]; rfl
    ·rw [ZQ (n:=A[i] + B[i]) (by omega)]; rfl
    ·rw [ZQ (n:=2 * A[i] + B[i] % 2 + B[i]) (by omega),ZQ (n:=2 * A[i] + B[i] % 2 - B[i]) (by omega),Int.fdiv_eq_ediv_of_nonneg _ (by omega),Int.fdiv_eq_ediv_of_nonneg _ (by omega)]
     rfl
   rw [key]
   exact hL (a.1.set i (tgL m A[i] B[i]),a.2.set i (tgR m A[i] B[i])) ⟨by simp [ha.1],by simp [ha.2.1],ZzL (by omega) ha.2.2.1 (hgL i hi),ZzL (by omega) ha.2.2.2 (hgR i hi)⟩)
  k 0 (List.replicate A.length 0,List.replicate A.length 0) ⟨by simp,by simp,fun j hj => by omega,fun j hj => by omega⟩ (by omega) (Nat.zero_le _)
 exact this
theorem ZKk (k:Nat) {p:List (Nat × Nat)} {L R:List Int} (hp:PP p L R) (hk:p.length + 4 < k) (hn:p.length ≤ 8192):ZpO k (p,()) = some ((L,R,0,()),()):=by
 show Zjh k _ = _
 simp only [Zjh]
 rw [ZpU k hp hk hn (.inl rfl)]
 have hlr:L.length = R.length:=by rw [← hp.hl,hp.hr]
 have e1:XA 0 L R = L:=by
  unfold XA
  show (L.zip R).map (fun x => x.1) = L
  exact List.map_fst_zip (by omega)
 have e2:XB 0 L R = R:=by
  unfold XB
  show (L.zip R).map (fun x => x.2) = R
  exact List.map_snd_zip (by omega)
 rw [e1,e2]
 rfl
end Go.Sh
namespace Go.Sh
open Go Go.Proofs
abbrev InT:=List Int × (List Int × Int × Unit) × Int × Unit
abbrev inp (b:List Int) (s:IS):InT:=(b,Kq b s.1,s.2,())
theorem Ya (k:Nat) {b:List Int} (hb:ZW b = true) (hn:b.length < 268435456) (hk:100 < k) {s:IS} (hs:Zs b s.1) {w:Nat} (hw:w ≤ 32) :
  WE k (inp b s,(w:Int),()) = some ((((gI w s).1:Nat):Int),inp b (gI w s).2,()):=by
 show ZjF k _ = _
 simp only [ZjF]
 unfold gI
 rw [ZB]
 by_cases h:s.2 = 0
 ·rw [Zb h,if_pos h,Yw k hb (by omega) hs hw hk]
  rfl
 ·rw [Zi h,if_neg h]
  rfl
theorem WD (k:Nat) {b:List Int} {s:IS} (ok:Bool) (code:Int):Wd k (inp b s,ok,code,()) = some ((),inp b (mI ok s code),()):=by
 show ZjE k _ = _
 simp only [ZjE]
 unfold mI
 rw [ZB]
 by_cases h:s.2 = 0
 ·rw [Zb h]
  cases ok with
  | false => rw [if_pos ⟨h,rfl⟩]; rfl
  | true => rw [if_neg (by simp)]; rfl
 ·rw [Zi h,if_neg (fun hh => h hh.1)]
def Zmb (c:Int) (m:Nat):Bool:=if c = 1 then m == 0 else m == 1 || (decide (8 ≤ m) && decide (m ≤ 10))
theorem ZK2 (k:Nat) (c d r:Int) (m:Nat):Zp7 k ((c,d,r,()),(m:Int),()) = some (Zmb c m,()):=by
 show ZjG k _ = _
 simp only [ZjG]
 unfold Zmb
 rw [ZB,show ((m:Int) == (0:Int)) = (m == 0) from WB m 0,show ((m:Int) == (1:Int)) = (m == 1) from WB m 1]
 by_cases h:c = 1
 ·rw [Zb h,if_pos h]
 ·rw [Zi h,if_neg h]
  cases m == 1 with
  | true => rfl
  | false =>
   simp only [cond_false,Bool.false_or]
   by_cases h8:8 ≤ m
   ·rw [Zb (by omega),QX h8,Bool.true_and]
    by_cases h10:m ≤ 10
    ·rw [QX h10,QX (by omega)]
    ·rw [QN h10,QN (by omega)]
   ·rw [Zi (by omega),QN h8,Bool.false_and]
def ZD0:Nat → IS → IS
 | 0,s => s
 | n + 1,s => ZD0 n (gI 8 s).2
theorem ZqY {b:List Int}:∀ (n:Nat) (s:IS),Zs b s.1 → Zs b (ZD0 n s).1
 | 0,s,h => h
 | n + 1,s,h => ZqY n _ (QH h 8)
def Zmm (b:List Int) (s:IS):Nat × IS :=
 if s.2 ≠ 0 then (0,s) else ((Zlr (b.drop (Z4 b s.1 / 8))).1,mI (decide ((Zlr (b.drop (Z4 b s.1 / 8))).1 ≤ 2147483647)) (ZD0 (Zlr (b.drop (Z4 b s.1 / 8))).2.1 (s.1,(Zlr (b.drop (Z4 b s.1 / 8))).2.2)) 2)
theorem Zs4 {b:List Int} {s:IS} (h:Zs b s.1):Zs b (Zmm b s).2.1:=by
 unfold Zmm
 split
 ·exact h
 ·exact QD (ZqY (Zlr (b.drop (Z4 b s.1 / 8))).2.1 (s.1,(Zlr (b.drop (Z4 b s.1 / 8))).2.2) h) _ _
theorem Zw2 {b:List Int} (h:ZW b = true) (i:Nat):ZW (b.drop i) = true :=
 List.all_eq_true.2 fun x hx => List.all_eq_true.1 h x (List.mem_of_mem_drop hx)
theorem ZlT {b:List Int} (h:ZW b = true) (i:Nat):ZW (b.take i) = true :=
 List.all_eq_true.2 fun x hx => List.all_eq_true.1 h x (List.mem_of_mem_take hx)
theorem ZGm (b:List Int):(Zlr b).2.1 ≤ 8:=by
 unfold Zlr
 split
 ·simp
 ·rename_i x xs
  have:=ZDM x.toNat
  repeat' split
  all_goals simp
  all_goals omega
theorem ZK5 (k:Nat) {b:List Int} (hb:ZW b = true) (hn:b.length < 268435456) (hk:1000 < k) {s:IS} (hs:Zs b s.1) :
  ZjH k (inp b s,()) = some ((((Zmm b s).1:Nat):Int),inp b (Zmm b s).2,()):=by
 show ZjI k (Zv6 k) _ = _
 simp only [ZjI]
 unfold Zmm
 rw [ZT]
 by_cases h:s.2 = 0
 ·rw [Zi (by simpa using h),if_neg (by simpa using h)]
  have e51:ZaE k ((b,((Z4 b s.1:Nat):Int),()),()) = some (((Z4 b s.1:Nat):Int),Kq b s.1,()):=rfl
  rw [e51]
  simp only [Qb]
  have hp:Z4 b s.1 ≤ 8 * b.length:=by unfold Z4; omega
  rw [Zts,ZQ (n:=((Z4 b s.1 / 8:Nat):Int)) (by omega),Zb (by simp only [Qh]; omega),QS,show (Int.ofNat b.length).toNat = b.length from rfl,List.take_length]
  rw [ZE3 k (Zw2 hb _) (by omega)]
  simp only [Qb]
  have hu:=ZGm (b.drop (Z4 b s.1 / 8))
  generalize Zlr (b.drop (Z4 b s.1 / 8)) = c at hu
  have H:∀ (d m i:Nat) (t:IS),Zs b t.1 → d < m → i + d ≤ 8 →
    Zm (fun L1 => ZeO k L1) m (((i + d:Nat):Int),(i:Int),((c.1:Nat):Int),b,t.2,b,((Z4 b t.1:Nat):Int)) = some (((c.1:Nat):Int),inp b (mI (decide (c.1 ≤ 2147483647)) (ZD0 d t) 2),()):=by
   intro d
   induction d with
   | zero =>
    intro m i t ht hm hi
    obtain ⟨m,rfl⟩:=Zn hm
    rw [Zd]
    simp only [ZeO]
    rw [Zi (by omega)]
    refine (Zf (WD k (b:=b) (s:=t) _ _) _).trans ?_
    have:decide (((c.1:Nat):Int) ≤ 2147483647) = decide (c.1 ≤ 2147483647):=by
     by_cases h:c.1 ≤ 2147483647
     ·rw [QX h,QX (by omega)]
     ·rw [QN h,QN (by omega)]
    rw [this]
    rfl
   | succ d ih =>
    intro m i t ht hm hi
    obtain ⟨m,rfl⟩:=Zn (show 0 < m by omega)
    rw [Zd]
    simp only [ZeO]
    rw [Zb (by omega)]
    refine (Zf (Ya k hb hn (by omega) ht (w:=8) (by omega)) _).trans ?_
    have e2:IntKind.i64.wrap ((i:Int) + 1) = ((i + 1:Nat):Int):=by rw [ZQ (by omega)]; rfl
    rw [e2]
    have:=ih m (i + 1) (gI 8 t).2 (QH ht 8) (by omega) (by omega)
    rw [show i + 1 + d = i + (d + 1) by omega] at this
    exact this
  have:=H c.2.1 k 0 (s.1,c.2.2) hs (by omega) (by omega)
  rw [Nat.zero_add] at this
  exact this
 ·rw [Zb h,if_pos h]
  rfl
def ZlN (of:List Int → Nat) (b:List Int) (w:Nat) (s:IS):IS:=if (gI w s).2.2 ≠ 0 then (gI w s).2 else mI ((gI w s).1 == of (b.take (Z4 b s.1 / 8))) (gI w s).2 16
theorem ZGL {of:List Int → Nat} {b:List Int} {s:IS} (h:Zs b s.1) (w:Nat):Zs b (ZlN of b w s).1:=by
 unfold ZlN
 split
 ·exact QH h _
 ·exact QD (QH h _) _ _
theorem Zwk (s:IS) (code:Int):mI true s code = s:=by unfold mI; rw [if_neg (by simp)]
theorem ZyU (k:Nat) {b:List Int} (hb:ZW b = true) (hn:b.length < 268435456) (hk:b.length + 1000 < k) {s:IS} (hs:Zs b s.1) {w:Nat} (hw:w ≤ 32) :
  ZgX k (inp b s,(w:Int),(),()) = some ((),inp b (ZlN Zw8 b w s),()):=by
 show Zjf k _ = _
 simp only [Zjf]
 have e51:ZaE k ((b,((Z4 b s.1:Nat):Int),()),()) = some (((Z4 b s.1:Nat):Int),Kq b s.1,()):=rfl
 rw [e51]
 simp only [Qb]
 refine (Zf (Ya k hb hn (by omega) hs hw) _).trans ?_
 unfold ZlN
 simp only
 rw [ZT]
 by_cases h:(gI w s).2.2 = 0
 ·rw [Zi (by simpa using h),if_neg (by simpa using h)]
  have hp:Z4 b s.1 ≤ 8 * b.length:=by unfold Z4; omega
  rw [Zts,ZQ (n:=((Z4 b s.1 / 8:Nat):Int)) (by omega),Zb (by simp only [Qh]; omega),QS,List.drop_zero]
  have htl:(b.take (Z4 b s.1 / 8)).length ≤ b.length:=by rw [List.length_take]; omega
  refine (Zf (ZyC k (b.take (Z4 b s.1 / 8)) (ZlT hb _) (by omega) (by omega)) _).trans ?_
  simp only
  rw [WB]
  exact Zf (WD k (b:=b) (s:=(gI w s).2) _ _) _
 ·rw [Zb h,if_pos h]
  refine (Zf (WD k (b:=b) (s:=(gI w s).2) _ _) _).trans ?_
  rw [Zwk]
theorem ZAw (k:Nat) {b:List Int} (hb:ZW b = true) (hn:b.length < 268435456) (hk:b.length + 1000 < k) {s:IS} (hs:Zs b s.1) {w:Nat} (hw:w ≤ 32) :
  Zim k (inp b s,(w:Int),(),()) = some ((),inp b (ZlN Ys b w s),()):=by
 show Zde k _ = _
 simp only [Zde]
 have e51:ZaE k ((b,((Z4 b s.1:Nat):Int),()),()) = some (((Z4 b s.1:Nat):Int),Kq b s.1,()):=rfl
 rw [e51]
 simp only [Qb]
 refine (Zf (Ya k hb hn (by omega) hs hw) _).trans ?_
 unfold ZlN
 simp only
 rw [ZT]
 by_cases h:(gI w s).2.2 = 0
 ·rw [Zi (by simpa using h),if_neg (by simpa using h)]
  have hp:Z4 b s.1 ≤ 8 * b.length:=by unfold Z4; omega
  rw [Zts,ZQ (n:=((Z4 b s.1 / 8:Nat):Int)) (by omega),Zb (by simp only [Qh]; omega),QS,List.drop_zero]
  have htl:(b.take (Z4 b s.1 / 8)).length ≤ b.length:=by rw [List.length_take]; omega
  refine (Zf (ZyG k (b.take (Z4 b s.1 / 8)) (ZlT hb _) (by omega) (by omega)) _).trans ?_
  simp only
  rw [WB]
  exact Zf (WD k (b:=b) (s:=(gI w s).2) _ _) _
 ·rw [Zb h,if_pos h]
  refine (Zf (WD k (b:=b) (s:=(gI w s).2) _ _) _).trans ?_
  rw [Zwk]
def hd1 (s:IS):IS:=mI ((gI 15 s).1 == 32764) (gI 15 s).2 11
def hd2 (s:IS):IS:=mI ((gI 1 s).1 == 0) (gI 1 s).2 2
def hd3 (s:IS):Nat × IS:=((gI 4 s).1,mI ((gI 4 s).1 == 6 || (gI 4 s).1 == 7) (gI 4 s).2 2)
def hd4 (s:IS):IS:=mI ((gI 4 s).1 == 0) (gI 4 s).2 2
def hd5 (c:Int) (s:IS):Nat × IS:=((gI 4 s).1,mI (Zmb c (gI 4 s).1) (gI 4 s).2 2)
def hd6 (kind:Nat) (s:IS):Nat × IS:=if s.2 = 0 then ((gI (8 * (kind - 5)) s).1 + 1,mI (decide ((gI (8 * (kind - 5)) s).1 + 1 ≤ 512)) (gI (8 * (kind - 5)) s).2 1) else (0,s)
abbrev HdT:=Nat × Nat × Nat × IS
def Zzs (b:List Int) (kind mode num:Nat) (s:IS):HdT:=(mode,num,(hd6 kind s).1,ZlN Zw8 b 8 (hd6 kind s).2)
def ZO8 (b:List Int) (kind mode:Nat) (s:IS):HdT:=Zzs b kind mode (Zmm b s).1 (Zmm b s).2
def ZO7 (c:Int) (b:List Int) (kind:Nat) (s:IS):HdT:=ZO8 b kind (hd5 c s).1 (hd4 (hd5 c s).2)
def Zzr (c:Int) (b:List Int) (kind:Nat) (s:IS):HdT:=ZO7 c b kind (hd4 s)
def ZdG (c:Int) (b:List Int) (s:IS):HdT:=Zzr c b (hd3 (hd2 (hd1 s))).1 (hd3 (hd2 (hd1 s))).2
abbrev ZT6:=(Int × Int × Int × Unit) × InT × Unit
def Zvp (k:Nat) (kind mode num:Int) (w:InT):Option ZT6 :=
 bif w.2.2.1 == (0:Int) then (WE k (w,IntKind.i64.wrap ((8:Int) * IntKind.i64.wrap (IntKind.i64.wrap (kind - (6:Int)) + (1:Int))),())).bind fun y => (Wd k (y.2.1,decide (IntKind.i64.wrap (y.1 + (1:Int)) ≤ (512:Int)),1,())).bind fun y_10 => (ZgX k (y_10.2.1,8,(),())).bind fun y_11 => some ((mode,num,IntKind.i64.wrap (y.1 + (1:Int)),()),y_11.2.1,())
 else (Wd k (w,decide ((0:Int) ≤ (512:Int)),1,())).bind fun y => (ZgX k (y.2.1,8,(),())).bind fun y => some ((mode,num,0,()),y.2.1,())
def Zvo (k:Nat) (sh:Int × Int × Int × Unit) (kind:Int) (w:InT):Option ZT6 :=
 (WE k (w,4,())).bind fun y_2 => (Wd k (y_2.2.1,y_2.1 == (0:Int),2,())).bind fun y_3 => (WE k (y_3.2.1,4,())).bind fun y_4 => (Zp7 k (sh,y_4.1,())).bind fun y_5 => (Wd k (y_4.2.1,y_5.1,2,())).bind fun y_6 => (WE k (y_6.2.1,4,())).bind fun y_7 => (Wd k (y_7.2.1,y_7.1 == (0:Int),2,())).bind fun y_8 => (ZjH k (y_8.2.1,())).bind fun y_9 => Zvp k kind y_4.1 y_9.1 y_9.2.1
theorem ZGd (k:Nat) (w:InT) (sh:Int × Int × Int × Unit):ZsE k (w,sh,()) =
  (WE k (w,15,())).bind fun y => (Wd k (y.2.1,y.1 == (32764:Int),11,())).bind fun y => (WE k (y.2.1,1,())).bind fun y => (Wd k (y.2.1,y.1 == (0:Int),2,())).bind fun y => (WE k (y.2.1,4,())).bind fun y =>
   bif y.1 == (6:Int) then (Wd k (y.2.1,true,2,())).bind fun y_1 => Zvo k sh y.1 y_1.2.1 else (Wd k (y.2.1,y.1 == (7:Int),2,())).bind fun y_1 => Zvo k sh y.1 y_1.2.1:=rfl
theorem Zwc {w:Nat} {s:IS} (h:(gI w s).2.2 = 0):s.2 = 0:=by
 unfold gI at h
 split at h
 ·rename_i h0; exact h0
 ·exact h
theorem Zs5 {b:List Int} {s:IS} (h:(Zmm b s).2.2 = 0):s.2 = 0:=by
 unfold Zmm at h
 split at h
 ·exact h
 ·rename_i h0; simpa using h0
theorem Zqh {s:IS} (h:(hd4 s).2 = 0):s.2 = 0:=Zwc ((Zbk (by decide)).1 h).1
theorem Zzq {c:Int} {s:IS} (h:(hd5 c s).2.2 = 0):s.2 = 0 ∧ Zmb c (hd5 c s).1 = true:=⟨Zwc ((Zbk (by decide)).1 h).1,((Zbk (by decide)).1 h).2⟩
theorem ZLg {s:IS} (h:(hd3 s).2.2 = 0):(hd3 s).1 = 6 ∨ (hd3 s).1 = 7:=by
 have:=((Zbk (by decide)).1 h).2
 show (gI 4 s).1 = 6 ∨ (gI 4 s).1 = 7
 simpa using this
theorem ZLi {b:List Int} {s:IS} (h:Zs b s.1) (kind:Nat):Zs b (hd6 kind s).2.1:=by
 unfold hd6
 split
 ·exact QD (QH h _) _ _
 ·exact h
theorem ZyR (k:Nat) {b:List Int} (hb:ZW b = true) (hn:b.length < 268435456) (hk:b.length + 1000 < k) {s:IS} (hs:Zs b s.1) {kind:Nat} (hkind:s.2 = 0 → kind = 6 ∨ kind = 7) (mode num:Nat) :
  Zvp k (kind:Int) (mode:Int) (num:Int) (inp b s) = some (((((Zzs b kind mode num s).1:Nat):Int),(((Zzs b kind mode num s).2.1:Nat):Int),(((Zzs b kind mode num s).2.2.1:Nat):Int),()),inp b (Zzs b kind mode num s).2.2.2,()):=by
 unfold Zvp Zzs hd6
 rw [ZB]
 by_cases h:s.2 = 0
 ·rw [Zb h]
  simp only [if_pos h]
  have e1:IntKind.i64.wrap ((8:Int) * IntKind.i64.wrap (IntKind.i64.wrap ((kind:Int) - (6:Int)) + (1:Int))) = ((8 * (kind - 5):Nat):Int):=by
   rcases hkind h with rfl | rfl <;> rfl
  have hw:8 * (kind - 5) ≤ 32:=by rcases hkind h with rfl | rfl <;> omega
  rw [e1]
  refine (Zf (Ya k hb hn (by omega) hs hw) _).trans ?_
  have hlt:=ZVg (8 * (kind - 5)) s
  have r1:=QH hs (8 * (kind - 5))
  have h32:2 ^ (8 * (kind - 5)) ≤ 2 ^ 32:=Nat.pow_le_pow_right (by omega) hw
  generalize gI (8 * (kind - 5)) s = x at hlt r1 ⊢
  have e2:IntKind.i64.wrap (((x.1:Nat):Int) + 1) = ((x.1 + 1:Nat):Int):=by rw [ZQ (by omega)]; rfl
  have e3:decide (((x.1 + 1:Nat):Int) ≤ 512) = decide (x.1 + 1 ≤ 512):=by
   by_cases h:x.1 + 1 ≤ 512
   ·rw [QX h,QX (by omega)]
   ·rw [QN h,QN (by omega)]
  simp only
  rw [e2,e3]
  refine (Zf (WD k (b:=b) (s:=x.2) _ _) _).trans ?_
  refine (Zf (ZyU k hb hn hk (QD r1 _ _) (w:=8) (by omega)) _).trans ?_
  rfl
 ·rw [Zi h]
  simp only [if_neg h]
  refine (Zf (WD k (b:=b) (s:=s) _ _) _).trans ?_
  rw [show decide ((0:Int) ≤ 512) = true from rfl,Zwk]
  refine (Zf (ZyU k hb hn hk hs (w:=8) (by omega)) _).trans ?_
  rfl
theorem ZyQ (k:Nat) {b:List Int} (hb:ZW b = true) (hn:b.length < 268435456) (hk:b.length + 1000 < k) {s:IS} (hs:Zs b s.1) {kind:Nat} (hkind:s.2 = 0 → kind = 6 ∨ kind = 7) (c d r:Int) :
  Zvo k (c,d,r,()) (kind:Int) (inp b s) = some (((((Zzr c b kind s).1:Nat):Int),(((Zzr c b kind s).2.1:Nat):Int),(((Zzr c b kind s).2.2.1:Nat):Int),()),inp b (Zzr c b kind s).2.2.2,()):=by
 unfold Zvo Zzr
 refine (Zf (Ya k hb hn (by omega) hs (w:=4) (by omega)) _).trans ?_
 refine (Zf (WD k (b:=b) (s:=(gI 4 s).2) _ _) _).trans ?_
 rw [show ((((gI 4 s).1:Nat):Int) == (0:Int)) = ((gI 4 s).1 == 0) from WB _ 0]
 have r1:Zs b (hd4 s).1:=QD (QH hs _) _ _
 have k1:=fun h => hkind (Zqh (s:=s) h)
 change ((WE k (inp b (hd4 s),4,())).bind _) = _
 generalize hd4 s = s1 at r1 k1 ⊢
 unfold ZO7
 refine (Zf (Ya k hb hn (by omega) r1 (w:=4) (by omega)) _).trans ?_
 refine (Zf (ZK2 k c d r (gI 4 s1).1) _).trans ?_
 refine (Zf (WD k (b:=b) (s:=(gI 4 s1).2) _ _) _).trans ?_
 have r2:Zs b (hd5 c s1).2.1:=QD (QH r1 _) _ _
 have k2:=fun h => k1 (Zzq (c:=c) (s:=s1) h).1
 change ((WE k (inp b (hd5 c s1).2,4,())).bind fun y_7 => (Wd k (y_7.2.1,y_7.1 == (0:Int),2,())).bind fun y_8 => (ZjH k (y_8.2.1,())).bind fun y_9 => Zvp k (kind:Int) (((hd5 c s1).1:Nat):Int) y_9.1 y_9.2.1) = _
 generalize (hd5 c s1).1 = mode
 generalize (hd5 c s1).2 = s2 at r2 k2 ⊢
 refine (Zf (Ya k hb hn (by omega) r2 (w:=4) (by omega)) _).trans ?_
 refine (Zf (WD k (b:=b) (s:=(gI 4 s2).2) _ _) _).trans ?_
 rw [show ((((gI 4 s2).1:Nat):Int) == (0:Int)) = ((gI 4 s2).1 == 0) from WB _ 0]
 have r3:Zs b (hd4 s2).1:=QD (QH r2 _) _ _
 have k3:=fun h => k2 (Zqh (s:=s2) h)
 change ((ZjH k (inp b (hd4 s2),())).bind _) = _
 generalize hd4 s2 = s3 at r3 k3 ⊢
 unfold ZO8
 refine (Zf (ZK5 k hb hn (by omega) r3) _).trans ?_
 exact ZyR k hb hn hk (Zs4 r3) (fun h => k3 (Zs5 h)) mode (Zmm b s3).1
theorem ZKa (k:Nat) {b:List Int} (hb:ZW b = true) (hn:b.length < 268435456) (hk:b.length + 1000 < k) {s:IS} (hs:Zs b s.1) (c d r:Int) :
  ZsE k (inp b s,(c,d,r,()),()) = some (((((ZdG c b s).1:Nat):Int),(((ZdG c b s).2.1:Nat):Int),(((ZdG c b s).2.2.1:Nat):Int),()),inp b (ZdG c b s).2.2.2,()):=by
 rw [ZGd]
 unfold ZdG
 refine (Zf (Ya k hb hn (by omega) hs (w:=15) (by omega)) _).trans ?_
 refine (Zf (WD k (b:=b) (s:=(gI 15 s).2) _ _) _).trans ?_
 rw [show ((((gI 15 s).1:Nat):Int) == (32764:Int)) = ((gI 15 s).1 == 32764) from WB _ 32764]
 have r1:Zs b (hd1 s).1:=QD (QH hs _) _ _
 change ((WE k (inp b (hd1 s),1,())).bind _) = _
 generalize hd1 s = s1 at r1 ⊢
 refine (Zf (Ya k hb hn (by omega) r1 (w:=1) (by omega)) _).trans ?_
 refine (Zf (WD k (b:=b) (s:=(gI 1 s1).2) _ _) _).trans ?_
 rw [show ((((gI 1 s1).1:Nat):Int) == (0:Int)) = ((gI 1 s1).1 == 0) from WB _ 0]
 have r2:Zs b (hd2 s1).1:=QD (QH r1 _) _ _
 change ((WE k (inp b (hd2 s1),4,())).bind _) = _
 generalize hd2 s1 = s2 at r2 ⊢
 refine (Zf (Ya k hb hn (by omega) r2 (w:=4) (by omega)) _).trans ?_
 simp only
 rw [show ((((gI 4 s2).1:Nat):Int) == (6:Int)) = ((gI 4 s2).1 == 6) from WB _ 6,show ((((gI 4 s2).1:Nat):Int) == (7:Int)) = ((gI 4 s2).1 == 7) from WB _ 7]
 have r3:Zs b (hd3 s2).2.1:=QD (QH r2 _) _ _
 have fin:=ZyQ k hb hn hk r3 (fun h => ZLg h) c d r
 unfold hd3 at fin ⊢
 cases h6:(gI 4 s2).1 == 6 with
 | true =>
  rw [h6] at fin
  simp only [cond_true]
  refine (Zf (WD k (b:=b) (s:=(gI 4 s2).2) _ _) _).trans ?_
  exact fin
 | false =>
  rw [h6] at fin
  simp only [cond_false]
  refine (Zf (WD k (b:=b) (s:=(gI 4 s2).2) _ _) _).trans ?_
  exact fin
end Go.Sh
namespace Go.Sh
open Go Go.Proofs
def Zre (n:Nat):List Int → List Bool → List (List Int) → List (List Int) × Int × List Bool
 | [],r,acc => (acc,0,r)
 | d :: ds,r,acc => if (Wf n d.toNat r).2.1 ≠ 0 then ([],(Wf n d.toNat r).2.1,(Wf n d.toNat r).2.2) else Zre n ds (Wf n d.toNat r).2.2 (acc ++ [(Wf n d.toNat r).1])
abbrev RdR:=(Int × List (List Int)) × Int × Int
def ZPp (c d r num:Int) (pos:Nat) (out:List (List Int)):RdR:=if XC c d r num out ≠ 0 then ((0,[]),0,XC c d r num out) else ((num,out),((pos / 8:Nat):Int),0)
def ZLv (c d r num:Int) (pos:Nat) (m:Int) (A B:List Int):RdR:=if (WA m A B).2 ≠ 0 then ((0,[]),0,(WA m A B).2) else ZPp c d r num pos [Zkg m A B,Zkh m A B]
def ZO2 (c d r:Int) (b:List Int) (mode num:Nat) (chs:List (List Int)) (rr:List Bool):RdR :=
 if (ZlN Ys b 16 ((alS rr).2,(alS rr).1)).2 ≠ 0 then ((0,[]),0,(ZlN Ys b 16 ((alS rr).2,(alS rr).1)).2)
 else if 1 < c then ZLv c d r num (Z4 b (ZlN Ys b 16 ((alS rr).2,(alS rr).1)).1) (if mode = 1 then 0 else mode) (chs.getD 0 []) (chs.getD 1 [])
 else ZPp c d r num (Z4 b (ZlN Ys b 16 ((alS rr).2,(alS rr).1)).1) chs
def ZGW (c d r:Int) (b:List Int) (h:HdT):RdR :=
 if h.2.2.2.2 ≠ 0 then ((0,[]),0,h.2.2.2.2)
 else if (Zre h.2.2.1 (Z9 c d h.1) h.2.2.2.1 []).2.1 ≠ 0 then ((0,[]),0,(Zre h.2.2.1 (Z9 c d h.1) h.2.2.2.1 []).2.1)
 else ZO2 c d r b h.1 h.2.1 (Zre h.2.2.1 (Z9 c d h.1) h.2.2.2.1 []).1 (Zre h.2.2.1 (Z9 c d h.1) h.2.2.2.1 []).2.2
def ZLA (c d r:Int) (b:List Int):RdR:=if YW c d r = false then ((0,[]),0,2) else ZGW c d r b (ZdG c b (QL b,0))
def ZzD (x:RdR):((Int × List (List Int) × Unit) × Int × Int × Unit) × Unit:=(((x.1.1,x.1.2,()),x.2.1,x.2.2,()),())
theorem ZzR {n d:Nat} {r:List Bool} (h:(Wf n d r).2.1 = 0):(Wf n d r).1.length ≤ 520 ∧ d ≤ 25 ∧ ∀ x ∈ (Wf n d r).1,WU x d = true:=by
 unfold Wf at h ⊢
 split at h
 ·simp at h
 ·rename_i h1
  rw [if_neg h1]
  have h1:1 ≤ n ∧ n ≤ 512 ∧ 4 ≤ d ∧ d ≤ 25:=by simpa using h1
  have hz:=Zke (d:=d) (s:=(r,0))
  generalize Z2 d (r,0) = hd at h hz ⊢
  obtain ⟨kind,kk,s1⟩:=hd
  simp only at h hz ⊢
  split at h
  ·rename_i h2; exact absurd h h2
  ·rename_i h2
   rw [if_neg h2]
   obtain ⟨hkd,hkind⟩:=hz (by simpa using h2)
   have hl:=Zrz (kind:=kind) (n:=n) (d:=d - kk) (s:=s1) hkind
   generalize Kt kind n (d - kk) s1 = y at h hl ⊢
   split at h
   ·rename_i h3; exact absurd h h3
   ·rename_i h3
    rw [if_neg h3]
    split at h
    ·rename_i h4
     rw [if_pos h4]
     refine ⟨by simp; omega,by omega,fun x hx => ?_⟩
     obtain ⟨z,hz,rfl⟩:=List.mem_map.1 hx
     exact (ZDY hkd (by omega) (List.all_eq_true.1 h4 z hz)).1
    ·simp at h
theorem Zl5 {x:Int} (h:Y1 x = true):Z0 x:=by
 unfold Y1 at h
 rw [decide_eq_true_eq] at h
 exact h
abbrev ZT5:=((Int × List (List Int) × Unit) × Int × Int × Unit) × Unit
theorem ZCE (k:Nat) (hk:1000 < k) (c d r num:Int) (out:List (List Int)) {b:List Int} (hn:b.length < 268435456) (rr:List Bool) :
  ((ZgV k ((c,d,r,()),(num,out,()),())).bind fun y_3 => bif y_3.1 != (0:Int) then some (((((0:Int),[],()),0,y_3.1,()),()):ZT5) else (ZaE k ((b,((Z4 b rr:Nat):Int),()),())).bind fun y => some (((num,out,()),IntKind.i64.wrap (Int.tdiv y.1 (8:Int)),0,()),())) = some (ZzD (ZPp c d r num (Z4 b rr) out)):=by
 refine (Zf (Zyx k c d r num out (by omega)) _).trans ?_
 unfold ZPp
 simp only
 rw [ZT]
 by_cases h:XC c d r num out = 0
 ·rw [Zi (by simpa using h),if_neg (by simpa using h)]
  have e51:ZaE k ((b,((Z4 b rr:Nat):Int),()),()) = some (((Z4 b rr:Nat):Int),Kq b rr,()):=rfl
  refine (Zf e51 _).trans ?_
  have hp:Z4 b rr ≤ 8 * b.length:=by unfold Z4; omega
  simp only
  rw [Zts,ZQ (n:=((Z4 b rr / 8:Nat):Int)) (by omega)]
  rfl
 ·rw [Zb h,if_pos h]
  rfl
theorem Zyv (k:Nat) (hk:2000 < k) (c d r num:Int) {A B:List Int} {m:Int} (hm:ZjU m) (hA:A.length ≤ 520 ∧ ∀ x ∈ A,Qk x) (hB:B.length ≤ 520 ∧ ∀ x ∈ B,Qk x) {b:List Int} (hn:b.length < 268435456) (rr:List Bool) :
  ((ZpM k (A,B,m,())).bind fun y_1 => bif y_1.1.2.1 != (0:Int) then some (((((0:Int),[],()),0,y_1.1.2.1,()),()):ZT5) else (ZpO k (y_1.1.1,())).bind fun y_2 => bif y_2.1.2.2.1 != (0:Int) then some ((((0:Int),[],()),0,y_2.1.2.2.1,()),()) else (ZgV k ((c,d,r,()),(num,[y_2.1.1,y_2.1.2.1],()),())).bind fun y_3 => bif y_3.1 != (0:Int) then some ((((0:Int),[],()),0,y_3.1,()),()) else (ZaE k ((b,((Z4 b rr:Nat):Int),()),())).bind fun y => some (((num,[y_2.1.1,y_2.1.2.1],()),IntKind.i64.wrap (Int.tdiv y.1 (8:Int)),0,()),())) =
   some (ZzD (ZLv c d r num (Z4 b rr) m A B)):=by
 refine (Zf (ZKj k hm (by omega) (by omega) hA.2 hB.2) _).trans ?_
 unfold ZLv
 have key:(WA m A B).2 = 0 → A.length = B.length ∧ (WA m A B).1 = ZeW (Zkg m A B) (Zkh m A B) ∧ ((Zkg m A B).zip (Zkh m A B)).all (fun x => Y1 x.1 && Y1 x.2) = true:=by
  unfold WA
  split
  ·intro h; simp at h
  ·rename_i h1
   split
   ·rename_i h2; exact fun _ => ⟨by simpa using h1,rfl,h2⟩
   ·intro h; simp at h
 simp only
 rw [ZT]
 by_cases h:(WA m A B).2 = 0
 ·rw [Zi (by simpa using h),if_neg (by simpa using h)]
  obtain ⟨hl,e1,e2⟩:=key h
  have hLl:(Zkg m A B).length = A.length:=by unfold Zkg; rw [List.length_map,List.length_zip]; omega
  have hRl:(Zkh m A B).length = A.length:=by unfold Zkh; rw [List.length_map,List.length_zip]; omega
  generalize Zkg m A B = L at e1 e2 hLl ⊢
  generalize Zkh m A B = R at e1 e2 hRl ⊢
  have hsm:(∀ x ∈ L,Z0 x) ∧ ∀ x ∈ R,Z0 x:=by
   have hall:=List.all_eq_true.1 e2
   constructor
   ·intro x hx
    obtain ⟨i,hi,rfl⟩:=List.getElem_of_mem hx
    have:=hall ((L.zip R)[i]'(by rw [List.length_zip]; omega)) (List.getElem_mem _)
    rw [List.getElem_zip,Bool.and_eq_true] at this
    exact Zl5 this.1
   ·intro x hx
    obtain ⟨i,hi,rfl⟩:=List.getElem_of_mem hx
    have:=hall ((L.zip R)[i]'(by rw [List.length_zip]; omega)) (List.getElem_mem _)
    rw [List.getElem_zip,Bool.and_eq_true] at this
    exact Zl5 this.2
  have hpp:=Zzx (show L.length = R.length by omega) hsm.1 hsm.2
  rw [e1]
  have hjl:(ZeW L R).length ≤ 520:=by rw [hpp.hl]; omega
  refine (Zf (ZKk k hpp (by omega) (by omega)) _).trans ?_
  simp only
  rw [show ((0:Int) != 0) = false from rfl]
  simp only [cond_false]
  exact ZCE k (by omega) c d r num [L,R] hn rr
 ·rw [Zb h,if_pos h]
  rfl
theorem ZAq (c d m:Int):(Z9 c d m).length ≤ 2 ∧ (c ≠ 1 → (Z9 c d m).length = 2) ∧ ((1 ≤ d ∧ d ≤ 24) → ∀ x ∈ Z9 c d m,1 ≤ x):=by
 unfold Z9
 split
 ·exact ⟨by simp,fun h => by omega,fun h x hx => by simp at hx; omega⟩
 ·split
  ·exact ⟨by simp,fun h => by simp,fun h x hx => by simp at hx; omega⟩
  ·split
   ·exact ⟨by simp,fun h => by simp,fun h x hx => by simp at hx; omega⟩
   ·exact ⟨by simp,fun h => by simp,fun h x hx => by simp at hx; omega⟩
theorem ZJp (k:Nat) {b:List Int} (hb:ZW b = true) (hn:b.length < 268435456) (hk:8 * b.length + 50000 < k) {c d r:Int} (hc:c = 1 ∨ c = 2) {mode num n:Nat} (hm:Zmb c mode = true) (ds:List Int) (hd:∀ x ∈ ds,1 ≤ x) (hdl:ds.length ≤ 2) (hdl2:c ≠ 1 → ds.length = 2) (zz:Int) :
  ∀ (e j i:Nat) (rr:List Bool) (acc:List (List Int)),e < j → i + e = ds.length → acc.length = i → Zs b rr → (∀ l ∈ acc,l.length ≤ 520 ∧ ∀ x ∈ l,Qk x) →
  Zm (fun L1 => Zej k L1) j (((ds.length:Nat):Int),(i:Int),ds,(n:Int),(mode:Int),b,(0:Int),b,((Z4 b rr:Nat):Int),zz,(num:Int),acc,c,d,r) =
   some (ZzD (if (Zre n (ds.drop i) rr acc).2.1 ≠ 0 then ((0,[]),0,(Zre n (ds.drop i) rr acc).2.1) else ZO2 c d r b mode num (Zre n (ds.drop i) rr acc).1 (Zre n (ds.drop i) rr acc).2.2)):=by
 intro e
 induction e with
 | zero =>
  intro j i rr acc hj hi ha hr hacc
  obtain ⟨j,rfl⟩:=Zn hj
  rw [Zd]
  simp only [Zej]
  rw [Zi (by omega),List.drop_eq_nil_of_le (by omega)]
  show _ = some (ZzD (if (0:Int) ≠ 0 then _ else ZO2 c d r b mode num acc rr))
  rw [if_neg (by simp)]
  refine (Zf (ZKg k hb (by omega) hr (by omega)) _).trans ?_
  refine (Zf (ZAw k hb hn (by omega) (s:=((alS rr).2,(alS rr).1)) (ZGX hr) (w:=16) (by omega)) _).trans ?_
  unfold ZO2
  generalize ZlN Ys b 16 ((alS rr).2,(alS rr).1) = s
  simp only
  rw [ZT]
  by_cases h:s.2 = 0
  ·rw [Zi (by simpa using h),if_neg (by simpa using h)]
   rcases hc with rfl | rfl
   ·rw [Zi (by omega),if_neg (by omega)]
    exact ZCE k (by omega) 1 d r num acc hn s.1
   ·rw [Zb (by omega),if_pos (by omega)]
    have hlen:acc.length = 2:=by have:=hdl2 (by omega); omega
    match acc,hlen,hacc with
    | [A,B],_,hacc =>
     have hA:=hacc A (by simp)
     have hB:=hacc B (by simp)
     have p1:(0:Int) ≤ 0 ∧ (0:Int) < Int.ofNat [A,B].length:=by simp
     have p2:0 < [A,B].length:=by simp
     have p3:(0:Int) ≤ 1 ∧ (1:Int) < Int.ofNat [A,B].length:=by simp
     have p4:1 < [A,B].length:=by simp
     have hmd:ZjU (if mode = 1 then 0 else (mode:Int)):=by
      unfold Zmb at hm
      rw [if_neg (by omega)] at hm
      simp only [Bool.or_eq_true,beq_iff_eq,Bool.and_eq_true,decide_eq_true_eq] at hm
      unfold ZjU
      split <;> omega
     rw [Zb p1,Zb p2,Zb p3,Zb p4,Zb p1,Zb p2,Zb p3,Zb p4,show ((mode:Int) == (1:Int)) = (mode == 1) from WB _ 1]
     by_cases h1:mode = 1
     ·rw [show (mode == 1) = true from by simp [h1]]
      rw [if_pos h1] at hmd ⊢
      exact Zyv k (by omega) 2 d r num hmd hA hB hn s.1
     ·rw [show (mode == 1) = false from by simp [h1]]
      rw [if_neg h1] at hmd ⊢
      exact Zyv k (by omega) 2 d r num hmd hA hB hn s.1
  ·rw [Zb h,if_pos h]
   rfl
 | succ e ih =>
  intro j i rr acc hj hi ha hr hacc
  obtain ⟨j,rfl⟩:=Zn (show 0 < j by omega)
  rw [Zd]
  simp only [Zej]
  have hil:i < ds.length:=by omega
  rw [Zb (by omega),Zb (by simp only [Qh]; omega),QS,WZ hil,List.drop_eq_getElem_cons hil]
  have hdi:=hd ds[i] (List.getElem_mem hil)
  have hde:ds[i] = ((ds[i].toNat:Nat):Int):=by omega
  have e46:=ZKd k hb hn hk hr n ds[i].toNat
  rw [← hde] at e46
  refine (Zf e46 _).trans ?_
  unfold Zre
  have hok:=ZzR (n:=n) (d:=ds[i].toNat) (r:=rr)
  have hrr:=Zrv hr n ds[i].toNat
  generalize Wf n ds[i].toNat rr = q at hok hrr ⊢
  simp only
  rw [ZT]
  by_cases h:q.2.1 = 0
  ·rw [Zi (by simpa using h),Zb (by simp only [List.length_singleton]; omega)]
   have e2:IntKind.i64.wrap ((i:Int) + 1) = ((i + 1:Nat):Int):=by rw [ZQ (by omega)]; rfl
   rw [e2]
   obtain ⟨o1,o2,o3⟩:=hok h
   have:=ih j (i + 1) q.2.2 (acc ++ [q.1]) (by omega) (by omega) (by simp; omega) hrr (by
    intro l hl
    rcases List.mem_append.1 hl with hl | hl
    ·exact hacc l hl
    ·rw [List.mem_singleton.1 hl]
     refine ⟨o1,fun x hx => ?_⟩
     have:=o3 x hx
     unfold WU at this
     unfold Qk
     split at this
     ·simp only [decide_eq_true_eq] at this; omega
     ·rw [decide_eq_true_eq,Qp] at this
      have h24:2 ^ (ds[i].toNat - 1) ≤ 2 ^ 24:=Nat.pow_le_pow_right (by omega) (by omega)
      generalize 2 ^ (ds[i].toNat - 1) = Q at this h24
      omega)
   refine this.trans ?_
   simp only [if_neg (show ¬ q.2.1 ≠ 0 from fun hh => hh h)]
  ·rw [Zb h]
   simp only [if_pos h]
   rfl
theorem ZBR {c:Int} {b:List Int} {s:IS} (h:(ZdG c b s).2.2.2.2 = 0):Zmb c (ZdG c b s).1 = true:=by
 unfold ZdG Zzr ZO7 ZO8 Zzs at h ⊢
 generalize (hd3 (hd2 (hd1 s))).1 = kind at h ⊢
 generalize hd4 (hd3 (hd2 (hd1 s))).2 = s3 at h ⊢
 simp only at h ⊢
 have h0:(hd6 kind (Zmm b (hd4 (hd5 c s3).2)).2).2.2 = 0:=by
  unfold ZlN at h
  split at h
  ·rename_i h1; exact absurd h h1
  ·exact Zwc ((Zbk (by decide)).1 h).1
 have h1:(Zmm b (hd4 (hd5 c s3).2)).2.2 = 0:=by
  unfold hd6 at h0
  split at h0
  ·rename_i hh; exact hh
  ·exact h0
 exact (Zzq (Zqh (Zs5 h1))).2
theorem ZJq (k:Nat) (c d r:Int) {b:List Int} (hb:ZW b = true) (hn:b.length < 268435456) (hk:8 * b.length + 50000 < k):Zyu k ((c,d,r,()),b,()) = some (ZzD (ZLA c d r b)):=by
 show ZiM k (ZuS k) _ = _
 simp only [ZiM]
 rw [ZoH k c d r]
 simp only [Qb]
 unfold ZLA
 cases hs:YW c d r with
 | false => rfl
 | true =>
  have hsh:=of_decide_eq_true hs
  simp only [if_true,Bool.true_eq_false,if_false]
  rw [show ((0:Int) != 0) = false from rfl]
  simp only [cond_false]
  have e44:ZyO k (b,()) = some (inp b (QL b,0) |>.2.1,()):=by
   show Zjc k _ = _
   simp only [Zjc]
   have:ZsH k (b,()) = some (b,()):=by show KY _ = _; unfold KY; rw [Zb (by simp only; omega)]
   rw [this]
   have hp:Z4 b (QL b) = 0:=by unfold Z4; rw [Wu]; omega
   simp only [Qb]
   show some ((b,((0:Nat):Int),()),()) = some ((b,((Z4 b (QL b):Nat):Int),()),())
   rw [hp]
  refine (Zf e44 _).trans ?_
  refine (Zf (ZKa k hb hn (by omega) (s:=(QL b,0)) (ZzI b) c d r) _).trans ?_
  unfold ZGW
  have hmode:=ZBR (c:=c) (b:=b) (s:=(QL b,0))
  have hrest:Zs b (ZdG c b (QL b,0)).2.2.2.1:=by
   unfold ZdG Zzr ZO7 ZO8 Zzs
   exact ZGL (ZLi (Zs4 (QD (QH (QD (QH (QD (QH (QD (QH (QD (QH (QD (QH (ZzI b) _) _ _) _) _ _) _) _ _) _) _ _) _) _ _) _) _ _)) _) _
  generalize ZdG c b (QL b,0) = h at hmode hrest ⊢
  obtain ⟨mode,num,n,s⟩:=h
  simp only at hmode hrest ⊢
  rw [ZT]
  by_cases he:s.2 = 0
  ·rw [Zi (by simpa using he),if_neg (by simpa using he)]
   have hm:=hmode he
   have hc:c = 1 ∨ c = 2:=by omega
   have hcm:c = 1 ∧ (mode:Int) = 0 ∨ c = 2:=by
    rcases hc with rfl | rfl
    ·unfold Zmb at hm
     rw [if_pos rfl,beq_iff_eq] at hm
     exact .inl ⟨rfl,by omega⟩
    ·exact .inr rfl
   refine (Zf (ZyD k (c:=c) (d:=d) (r:=r) (m:=(mode:Int)) hcm (by omega)) _).trans ?_
   have hdl:=ZAq c d mode
   have:=ZJp k hb hn hk (c:=c) (d:=d) (r:=r) hc (mode:=mode) (num:=num) (n:=n) hm (Z9 c d mode) (hdl.2.2 (by omega)) hdl.1 hdl.2.1 0 (Z9 c d mode).length k 0 s.1 [] (by omega) (by omega) rfl hrest (by simp)
   rw [List.drop_zero] at this
   simp only
   rw [he]
   exact this
  ·rw [Zb he,if_pos he]
   rfl
end Go.Sh
