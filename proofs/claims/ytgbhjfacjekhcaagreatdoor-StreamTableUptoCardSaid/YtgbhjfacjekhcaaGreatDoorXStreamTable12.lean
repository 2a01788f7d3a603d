/-
  What the row needs, part 12.
-/
import Derived.Test.YtgbhjfacjekhcaaGreatDoorXStreamTable11
import Derived.Lib.ItoaNum
set_option linter.unusedSimpArgs false
set_option linter.unusedVariables false
set_option linter.unusedSectionVars false
namespace Go.Sh
open Go Go.Proofs
def Z2 (n:Int):Nat:=if n < 0 then (-2 * n - 1).toNat else (2 * n).toNat
theorem ZCg {a:Int} {n:Int} (ha : -1152921504606846976 ≤ a ∧ a ≤ 1152921504606846976) (hn:(a < 0 ↔ n < 0)) (hn' : -1152921504606846976 ≤ n ∧ n ≤ 1152921504606846976) :
  IntKind.i64.wrap (Int.ofNat (BitVec.ofInt 64 a ^^^ BitVec.ofInt 64 (n.fdiv 9223372036854775808)).toNat) = if n < 0 then -a - 1 else a:=by
 by_cases h:n < 0
 ·have e1:n.fdiv 9223372036854775808 = -1:=by rw [Int.fdiv_eq_ediv_of_nonneg _ (by omega)]; omega
  rw [e1,if_pos h,show BitVec.ofInt 64 (-1) = BitVec.allOnes 64 from by decide,BitVec.xor_allOnes,BitVec.toNat_not,BitVec.toNat_ofInt]
  have:((a % ((2 ^ 64:Nat):Int)).toNat) = (a + 18446744073709551616).toNat:=by omega
  rw [this]
  have e2:Int.ofNat (2 ^ 64 - 1 - (a + 18446744073709551616).toNat) = -a - 1:=by simp only [Qv]; omega
  rw [e2,Qa (by omega)]
 ·have e1:n.fdiv 9223372036854775808 = 0:=by rw [Int.fdiv_eq_ediv_of_nonneg _ (by omega)]; omega
  rw [e1,if_neg h,show BitVec.ofInt 64 0 = 0#64 from rfl,BitVec.xor_zero,BitVec.toNat_ofInt]
  have:Int.ofNat ((a % ((2 ^ 64:Nat):Int)).toNat) = a:=by simp only [Qv]; omega
  rw [this,Qa (by omega)]
theorem Zuz (k:Nat) {n:Int} (h:ZN n):Ze8 k (n,()) = some ((((Z2 n:Nat):Int),0,()),()):=by
 show ZgR k _ = _
 simp only [ZgR]
 unfold ZN at h
 rw [Zk (by omega),Zk (by omega),Qa (n:=n * 2) (by omega),ZCg (by omega) (by omega) (by omega)]
 unfold Z2
 congr 3
 split <;> omega
theorem ZsC {n:Int} (h:ZN n):Z2 n < 4294967296:=by
 unfold ZN at h
 unfold Z2
 split <;> omega
def YE (n:Int):Nat:=Lib.bitLen (if n < 0 then (-n - 1).toNat else n.toNat) + 1
theorem ZpR {n:Int} (h:ZN n):YE n ≤ 32:=by
 unfold ZN at h
 unfold YE
 have:=Lib.bitLen_le (if n < 0 then (-n - 1).toNat else n.toNat) 31 (by omega) (by split <;> omega)
 omega
theorem ZHb {n:Int} (h:ZN n) {w:Nat} (hw:YE n ≤ w):Xp n w = true:=by
 unfold YE at hw
 unfold Xp
 unfold ZN at h
 rw [if_neg (by omega),decide_eq_true_eq]
 generalize hm:(if n < 0 then (-n - 1).toNat else n.toNat) = m at hw
 have hm':m < 2 ^ 64:=by rw [← hm]; split <;> omega
 have hlt:m < 2 ^ (w - 1):=by
  by_cases h0:m = 0
  ·rw [h0]; exact Nat.pow_pos (by omega)
  ·have:=(Lib.bitLenAux_bounds 64 m hm' h0).2.2
   exact Nat.lt_of_lt_of_le this (Nat.pow_le_pow_right (by omega) (by unfold Lib.bitLen at hw; omega))
 have hlt':(m:Int) < 2 ^ (w - 1):=by
  have:((2:Int) ^ (w - 1)) = ((2 ^ (w - 1):Nat):Int):=WF _
  rw [this]; exact_mod_cast hlt
 generalize (2:Int) ^ (w - 1) = P at hlt'
 split at hm <;> omega
theorem ZIF (k:Nat) {n:Int} (h:ZN n):ZqP k (n,()) = some (((YE n:Nat):Int),()):=by
 show Zho k _ = _
 simp only [Zho]
 have hb:=ZpR h
 unfold ZN at h
 rw [ZCg (by omega) (by omega) (by omega)]
 have e1:IntKind.u64.wrap (if n < 0 then -n - 1 else n) = (((if n < 0 then (-n - 1).toNat else n.toNat):Nat):Int):=by
  rw [IntKind.wrap_u64]; split <;> omega
 rw [e1]
 have e2:Zxr k ((((if n < 0 then (-n - 1).toNat else n.toNat):Nat):Int),()) = some (((Lib.bitLen (if n < 0 then (-n - 1).toNat else n.toNat):Nat):Int),()):=by
  show ZOD _ = _
  unfold ZOD
  rw [show (decide ((0:Int) ≤ (((if n < 0 then (-n - 1).toNat else n.toNat):Nat):Int)) && decide ((((if n < 0 then (-n - 1).toNat else n.toNat):Nat):Int) < 18446744073709551616)) = true from by
   rw [Bool.and_eq_true,decide_eq_true_eq,decide_eq_true_eq]; split <;> omega]
  rfl
 rw [e2]
 simp only [Z1]
 unfold YE at hb ⊢
 rw [Qa (by omega)]
 push_cast
 rfl
theorem ZHW (k:Nat) {m:Int} (h:m = 0 ∨ m = 1):ZdH k (m,()) = some (if m = 0 then 15 else 31,()):=by
 rcases h with rfl | rfl <;> rfl
def Xv (m:Int):Nat:=if m = 0 then 15 else 31
theorem Zcx (k:Nat) {m:Int} (h:m = 0 ∨ m = 1):ZdH k (m,()) = some (((Xv m:Nat):Int),()):=by
 rw [ZHW k h]; unfold Xv; split <;> rfl
abbrev Prt:=Int × Int × Int × Unit
def QP (l:List Int):Nat:=l.foldl (fun w n => if n = 0 then w else max w (YE n)) 0
def Zje:List Nat → Nat
 | [] => 0
 | x :: l => x + Zje l
def Zep (l:List Int) (kk:Nat):Nat:=(kk + 1) * l.length + Zje (l.map fun n => Z2 n / 2 ^ kk)
def Zm5 (l:List Int) (kk:Nat):Bool:=l.any fun n => decide (65536 < Z2 n / 2 ^ kk)
def Zij (l:List Int) (B:Prt × Bool) (kk:Nat):Prt × Bool :=
 if Zm5 l kk = false ∧ (B.2 = false ∨ ((Zep l kk:Nat):Int) < B.1.2.2.1) then (((kk:Int),0,((Zep l kk:Nat):Int),()),true) else B
def kF (l:List Int):Nat → Nat → Prt × Bool → Prt × Bool
 | 0,_,B => B
 | d + 1,kk,B => kF l d (kk + 1) (Zij l B kk)
def We (l:List Int) (m:Int):Prt × Bool :=
 let B:=kF l (Xv m) 0 ((0,0,0,()),false)
 if QP l ≤ 31 ∧ (B.2 = false ∨ ((5 + QP l * l.length:Nat):Int) < B.1.2.2.1) then (((Xv m:Nat),((QP l:Nat):Int),((5 + QP l * l.length:Nat):Int),()),true) else B
theorem ZS5 {l:List Nat} {b:Nat} (h:∀ x ∈ l,x ≤ b):Zje l ≤ l.length * b:=by
 induction l with
 | nil => simp [Zje]
 | cons x l ih =>
  have h1:=h x (List.mem_cons_self ..)
  have h2:=ih fun y hy => h y (List.mem_cons_of_mem _ hy)
  simp only [Zje,List.length_cons,Nat.add_mul,Nat.one_mul]
  omega
theorem Zjh:∀ (l:List Int) (w:Nat),(∀ x ∈ l,ZN x) → w ≤ 32 → w ≤ l.foldl (fun w n => if n = 0 then w else max w (YE n)) w ∧ l.foldl (fun w n => if n = 0 then w else max w (YE n)) w ≤ 32 ∧
   ∀ x ∈ l,x ≠ 0 → YE x ≤ l.foldl (fun w n => if n = 0 then w else max w (YE n)) w
 | [],w,_,hw => ⟨Nat.le_refl _,hw,by simp⟩
 | x :: l,w,hl,hw => by
  simp only [List.foldl_cons]
  have hx:=ZpR (hl x (List.mem_cons_self ..))
  have h1:(if x = 0 then w else max w (YE x)) ≤ 32:=by split <;> omega
  obtain ⟨a,b,c⟩:=Zjh l _ (fun y hy => hl y (List.mem_cons_of_mem _ hy)) h1
  refine ⟨Nat.le_trans (by split <;> omega) a,b,fun y hy hne => ?_⟩
  rcases List.mem_cons.1 hy with rfl | hy
  ·rw [if_neg hne] at a ⊢
   omega
  ·exact c y hy hne
theorem Zwh {l:List Int} (hl:∀ x ∈ l,ZN x):∀ x ∈ l,Xp x (QP l) = true:=by
 intro x hx
 obtain ⟨_,_,h⟩:=Zjh l 0 hl (by omega)
 by_cases h0:x = 0
 ·subst h0
  unfold Xp
  split
  ·rfl
  ·rw [decide_eq_true_eq]
   have hp:(0:Int) < 2 ^ (QP l - 1):=Int.pow_pos (by omega)
   omega
 ·exact ZHb (hl x hx) (h x hx h0)
theorem ZvF {n:Int} (h:ZN n) (kk:Nat):Z2 n / 2 ^ kk ≤ 4294967295:=by
 have:=ZsC h
 have:=Nat.div_le_self (Z2 n) (2 ^ kk)
 omega
theorem ZG5:Zal = ZdH:=Zuv
theorem ZWQ:ZiJ = Ze8:=Zux
theorem ZDf (k:Nat) (L2:Int × Int × List Int × Bool × Int × Int × List Int × Int × Int × Int × Int × Int × Int → Option (((Int × Int × Int × Unit) × Bool × Unit) × Unit))
  {l:List Int} (hl:∀ x ∈ l,ZN x) (hn:l.length ≤ 512) (hk:l.length < k) {kk:Nat} (hkk:kk ≤ 31) (ok:Bool) (e w m b0 b1 b2 c0 c1 c2:Int) :
  ZjR k L2 (Int.ofNat l.length,(0:Int),((kk + 1) * l.length:Nat),(kk:Int),false,ok,(kk:Int),e,l,w,m,l.map fun n => ((Z2 n:Nat):Int),b0,b1,b2,c0,c1,c2) =
   L2 (e,((kk + 1:Nat):Int),l,(Zij l ((b0,b1,b2,()),ok) kk).2,w,m,l.map fun n => ((Z2 n:Nat):Int),(Zij l ((b0,b1,b2,()),ok) kk).1.1,(Zij l ((b0,b1,b2,()),ok) kk).1.2.1,(Zij l ((b0,b1,b2,()),ok) kk).1.2.2.1,c0,c1,c2):=by
 have hml:(l.map fun n => ((Z2 n:Nat):Int)).length = l.length:=by simp
 have:=Zz (A:=Int × Bool) (R:=((Int × Int × Int × Unit) × Bool × Unit) × Unit) (step:=fun L3 => ZaP k L2 L3) (fun i a => (Int.ofNat l.length,Int.ofNat i,a.1,(kk:Int),a.2,ok,(kk:Int),e,l,w,m,l.map (fun n => ((Z2 n:Nat):Int)),b0,b1,b2,c0,c1,c2)) l
  (fun l' a => bif !(a.2 || Zm5 l' kk) then bif !ok then L2 (e,((kk + 1:Nat):Int),l,true,w,m,l.map (fun n => ((Z2 n:Nat):Int)),(kk:Int),0,a.1 + (Zje (l'.map fun n => Z2 n / 2 ^ kk):Nat),c0,c1,c2)
    else bif decide (a.1 + (Zje (l'.map fun n => Z2 n / 2 ^ kk):Nat) < b2) then L2 (e,((kk + 1:Nat):Int),l,true,w,m,l.map (fun n => ((Z2 n:Nat):Int)),(kk:Int),0,a.1 + (Zje (l'.map fun n => Z2 n / 2 ^ kk):Nat),c0,c1,c2)
    else L2 (e,((kk + 1:Nat):Int),l,ok,w,m,l.map (fun n => ((Z2 n:Nat):Int)),b0,b1,b2,c0,c1,c2)
   else L2 (e,((kk + 1:Nat):Int),l,ok,w,m,l.map (fun n => ((Z2 n:Nat):Int)),b0,b1,b2,c0,c1,c2))
  (fun i a => 0 ≤ a.1 ∧ a.1 ≤ 16384 + (i:Int) * 4294967296)
  (fun L a _ => by
   simp only [ZaP]
   rw [Zk (Q3 _),Qa (n:=(kk:Int) + 1) (by omega)]
   simp only [Zm5,List.any_nil,Bool.or_false,List.map_nil,Zje,Int.natCast_zero,Int.add_zero]
   push_cast
   rfl)
  (fun L i hi a ha hL => by
   simp only [ZaP]
   have hx:=hl l[i] (List.getElem_mem hi)
   have hp:=ZvF hx kk
   have hg:(l.map fun n => ((Z2 n:Nat):Int)).getD (Int.toNat (Int.ofNat i)) 0 = ((Z2 l[i]:Nat):Int):=by
    rw [ZM (by rw [hml]; exact hi)]; simp
   rw [Zc (ltR hi),Zc (by rw [hml]; exact Kh hi),Zc (by rw [hml]; simpa using hi),Zc (by omega),hg]
   simp only [Xm,Nat.min_eq_left (show kk ≤ 64 by omega),ZfQ]
   have hfar:Zm5 (l[i] :: l.drop (i + 1)) kk = (decide (65536 < Z2 l[i] / 2 ^ kk) || Zm5 (l.drop (i + 1)) kk):=by unfold Zm5; rw [List.any_cons]
   have hsum:a.1 + ((Zje ((l[i] :: l.drop (i + 1)).map fun n => Z2 n / 2 ^ kk):Nat):Int) = a.1 + ((Z2 l[i] / 2 ^ kk:Nat):Int) + ((Zje ((l.drop (i + 1)).map fun n => Z2 n / 2 ^ kk):Nat):Int):=by
    simp only [List.map_cons,Zje]
    generalize Z2 l[i] / 2 ^ kk = q
    omega
   generalize Z2 l[i] / 2 ^ kk = q at hp hfar hsum ⊢
   have hi5:(i:Int) ≤ 512:=by omega
   rw [Qa (n:=a.1 + ((q:Nat):Int)) (by omega),Qr hi (by omega)]
   rw [hfar,hsum]
   cases h4:a.2 with
   | true =>
    simp only [cond_true]
    rw [hL (a.1 + ((q:Nat):Int),true) ⟨by omega,by push_cast; omega⟩]
    simp
   | false =>
    simp only [cond_false]
    rw [Zc (by omega)]
    have hd:decide ((65536:Int) < ((q:Nat):Int)) = decide (65536 < q):=by
     by_cases hh:65536 < q
     ·rw [Xj hh,Xj (by omega)]
     ·rw [Wr hh,Wr (by omega)]
    rw [hd,hL (a.1 + ((q:Nat):Int),decide (65536 < q)) ⟨by omega,by push_cast; omega⟩]
    simp) k 0 ((((kk + 1) * l.length:Nat):Int),false) ⟨by omega,by
     have:(kk + 1) * l.length ≤ 32 * 512:=Nat.mul_le_mul (by omega) hn
     show (((kk + 1) * l.length:Nat):Int) ≤ 16384 + ((0:Nat):Int) * 4294967296
     generalize (kk + 1) * l.length = N at this ⊢
     omega⟩ (by omega) (Nat.zero_le _)
 refine Eq.trans this ?_
 rw [List.drop_zero]
 unfold Zij
 have hsz:(((kk + 1) * l.length:Nat):Int) + ((Zje (l.map fun n => Z2 n / 2 ^ kk):Nat):Int) = ((Zep l kk:Nat):Int):=by unfold Zep; push_cast; rfl
 simp only [Bool.false_or,hsz]
 cases hfb:Zm5 l kk with
 | true => simp
 | false =>
  simp only [Bool.not_false,cond_true,true_and]
  cases ok with
  | false => simp
  | true =>
   simp only [Bool.not_true,cond_false,Bool.true_eq_false,false_or]
   by_cases hlt:((Zep l kk:Nat):Int) < b2
   ·rw [Zc hlt,if_pos hlt]
   ·rw [Zk hlt,if_neg hlt]
theorem ZLN (k:Nat) {l:List Int} (hl:∀ x ∈ l,ZN x) (hn:l.length ≤ 512) (hk:l.length < k) {m:Int} (hm:m = 0 ∨ m = 1) (c0 c1 c2:Int) (hw:QP l ≤ 32) :
  ∀ (d kk j:Nat) (B:Prt × Bool),kk + d = Xv m → d < j →
  Zm (fun L2 => ZcK k (ZjR k L2) L2) j (((Xv m:Nat):Int),(kk:Int),l,B.2,((QP l:Nat):Int),m,l.map (fun n => ((Z2 n:Nat):Int)),B.1.1,B.1.2.1,B.1.2.2.1,c0,c1,c2) =
   some ((let B:=kF l d kk B; if QP l ≤ 31 ∧ (B.2 = false ∨ ((5 + QP l * l.length:Nat):Int) < B.1.2.2.1) then ((((Xv m:Nat):Int),((QP l:Nat):Int),((5 + QP l * l.length:Nat):Int),()),true,()) else (B.1,B.2,())),()):=by
 have he:Xv m ≤ 31:=by unfold Xv; split <;> omega
 intro d
 induction d with
 | zero =>
  intro kk j B hkk hj
  obtain ⟨j,rfl⟩:=ZD hj
  rw [Ze]
  simp only [ZcK]
  rw [Zk (by omega)]
  have hwl:QP l * l.length ≤ 32 * 512:=Nat.mul_le_mul hw hn
  have e1:IntKind.i64.wrap ((5:Int) + IntKind.i64.wrap (((QP l:Nat):Int) * Int.ofNat l.length)) = ((5 + QP l * l.length:Nat):Int):=by
   have:((QP l:Nat):Int) * Int.ofNat l.length = ((QP l * l.length:Nat):Int):=by simp only [Qv]; push_cast; rfl
   rw [this,Qa (n:=((QP l * l.length:Nat):Int)) (by omega),Qa (by omega)]
   push_cast; rfl
  rw [e1,ZG5,Zcx k hm]
  simp only [Z1]
  rw [show kF l 0 kk B = B from rfl]
  by_cases h31:QP l ≤ 31
  ·rw [Zc (by omega)]
   cases hB:B.2 with
   | false => simp only [Bool.not_false,cond_true]; rw [if_pos ⟨h31,.inl trivial⟩]
   | true =>
    simp only [Bool.not_true,cond_false,Bool.true_eq_false,false_or]
    by_cases hlt:((5 + QP l * l.length:Nat):Int) < B.1.2.2.1
    ·rw [Zc hlt,if_pos ⟨h31,hlt⟩]
    ·rw [Zk hlt,if_neg (fun h => hlt h.2)]
  ·rw [Zk (by omega),if_neg (fun h => h31 h.1)]
 | succ d ih =>
  intro kk j B hkk hj
  obtain ⟨j,rfl⟩:=ZD (show 0 < j by omega)
  rw [Ze]
  simp only [ZcK]
  rw [Zc (by omega)]
  have hkl:(kk + 1) * l.length ≤ 32 * 512:=Nat.mul_le_mul (by omega) hn
  have e1:IntKind.i64.wrap (IntKind.i64.wrap ((kk:Int) + 1) * Int.ofNat l.length) = (((kk + 1) * l.length:Nat):Int):=by
   have h1:IntKind.i64.wrap ((kk:Int) + 1) = ((kk + 1:Nat):Int):=by rw [Qa (by omega)]; push_cast; rfl
   rw [h1]
   have:((kk + 1:Nat):Int) * Int.ofNat l.length = (((kk + 1) * l.length:Nat):Int):=by simp only [Qv]; rw [Int.natCast_mul]
   rw [this,Qa (by omega)]
  rw [e1]
  have e2:Int.ofNat (l.map fun n => ((Z2 n:Nat):Int)).length = Int.ofNat l.length:=by simp
  rw [e2,ZDf k _ hl hn hk (by omega)]
  rw [ih (kk + 1) j (Zij l B kk) (by omega) (by omega)]
  rfl
theorem ZIz (k:Nat) {l:List Int} (hl:∀ x ∈ l,ZN x) (hn:l.length ≤ 512) (hk:l.length + 40 < k) {m:Int} (hm:m = 0 ∨ m = 1) :
  ZqK k (l,m,()) = some (((We l m).1,(We l m).2,()),()):=by
 show Zhh k (Zo3 k) _ = _
 simp only [Zhh]
 rw [Zc (by simp only [Qv]; omega)]
 have hwid:=(Zjh l 0 hl (by omega)).2.1
 have he:Xv m ≤ 31:=by unfold Xv; split <;> omega
 have:=Zz (A:=Nat × List Int) (step:=fun L1 => ZcJ k (ZjQ k) L1) (fun i a => (Int.ofNat l.length,Int.ofNat i,l,((a.1:Nat):Int),m,l,false,a.2,0,0,0,0,0,0)) l
  (fun l' a => ZjQ k (((Xv m:Nat):Int),0,l,false,((l'.foldl (fun w n => if n = 0 then w else max w (YE n)) a.1:Nat):Int),m,a.2.take (l.length - l'.length) ++ l'.map (fun n => ((Z2 n:Nat):Int)),0,0,0,0,0,0))
  (fun i a => a.1 ≤ 32 ∧ a.2.length = l.length)
  (fun L a ha => by
   simp only [ZcJ]
   rw [Zk (Q3 _),ZG5,Zcx k hm]
   simp only [Z1,List.foldl_nil,List.map_nil,List.append_nil,List.length_nil,Nat.sub_zero]
   rw [List.take_of_length_le (by omega)])
  (fun L i hi a ha hL => by
   simp only [ZcJ]
   have hx:=hl l[i] (List.getElem_mem hi)
   have hb:=ZpR hx
   rw [Zc (ltR hi),Zc (Kh hi),ZM hi,ZWQ,Zuz k hx]
   simp only [Z1]
   rw [Zc (by rw [ha.2]; exact Kh hi),Zc (by rw [ha.2]; simpa using hi),ZL,Qr hi (by omega)]
   have hdl:(l.drop (i + 1)).length = l.length - (i + 1):=by simp
   have hset:(a.2.set (Int.ofNat i).toNat ((Z2 l[i]:Nat):Int)).take (l.length - (l.drop (i + 1)).length) ++ (l.drop (i + 1)).map (fun n => ((Z2 n:Nat):Int)) =
     a.2.take (l.length - (l[i] :: l.drop (i + 1)).length) ++ (l[i] :: l.drop (i + 1)).map (fun n => ((Z2 n:Nat):Int)):=by
    rw [hdl,List.length_cons,hdl,show l.length - (l.length - (i + 1)) = i + 1 by omega,show l.length - (l.length - (i + 1) + 1) = i by omega]
    rw [List.map_cons,List.take_add_one,List.take_set_of_le (by simp)]
    have:(a.2.set (Int.ofNat i).toNat ((Z2 l[i]:Nat):Int))[i]? = some ((Z2 l[i]:Nat):Int):=by
     rw [List.getElem?_set]; simp; omega
    rw [this]
    simp
   have hfold:(l[i] :: l.drop (i + 1)).foldl (fun w n => if n = 0 then w else max w (YE n)) a.1 = (l.drop (i + 1)).foldl (fun w n => if n = 0 then w else max w (YE n)) (if l[i] = 0 then a.1 else max a.1 (YE l[i])):=rfl
   by_cases h0:l[i] = 0
   ·rw [Zk (by simpa using h0)]
    rw [hL (a.1,a.2.set (Int.ofNat i).toNat ((Z2 l[i]:Nat):Int)) ⟨ha.1,by simpa using ha.2⟩,hset,hfold,if_pos h0]
   ·rw [Zc h0,ZIF k hx]
    simp only [Z1]
    have e1:(if ((a.1:Nat):Int) < ((YE l[i]:Nat):Int) then ((YE l[i]:Nat):Int) else ((a.1:Nat):Int)) = ((max a.1 (YE l[i]):Nat):Int):=by split <;> omega
    rw [e1,hL (max a.1 (YE l[i]),a.2.set (Int.ofNat i).toNat ((Z2 l[i]:Nat):Int)) ⟨by omega,by simpa using ha.2⟩,hset,hfold,if_neg h0])
  k 0 (0,List.replicate l.length 0) ⟨by omega,by simp⟩ (by omega) (Nat.zero_le _)
 rw [List.drop_zero] at this
 refine Eq.trans this ?_
 have:=ZLN k hl hn (by omega) hm 0 0 0 hwid (Xv m) 0 k ((0,0,0,()),false) (by omega) (by omega)
 rw [Nat.sub_self,List.take_zero,List.nil_append]
 refine Eq.trans this ?_
 unfold We
 simp only
 split <;> rfl
end Go.Sh
namespace Go.Sh
open Go Go.Proofs
theorem ZTT:ZdG = ZdF:=Zut
theorem ZXP:ZqJ = ZdJ:=ZuI
theorem Zmy (k:Nat) {m:Int} (h:m = 0 ∨ m = 1):ZdF k (m,()) = some (4 + m,()):=by
 rcases h with rfl | rfl <;> rfl
theorem ZIu (k:Nat) (x:Int):ZqI k (x,()) = some (Qw x,()):=by
 show Zhd k _ = _
 simp only [Zhd]
 unfold Qw
 by_cases h:x ≤ -2147483648
 ·rw [Zc h,Xj (.inl h)]
 ·rw [Zk h]
  by_cases h2:2147483648 ≤ x
  ·rw [Xj h2,Xj (.inr h2)]
  ·rw [Wr h2,Wr (by omega)]
theorem ZzJ (k:Nat) (c:List Int) (hk:c.length < k) (hn:c.length < 4294967296):Ze4 k (c,(),()) = some (c.any Qw,()):=by
 show ZbM k _ = _
 simp only [ZbM]
 have key:∃ i:Int,Zfe k (c,(),()) = some (i,()) ∧ (0 ≤ i ↔ c.any Qw = true):=by
  have:=QN (A:=Unit) (R:=Int × Unit) (step:=fun L1 => K1 k L1) (fun i _ => (Int.ofNat c.length,Int.ofNat i,c)) c
   (fun l _ => some (if l.any Qw then Int.ofNat (c.length - l.length + (l.takeWhile (fun x => !Qw x)).length) else -1,()))
   (fun L _ => by simp only [K1]; rw [Zk (Q3 _)]; rfl)
   (fun L i hi _ hL => by
    simp only [K1]
    rw [Zc (ltR hi),Zc (Kh hi),ZM hi,ZIu]
    simp only [Z1]
    have hlen:(List.drop (i + 1) c).length = c.length - (i + 1):=by simp
    cases hc:Qw c[i] with
    | false =>
     simp only [cond_false]
     rw [Qr hi (by omega),hL ()]
     simp only [List.any_cons,hc,Bool.false_or,List.takeWhile_cons,Bool.not_false,if_true,List.length_cons,hlen]
     split
     ·congr 3; omega
     ·rfl
    | true =>
     simp only [cond_true,List.any_cons,hc,Bool.true_or,if_true,List.takeWhile_cons,Bool.not_true,Bool.false_eq_true,if_false,List.length_cons,hlen,List.length_nil]
     congr 3; omega) k 0 () (by omega) (Nat.zero_le _)
  rw [List.drop_zero] at this
  refine ⟨_,this,?_⟩
  cases c.any Qw <;> simp
 obtain ⟨i,h1,h2⟩:=key
 rw [h1]
 simp only [Z1]
 cases hc:c.any Qw with
 | true => rw [Xj (h2.2 hc)]
 | false => rw [Wr (fun h => by have:=h2.1 h; rw [hc] at this; cases this)]
def Zcc (n o:Int):Bool:=decide (1 ≤ n ∧ n ≤ 512 ∧ 0 ≤ o ∧ o ≤ 8 ∧ o ≤ n)
theorem ZuH (k:Nat) (n o:Int):ZmO k (n,o,()) = some (Zcc n o,()):=by
 show Zhc k _ = _
 simp only [Zhc]
 unfold Zcc
 by_cases h1:1 ≤ n
 ·rw [Zc h1]
  by_cases h2:n ≤ 512
  ·rw [Zc h2]
   by_cases h3:0 ≤ o
   ·rw [Zc h3]
    congr 2
    by_cases h4:o ≤ 8 ∧ o ≤ n
    ·rw [Xj (show 1 ≤ n ∧ n ≤ 512 ∧ 0 ≤ o ∧ o ≤ 8 ∧ o ≤ n by omega),Xj (by split <;> omega)]
    ·rw [Wr (show ¬ (1 ≤ n ∧ n ≤ 512 ∧ 0 ≤ o ∧ o ≤ 8 ∧ o ≤ n) by omega),Wr (by split <;> omega)]
   ·rw [Zk h3,Wr (by omega)]
  ·rw [Zk h2,Wr (by omega)]
 ·rw [Zk h1,Wr (by omega)]
def Yq (l:List Int) (o:Int):Int:=if o < 0 ∨ 8 < o then 1 else if Zcc ((l.length:Int) + o) o = false then 1 else if l.any Qw then 12 else 0
theorem Zuq (k:Nat) (l:List Int) (o:Int) (hk:l.length < k) (hn:l.length < 4294967296):Zmu k (l,o,()) = some (Yq l o,()):=by
 show ZgM k _ = _
 simp only [ZgM]
 unfold Yq
 by_cases h1:o < 0
 ·rw [Zc h1,if_pos (.inl h1)]
 ·rw [Zk h1]
  by_cases h2:8 < o
  ·rw [Zc h2,if_pos (.inr h2)]
  ·rw [Zk h2,if_neg (by omega),Qa (by simp only [Qv]; omega),ZuH]
   simp only [Z1,Qv]
   cases hb:Zcc ((l.length:Int) + o) o with
   | false => rfl
   | true =>
    simp only [Bool.not_true,cond_false,Bool.true_eq_false,if_false]
    rw [ZzJ k l hk hn]
    simp only [Z1]
    cases l.any Qw <;> rfl
theorem ZWl {p:Nat} (hp:p ≤ 31):IntKind.i64.wrap (IntKind.i64.wrap ((1:Int) * (2:Int) ^ min ((p:Int)).toNat 64) - 1) = ((2 ^ p - 1:Nat):Int):=by
 have h1:2 ^ p ≤ 2 ^ 31:=Nat.pow_le_pow_right (by omega) hp
 have h0:0 < 2 ^ p:=Nat.pow_pos (by omega)
 rw [Xm,Nat.min_eq_left (by omega),Int.one_mul,WF]
 rw [Qa (n:=((2 ^ p:Nat):Int)) (by omega),Qa (by omega)]
 omega
theorem Zpy {p:Nat} (hp:p ≤ 31):IntKind.i64.wrap ((1:Int) * (2:Int) ^ min ((p:Int)).toNat 64) = ((2 ^ p:Nat):Int):=by
 have h1:2 ^ p ≤ 2 ^ 31:=Nat.pow_le_pow_right (by omega) hp
 rw [Xm,Nat.min_eq_left (by omega),Int.one_mul,WF]
 generalize 2 ^ p = Q at h1 ⊢
 rw [Qa (by omega)]
theorem Zzf {n p:Nat} (hn:n < 4294967296) (hp:p ≤ 31):IntKind.i64.wrap (Int.ofNat (BitVec.ofInt 64 (n:Int) &&& BitVec.ofInt 64 (IntKind.i64.wrap (IntKind.i64.wrap ((1:Int) * (2:Int) ^ min ((p:Int)).toNat 64) - 1))).toNat) = ((n % 2 ^ p:Nat):Int):=by
 have h1:2 ^ p ≤ 2 ^ 31:=Nat.pow_le_pow_right (by omega) hp
 rw [ZWl hp,ZG7 (by omega) (by omega),Nat.and_two_pow_sub_one_eq_mod]
 have:n % 2 ^ p ≤ n:=Nat.mod_le _ _
 rw [Qa (by omega)]
def ZeM (n o p:Nat):Bool:=decide (n % 2 ^ p = 0) && decide (o ≤ n / 2 ^ p)
theorem ZuJ (k:Nat) {n o p:Nat} (hn:n < 4294967296) (hp:p ≤ 31):ZdJ k ((n:Int),(o:Int),(p:Int),()) = some (ZeM n o p,()):=by
 show Zhf k _ = _
 simp only [Zhf]
 rw [Zc (by omega),Zzf hn hp,ZK,Xm,Nat.min_eq_left (by omega),ZfQ]
 unfold ZeM
 by_cases h:n % 2 ^ p = 0
 ·rw [Zc (by omega),Zc (by omega),Xj h,Bool.true_and]
  congr 2
  by_cases h2:o ≤ n / 2 ^ p
  ·rw [Xj h2,Xj (by omega)]
  ·rw [Wr h2,Wr (by omega)]
 ·rw [Zk (by omega),Wr h,Bool.false_and]
def Kk (size:Nat):Nat → List Int → List (List Int)
 | 0,_ => []
 | d + 1,r => r.take size :: Kk size d (r.drop size)
def Yt (l:List Int) (o p:Nat):List (List Int):=l.take ((l.length + o) / 2 ^ p - o) :: Kk ((l.length + o) / 2 ^ p) (2 ^ p - 1) (l.drop ((l.length + o) / 2 ^ p - o))
theorem Zp2 (size:Nat):∀ (d:Nat) (r:List Int),(Kk size d r).length = d
 | 0,_ => rfl
 | d + 1,r => by simp [Kk,Zp2 size d]
theorem Zjx (l:List Int) (o p:Nat):(Yt l o p).length = 2 ^ p:=by
 have h0:0 < 2 ^ p:=Nat.pow_pos (by omega)
 simp only [Yt,List.length_cons,Zp2]
 omega
theorem Zp3 {size:Nat}:∀ {d:Nat} {r c:List Int},c ∈ Kk size d r → ∀ x ∈ c,x ∈ r
 | d + 1,r,c,h,x,hx => by
  rcases List.mem_cons.1 h with rfl | h
  ·exact List.mem_of_mem_take hx
  ·exact List.mem_of_mem_drop (Zp3 h x hx)
theorem ZaZ {l:List Int} {o p:Nat} {c:List Int} (h:c ∈ Yt l o p):∀ x ∈ c,x ∈ l:=by
 intro x hx
 rcases List.mem_cons.1 h with rfl | h
 ·exact List.mem_of_mem_take hx
 ·exact List.mem_of_mem_drop (Zp3 h x hx)
theorem Zt9 {size:Nat}:∀ {d:Nat} {r c:List Int},c ∈ Kk size d r → c.length ≤ r.length
 | d + 1,r,c,h => by
  rcases List.mem_cons.1 h with rfl | h
  ·rw [List.length_take]; omega
  ·have:=Zt9 h
   rw [List.length_drop] at this
   omega
theorem Zjw {l:List Int} {o p:Nat} {c:List Int} (h:c ∈ Yt l o p):c.length ≤ l.length:=by
 rcases List.mem_cons.1 h with rfl | h
 ·rw [List.length_take]; omega
 ·have:=Zt9 h
  rw [List.length_drop] at this
  omega
theorem ZHV (k:Nat) {p size:Nat} (hp:p ≤ 15):∀ (d m:Nat) (r:List Int) (out:List (List Int)),d < m → out.length + d = 2 ^ p → r.length = d * size → r.length < 4294967296 →
  Zm (fun L1 => Zcw k L1) m ((p:Int),r,(size:Int),out) = some (out ++ Kk size d r,()):=by
 have h15:2 ^ p ≤ 2 ^ 15:=Nat.pow_le_pow_right (by omega) hp
 intro d
 induction d with
 | zero =>
  intro m r out hm ho hr hn
  obtain ⟨m,rfl⟩:=ZD hm
  rw [Ze]
  simp only [Zcw]
  rw [Zc (by omega),Zpy (by omega),Zk (by simp only [Qv]; omega)]
  simp [Kk]
 | succ d ih =>
  intro m r out hm ho hr hn
  obtain ⟨m,rfl⟩:=ZD (show 0 < m by omega)
  rw [Ze]
  simp only [Zcw]
  have hs:(d + 1) * size = d * size + size:=by rw [Nat.add_mul,Nat.one_mul]
  have hle:size ≤ r.length:=by omega
  rw [Zc (by omega),Zpy (by omega),Zc (by simp only [Qv]; omega),Zc (by simp only [Qv]; omega),
   Zc (by simp only [List.length_singleton]; omega),Zc (by simp only [Qv]; omega)]
  rw [Xm,show (Int.ofNat r.length).toNat = r.length from rfl,List.take_length,List.drop_zero]
  rw [ih m (r.drop size) _ (by omega) (by rw [Q2,List.length_singleton]; omega) (by rw [List.length_drop]; omega) (by rw [List.length_drop]; omega)]
  simp [Kk]
theorem Zus (k:Nat) {l:List Int} {o p:Nat} (hp:p ≤ 15) (hn:l.length + o < 4294967296) (hk:32768 < k) (hf:ZeM (l.length + o) o p = true) :
  Zmw k (l,(o:Int),(p:Int),()) = some (Yt l o p,()):=by
 show ZgQ k (ZoB k) _ = _
 have h15:2 ^ p ≤ 2 ^ 15:=Nat.pow_le_pow_right (by omega) hp
 have h0:0 < 2 ^ p:=Nat.pow_pos (by omega)
 unfold ZeM at hf
 simp only [Bool.and_eq_true,decide_eq_true_eq] at hf
 obtain ⟨hm,ho⟩:=hf
 simp only [ZgQ]
 have e1:IntKind.i64.wrap (Int.ofNat l.length + (o:Int)) = ((l.length + o:Nat):Int):=by rw [Qa (by simp only [Qv]; omega)]; rfl
 have hd:(l.length + o) / 2 ^ p ≤ l.length + o:=Nat.div_le_self _ _
 have hmul:2 ^ p * ((l.length + o) / 2 ^ p) = l.length + o:=by have:=Nat.div_add_mod (l.length + o) (2 ^ p); omega
 unfold Yt
 rw [e1]
 simp only [Xm,Nat.min_eq_left (show p ≤ 64 by omega),ZfQ]
 generalize hsz:(l.length + o) / 2 ^ p = size at ho hd hmul
 have e2:IntKind.i64.wrap ((size:Int) - (o:Int)) = ((size - o:Nat):Int):=by rw [Qa (by omega)]; omega
 have hle:size ≤ l.length + o:=hd
 have e3:(2 ^ p - 1) * size = 2 ^ p * size - size:=by rw [Nat.sub_mul,Nat.one_mul]
 rw [e2,Zc (by omega),Zc (by simp only [Qv]; omega),Zc (by simp only [Qv]; omega)]
 rw [Xm,show (Int.ofNat l.length).toNat = l.length from rfl,List.take_length,List.drop_zero]
 have hps:size ≤ 2 ^ p * size:=Nat.le_mul_of_pos_left _ h0
 refine Eq.trans (ZHV k hp (2 ^ p - 1) k _ _ (by omega) (by rw [List.length_singleton]; omega) (by rw [List.length_drop,e3]; omega) (by rw [List.length_drop]; omega)) ?_
 rfl
end Go.Sh
namespace Go.Sh
open Go Go.Proofs
def Zak (c:List Int) (m:Int) (y:Prt):Prop :=
 (∃ kk:Nat,kk < Xv m ∧ Zm5 c kk = false ∧ y = ((kk:Int),0,((Zep c kk:Nat):Int),())) ∨
 (QP c ≤ 31 ∧ y = (((Xv m:Nat):Int),((QP c:Nat):Int),((5 + QP c * c.length:Nat):Int),()))
theorem ZTM {c:List Int} {m:Int}:∀ (d kk:Nat) (B:Prt × Bool),kk + d = Xv m → (B.2 = true → Zak c m B.1) → ((kF c d kk B).2 = true → Zak c m (kF c d kk B).1)
 | 0,_,B,_,hB => hB
 | d + 1,kk,B,hk,hB => by
  refine ZTM d (kk + 1) _ (by omega) fun h => ?_
  unfold Zij at h ⊢
  split
  ·rename_i hc
   exact .inl ⟨kk,by omega,hc.1,rfl⟩
  ·rename_i hc
   rw [if_neg hc] at h
   exact hB h
theorem ZeW {c:List Int} {m:Int} (h:(We c m).2 = true):Zak c m (We c m).1:=by
 unfold We at h ⊢
 simp only at h ⊢
 split
 ·rename_i hc
  exact .inr ⟨hc.1,rfl⟩
 ·rename_i hc
  rw [if_neg hc] at h
  exact ZTM _ _ _ (by omega) (fun h => by cases h) h
theorem ZGE {c:List Int}:∀ (d kk:Nat) (B:Prt × Bool),B.2 = true → (kF c d kk B).2 = true
 | 0,_,B,hB => hB
 | d + 1,kk,B,hB => by
  refine ZGE d (kk + 1) _ ?_
  unfold Zij
  split
  ·rfl
  ·exact hB
theorem ZGF {c:List Int} {j:Nat} (hj:Zm5 c j = false):∀ (d kk:Nat) (B:Prt × Bool),kk ≤ j → j < kk + d → (kF c d kk B).2 = true
 | 0,_,B,h1,h2 => by omega
 | d + 1,kk,B,h1,h2 => by
  by_cases he:kk = j
  ·subst he
   refine ZGE d _ _ ?_
   unfold Zij
   split
   ·rfl
   ·rename_i hc
    simp only [hj,true_and,not_or] at hc
    simpa using hc.1
  ·exact ZGF hj d (kk + 1) _ (by omega) (by omega)
theorem ZXA {c:List Int} (hc:∀ x ∈ c,ZN x):Zm5 c 16 = false:=by
 unfold Zm5
 rw [List.any_eq_false]
 intro x hx
 have h1:=ZsC (hc x hx)
 have:Z2 x / 2 ^ 16 < 65536:=by rw [Nat.div_lt_iff_lt_mul (by decide)]; omega
 simp only [decide_eq_true_eq]
 omega
theorem ZCy {c:List Int} (hc:∀ x ∈ c,ZN x):(We c 1).2 = true:=by
 unfold We
 simp only
 split
 ·rfl
 ·exact ZGF (ZXA hc) _ _ _ (by omega) (by decide)
theorem Zak.size {c:List Int} {m:Int} {y:Prt} (h:Zak c m y) (hc:∀ x ∈ c,ZN x) (hn:c.length ≤ 512):0 ≤ y.2.2.1 ∧ y.2.2.1 ≤ 4398046511104:=by
 have he:Xv m ≤ 31:=by unfold Xv; split <;> omega
 rcases h with ⟨kk,hk,_,rfl⟩ | ⟨hw,rfl⟩
 ·simp only
  have h1:(kk + 1) * c.length ≤ 32 * 512:=Nat.mul_le_mul (by omega) hn
  have h2:Zje (c.map fun n => Z2 n / 2 ^ kk) ≤ (c.map fun n => Z2 n / 2 ^ kk).length * 4294967295:=ZS5 fun x hx => by
   obtain ⟨n,hn,rfl⟩:=List.mem_map.1 hx
   exact ZvF (hc n hn) kk
  rw [List.length_map] at h2
  unfold Zep
  omega
 ·simp only
  have h1:QP c * c.length ≤ 31 * 512:=Nat.mul_le_mul hw hn
  omega
def QK (m:Int):List (List Int) → List Prt → Int → List Prt × Int × Bool
 | [],ps,sz => (ps,sz,true)
 | c :: cs,ps,sz => if (We c m).2 = true then QK m cs (ps ++ [(We c m).1]) (sz + (4 + m + (We c m).1.2.2.1)) else (ps,sz,false)
theorem Zi3 {m:Int} {c:List Int} (cs:List (List Int)) (ps:List Prt) (sz:Int) (h:(We c m).2 = true):QK m (c :: cs) ps sz = QK m cs (ps ++ [(We c m).1]) (sz + (4 + m + (We c m).1.2.2.1)):=by
 show (if (We c m).2 = true then _ else _) = _
 rw [if_pos h]
theorem Zni {m:Int} {c:List Int} (cs:List (List Int)) (ps:List Prt) (sz:Int) (h:(We c m).2 = false):QK m (c :: cs) ps sz = (ps,sz,false):=by
 show (if (We c m).2 = true then _ else _) = _
 rw [if_neg (by rw [h]; simp)]
abbrev X2:=Int × Int × Int × List Prt
def XY (l:List Int) (o p:Nat) (m:Int) (B:X2):X2 :=
 if (QK m (Yt l o p) [] 6).2.2 = true ∧ (B.2.2.1 < 0 ∨ (QK m (Yt l o p) [] 6).2.1 < B.2.2.1) then (m,(p:Int),(QK m (Yt l o p) [] 6).2.1,(QK m (Yt l o p) [] 6).1) else B
def Zl1 (l:List Int) (o:Nat) (B:X2) (p:Nat):X2:=if ZeM (l.length + o) o p = true then XY l o p 1 (XY l o p 0 B) else B
def Yn (l:List Int) (o:Nat):Nat → Nat → X2 → X2
 | 0,_,B => B
 | d + 1,p,B => Yn l o d (p + 1) (Zl1 l o B p)
def WS (l:List Int) (o:Nat):X2:=Yn l o 5 0 (0,0,-1,[])
theorem ZCV (k:Nat) (L1:Int × List Int × Int × Int × Int × Int × List (Int × Int × Int × Unit) × Int × Int × Int → Option ((Int × Int × List (Int × Int × Int × Unit) × Int × Unit) × Unit))
  (L2:Int × Int × List Int × Int × Int × Int × Int × List (Int × Int × Int × Unit) × Int × Int × Int → Option ((Int × Int × List (Int × Int × Int × Unit) × Int × Unit) × Unit))
  {cs:List (List Int)} (hcs:∀ c ∈ cs,(∀ x ∈ c,ZN x) ∧ c.length ≤ 512) (hn:cs.length ≤ 16) (hk:600 < k) {m:Int} (hm:m = 0 ∨ m = 1) (p:Int) (l:List Int) (o:Int) (B:X2) :
  ZbQ k L1 L2 (Int.ofNat cs.length,(0:Int),cs,m,p,l,o,true,B.1,B.2.1,B.2.2.1,B.2.2.2,m,p,(6:Int),[],0,0,0) =
   L2 (m + 1,p,l,o,if (QK m cs [] 6).2.2 = true ∧ (B.2.2.1 < 0 ∨ (QK m cs [] 6).2.1 < B.2.2.1) then (m,p,(QK m cs [] 6).2.1,(QK m cs [] 6).1,0,0,0) else (B.1,B.2.1,B.2.2.1,B.2.2.2,0,0,0)):=by
 have hm1:IntKind.i64.wrap (m + 1) = m + 1:=by rcases hm with rfl | rfl <;> rfl
 have:=Zz (A:=Int × List Prt) (R:=(Int × Int × List (Int × Int × Int × Unit) × Int × Unit) × Unit) (step:=fun L3 => ZaN k L1 L2 L3)
  (fun i a => (Int.ofNat cs.length,Int.ofNat i,cs,m,p,l,o,true,B.1,B.2.1,B.2.2.1,B.2.2.2,m,p,a.1,a.2,0,0,0)) cs
  (fun cs' a => L2 (m + 1,p,l,o,if (QK m cs' a.2 a.1).2.2 = true ∧ (B.2.2.1 < 0 ∨ (QK m cs' a.2 a.1).2.1 < B.2.2.1) then (m,p,(QK m cs' a.2 a.1).2.1,(QK m cs' a.2 a.1).1,0,0,0) else (B.1,B.2.1,B.2.2.1,B.2.2.2,0,0,0)))
  (fun i a => 0 ≤ a.1 ∧ a.1 ≤ 6 + (i:Int) * 8796093022208 ∧ a.2.length = i)
  (fun L a _ => by
   simp only [ZaN]
   rw [Zk (Q3 _),hm1]
   simp only [cond_true,QK,true_and]
   by_cases h1:B.2.2.1 < 0
   ·rw [Zc h1,if_pos (.inl h1)]
   ·rw [Zk h1]
    by_cases h2:a.1 < B.2.2.1
    ·rw [Zc h2,if_pos (.inr h2)]
    ·rw [Zk h2,if_neg (by omega)])
  (fun L i hi a ha hL => by
   simp only [ZaN]
   obtain ⟨hc1,hc2⟩:=hcs cs[i] (List.getElem_mem hi)
   rw [Zc (ltR hi),Zc (Kh hi),ZM hi,ZIz k hc1 hc2 (by omega) hm]
   simp only [Z1]
   cases hb:(We cs[i] m).2 with
   | false =>
    rw [Zni _ _ _ hb]
    simp only [Bool.not_false,cond_true,cond_false,hm1,Bool.false_eq_true,if_false,false_and]
   | true =>
    rw [Zi3 _ _ _ hb]
    simp only [Bool.not_true,cond_false]
    have hs:=(ZeW hb).size hc1 hc2
    have hi16:(i:Int) < 16:=by omega
    have hm01:0 ≤ m ∧ m ≤ 1:=by rcases hm with rfl | rfl <;> omega
    rw [Zc (by simp only [List.length_singleton]; omega),ZTT,Zmy k hm]
    simp only [Z1]
    rw [Qr hi (by omega),Qa (n:=4 + m + (We cs[i] m).1.2.2.1) (by omega),Qa (by omega)]
    exact hL (a.1 + (4 + m + (We cs[i] m).1.2.2.1),a.2 ++ [(We cs[i] m).1]) ⟨by omega,by push_cast; omega,by simp; omega⟩)
  k 0 ((6:Int),[]) ⟨by omega,by simp,rfl⟩ (by omega) (Nat.zero_le _)
 rw [List.drop_zero] at this
 exact this
theorem ZHQ (k:Nat) (L1:Int × List Int × Int × Int × Int × Int × List (Int × Int × Int × Unit) × Int × Int × Int → Option ((Int × Int × List (Int × Int × Int × Unit) × Int × Unit) × Unit))
  {l:List Int} (hl:∀ x ∈ l,ZN x) {o p:Nat} (hn:l.length + o ≤ 512) (hp:p ≤ 4) (hk:40000 < k) (hf:ZeM (l.length + o) o p = true) (B:X2) :
  ZjJ k L1 ((0:Int),(p:Int),l,(o:Int),B.1,B.2.1,B.2.2.1,B.2.2.2,0,0,0) =
   L1 (((p + 1:Nat):Int),l,(o:Int),(XY l o p 1 (XY l o p 0 B)).1,(XY l o p 1 (XY l o p 0 B)).2.1,(XY l o p 1 (XY l o p 0 B)).2.2.1,(XY l o p 1 (XY l o p 0 B)).2.2.2,0,0,0):=by
 have hcs:∀ c ∈ Yt l o p,(∀ x ∈ c,ZN x) ∧ c.length ≤ 512:=fun c hc => ⟨fun x hx => hl x (ZaZ hc x hx),by have:=Zjw hc; omega⟩
 have hlen:(Yt l o p).length ≤ 16:=by
  rw [Zjx]
  have:2 ^ p ≤ 2 ^ 4:=Nat.pow_le_pow_right (by omega) hp
  omega
 have hcut:=Zus k (l:=l) (o:=o) (p:=p) (by omega) (by omega) (by omega) hf
 have one:∀ (j:Nat) (m:Int) (B:X2),m = 0 ∨ m = 1 → Zm (fun L2 => YI k (ZbQ k L1 L2) L1 L2) (j + 1) (m,(p:Int),l,(o:Int),B.1,B.2.1,B.2.2.1,B.2.2.2,0,0,0) =
   Zm (fun L2 => YI k (ZbQ k L1 L2) L1 L2) j (m + 1,(p:Int),l,(o:Int),(XY l o p m B).1,(XY l o p m B).2.1,(XY l o p m B).2.2.1,(XY l o p m B).2.2.2,0,0,0):=by
  intro j m B hm
  rw [Ze]
  simp only [YI]
  rw [Zc (by rcases hm with rfl | rfl <;> omega),hcut]
  simp only [Z1]
  refine (ZCV k L1 _ hcs hlen (by omega) hm (p:Int) l (o:Int) B).trans ?_
  unfold XY
  split <;> rfl
 obtain ⟨j,rfl⟩:∃ j,k = j + 3:=⟨k - 3,by omega⟩
 show Zm (fun L2 => YI (j + 3) (ZbQ (j + 3) L1 L2) L1 L2) (j + 3) _ = _
 rw [one (j + 2) 0 B (.inl rfl),show (0:Int) + 1 = 1 from rfl,one (j + 1) 1 _ (.inr rfl),Ze]
 simp only [YI]
 rw [Zk (by omega),Qa (by omega)]
 rfl
theorem Zur (k:Nat) {l:List Int} (hl:∀ x ∈ l,ZN x) {o:Nat} (hn:l.length + o ≤ 512) (hk:40000 < k) :
  Zmv k (l,(o:Int),()) = some (((WS l o).1,(WS l o).2.1,(WS l o).2.2.2,(WS l o).2.2.1,()),()):=by
 show ZgO k (Zoz k) _ = _
 simp only [ZgO]
 suffices H:∀ (d p m:Nat) (B:X2),d < m → p + d = 5 → Zm (fun L1 => Zcv k (ZjJ k L1) L1) m ((p:Int),l,(o:Int),B.1,B.2.1,B.2.2.1,B.2.2.2,0,0,0) =
   some (((Yn l o d p B).1,(Yn l o d p B).2.1,(Yn l o d p B).2.2.2,(Yn l o d p B).2.2.1,()),()) from H 5 0 k (0,0,-1,[]) (by omega) rfl
 intro d
 induction d with
 | zero =>
  intro p m B hm hp
  obtain ⟨m,rfl⟩:=ZD hm
  rw [Ze]
  simp only [Zcv]
  rw [Zk (by omega)]
  rfl
 | succ d ih =>
  intro p m B hm hp
  obtain ⟨m,rfl⟩:=ZD (show 0 < m by omega)
  rw [Ze]
  simp only [Zcv]
  have e1:IntKind.i64.wrap (Int.ofNat l.length + (o:Int)) = ((l.length + o:Nat):Int):=by rw [Qa (by simp only [Qv]; omega)]; rfl
  rw [Zc (by omega),e1,ZXP,ZuJ k (by omega) (by omega)]
  simp only [Z1]
  have e2:IntKind.i64.wrap ((p:Int) + 1) = ((p + 1:Nat):Int):=by rw [Qa (by omega)]; rfl
  cases hf:ZeM (l.length + o) o p with
  | false =>
   simp only [Bool.not_false,cond_true]
   rw [e2,ih (p + 1) m B (by omega) (by omega)]
   simp only [Yn,Zl1,hf,Bool.false_eq_true,if_false]
  | true =>
   simp only [Bool.not_true,cond_false]
   rw [ZHQ k _ hl hn (by omega) hk hf,ih (p + 1) m _ (by omega) (by omega)]
   simp only [Yn,Zl1,hf,if_true]
structure RGood (l:List Int) (o:Nat) (R:X2) (p:Nat):Prop where
 hp:R.2.1 = (p:Int)
 p4:p ≤ 4
 fit:ZeM (l.length + o) o p = true
 hm:R.1 = 0 ∨ R.1 = 1
 parts:QK R.1 (Yt l o p) [] 6 = (R.2.2.2,R.2.2.1,true)
theorem Znj {m:Int} (hm:0 ≤ m):∀ (cs:List (List Int)) (ps:List Prt) (sz:Int),(∀ c ∈ cs,(∀ x ∈ c,ZN x) ∧ c.length ≤ 512) → sz ≤ (QK m cs ps sz).2.1
 | [],_,_,_ => Int.le_refl _
 | c :: cs,ps,sz,h => by
  unfold QK
  split
  ·rename_i hb
   have h1:=h c (List.mem_cons_self ..)
   have h2:=(ZeW hb).size h1.1 h1.2
   have:=Znj hm cs (ps ++ [(We c m).1]) (sz + (4 + m + (We c m).1.2.2.1)) fun c hc => h c (List.mem_cons_of_mem _ hc)
   omega
  ·exact Int.le_refl _
theorem Zs5 {l:List Int} {o p:Nat} {m:Int} {B:X2} (hm:m = 0 ∨ m = 1) (hp:p ≤ 4) (hf:ZeM (l.length + o) o p = true) (hB:B.2.2.1 < 0 ∨ ∃ q,RGood l o B q) :
  (XY l o p m B).2.2.1 < 0 ∨ ∃ q,RGood l o (XY l o p m B) q:=by
 unfold XY
 split
 ·rename_i hc
  right
  refine ⟨p,rfl,hp,hf,hm,?_⟩
  simp only
  rw [← hc.1]
 ·exact hB
theorem ZE0 {l:List Int} {o p:Nat} {B:X2} (hp:p ≤ 4) (hB:B.2.2.1 < 0 ∨ ∃ q,RGood l o B q):(Zl1 l o B p).2.2.1 < 0 ∨ ∃ q,RGood l o (Zl1 l o B p) q:=by
 unfold Zl1
 split
 ·rename_i hf
  exact Zs5 (.inr rfl) hp hf (Zs5 (.inl rfl) hp hf hB)
 ·exact hB
theorem Zjo {l:List Int} {o:Nat}:∀ (d p:Nat) (B:X2),p + d ≤ 5 → (B.2.2.1 < 0 ∨ ∃ q,RGood l o B q) → (Yn l o d p B).2.2.1 < 0 ∨ ∃ q,RGood l o (Yn l o d p B) q
 | 0,_,B,_,hB => hB
 | d + 1,p,B,h,hB => Zjo d (p + 1) _ (by omega) (ZE0 (by omega) hB)
theorem Zs6 {l:List Int} {o p:Nat} {m:Int} {B:X2} (hl:∀ x ∈ l,ZN x) (hn:l.length ≤ 512) (hm:0 ≤ m) (hB:0 ≤ B.2.2.1):0 ≤ (XY l o p m B).2.2.1:=by
 unfold XY
 split
 ·have:=Znj hm (Yt l o p) [] 6 fun c hc => ⟨fun x hx => hl x (ZaZ hc x hx),by have:=Zjw hc; omega⟩
  simp only
  omega
 ·exact hB
theorem Zp1 {l:List Int} {o:Nat} (hl:∀ x ∈ l,ZN x) (hn:l.length ≤ 512):∀ (d p:Nat) (B:X2),0 ≤ B.2.2.1 → 0 ≤ (Yn l o d p B).2.2.1
 | 0,_,B,hB => hB
 | d + 1,p,B,hB => Zp1 hl hn d (p + 1) _ (by
  unfold Zl1
  split
  ·exact Zs6 hl hn (by omega) (Zs6 hl hn (by omega) hB)
  ·exact hB)
theorem ZvX {m:Int}:∀ (cs:List (List Int)) (ps:List Prt) (sz:Int),(∀ c ∈ cs,(We c m).2 = true) → (QK m cs ps sz).2.2 = true
 | [],_,_,_ => rfl
 | c :: cs,ps,sz,h => by
  unfold QK
  rw [if_pos (h c (List.mem_cons_self ..))]
  exact ZvX cs _ _ fun c hc => h c (List.mem_cons_of_mem _ hc)
theorem Zaz {l:List Int} {o:Nat} (hl:∀ x ∈ l,ZN x) (hn:l.length + o ≤ 512) (ho:o ≤ l.length + o):0 ≤ (WS l o).2.2.1 ∧ ∃ q,RGood l o (WS l o) q:=by
 have hnn:0 ≤ (WS l o).2.2.1:=by
  show 0 ≤ (Yn l o 4 1 (Zl1 l o (0,0,-1,[]) 0)).2.2.1
  refine Zp1 hl (by omega) 4 1 _ ?_
  unfold Zl1
  have hf:ZeM (l.length + o) o 0 = true:=by unfold ZeM; simp [Nat.mod_one]
  rw [if_pos hf]
  generalize XY l o 0 0 (0,0,-1,[]) = B
  by_cases hB:0 ≤ B.2.2.1
  ·exact Zs6 hl (by omega) (by omega) hB
  ·unfold XY
   have hok:=ZvX (m:=1) (Yt l o 0) [] 6 fun c hc => ZCy fun x hx => hl x (ZaZ hc x hx)
   rw [if_pos ⟨hok,.inl (by omega)⟩]
   have:=Znj (m:=1) (by omega) (Yt l o 0) [] 6 fun c hc => ⟨fun x hx => hl x (ZaZ hc x hx),by have:=Zjw hc; omega⟩
   simp only
   omega
 refine ⟨hnn,?_⟩
 rcases Zjo (l:=l) (o:=o) 5 0 (0,0,-1,[]) (by omega) (.inl (by show (-1:Int) < 0; omega)) with h | h
 ·exact absurd h (by unfold WS at hnn; omega)
 ·exact h
end Go.Sh
namespace Go.Sh
open Go Go.Proofs
theorem ZIq (k:Nat) {l:List Int} (hl:l.length ≤ 512) {o:Nat} (hk:40000 < k) :
  ZqE k (l,(o:Int),()) = some ((if Yq l o = 0 then ((WS l o).2.2.1,0,()) else (0,Yq l o,())),()):=by
 show Zg9 k _ = _
 simp only [Zg9]
 rw [Zuq k l o (by omega) (by omega)]
 simp only [Z1]
 rw [ZL]
 by_cases h:Yq l o = 0
 ·rw [Zk (by simpa using h),if_pos h]
  have hc:Zcc ((l.length:Int) + o) o = true ∧ l.any Qw = false:=by
   unfold Yq at h
   split at h
   ·omega
   ·split at h
    ·omega
    ·rename_i hb
     split at h
     ·omega
     ·rename_i hw
      exact ⟨by simpa using hb,by simpa using hw⟩
  have hb:=of_decide_eq_true hc.1
  rw [Zur k (Ky hc.2) (by omega) hk]
  rfl
 ·rw [Zc h,if_neg h]
theorem Zgg {l:List Int} {o:Nat}:Yq l o = 0 ↔ (1 ≤ l.length + o ∧ l.length + o ≤ 512 ∧ o ≤ 8) ∧ l.any Qw = false:=by
 unfold Yq
 constructor
 ·intro h
  split at h
  ·omega
  ·split at h
   ·omega
   ·rename_i h1 h2
    split at h
    ·omega
    ·rename_i hw
     have:=of_decide_eq_true (by simpa using h2:Zcc ((l.length:Int) + o) o = true)
     exact ⟨by omega,by simpa using hw⟩
 ·rintro ⟨h1,h2⟩
  rw [if_neg (by omega),if_neg,if_neg (by simp [h2])]
  unfold Zcc
  rw [Xj (by omega)]
  simp
def KO (kk:Nat) (n:Int):List Bool:=(List.replicate (Z2 n / 2 ^ kk) false ++ [true]) ++ Zb (Z2 n % 2 ^ kk) kk
def Y5 (m:Int) (y:Prt) (c:List Int):List Bool:=if y.1 = (Xv m:Int) then c.flatMap (fun n => WI n y.2.1.toNat) else c.flatMap (KO y.1.toNat)
def XF (m:Int) (x:List Int × Prt):List Bool:=Zb x.2.1.toNat (4 + m.toNat) ++ ((if x.2.1 = (Xv m:Int) then Zb x.2.2.1.toNat 5 else []) ++ Y5 m x.2 x.1)
def Zgc (l:List Int) (o:Nat) (R:X2):List Bool:=(Zb R.1.toNat 2 ++ Zb R.2.1.toNat 4) ++ ((Yt l o R.2.1.toNat).zip R.2.2.2).flatMap (XF R.1)
def Xl (l:List Int) (o:Nat):List Bool:=Zgc l o (WS l o)
theorem Zf9 (kk:Nat) (n:Int):(KO kk n).length = Z2 n / 2 ^ kk + 1 + kk:=by
 simp [KO,Zj]
 omega
theorem ZA3 (k:Nat) (L1:Int × Int × List (List Int) × Int × List Int × Int × Int × List (Int × Int × Int × Unit) × Int → Option (Int × (List Int × Int × Unit) × Unit))
  {c:List Int} (hc:∀ x ∈ c,ZN x) (hn:c.length ≤ 512) (hk:70000 < k) {m:Int} (hm:m = 0 ∨ m = 1) {y:Prt} (hy:Zak c m y) (v3 v4:Int) (v5:List (List Int)) (v12:Int) (v13:List Prt) (v14:Int)
  (hv3:0 ≤ v3 ∧ v3 ≤ 65536) (bs:List Bool) (hb:bs.length ≤ 2147483648) :
  Zm4 k L1 (Int.ofNat c.length,(0:Int),c,v3,v4,v5,(bs.length:Int),ZJ bs,y.1,y.2.1,y.2.2.1,m,v12,v13,v14) =
   L1 (v4,v3 + 1,v5,((bs ++ Y5 m y c).length:Int),ZJ (bs ++ Y5 m y c),m,v12,v13,v14):=by
 have he:Xv m ≤ 31:=by unfold Xv; split <;> omega
 have hfin:∀ (g:Int → List Bool),(∀ x ∈ c,(g x).length ≤ 70000) →
   (∀ (L:Int × Int × List Int × Int × Int × List (List Int) × Int × List Int × Int × Int × Int × Int × Int × List (Int × Int × Int × Unit) × Int → Option (Int × (List Int × Int × Unit) × Unit)) (i:Nat) (hi:i < c.length) (a:List Bool),a.length ≤ 2147483648 + i * 70000 →
    Zab k L1 L (Int.ofNat c.length,Int.ofNat i,c,v3,v4,v5,(a.length:Int),ZJ a,y.1,y.2.1,y.2.2.1,m,v12,v13,v14) =
    L (Int.ofNat c.length,Int.ofNat (i + 1),c,v3,v4,v5,((a ++ g c[i]).length:Int),ZJ (a ++ g c[i]),y.1,y.2.1,y.2.2.1,m,v12,v13,v14)) →
   Zm4 k L1 (Int.ofNat c.length,(0:Int),c,v3,v4,v5,(bs.length:Int),ZJ bs,y.1,y.2.1,y.2.2.1,m,v12,v13,v14) =
   L1 (v4,v3 + 1,v5,((bs ++ c.flatMap g).length:Int),ZJ (bs ++ c.flatMap g),m,v12,v13,v14):=by
  intro g hg hstep
  have:=Zz (A:=List Bool) (R:=Int × (List Int × Int × Unit) × Unit) (step:=fun L2 => Zab k L1 L2)
   (fun i a => (Int.ofNat c.length,Int.ofNat i,c,v3,v4,v5,(a.length:Int),ZJ a,y.1,y.2.1,y.2.2.1,m,v12,v13,v14)) c
   (fun c' a => L1 (v4,v3 + 1,v5,((a ++ c'.flatMap g).length:Int),ZJ (a ++ c'.flatMap g),m,v12,v13,v14))
   (fun i a => a.length ≤ 2147483648 + i * 70000)
   (fun L a _ => by
    simp only [Zab]
    rw [Zk (Q3 _),Qa (by omega)]
    simp)
   (fun L i hi a ha hL => by
    rw [hstep L i hi a ha,hL (a ++ g c[i]) (by
     have:=hg c[i] (List.getElem_mem hi)
     rw [Q2]; omega)]
    rw [List.flatMap_cons,List.append_assoc])
   k 0 bs (by omega) (by omega) (Nat.zero_le _)
  rw [List.drop_zero] at this
  exact this
 unfold Y5
 rcases hy with ⟨kk,hkk,hfar,rfl⟩ | ⟨hw,rfl⟩
 ·simp only
  rw [if_neg (by omega)]
  have hq:∀ x ∈ c,Z2 x / 2 ^ kk ≤ 65536:=by
   intro x hx
   unfold Zm5 at hfar
   rw [List.any_eq_false] at hfar
   have:=hfar x hx
   simp only [decide_eq_true_eq] at this
   omega
  rw [Xm]
  refine hfin (KO kk) (fun x hx => by have:=hq x hx; rw [Zf9]; omega) ?_
  intro L i hi a ha
  have hx:=hc c[i] (List.getElem_mem hi)
  have hxq:=hq c[i] (List.getElem_mem hi)
  simp only [Zab]
  rw [Zc (ltR hi),Zc (Kh hi),ZG5,Zcx k hm]
  simp only [Z1]
  rw [ZK,Zk (by omega),ZM hi,ZWQ,Zuz k hx]
  simp only [Z1]
  have hf32:=ZsC hx
  rw [Zc (by omega),Zzf (by omega) (by omega)]
  simp only [Xm,Nat.min_eq_left (show kk ≤ 64 by omega),ZfQ]
  rw [show ((ZJ a,((a.length:Nat):Int),()):List Int × Int × Unit) = KG a from rfl,ZA1 k a _ (by omega) hxq (by omega)]
  simp only [Z1]
  rw [Zc (by omega)]
  have hlen:(a ++ (List.replicate (Z2 c[i] / 2 ^ kk) false ++ [true])).length = a.length + (Z2 c[i] / 2 ^ kk + 1):=by simp
  rw [QS k (a ++ (List.replicate (Z2 c[i] / 2 ^ kk) false ++ [true])) _ kk (by omega) (by omega) (Nat.mod_lt _ (Nat.pow_pos (by omega))) (by rw [hlen]; omega)]
  simp only [Z1]
  rw [Qr hi (by omega)]
  unfold KO
  simp only [List.append_assoc]
 ·simp only
  rw [if_pos trivial,Xm]
  refine hfin (fun n => WI n (QP c)) (fun x hx => by simp only [ZaR]; omega) ?_
  intro L i hi a ha
  have hx:=Zwh hc c[i] (List.getElem_mem hi)
  simp only [Zab]
  rw [Zc (ltR hi),Zc (Kh hi),ZG5,Zcx k hm]
  simp only [Z1]
  rw [ZK,Zc rfl,ZM hi]
  rw [show ((ZJ a,((a.length:Nat):Int),()):List Int × Int × Unit) = KG a from rfl,Zup k a _ (QP c) (by omega) (by omega) hx (by omega)]
  simp only [Z1]
  rw [Qr hi (by omega)]
theorem ZBs {c:List Int} (hc:∀ x ∈ c,ZN x) (hn:c.length ≤ 512) {m:Int} {y:Prt} (hy:Zak c m y):(Y5 m y c).length ≤ c.length * 70000:=by
 have he:Xv m ≤ 31:=by unfold Xv; split <;> omega
 have key:∀ (g:Int → List Bool) (l:List Int),(∀ x ∈ l,(g x).length ≤ 70000) → (l.flatMap g).length ≤ l.length * 70000:=by
  intro g l
  induction l with
  | nil => intro _; simp
  | cons a l ih =>
   intro h
   have h1:=h a (List.mem_cons_self ..)
   have h2:=ih fun x hx => h x (List.mem_cons_of_mem _ hx)
   rw [List.flatMap_cons,Q2,List.length_cons]
   omega
 unfold Y5
 rcases hy with ⟨kk,hkk,hfar,rfl⟩ | ⟨hw,rfl⟩
 ·simp only
  rw [if_neg (by omega)]
  refine key _ c fun x hx => ?_
  unfold Zm5 at hfar
  rw [List.any_eq_false] at hfar
  have:=hfar x hx
  simp only [decide_eq_true_eq] at this
  rw [Zf9,Xm]
  omega
 ·simp only
  rw [if_pos trivial]
  refine key _ c fun x hx => ?_
  rw [ZaR,Xm]
  omega
def KH (m:Int):List (List Int) → List Prt → Prop
 | [],[] => True
 | c :: cs,y :: ys => Zak c m y ∧ KH m cs ys
 | _,_ => False
theorem Zga {m:Int}:∀ (cs:List (List Int)) (ps:List Prt) (sz:Int),(QK m cs ps sz).2.2 = true → ∃ ys,(QK m cs ps sz).1 = ps ++ ys ∧ KH m cs ys ∧ ys = cs.map fun c => (We c m).1
 | [],ps,sz,_ => ⟨[],by simp [QK],trivial,rfl⟩
 | c :: cs,ps,sz,h => by
  unfold QK at h ⊢
  split at h
  ·rename_i hb
   rw [if_pos hb]
   obtain ⟨ys,h1,h2,h3⟩:=Zga cs _ _ h
   refine ⟨(We c m).1 :: ys,by rw [h1]; simp,⟨ZeW hb,h2⟩,by rw [h3]; rfl⟩
  ·cases h
theorem KH.len {m:Int}:∀ {cs:List (List Int)} {ys:List Prt},KH m cs ys → ys.length = cs.length
 | [],[],_ => rfl
 | c :: cs,y :: ys,h => by simp [KH.len h.2]
theorem KH.get {m:Int}:∀ {cs:List (List Int)} {ys:List Prt},KH m cs ys → ∀ (i:Nat) (h1:i < cs.length) (h2:i < ys.length),Zak cs[i] m ys[i]
 | c :: cs,y :: ys,h,0,_,_ => h.1
 | c :: cs,y :: ys,h,i + 1,h1,h2 => by
  simp only [List.getElem_cons_succ]
  exact KH.get h.2 i (by simpa using h1) (by simpa using h2)
theorem RGood.ys {l:List Int} {o p:Nat} {R:X2} (h:RGood l o R p):KH R.1 (Yt l o p) R.2.2.2:=by
 obtain ⟨ys,h1,h2,_⟩:=Zga (m:=R.1) (Yt l o p) [] 6 (by rw [h.parts])
 rw [h.parts] at h1
 simp only [List.nil_append] at h1
 rw [h1]; exact h2
theorem Zs3 {c:List Int} {m:Int} (hm:m = 0 ∨ m = 1) {y:Prt} (hy:Zak c m y):∃ a w:Nat,y.1 = (a:Int) ∧ a < 2 ^ (4 + m.toNat) ∧ y.2.1 = (w:Int) ∧ w ≤ 31:=by
 rcases hy with ⟨kk,hkk,hfar,rfl⟩ | ⟨hw,rfl⟩
 ·refine ⟨kk,0,rfl,?_,rfl,by omega⟩
  rcases hm with rfl | rfl
  ·have:Xv 0 = 15:=rfl
   rw [this] at hkk
   show kk < 16
   omega
  ·have:Xv 1 = 31:=rfl
   rw [this] at hkk
   show kk < 32
   omega
 ·refine ⟨Xv m,QP c,rfl,?_,rfl,hw⟩
  rcases hm with rfl | rfl <;> decide
theorem ZA4 (k:Nat) {l:List Int} {o:Nat} (hk:70000 < k) (h:Yq l o = 0) (bs:List Bool) (hb:bs.length ≤ 1073741824) :
  Zid k (KG bs,l,(o:Int),()) = some (0,KG (bs ++ Xl l o),()):=by
 show Zlo k (Zyi k) _ = _
 have ⟨h1,h2⟩:=Zgg.1 h
 have hl:=Ky h2
 obtain ⟨hsz,q,hg⟩:=Zaz hl (o:=o) (by omega) (by omega)
 simp only [Zlo]
 rw [Zuq k l o (by omega) (by omega),h]
 simp only [Z1]
 rw [show ((0:Int) != 0) = false from rfl]
 simp only [cond_false]
 rw [Zur k hl (by omega) (by omega)]
 simp only [Z1]
 unfold Xl Zgc
 generalize WS l o = R at hg hsz
 have hys:=hg.ys
 obtain ⟨m,p,sz,ys⟩:=R
 obtain ⟨hp,p4,hfit,hm,hparts⟩:=hg
 simp only at hp hm hparts hys
 subst hp
 simp only [Xm]
 have hmn:m = ((m.toNat:Nat):Int):=by rcases hm with rfl | rfl <;> rfl
 have hm2:m.toNat < 2 ^ 2:=by rcases hm with rfl | rfl <;> decide
 have e1:=QS k bs m.toNat 2 (by omega) (by omega) hm2 (by omega)
 rw [← hmn] at e1
 rw [show ((ZJ bs,((bs.length:Nat):Int),()):List Int × Int × Unit) = KG bs from rfl,show (2:Int) = ((2:Nat):Int) from rfl,e1]
 simp only [Z1]
 have hl1:(bs ++ Zb m.toNat 2).length = bs.length + 2:=by rw [Q2,Zj]
 have e2:=QS k (bs ++ Zb m.toNat 2) q 4 (by omega) (by omega) (by omega) (by rw [hl1]; omega)
 rw [show (4:Int) = ((4:Nat):Int) from rfl,e2]
 simp only [Z1]
 rw [Zus k (by omega) (by omega) (by omega) hfit]
 simp only [Z1]
 have hcs:∀ c ∈ Yt l o q,(∀ x ∈ c,ZN x) ∧ c.length ≤ 512:=fun c hc => ⟨fun x hx => hl x (ZaZ hc x hx),by have:=Zjw hc; omega⟩
 have hclen:(Yt l o q).length ≤ 16:=by
  rw [Zjx]
  have:2 ^ q ≤ 2 ^ 4:=Nat.pow_le_pow_right (by omega) p4
  omega
 have hyl:=hys.len
 generalize Yt l o q = cs at hcs hclen hys hyl
 have hzl:(cs.zip ys).length = cs.length:=by rw [List.length_zip]; omega
 have hl2:(bs ++ Zb m.toNat 2 ++ Zb q 4).length = bs.length + 6:=by rw [Q2,hl1,Zj]
 have:=Zz (A:=List Bool) (R:=Int × (List Int × Int × Unit) × Unit) (step:=fun L1 => ZfN k (Zm4 k L1) L1)
  (fun i a => (Int.ofNat cs.length,Int.ofNat i,cs,(a.length:Int),ZJ a,m,(q:Int),ys,sz)) (cs.zip ys)
  (fun l' a => some (0,KG (a ++ l'.flatMap (XF m)),()))
  (fun i a => a.length ≤ 1073741900 + i * 35900000)
  (fun L a _ => by
   simp only [ZfN]
   rw [hzl,Zk (Q3 _)]
   simp)
  (fun L i hi a ha hL => by
   have hi1:i < cs.length:=by omega
   have hi2:i < ys.length:=by omega
   obtain ⟨hc1,hc2⟩:=hcs cs[i] (List.getElem_mem hi1)
   have hy:=hys.get i hi1 hi2
   have hzi:(cs.zip ys)[i] = (cs[i],ys[i]):=by rw [List.getElem_zip]
   simp only [ZfN]
   rw [Zc (ltR hi1),Zc (Kh hi1),Zc (Kh hi2),ZTT,Zmy k hm]
   simp only [Z1]
   rw [ZM hi1,ZM hi2]
   obtain ⟨b,w,hb1,hb2,hw1,hw2⟩:=Zs3 hm hy
   have hll:=ZBs hc1 hc2 hy
   have e4:(4:Int) + m = ((4 + m.toNat:Nat):Int):=by rcases hm with rfl | rfl <;> rfl
   have hm1:m.toNat ≤ 1:=by rcases hm with rfl | rfl <;> decide
   rw [hb1,hw1,e4,show ((ZJ a,((a.length:Nat):Int),()):List Int × Int × Unit) = KG a from rfl,QS k a b (4 + m.toNat) (by omega) (by omega) hb2 (by omega)]
   simp only [Z1]
   rw [ZG5,Zcx k hm]
   simp only [Z1]
   have hla:(a ++ Zb b (4 + m.toNat)).length = a.length + (4 + m.toNat):=by rw [Q2,Zj]
   have hI:((i:Nat):Int) ≤ 16:=by omega
   have hout:XF m (cs[i],ys[i]) = Zb b (4 + m.toNat) ++ ((if (b:Int) = (Xv m:Int) then Zb w 5 else []) ++ Y5 m ys[i] cs[i]):=by
    unfold XF
    simp only [hb1,hw1,Xm]
   rw [hzi,List.flatMap_cons,hout,ZK]
   have hnext:Int.ofNat i + 1 = Int.ofNat (i + 1):=rfl
   by_cases hesc:(b:Int) = (Xv m:Int)
   ·rw [Zc hesc,if_pos hesc]
    have h5:w < 2 ^ 5:=by omega
    rw [show ((5:Int)) = ((5:Nat):Int) from rfl,QS k (a ++ Zb b (4 + m.toNat)) w 5 (by omega) (by omega) h5 (by omega)]
    simp only [Z1]
    have hlb:(a ++ Zb b (4 + m.toNat) ++ Zb w 5).length = a.length + (4 + m.toNat) + 5:=by rw [Q2,hla,Zj]
    have:=ZA3 k L hc1 hc2 (by omega) hm hy (Int.ofNat i) (Int.ofNat cs.length) cs (q:Int) ys sz (by simp only [Qv]; omega) (a ++ Zb b (4 + m.toNat) ++ Zb w 5) (by omega)
    rw [hb1,hw1] at this
    refine Eq.trans this ?_
    rw [hnext,hL _ (by rw [Q2,hlb]; omega)]
    simp
   ·rw [Zk hesc,if_neg hesc]
    have:=ZA3 k L hc1 hc2 (by omega) hm hy (Int.ofNat i) (Int.ofNat cs.length) cs (q:Int) ys sz (by simp only [Qv]; omega) (a ++ Zb b (4 + m.toNat)) (by omega)
    rw [hb1,hw1] at this
    refine Eq.trans this ?_
    rw [hnext,hL _ (by rw [Q2,hla]; omega)]
    simp)
  k 0 (bs ++ Zb m.toNat 2 ++ Zb q 4) (by omega) (by omega) (Nat.zero_le _)
 rw [List.drop_zero] at this
 refine Eq.trans this ?_
 simp
end Go.Sh
namespace Go.Sh
open Go Go.Proofs
theorem ZA5 (k:Nat) (n d:Int):Zvv k (n,d,()) = some (decide (1 ≤ n ∧ n ≤ 512 ∧ 4 ≤ d ∧ d ≤ 25),()):=by
 show Zlu k _ = _
 simp only [Zlu]
 by_cases h1:1 ≤ n
 ·rw [Zc h1]
  by_cases h2:n ≤ 512
  ·rw [Zc h2]
   by_cases h3:4 ≤ d
   ·rw [Zc h3]
    congr 2
    by_cases h4:d ≤ 25
    ·rw [Xj h4,Xj (by omega)]
    ·rw [Wr h4,Wr (by omega)]
   ·rw [Zk h3,Wr (by omega)]
  ·rw [Zk h2,Wr (by omega)]
 ·rw [Zk h1,Wr (by omega)]
theorem ZA8 (k:Nat) (x:Int) {d:Nat} (h1:1 ≤ d) (h2:d ≤ 64):Zvw k (x,(d:Int),()) = some (Xp x d,()):=by
 show Zlx k _ = _
 simp only [Zlx]
 have e1:IntKind.i64.wrap ((d:Int) - 1) = ((d - 1:Nat):Int):=by rw [Qa (by omega)]; omega
 rw [e1,ZBN x (by omega)]
 simp only [Xm,Nat.min_eq_left (show d - 1 ≤ 64 by omega)]
 rw [Zc (by omega),Zc (by omega)]
 cases x.fdiv (2 ^ (d - 1)) == 0 <;> rfl
theorem ZHE (k:Nat) (x:Int) {d:Nat} (h1:1 ≤ d) (h2:d ≤ 64):Zqj k (x,((d:Int),()),()) = some (!Xp x d,((d:Int),()),()):=by
 show ZgC k _ = _
 simp only [ZgC]
 rw [ZA8 k x h1 h2]
 rfl
theorem ZzH (k:Nat) (c:List Int) {d:Nat} (h1:1 ≤ d) (h2:d ≤ 64) (hk:c.length < k) (hn:c.length < 4294967296) :
  Ze2 k (c,(((d:Int),()),()),()) = some (!c.all (Xp · d),((d:Int),()),()):=by
 show ZbI k _ = _
 simp only [ZbI]
 have key:∃ i:Int,Zfb k (c,(((d:Int),()),()),()) = some (i,((d:Int),()),()) ∧ (0 ≤ i ↔ c.all (Xp · d) = false):=by
  have:=QN (A:=Unit) (R:=Int × (Int × Unit) × Unit) (step:=fun L1 => KY k L1) (fun i _ => (Int.ofNat c.length,Int.ofNat i,c,(d:Int))) c
   (fun l _ => some (if l.all (Xp · d) then -1 else Int.ofNat (c.length - l.length + (l.takeWhile (fun x => Xp x d)).length),((d:Int),()),()))
   (fun L _ => by simp only [KY]; rw [Zk (Q3 _)]; rfl)
   (fun L i hi _ hL => by
    simp only [KY]
    rw [Zc (ltR hi),Zc (Kh hi),ZM hi,ZHE k _ h1 h2]
    simp only [Z1]
    have hlen:(List.drop (i + 1) c).length = c.length - (i + 1):=by simp
    cases hc:Xp c[i] d with
    | true =>
     simp only [Bool.not_true,cond_false]
     rw [Qr hi (by omega),hL ()]
     simp only [List.all_cons,hc,Bool.true_and,List.takeWhile_cons,if_true,List.length_cons,hlen]
     split
     ·rfl
     ·congr 3; omega
    | false =>
     simp only [Bool.not_false,cond_true,List.all_cons,hc,Bool.false_and,Bool.false_eq_true,if_false,List.takeWhile_cons,List.length_cons,hlen,List.length_nil]
     congr 3; omega) k 0 () (by omega) (Nat.zero_le _)
  rw [List.drop_zero] at this
  refine ⟨_,this,?_⟩
  cases c.all (Xp · d) <;> simp
 obtain ⟨i,h1,h2⟩:=key
 rw [h1]
 simp only [Z1]
 cases hc:c.all (Xp · d) with
 | false => rw [Xj (h2.2 hc)]; rfl
 | true => rw [Wr (fun h => by have:=h2.1 h; rw [hc] at this; cases this)]; rfl
def ZhX (s:List Int) (d:Int):Int:=if 1 ≤ s.length ∧ s.length ≤ 512 ∧ 4 ≤ d ∧ d ≤ 25 then (if s.all (Xp · d.toNat) = true then 0 else 12) else 1
theorem ZN0 (k:Nat) (s:List Int) (d:Int) (hk:1000 < k):Zvt k (s,d,()) = some (ZhX s d,()):=by
 show Zlj k _ = _
 simp only [Zlj]
 rw [ZA5]
 simp only [Z1]
 unfold ZhX
 by_cases h:1 ≤ s.length ∧ s.length ≤ 512 ∧ 4 ≤ d ∧ d ≤ 25
 ·rw [if_pos h,Xj (by simp only [Qv]; omega)]
  simp only [Bool.not_true,cond_false]
  obtain ⟨e,rfl⟩:=Int.eq_ofNat_of_zero_le (show 0 ≤ d by omega)
  rw [ZzH k s (by omega) (by omega) (by omega) (by omega),Xm]
  simp only [Z1]
  cases s.all (Xp · e) <;> rfl
 ·rw [if_neg h,Wr (by simp only [Qv]; omega)]
  rfl
def ZaH (x:Int):Nat:=(x % 18446744073709551616).toNat
def Zws (s:List Int):Nat:=s.foldl (fun v x => v ||| ZaH x) 0
def ZI (s:List Int):Nat:=if Zws s = 0 then 0 else Lib.ctz 64 (Zws s)
theorem ZGH (x:Int):ZaH x < 2 ^ 64:=by unfold ZaH; omega
theorem Zag (x:Int):(BitVec.ofInt 64 x).toNat = ZaH x:=by rw [BitVec.toNat_ofInt]; rfl
theorem ZvN {n:Nat} (h:n < 2 ^ 64):ZaH (IntKind.i64.wrap (n:Int)) = n:=by
 unfold ZaH
 rw [IntKind.wrap_i64]
 omega
theorem Zs1:∀ (s:List Int) (v:Nat),v < 2 ^ 64 → s.foldl (fun v x => v ||| ZaH x) v < 2 ^ 64
 | [],_,h => h
 | x :: s,v,h => Zs1 s _ (Nat.or_lt_two_pow h (ZGH x))
theorem ZPD (s:List Int):Zws s < 2 ^ 64:=Zs1 s 0 (by decide)
theorem ZHG (k:Nat) (s:List Int) (hk:s.length < k) (hn:s.length < 4294967296):Zqk k (s,()) = some (((ZI s:Nat):Int),()):=by
 show ZgD k (Zoq k) _ = _
 simp only [ZgD]
 have:=Zz (A:=Nat) (R:=Int × Unit) (step:=fun L1 => Zcu k L1) (fun i v => (Int.ofNat s.length,Int.ofNat i,s,IntKind.i64.wrap (v:Int))) s
  (fun s' v => some ((((if s'.foldl (fun v x => v ||| ZaH x) v = 0 then 0 else Lib.ctz 64 (s'.foldl (fun v x => v ||| ZaH x) v)):Nat):Int),()))
  (fun i v => v < 2 ^ 64)
  (fun L v hv => by
   simp only [Zcu]
   rw [Zk (Q3 _),ZK,List.foldl_nil]
   by_cases h0:v = 0
   ·subst h0; rfl
   ·have hne:¬ IntKind.i64.wrap (v:Int) = 0:=by
     intro h
     have:=ZvN hv
     rw [h] at this
     exact h0 this.symm
    rw [Zk hne,if_neg h0]
    have hu:IntKind.u64.wrap (IntKind.i64.wrap (v:Int)) = (v:Int):=by
     rw [IntKind.wrap_u64,IntKind.wrap_i64]; omega
    rw [hu]
    show (tzF _).bind _ = _
    unfold tzF
    rw [show (decide ((0:Int) ≤ (v:Int)) && decide ((v:Int) < 18446744073709551616)) = true from by
     rw [Bool.and_eq_true,decide_eq_true_eq,decide_eq_true_eq]; omega]
    rfl)
  (fun L i hi v hv hL => by
   simp only [Zcu]
   rw [Zc (ltR hi),Zc (Kh hi),ZM hi,BitVec.toNat_or,Zag,Zag,ZvN hv,Qr hi (by omega),List.foldl_cons]
   exact hL (v ||| ZaH s[i]) (Nat.or_lt_two_pow hv (ZGH _)))
  k 0 0 (by decide) (by omega) (Nat.zero_le _)
 rw [List.drop_zero] at this
 exact this
theorem ZBw {a b k:Nat} (h:(a ||| b) % 2 ^ k = 0):a % 2 ^ k = 0 ∧ b % 2 ^ k = 0:=by
 rw [Nat.or_mod_two_pow] at h
 have h1:a % 2 ^ k ≤ a % 2 ^ k ||| b % 2 ^ k:=Nat.left_le_or
 have h2:b % 2 ^ k ≤ a % 2 ^ k ||| b % 2 ^ k:=Nat.right_le_or
 omega
theorem ZlM {k:Nat}:∀ (s:List Int) (v:Nat),(s.foldl (fun v x => v ||| ZaH x) v) % 2 ^ k = 0 → v % 2 ^ k = 0 ∧ ∀ x ∈ s,ZaH x % 2 ^ k = 0
 | [],v,h => ⟨h,by simp⟩
 | x :: s,v,h => by
  obtain ⟨h1,h2⟩:=ZlM s _ h
  obtain ⟨h3,h4⟩:=ZBw h1
  refine ⟨h3,fun y hy => ?_⟩
  rcases List.mem_cons.1 hy with rfl | hy
  ·exact h4
  ·exact h2 y hy
theorem ZSF {x : Int} {k : Nat} (hk : k ≤ 64) (h : ZaH x % 2 ^ k = 0) : ((2 : Int) ^ k) ∣ x := by
  have := Zn0 x k 64 hk
  unfold ZaH at h
  rw [show (18446744073709551616 : Int) = 2 ^ 64 from rfl, this] at h
  have h0 : 0 ≤ x % 2 ^ k := Int.emod_nonneg _ (by have : (0 : Int) < 2 ^ k := Int.pow_pos (by omega)
                                                   omega)
  exact Int.dvd_of_emod_eq_zero (by omega)
theorem ZCa {s:List Int} (h:Zws s ≠ 0):∃ m,Zws s = 2 ^ ZI s * (2 * m + 1) ∧ ZI s < 64:=by
 unfold ZI Lib.ctz
 rw [if_neg h,if_neg h]
 exact Lib.ctzFrom_spec 64 (Zws s) (by omega) (ZPD s)
theorem Zjg {s:List Int}:∀ x ∈ s,((2:Int) ^ ZI s) ∣ x:=by
 intro x hx
 by_cases h:Zws s = 0
 ·unfold ZI
  rw [if_pos h]
  exact Int.one_dvd _
 ·obtain ⟨m,hm,hlt⟩:=ZCa h
  have:Zws s % 2 ^ ZI s = 0:=by rw [hm]; exact Nat.mul_mod_right _ _
  exact ZSF (by omega) ((ZlM s 0 this).2 x hx)
theorem Zzg:∀ (s:List Int) (v:Nat),v = 0 → (∀ x ∈ s,x = 0) → s.foldl (fun v x => v ||| ZaH x) v = 0
 | [],v,h,_ => h
 | x :: s,v,h,hx => by
  refine Zzg s _ ?_ fun y hy => hx y (List.mem_cons_of_mem _ hy)
  rw [h,hx x (List.mem_cons_self ..)]
  rfl
theorem Zdw {s:List Int} {d:Nat} (hd:1 ≤ d) (hs:∀ x ∈ s,Xp x d = true):ZI s < d:=by
 by_cases h:Zws s = 0
 ·unfold ZI
  rw [if_pos h]
  omega
 ·have:∃ x ∈ s,x ≠ 0:=by
   apply Classical.byContradiction
   intro hc
   refine h (Zzg s 0 rfl fun x hx => ?_)
   apply Classical.byContradiction
   intro hne
   exact hc ⟨x,hx,hne⟩
  obtain ⟨x,hx,hne⟩:=this
  have h1:=hs x hx
  unfold Xp at h1
  rw [if_neg (by omega),decide_eq_true_eq] at h1
  have h2:=Int.natAbs_dvd_natAbs.2 (Zjg x hx)
  rw [Int.natAbs_pow] at h2
  have h3:=Nat.le_of_dvd (by omega) h2
  have h4:x.natAbs ≤ 2 ^ (d - 1):=by
   rw [WF] at h1
   generalize 2 ^ (d - 1) = Q at h1 ⊢
   omega
  have h5:2 ^ ZI s ≤ 2 ^ (d - 1):=Nat.le_trans h3 h4
  have:=(Nat.pow_le_pow_iff_right (by omega:1 < 2)).1 h5
  omega
def Q4 (s:List Int):List Int:=s.map fun x => x.fdiv (2 ^ ZI s)
theorem ZaS (s:List Int):(Q4 s).length = s.length:=by simp [Q4]
theorem ZBc {x:Int} {k:Nat} (h:((2:Int) ^ k) ∣ x):x.fdiv (2 ^ k) * 2 ^ k = x:=by
 rw [Int.fdiv_eq_ediv_of_nonneg _ (Int.pow_nonneg (by omega))]
 exact Int.ediv_mul_cancel h
theorem ZJY {x:Int} {d k:Nat} (hk:k < d) (h:((2:Int) ^ k) ∣ x) (hx:Xp x d = true):Xp (x.fdiv (2 ^ k)) (d - k) = true:=by
 have he:=ZBc h
 generalize x.fdiv (2 ^ k) = y at he
 unfold Xp at hx ⊢
 rw [if_neg (by omega),decide_eq_true_eq] at hx
 rw [if_neg (by omega),decide_eq_true_eq]
 have hp:(0:Int) < 2 ^ k:=Int.pow_pos (by omega)
 have e:(2:Int) ^ (d - 1) = 2 ^ (d - k - 1) * 2 ^ k:=by rw [← Int.pow_add]; congr 1; omega
 rw [e,← he,← Int.neg_mul] at hx
 exact ⟨Int.le_of_mul_le_mul_right hx.1 hp,Int.lt_of_mul_lt_mul_right hx.2 (by omega)⟩
theorem Zjc {s:List Int} {d:Nat} (hd:1 ≤ d) (hs:∀ x ∈ s,Xp x d = true):∀ x ∈ Q4 s,Xp x (d - ZI s) = true:=by
 intro y hy
 obtain ⟨x,hx,rfl⟩:=List.mem_map.1 hy
 exact ZJY (Zdw hd hs) (Zjg x hx) (hs x hx)
theorem ZEZ {x:Int} {d:Nat} (hd:d ≤ 31) (h:Xp x d = true):ZN x:=by
 unfold Xp at h
 unfold ZN
 split at h
 ·simp only [decide_eq_true_eq] at h; omega
 ·rw [decide_eq_true_eq,WF] at h
  have:2 ^ (d - 1) ≤ 2 ^ 30:=Nat.pow_le_pow_right (by omega) (by omega)
  generalize 2 ^ (d - 1) = Q at h this
  omega
end Go.Sh
namespace Go.Sh
open Go Go.Proofs
abbrev Xt:=Int × List Int × Int × List Int × Int
def ZsT (s:List Int) (d:Nat) (kind:Int) (c:List Int) (sh head:Int):Option Xt :=
 if (QV c sh s).2 = 0 then some (kind,c,sh,(QV c sh s).1,head + (c.length:Int) * (d:Int) + (WS (QV c sh s).1 c.length).2.2.1) else none
def Wg (b:Option Xt) (x:Option Xt):Option Xt :=
 match x with
 | none => b
 | some x => match b with
  | none => some x
  | some b => if x.2.2.2.2 < b.2.2.2.2 then some x else some b
abbrev FPl:=Int × Int × Int × List Int × List Int × Int × List Int × Int × Unit
abbrev SPl:=Int × Int × Int × List Int × (List Int × Int × Unit) × List Int × Int × Unit
def QA (kk d:Int) (s:List Int):Option Xt → FPl
 | none => (0,0,0,[],[],0,[],-1,())
 | some (kind,c,sh,r,sz) => (kind,kk,d,s,c,sh,r,sz,())
abbrev ZWs (kk d:Int) (s:List Int) (x:Xt):SPl:=(x.1,kk,d,s,(x.2.1,x.2.2.1,()),x.2.2.2.1,x.2.2.2.2,())
def nnC (b:Option Xt):Prop := ∀ c,b = some c → 0 ≤ c.2.2.2.2
theorem Zds {b x:Option Xt} (hb:nnC b) (hx:nnC x):nnC (Wg b x):=by
 intro c hc
 unfold Wg at hc
 match x,b,hc with
 | none,b,hc => exact hb c hc
 | some x,none,hc => exact hx c hc
 | some x,some b,hc =>
  simp only at hc
  split at hc
  ·exact hx c hc
  ·exact hb c hc
theorem Zql (k:Nat) (kk d:Int) (s:List Int) (x:Xt) (b:Option Xt) (hb:nnC b) :
  Zce k (ZWs kk d s x,true,QA kk d s b,()) = some ((),QA kk d s (Wg b (some x)),()):=by
 match b with
 | none => rfl
 | some b =>
  have h0:=hb b rfl
  show (bif decide (b.2.2.2.2 < 0) then _ else bif decide (x.2.2.2.2 < b.2.2.2.2) then _ else _) = _
  rw [Zk (by omega)]
  unfold Wg
  simp only
  by_cases h:x.2.2.2.2 < b.2.2.2.2
  ·rw [Zc h,if_pos h]; rfl
  ·rw [Zk h,if_neg h]; rfl
theorem Zjp {l:List Int} {o:Nat} (hl:∀ x ∈ l,ZN x) (hn:l.length + o ≤ 512):0 ≤ (WS l o).2.2.1 ∧ (WS l o).2.2.1 ≤ 281474976710656:=by
 obtain ⟨h1,q,hg⟩:=Zaz hl hn (by omega)
 refine ⟨h1,?_⟩
 have key:∀ (cs:List (List Int)) (ps:List Prt) (sz m:Int),(m = 0 ∨ m = 1) → (∀ c ∈ cs,(∀ x ∈ c,ZN x) ∧ c.length ≤ 512) → (QK m cs ps sz).2.1 ≤ sz + (cs.length:Int) * 8796093022208:=by
  intro cs
  induction cs with
  | nil => intro ps sz m _ _; simp [QK]
  | cons c cs ih =>
   intro ps sz m hm h
   cases hb:(We c m).2 with
   | false => rw [Zni _ _ _ hb]; simp only [List.length_cons]; omega
   | true =>
    rw [Zi3 _ _ _ hb]
    have h1:=h c (List.mem_cons_self ..)
    have h2:=(ZeW hb).size h1.1 h1.2
    have:=ih (ps ++ [(We c m).1]) (sz + (4 + m + (We c m).1.2.2.1)) m hm fun c hc => h c (List.mem_cons_of_mem _ hc)
    simp only [List.length_cons]
    omega
 have:=key (Yt l o q) [] 6 _ hg.hm fun c hc => ⟨fun x hx => hl x (ZaZ hc x hx),by have:=Zjw hc; omega⟩
 rw [hg.parts,Zjx] at this
 have h16:2 ^ q ≤ 2 ^ 4:=Nat.pow_le_pow_right (by omega) hg.p4
 generalize 2 ^ q = Q at this h16
 simp only at this
 omega
theorem Zgi {c s:List Int} {sh:Int} (h:(QV c sh s).2 = 0):(QV c sh s).1 = X1 c sh s ∧ c.length ≤ s.length ∧ Zbs c sh = true:=by
 unfold QV at h ⊢
 split at h
 ·simp at h
 ·split at h
  ·simp at h
  ·split at h
   ·simp at h
   ·split at h
    ·simp at h
    ·rename_i h1 h2 h3 h4
     rw [if_neg h1,if_neg h2,if_neg h3,if_neg h4]
     refine ⟨rfl,by omega,by simpa using h1⟩
theorem KP {c s:List Int} {sh:Int} (h:(QV c sh s).2 = 0) (h1:1 ≤ s.length) (h2:s.length ≤ 512):(QV c sh s).1.length + c.length = s.length ∧ c.length ≤ 8 ∧ Yq (QV c sh s).1 (c.length:Nat) = 0:=by
 have hz:=Zgi h
 have hlen:(QV c sh s).1.length + c.length = s.length:=by rw [hz.1,X1,Zth]; omega
 have h8:=(Zf5 hz.2.2).1
 refine ⟨hlen,h8,Zgg.2 ⟨⟨by omega,by omega,h8⟩,?_⟩⟩
 rw [List.any_eq_false]
 intro x hx
 have:=Yj c sh s x hx
 unfold ZN at this
 unfold Qw
 simp only [decide_eq_true_eq]
 omega
def ZWm (p:SPl) (kk d:Int) (s:List Int):Option Xt → SPl × Bool × Unit
 | none => (p,false,())
 | some x => (ZWs kk d s x,true,())
theorem ZHK (k:Nat) (hk:40000 < k) {s:List Int} (h1:1 ≤ s.length) (h2:s.length ≤ 512) {d:Nat} (hd:d ≤ 25) {head:Int} (hh:0 ≤ head ∧ head ≤ 1000) (kind:Int) (c:List Int) (sh a0 a1 a5:Int) (a4 a6:List Int) (a7:Int) :
  ZiG k ((a0,a1,(d:Int),s,(a4,a5,()),a6,a7,()),kind,(c,sh,()),head,()) = some (ZWm (a0,a1,(d:Int),s,(a4,a5,()),a6,a7,()) a1 d s (ZsT s d kind c sh head),()):=by
 show ZgH k _ = _
 simp only [ZgH]
 rw [ZuC k c sh s (by omega) (by omega)]
 simp only [Z1]
 rw [ZL]
 unfold ZsT
 by_cases h:(QV c sh s).2 = 0
 ·rw [Zk (by simpa using h),if_pos h]
  obtain ⟨hl,h8,hr⟩:=KP h h1 h2
  have hc:=ZIq k (l:=(QV c sh s).1) (o:=c.length) (by omega) hk
  rw [if_pos hr] at hc
  rw [show Int.ofNat c.length = ((c.length:Nat):Int) from rfl,hc]
  simp only [Z1]
  rw [show ((0:Int) != 0) = false from rfl]
  simp only [cond_false]
  have hsz:=Zjp (Yj c sh s) (o:=c.length) (by omega)
  have hcd:c.length * d ≤ 8 * 25:=Nat.mul_le_mul h8 hd
  have e1:((c.length:Nat):Int) * (d:Int) = ((c.length * d:Nat):Int):=by push_cast; rfl
  rw [e1,Qa (n:=((c.length * d:Nat):Int)) (by omega),Qa (n:=head + ((c.length * d:Nat):Int)) (by omega),Qa (by omega)]
  rfl
 ·rw [Zc h,if_neg h]
  rfl
theorem ZzI (k:Nat) {s:List Int} (h1:1 ≤ s.length) (h2:s.length ≤ 512) (hk:1000 < k) (a0 a1 a2 a5 a7:Int) (a4 a6:List Int) :
  Ze3 k (s,((a0,a1,a2,s,a4,a5,a6,a7,()),()),()) = some (!s.all (fun x => decide (x = s.headD 0)),(a0,a1,a2,s,a4,a5,a6,a7,()),()):=by
 show ZbJ k _ = _
 simp only [ZbJ]
 have hhd:s.getD 0 0 = s.headD 0:=by cases s <;> rfl
 have key:∃ i:Int,Zfc k (s,((a0,a1,a2,s,a4,a5,a6,a7,()),()),()) = some (i,(a0,a1,a2,s,a4,a5,a6,a7,()),()) ∧ (0 ≤ i ↔ s.all (fun x => decide (x = s.headD 0)) = false):=by
  have:=QN (A:=Unit) (R:=Int × FPl × Unit) (step:=fun L1 => KZ k L1) (fun i _ => (Int.ofNat s.length,Int.ofNat i,s,a0,a1,a2,s,a4,a5,a6,a7)) s
   (fun l _ => some (if l.all (fun x => decide (x = s.headD 0)) then -1 else Int.ofNat (s.length - l.length + (l.takeWhile (fun x => decide (x = s.headD 0))).length),(a0,a1,a2,s,a4,a5,a6,a7,()),()))
   (fun L _ => by simp only [KZ]; rw [Zk (Q3 _)]; rfl)
   (fun L i hi _ hL => by
    simp only [KZ]
    have e:Zqm k (s[i],(a0,a1,a2,s,a4,a5,a6,a7,()),()) = some (s[i] != s.headD 0,(a0,a1,a2,s,a4,a5,a6,a7,()),()):=by
     show ZgE k _ = _
     simp only [ZgE]
     rw [Zc (by simp only [Qv]; omega),hhd]
    rw [Zc (ltR hi),Zc (Kh hi),ZM hi,e]
    simp only [Z1]
    have hlen:(List.drop (i + 1) s).length = s.length - (i + 1):=by simp
    rw [ZL]
    by_cases hc:s[i] = s.headD 0
    ·rw [Zk (by simpa using hc),Qr hi (by omega),hL ()]
     simp only [List.all_cons,hc,decide_true,Bool.true_and,List.takeWhile_cons,if_true,List.length_cons,hlen]
     split
     ·rfl
     ·congr 3; omega
    ·rw [Zc hc]
     simp only [List.all_cons,hc,decide_false,Bool.false_and,Bool.false_eq_true,if_false,List.takeWhile_cons,List.length_cons,hlen,List.length_nil]
     congr 3; omega) k 0 () (by omega) (Nat.zero_le _)
  rw [List.drop_zero] at this
  refine ⟨_,this,?_⟩
  cases s.all (fun x => decide (x = s.headD 0)) <;> simp
 obtain ⟨i,h1,h2⟩:=key
 rw [h1]
 simp only [Z1]
 cases hc:s.all (fun x => decide (x = s.headD 0)) with
 | false => rw [Xj (h2.2 hc)]; rfl
 | true => rw [Wr (fun h => by have:=h2.1 h; rw [hc] at this; cases this)]; rfl
def ZfU (s:List Int) (d:Nat):Option Xt:=if s.all (fun x => decide (x = s.headD 0)) = true then some (0,[],0,[],(d:Int)) else none
def ZSy (s:List Int) (d:Nat) (o:Nat):Option Xt:=ZsT s d (8 + (o:Int)) (XD o) 0 0
def ZeO (s:List Int) (d:Nat) (o:Nat):Option Xt:=if o < s.length then ZsT s d (31 + (o:Int)) (Zb7 s o) 4 (9 + 12 * (o:Int)) else none
def ZPr (s:List Int) (d:Nat):Option Xt:=some (1,[],0,[],(s.length:Int) * (d:Int))
def ZJq (s:List Int) (d:Nat):Nat → Nat → Option Xt → Option Xt
 | 0,_,b => b
 | e + 1,o,b => ZJq s d e (o + 1) (Wg b (ZSy s d o))
def Zoj (s:List Int) (d:Nat):Option Xt :=
 Wg (Wg (Wg (Wg (ZJq s d (min 4 s.length + 1) 0 (Wg none (ZfU s d))) (ZeO s d 2)) (ZeO s d 4)) (ZeO s d 8)) (ZPr s d)
theorem ZGJ {s:List Int} {d:Nat} {kind:Int} {c:List Int} {sh head:Int} (h1:1 ≤ s.length) (h2:s.length ≤ 512) (hh:0 ≤ head):nnC (ZsT s d kind c sh head):=by
 intro x hx
 unfold ZsT at hx
 split at hx
 ·rename_i h
  obtain rfl:=(Option.some.inj hx).symm
  obtain ⟨hl,h8,_⟩:=KP h h1 h2
  have:=(Zjp (Yj c sh s) (o:=c.length) (by omega)).1
  have e1:((c.length:Nat):Int) * (d:Int) = ((c.length * d:Nat):Int):=by push_cast; rfl
  simp only
  rw [e1]
  omega
 ·cases hx
theorem ZyH:nnC none:=fun _ h => by cases h
theorem ZJo (s:List Int) (d:Nat):nnC (ZfU s d):=by
 intro x hx
 unfold ZfU at hx
 split at hx
 ·obtain rfl:=(Option.some.inj hx).symm
  simp only
  omega
 ·cases hx
theorem ZGA {s:List Int} {d o:Nat} (h1:1 ≤ s.length) (h2:s.length ≤ 512):nnC (ZSy s d o):=ZGJ h1 h2 (Int.le_refl _)
theorem ZyD {s:List Int} {d o:Nat} (h1:1 ≤ s.length) (h2:s.length ≤ 512):nnC (ZeO s d o):=by
 unfold ZeO
 split
 ·exact ZGJ h1 h2 (by omega)
 ·exact ZyH
theorem ZGB {s:List Int} {d:Nat} (h1:1 ≤ s.length) (h2:s.length ≤ 512):∀ (e o:Nat) (b:Option Xt),nnC b → nnC (ZJq s d e o b)
 | 0,_,b,h => h
 | e + 1,o,b,h => ZGB h1 h2 e (o + 1) _ (Zds h (ZGA h1 h2))
theorem Zwg (k:Nat) (hk:40000 < k) {s:List Int} (h1:1 ≤ s.length) (h2:s.length ≤ 512) {d:Nat} (hd:d ≤ 25) {head:Int} (hh:0 ≤ head ∧ head ≤ 1000) (kind:Int) (c:List Int) (sh a0 a1 a5:Int) (a4 a6:List Int) (a7:Int) {b:Option Xt} (hb:nnC b)
  {R:Type} (K:Unit × FPl × Unit → Option R) :
  ((ZiG k ((a0,a1,(d:Int),s,(a4,a5,()),a6,a7,()),kind,(c,sh,()),head,())).bind fun y =>
   (Zce k ((y.1.1.1,y.1.1.2.1,y.1.1.2.2.1,y.1.1.2.2.2.1,(y.1.1.2.2.2.2.1.1,y.1.1.2.2.2.2.1.2.1,()),y.1.1.2.2.2.2.2.1,y.1.1.2.2.2.2.2.2.1,()),y.1.2.1,((QA a1 d s b).1,(QA a1 d s b).2.1,(QA a1 d s b).2.2.1,(QA a1 d s b).2.2.2.1,(QA a1 d s b).2.2.2.2.1,(QA a1 d s b).2.2.2.2.2.1,(QA a1 d s b).2.2.2.2.2.2.1,(QA a1 d s b).2.2.2.2.2.2.2.1,()),())).bind K) =
  K ((),QA a1 d s (Wg b (ZsT s d kind c sh head)),()):=by
 rw [ZHK k hk h1 h2 hd hh]
 simp only [Z1]
 cases hm:ZsT s d kind c sh head with
 | none => rfl
 | some x =>
  have:=Zql k a1 d s x b hb
  exact (congrArg (fun z => z.bind K) this).trans rfl
end Go.Sh
namespace Go.Sh
open Go Go.Proofs
theorem Zn {α β:Type} {x:Option α} {a:α} (h:x = some a) (K:α → Option β):x.bind K = K a:=by rw [h]; rfl
theorem ZSo (k:Nat) (hk:40000 < k) {s:List Int} (h1:1 ≤ s.length) (h2:s.length ≤ 512) {d:Nat} (hd:d ≤ 25) (kk:Int) :
  ∀ (e o j:Nat) (b:Option Xt),e < j → o + e ≤ 5 → nnC b →
  Zm (fun L2 => ZfI k (Zm1 k) L2) j (((o + e:Nat):Int),(o:Int),Int.ofNat s.length,(QA kk d s b).1,(QA kk d s b).2.1,(QA kk d s b).2.2.1,(QA kk d s b).2.2.2.1,(QA kk d s b).2.2.2.2.1,(QA kk d s b).2.2.2.2.2.1,(QA kk d s b).2.2.2.2.2.2.1,(QA kk d s b).2.2.2.2.2.2.2.1,
    0,kk,(d:Int),s,[],0,[],0,0,kk,(d:Int),0,(d:Int),s,0,0,0,0,0) =
   (fun b => Zm1 k ((0:Int),(2:Int),(4:Int),(8:Int),Int.ofNat s.length,0,kk,(d:Int),s,[],0,[],0,(QA kk d s b).1,(QA kk d s b).2.1,(QA kk d s b).2.2.1,(QA kk d s b).2.2.2.1,(QA kk d s b).2.2.2.2.1,(QA kk d s b).2.2.2.2.2.1,(QA kk d s b).2.2.2.2.2.2.1,(QA kk d s b).2.2.2.2.2.2.2.1,
    0,kk,(d:Int),0,(d:Int),s,0,0,0,0,0)) (ZJq s d e o b):=by
 intro e
 induction e with
 | zero =>
  intro o j b hj ho hb
  obtain ⟨j,rfl⟩:=ZD hj
  rw [Ze]
  simp only [ZfI]
  rw [Zk (by omega)]
  rfl
 | succ e ih =>
  intro o j b hj ho hb
  obtain ⟨j,rfl⟩:=ZD (show 0 < j by omega)
  rw [Ze]
  simp only [ZfI]
  rw [Zc (by omega),Zms k o (by omega) (by omega)]
  simp only [Z1]
  have e1:IntKind.i64.wrap ((8:Int) + (o:Int)) = 8 + (o:Int):=by rw [Qa (by omega)]
  have e2:IntKind.i64.wrap ((o:Int) + 1) = ((o + 1:Nat):Int):=by rw [Qa (by omega)]; rfl
  rw [e1,e2]
  refine (Zwg k hk h1 h2 hd (show (0:Int) ≤ 0 ∧ (0:Int) ≤ 1000 by omega) (8 + (o:Int)) (XD o) 0 0 kk 0 [] [] 0 hb _).trans ?_
  have:=ih (o + 1) j (Wg b (ZSy s d o)) (by omega) (by omega) (Zds hb (ZGA h1 h2))
  rw [show o + 1 + e = o + (e + 1) by omega] at this
  exact this
theorem ZSp (k:Nat) (hk:40000 < k) {s:List Int} (h1:1 ≤ s.length) (h2:s.length ≤ 512) (hs:∀ x ∈ s,ZN x) {d:Nat} (hd:d ≤ 25) (kk:Int) (b:Option Xt) (hb:nnC b) :
  Zm1 k ((0:Int),(2:Int),(4:Int),(8:Int),Int.ofNat s.length,0,kk,(d:Int),s,[],0,[],0,(QA kk d s b).1,(QA kk d s b).2.1,(QA kk d s b).2.2.1,(QA kk d s b).2.2.2.1,(QA kk d s b).2.2.2.2.1,(QA kk d s b).2.2.2.2.2.1,(QA kk d s b).2.2.2.2.2.2.1,(QA kk d s b).2.2.2.2.2.2.2.1,
    0,kk,(d:Int),0,(d:Int),s,0,0,0,0,0) =
   (fun b => some (((QA kk d s b).1,(QA kk d s b).2.1,(QA kk d s b).2.2.1,(QA kk d s b).2.2.2.1,((QA kk d s b).2.2.2.2.1,(QA kk d s b).2.2.2.2.2.1,()),(QA kk d s b).2.2.2.2.2.2.1,(QA kk d s b).2.2.2.2.2.2.2.1,()),()))
    (Wg (Wg (Wg (Wg b (ZeO s d 2)) (ZeO s d 4)) (ZeO s d 8)) (ZPr s d)):=by
 have one:∀ (j i o:Nat) (b:Option Xt),(i = 0 ∧ o = 2 ∨ i = 1 ∧ o = 4 ∨ i = 2 ∧ o = 8) → nnC b →
   Zm (fun L3 => Zda k L3) (j + 1) ((i:Int),(2:Int),(4:Int),(8:Int),Int.ofNat s.length,0,kk,(d:Int),s,[],0,[],0,(QA kk d s b).1,(QA kk d s b).2.1,(QA kk d s b).2.2.1,(QA kk d s b).2.2.2.1,(QA kk d s b).2.2.2.2.1,(QA kk d s b).2.2.2.2.2.1,(QA kk d s b).2.2.2.2.2.2.1,(QA kk d s b).2.2.2.2.2.2.2.1,
    0,kk,(d:Int),0,(d:Int),s,0,0,0,0,0) =
   (fun b => Zm (fun L3 => Zda k L3) j (((i + 1:Nat):Int),(2:Int),(4:Int),(8:Int),Int.ofNat s.length,0,kk,(d:Int),s,[],0,[],0,(QA kk d s b).1,(QA kk d s b).2.1,(QA kk d s b).2.2.1,(QA kk d s b).2.2.2.1,(QA kk d s b).2.2.2.2.1,(QA kk d s b).2.2.2.2.2.1,(QA kk d s b).2.2.2.2.2.2.1,(QA kk d s b).2.2.2.2.2.2.2.1,
    0,kk,(d:Int),0,(d:Int),s,0,0,0,0,0)) (Wg b (ZeO s d o)):=by
  intro j i o b hio hb
  rw [Ze]
  simp only [Zda]
  have ho:o = 2 ∨ o = 4 ∨ o = 8:=by omega
  have hg:[(2:Int),4,8].getD ((i:Int)).toNat 0 = (o:Int):=by
   rcases hio with ⟨rfl,rfl⟩ | ⟨rfl,rfl⟩ | ⟨rfl,rfl⟩ <;> rfl
  have e2:IntKind.i64.wrap ((i:Int) + 1) = ((i + 1:Nat):Int):=by rw [Qa (by omega)]; rfl
  rw [Zc (by omega),Zc (by omega),hg,e2]
  unfold ZeO
  by_cases hlt:o < s.length
  ·rw [Zc (by simp only [Qv]; omega),if_pos hlt,ZHP k s o ho (by omega) hs (by omega) (by omega)]
   simp only [Z1]
   have e1:IntKind.i64.wrap ((31:Int) + (o:Int)) = 31 + (o:Int):=by rw [Qa (by omega)]
   have e3:IntKind.i64.wrap ((9:Int) + IntKind.i64.wrap ((12:Int) * (o:Int))) = 9 + 12 * (o:Int):=by rw [Qa (n:=12 * (o:Int)) (by omega),Qa (by omega)]
   rw [e1,e3]
   exact Zwg k hk h1 h2 hd (show (0:Int) ≤ 9 + 12 * (o:Int) ∧ 9 + 12 * (o:Int) ≤ 1000 by omega) (31 + (o:Int)) (Zb7 s o) 4 0 kk 0 [] [] 0 hb _
  ·rw [Zk (by simp only [Qv]; omega),if_neg hlt]
   rfl
 obtain ⟨j,rfl⟩:∃ j,k = j + 4:=⟨k - 4,by omega⟩
 have nn1:=Zds hb (ZyD (o:=2) (d:=d) h1 h2)
 have nn2:=Zds nn1 (ZyD (o:=4) (d:=d) h1 h2)
 have nn3:=Zds nn2 (ZyD (o:=8) (d:=d) h1 h2)
 refine (one (j + 3) 0 2 b (by omega) hb).trans ((one (j + 2) 1 4 _ (by omega) nn1).trans ((one (j + 1) 2 8 _ (by omega) nn2).trans ?_))
 generalize Wg (Wg (Wg b (ZeO s d 2)) (ZeO s d 4)) (ZeO s d 8) = b3 at nn3
 simp only
 rw [Ze]
 simp only [Zda]
 rw [Zk (by omega)]
 have hmul:s.length * d ≤ 512 * 25:=Nat.mul_le_mul h2 hd
 have e1:IntKind.i64.wrap (Int.ofNat s.length * (d:Int)) = (s.length:Int) * (d:Int):=by
  have:Int.ofNat s.length * (d:Int) = ((s.length * d:Nat):Int):=by simp only [Qv]; push_cast; rfl
  rw [this,Qa (by omega)]; push_cast; rfl
 rw [e1]
 have:=Zql (j + 4) kk d s (1,[],0,[],(s.length:Int) * (d:Int)) b3 nn3
 exact Zn this _
theorem ZN4 (k:Nat) (hk:40000 < k) {s:List Int} (h1:1 ≤ s.length) (h2:s.length ≤ 512) {d:Nat} (hd1:1 ≤ d) (hd:d ≤ 25) (hs:∀ x ∈ s,Xp x d = true) :
  Zvu k (s,(d:Int),()) = (fun b => some (((QA (ZI s:Nat) ((d - ZI s:Nat):Int) (Q4 s) b).1,(QA (ZI s:Nat) ((d - ZI s:Nat):Int) (Q4 s) b).2.1,(QA (ZI s:Nat) ((d - ZI s:Nat):Int) (Q4 s) b).2.2.1,(QA (ZI s:Nat) ((d - ZI s:Nat):Int) (Q4 s) b).2.2.2.1,((QA (ZI s:Nat) ((d - ZI s:Nat):Int) (Q4 s) b).2.2.2.2.1,(QA (ZI s:Nat) ((d - ZI s:Nat):Int) (Q4 s) b).2.2.2.2.2.1,()),(QA (ZI s:Nat) ((d - ZI s:Nat):Int) (Q4 s) b).2.2.2.2.2.2.1,(QA (ZI s:Nat) ((d - ZI s:Nat):Int) (Q4 s) b).2.2.2.2.2.2.2.1,()),()))
   (Zoj (Q4 s) (d - ZI s)):=by
 show Zlk k (Zyc k) _ = _
 simp only [Zlk]
 rw [ZHG k s (by omega) (by omega)]
 simp only [Z1]
 have hw:=Zdw hd1 hs
 have hsg:=Zjc hd1 hs
 have hsl:=ZaS s
 have e1:IntKind.i64.wrap ((d:Int) - ((ZI s:Nat):Int)) = ((d - ZI s:Nat):Int):=by rw [Qa (by omega)]; omega
 rw [e1]
 generalize hkk:ZI s = kk at hw hsg
 generalize hdd:d - kk = dd at hsg
 have:=Zz (A:=List Int) (R:=SPl × Unit) (step:=fun L1 => Zaa k (Zm0 k) L1)
  (fun i a => (Int.ofNat s.length,Int.ofNat i,s,(kk:Int),(0:Int),(kk:Int),(dd:Int),(0:Int),(0:Int),a,(0:Int),(0:Int),(0:Int),(0:Int),(0:Int))) s
  (fun s' a => Zaa k (Zm0 k) (fun _ => none) (Int.ofNat s.length,Int.ofNat s.length,s,(kk:Int),(0:Int),(kk:Int),(dd:Int),(0:Int),(0:Int),a ++ s'.map (fun x => x.fdiv (2 ^ kk)),(0:Int),(0:Int),(0:Int),(0:Int),(0:Int)))
  (fun i a => a.length = i)
  (fun L a _ => by
   simp only [Zaa]
   rw [Zk (Q3 _),Zk (Q3 _)]
   simp)
  (fun L i hi a ha hL => by
   have key:Zaa k (Zm0 k) L (Int.ofNat s.length,Int.ofNat i,s,(kk:Int),(0:Int),(kk:Int),(dd:Int),(0:Int),(0:Int),a,(0:Int),(0:Int),(0:Int),(0:Int),(0:Int)) =
     L (Int.ofNat s.length,Int.ofNat (i + 1),s,(kk:Int),(0:Int),(kk:Int),(dd:Int),(0:Int),(0:Int),a ++ [s[i].fdiv (2 ^ kk)],(0:Int),(0:Int),(0:Int),(0:Int),(0:Int)):=by
    simp only [Zaa]
    rw [Zc (ltR hi),Zc (Kh hi),Zc (by omega),Zc (by simp only [List.length_singleton]; omega),ZM hi,Xm,Nat.min_eq_left (by omega),Qr hi (by omega)]
   rw [key,hL _ (by simp; omega),List.map_cons,List.append_assoc]
   rfl)
  k 0 [] rfl (by omega) (Nat.zero_le _)
 rw [List.drop_zero,List.nil_append] at this
 refine Eq.trans this ?_
 have hsh:s.map (fun x => x.fdiv (2 ^ kk)) = Q4 s:=by unfold Q4; rw [hkk]
 rw [hsh]
 generalize Q4 s = t at hsg hsl
 simp only [Zaa]
 rw [Zk (Q3 _),ZzI k (by omega) (by omega) (by omega)]
 simp only [Z1,Bool.not_not]
 have nar:∀ x ∈ t,ZN x:=fun x hx => ZEZ (by omega) (hsg x hx)
 have hfirst:Zce k (((0:Int),(kk:Int),(dd:Int),t,([],0,()),[],(dd:Int),()),t.all (fun x => decide (x = t.headD 0)),(0,0,0,[],[],0,[],(-1:Int),()),()) = some ((),QA kk dd t (Wg none (ZfU t dd)),()):=by
  unfold ZfU
  cases t.all (fun x => decide (x = t.headD 0)) with
  | false => rfl
  | true => exact Zql k kk dd t (0,[],0,[],(dd:Int)) none ZyH
 rw [hfirst]
 simp only [Z1]
 have e4:IntKind.i64.wrap ((if Int.ofNat t.length < (4:Int) then Int.ofNat t.length else (4:Int)) + (1:Int)) = ((0 + (min 4 t.length + 1):Nat):Int):=by
  have:(if Int.ofNat t.length < (4:Int) then Int.ofNat t.length else (4:Int)) = ((min 4 t.length:Nat):Int):=by
   simp only [Qv]; split <;> omega
  rw [this,Qa (by omega)]
  omega
 rw [e4]
 have nn0:nnC (Wg none (ZfU t dd)):=Zds ZyH (ZJo t dd)
 refine (ZSo k hk (by omega) (by omega) (show dd ≤ 25 by omega) kk (min 4 t.length + 1) 0 k _ (by omega) (by omega) nn0).trans ?_
 exact ZSp k hk (by omega) (by omega) nar (by omega) kk _ (ZGB (by omega) (by omega) _ _ _ nn0)
end Go.Sh
namespace Go.Sh
open Go Go.Proofs
theorem W0 (w:Nat):∀ c:List Int,(c.flatMap fun n => WI n w).length = w * c.length
 | [] => rfl
 | a :: c => by rw [List.flatMap_cons,Q2,ZaR,W0 w c,List.length_cons,Nat.mul_add,Nat.mul_one]; omega
theorem ZlA (kk:Nat):∀ c:List Int,(c.flatMap (KO kk)).length = Zep c kk
 | [] => rfl
 | a :: c => by
  rw [List.flatMap_cons,Q2,Zf9,ZlA kk c]
  unfold Zep
  simp only [List.length_cons,List.map_cons,Zje,Nat.mul_add,Nat.mul_one]
  omega
theorem ZyN {c:List Int} {m:Int} (hm:m = 0 ∨ m = 1) {y:Prt} (hy:Zak c m y):((XF m (c,y)).length:Int) = 4 + m + y.2.2.1:=by
 have hmn:((m.toNat:Nat):Int) = m:=by rcases hm with rfl | rfl <;> rfl
 unfold XF Y5
 rcases hy with ⟨kk,hkk,hfar,rfl⟩ | ⟨hw,rfl⟩
 ·simp only
  rw [if_neg (by omega),if_neg (by omega)]
  simp only [Q2,Zj,List.length_nil,Xm,ZlA]
  omega
 ·simp only
  rw [if_pos trivial,if_pos trivial]
  simp only [Q2,Zj,Xm,W0]
  omega
theorem ZvY {m:Int} (hm:m = 0 ∨ m = 1):∀ (cs:List (List Int)) (ps:List Prt) (sz:Int),(QK m cs ps sz).2.2 = true →
  ((((cs.zip (cs.map fun c => (We c m).1)).flatMap (XF m)).length:Nat):Int) = (QK m cs ps sz).2.1 - sz
 | [],ps,sz,_ => by simp [QK]
 | c :: cs,ps,sz,h => by
  cases hb:(We c m).2 with
  | false => rw [Zni _ _ _ hb] at h; cases h
  | true =>
   rw [Zi3 _ _ _ hb] at h ⊢
   have h1:=ZyN hm (ZeW hb)
   have h2:=ZvY hm cs _ _ h
   simp only [List.map_cons,List.zip_cons_cons,List.flatMap_cons,Q2]
   omega
theorem RGood.map {l:List Int} {o p:Nat} {R:X2} (h:RGood l o R p):R.2.2.2 = (Yt l o p).map fun c => (We c R.1).1:=by
 obtain ⟨ys,h1,h2,h3⟩:=Zga (m:=R.1) (Yt l o p) [] 6 (by rw [h.parts])
 rw [h.parts] at h1
 simp only [List.nil_append] at h1
 rw [h1,h3]
theorem RGood.len {l:List Int} {o p:Nat} {R:X2} (h:RGood l o R p):((Zgc l o R).length:Int) = R.2.2.1:=by
 have h1:=ZvY h.hm (Yt l o p) [] 6 (by rw [h.parts])
 rw [h.parts,← h.map] at h1
 unfold Zgc
 rw [h.hp,Xm]
 simp only [Q2,Zj]
 simp only at h1
 omega
theorem ZyU {l:List Int} {o:Nat} (hl:∀ x ∈ l,ZN x) (hn:l.length + o ≤ 512):((Xl l o).length:Int) = (WS l o).2.2.1:=by
 obtain ⟨_,q,hg⟩:=Zaz hl hn (by omega)
 exact hg.len
def ZeP (s:List Int) (d:Nat) (x:Xt):Prop :=
 (x = (0,[],0,[],(d:Int)) ∧ s.all (fun x => decide (x = s.headD 0)) = true) ∨ x = (1,[],0,[],(s.length:Int) * (d:Int)) ∨
 (∃ o,o ≤ 4 ∧ o ≤ s.length ∧ ZSy s d o = some x) ∨ (∃ o,(o = 2 ∨ o = 4 ∨ o = 8) ∧ o < s.length ∧ ZsT s d (31 + (o:Int)) (Zb7 s o) 4 (9 + 12 * (o:Int)) = some x)
def Zt4 (s:List Int) (d:Nat) (b:Option Xt):Prop := ∀ x,b = some x → ZeP s d x
theorem ZB0 {b x:Option Xt} {y:Xt} (h:Wg b x = some y):b = some y ∨ x = some y:=by
 unfold Wg at h
 match x,b,h with
 | none,b,h => exact .inl h
 | some x,none,h => exact .inr h
 | some x,some b,h =>
  simp only at h
  split at h
  ·exact .inr h
  ·exact .inl h
theorem Zdt {s:List Int} {d:Nat} {b x:Option Xt} (hb:Zt4 s d b) (hx:Zt4 s d x):Zt4 s d (Wg b x):=fun y hy => by
 rcases ZB0 hy with h | h
 ·exact hb y h
 ·exact hx y h
theorem ZPh {b x:Option Xt}:(∀ y,b = some y → ∃ z,Wg b x = some z ∧ z.2.2.2.2 ≤ y.2.2.2.2) ∧ (∀ y,x = some y → ∃ z,Wg b x = some z ∧ z.2.2.2.2 ≤ y.2.2.2.2):=by
 unfold Wg
 match x,b with
 | none,b => exact ⟨fun y hy => ⟨y,hy,Int.le_refl _⟩,fun y hy => by cases hy⟩
 | some x,none => exact ⟨fun y hy => (by cases hy),fun y hy => ⟨y,hy,Int.le_refl _⟩⟩
 | some x,some b =>
  simp only
  split
  ·exact ⟨fun y hy => by cases hy; exact ⟨x,rfl,by omega⟩,fun y hy => by cases hy; exact ⟨x,rfl,Int.le_refl _⟩⟩
  ·exact ⟨fun y hy => by cases hy; exact ⟨b,rfl,Int.le_refl _⟩,fun y hy => by cases hy; exact ⟨b,rfl,by omega⟩⟩
theorem ZGC {s:List Int} {d:Nat}:∀ (e o:Nat) (b:Option Xt),o + e ≤ min 4 s.length + 1 → Zt4 s d b → Zt4 s d (ZJq s d e o b)
 | 0,_,b,_,h => h
 | e + 1,o,b,he,h => ZGC e (o + 1) _ (by omega) (Zdt h fun x hx => .inr (.inr (.inl ⟨o,by omega,by omega,hx⟩)))
theorem ZyE {s:List Int} {d o:Nat} (ho:o = 2 ∨ o = 4 ∨ o = 8):Zt4 s d (ZeO s d o):=by
 intro x hx
 unfold ZeO at hx
 split at hx
 ·exact .inr (.inr (.inr ⟨o,ho,by omega,hx⟩))
 ·cases hx
theorem ZCK (s:List Int) (d:Nat):∃ x,Zoj s d = some x ∧ ZeP s d x ∧ x.2.2.2.2 ≤ (s.length:Int) * (d:Int):=by
 obtain ⟨z,h1,h2⟩:=(ZPh (b:=Wg (Wg (Wg (ZJq s d (min 4 s.length + 1) 0 (Wg none (ZfU s d))) (ZeO s d 2)) (ZeO s d 4)) (ZeO s d 8)) (x:=ZPr s d)).2 _ rfl
 refine ⟨z,h1,?_,h2⟩
 refine Zdt (Zdt (Zdt (Zdt (ZGC _ _ _ (by omega) (Zdt (fun x hx => by cases hx) ?_)) (ZyE (.inl rfl))) (ZyE (.inr (.inl rfl)))) (ZyE (.inr (.inr rfl)))) ?_ z h1
 ·intro x hx
  unfold ZfU at hx
  split at hx
  ·rename_i h
   exact .inl ⟨(Option.some.inj hx).symm,h⟩
  ·cases hx
 ·intro x hx
  exact .inr (.inl (Option.some.inj hx).symm)
def X3 (s:List Int) (d:Nat) (x:Xt):List Bool :=
 if x.1 = 0 then (s.take 1).flatMap (fun n => WI n d) else if x.1 = 1 then s.flatMap (fun n => WI n d)
 else (s.take x.2.1.length).flatMap (fun n => WI n d) ++ ((if 31 < x.1 then Zb 11 4 ++ (Zb x.2.2.1.toNat 5 ++ x.2.1.flatMap (fun n => WI n 12)) else []) ++ Xl x.2.2.2.1 x.2.1.length)
def Yc (kind:Int) (kk:Nat):List Bool:=Zb kind.toNat 7 ++ (if 0 < kk then [true] ++ (List.replicate (kk - 1) false ++ [true]) else [false])
def Wp (s:List Int) (d:Nat):List Bool:=match Zoj (Q4 s) (d - ZI s) with
 | none => []
 | some x => Yc x.1 (ZI s) ++ X3 (Q4 s) (d - ZI s) x
theorem Zyv (kind:Int) (kk:Nat):(Yc kind kk).length = 8 + kk:=by
 unfold Yc
 rw [Q2,Zj]
 split
 ·simp; omega
 ·simp; omega
theorem YM {s:List Int} {d:Nat} {kind:Int} {c:List Int} {sh head:Int} {x:Xt} (h1:1 ≤ s.length) (h2:s.length ≤ 512) (h:ZsT s d kind c sh head = some x) :
  x.1 = kind ∧ x.2.1 = c ∧ x.2.2.1 = sh ∧ x.2.2.2.1 = X1 c sh s ∧ x.2.2.2.2 = head + (c.length:Int) * (d:Int) + ((Xl (X1 c sh s) c.length).length:Int) ∧ Yq (X1 c sh s) (c.length:Nat) = 0 ∧ c.length ≤ s.length ∧ c.length ≤ 8 ∧ Zbs c sh = true ∧
   (QV c sh s).2 = 0:=by
 unfold ZsT at h
 split at h
 ·rename_i hz
  obtain rfl:=(Option.some.inj h).symm
  obtain ⟨hl,h8,hr⟩:=KP hz h1 h2
  obtain ⟨e1,e2,e3⟩:=Zgi hz
  have:=ZyU (Yj c sh s) (o:=c.length) (by omega)
  rw [e1] at hr this ⊢
  exact ⟨rfl,rfl,rfl,rfl,by simp only; omega,hr,e2,h8,e3,hz⟩
 ·cases h
theorem Yl (s:List Int) (d j:Nat) (h:j ≤ s.length):((s.take j).flatMap (fun n => WI n d)).length = d * j:=by
 rw [W0,List.length_take,Nat.min_eq_left h]
theorem ZsA (o:Nat) (h:o ≤ 4):(XD o).length = o:=by
 obtain rfl | rfl | rfl | rfl | rfl:o = 0 ∨ o = 1 ∨ o = 2 ∨ o = 3 ∨ o = 4:=by omega
 all_goals rfl
theorem Zwy {s:List Int} {d:Nat} {x:Xt} (h1:1 ≤ s.length) (h2:s.length ≤ 512) (h:ZeP s d x):((X3 s d x).length:Int) = x.2.2.2.2:=by
 unfold X3
 rcases h with ⟨rfl,_⟩ | rfl | ⟨o,ho,hos,hx⟩ | ⟨o,ho,hos,hx⟩
 ·simp only
  rw [if_pos trivial,Yl _ _ _ h1]
  omega
 ·simp only
  rw [if_neg (by omega),if_pos trivial,W0]
  push_cast
  rw [Int.mul_comm]
 ·obtain ⟨e1,e2,e3,e4,e5,e6,e7,e8,e9,_⟩:=YM h1 h2 hx
  rw [e1,e2,e3,e4,e5,if_neg (by omega),if_neg (by omega),if_neg (by omega)]
  simp only [Q2,List.length_nil,Yl _ _ _ e7]
  push_cast
  rw [Int.mul_comm (d:Int)]
  omega
 ·obtain ⟨e1,e2,e3,e4,e5,e6,e7,e8,e9,_⟩:=YM h1 h2 hx
  have hsl:=(Zjb s o ho).1
  rw [e1,e2,e3,e4,e5,if_neg (by omega),if_neg (by omega),if_pos (by omega)]
  simp only [Q2,Yl _ _ _ e7,Zj,W0]
  rw [hsl]
  push_cast
  rw [Int.mul_comm (d:Int)]
  omega
theorem Zeu (s:List Int) (d:Nat) (h1:1 ≤ s.length) (h2:s.length ≤ 512):∃ x,Zoj (Q4 s) (d - ZI s) = some x ∧ ZeP (Q4 s) (d - ZI s) x ∧ Wp s d = Yc x.1 (ZI s) ++ X3 (Q4 s) (d - ZI s) x ∧
  ((Wp s d).length:Int) = 8 + (ZI s:Int) + x.2.2.2.2 ∧ x.2.2.2.2 ≤ (s.length:Int) * ((d - ZI s:Nat):Int):=by
 obtain ⟨x,h3,h4,h5⟩:=ZCK (Q4 s) (d - ZI s)
 have hb:=Zwy (by rw [ZaS]; exact h1) (by rw [ZaS]; exact h2) h4
 rw [ZaS] at h5
 have e:Wp s d = Yc x.1 (ZI s) ++ X3 (Q4 s) (d - ZI s) x:=by unfold Wp; rw [h3]
 refine ⟨x,h3,h4,e,?_,h5⟩
 rw [e,Q2,Zyv]
 omega
theorem ZBR {s:List Int} {d:Nat} (h1:1 ≤ s.length) (h2:s.length ≤ 512) (hw:ZI s < d):(Wp s d).length ≤ 8 + s.length * d:=by
 obtain ⟨x,_,_,_,h4,h5⟩:=Zeu s d h1 h2
 have e:(s.length:Int) * ((d - ZI s:Nat):Int) = ((s.length * d - s.length * ZI s:Nat):Int):=by
  rw [← Nat.mul_sub]; push_cast; rfl
 have h6:ZI s ≤ s.length * ZI s:=Nat.le_mul_of_pos_left _ h1
 have h7:s.length * ZI s ≤ s.length * d:=Nat.mul_le_mul_left _ (by omega)
 omega
end Go.Sh
namespace Go.Sh
open Go Go.Proofs
theorem ZfM (k:Nat) {l:List Int} {w:Nat} (hk:10000 < k) (hl:l.length ≤ 8192) (hw:w ≤ 32) (hs:∀ x ∈ l,Xp x w = true) (bs:List Bool) (hb:bs.length ≤ 2147483648) :
  Zas k (KG bs,l,(w:Int),()) = some ((),KG (bs ++ l.flatMap (fun n => WI n w)),()):=by
 show Zlm k (Zyg k) _ = _
 simp only [Zlm]
 have:=Zz (A:=List Bool) (R:=Unit × (List Int × Int × Unit) × Unit) (step:=fun L1 => ZfL k L1)
  (fun i a => (Int.ofNat l.length,Int.ofNat i,l,(w:Int),(a.length:Int),ZJ a)) l
  (fun l' a => some ((),KG (a ++ l'.flatMap (fun n => WI n w)),()))
  (fun i a => a.length ≤ 2147483648 + i * 32)
  (fun L a _ => by
   simp only [ZfL]
   rw [Zk (Q3 _)]
   simp)
  (fun L i hi a ha hL => by
   simp only [ZfL]
   rw [Zc (ltR hi),Zc (Kh hi),ZM hi]
   rw [show ((ZJ a,((a.length:Nat):Int),()):List Int × Int × Unit) = KG a from rfl,Zup k a _ w (by omega) hw (hs _ (List.getElem_mem hi)) (by omega)]
   simp only [Z1]
   rw [Qr hi (by omega),hL (a ++ WI l[i] w) (by rw [Q2,ZaR]; omega),List.flatMap_cons,List.append_assoc])
  k 0 bs (by omega) (by omega) (Nat.zero_le _)
 rw [List.drop_zero] at this
 exact this
noncomputable def Zk1 (k:Nat) (p:SPl) (w:List Int × Int × Unit):Option (Int × (List Int × Int × Unit) × Unit) :=
 bif p.1 == (0:Int) then bif decide ((0:Int) ≤ (0:Int) ∧ (0:Int) ≤ (1:Int) ∧ (1:Int) ≤ Int.ofNat (List.length p.2.2.2.1)) then (Zas k (w,List.drop (0:Nat) (List.take (1:Nat) p.2.2.2.1),p.2.2.1,())).bind fun y => some (0,(y.2.1.1,y.2.1.2.1,()),()) else none
 else bif p.1 == (1:Int) then (Zas k (w,p.2.2.2.1,p.2.2.1,())).bind fun y => some (0,(y.2.1.1,y.2.1.2.1,()),())
 else bif decide ((0:Int) ≤ (0:Int) ∧ (0:Int) ≤ Int.ofNat (List.length p.2.2.2.2.1.1) ∧ Int.ofNat (List.length p.2.2.2.2.1.1) ≤ Int.ofNat (List.length p.2.2.2.1)) then
  (Zas k (w,List.drop (0:Nat) (List.take (Int.ofNat (List.length p.2.2.2.2.1.1)).toNat p.2.2.2.1),p.2.2.1,())).bind fun y_4 =>
   bif decide ((31:Int) < p.1) then (ZQ k ((y_4.2.1.1,y_4.2.1.2.1,()),11,4,())).bind fun y_5 => (ZQ k ((y_5.2.1.1,y_5.2.1.2.1,()),p.2.2.2.2.1.2.1,5,())).bind fun y_6 => (Zas k ((y_6.2.1.1,y_6.2.1.2.1,()),p.2.2.2.2.1.1,12,())).bind fun y_7 => (Zid k ((y_7.2.1.1,y_7.2.1.2.1,()),p.2.2.2.2.2.1,Int.ofNat (List.length p.2.2.2.2.1.1),())).bind fun y => some (y.1,(y.2.1.1,y.2.1.2.1,()),())
   else (Zid k ((y_4.2.1.1,y_4.2.1.2.1,()),p.2.2.2.2.2.1,Int.ofNat (List.length p.2.2.2.2.1.1),())).bind fun y => some (y.1,(y.2.1.1,y.2.1.2.1,()),())
 else none
theorem ZJj (k:Nat) (w:List Int × Int × Unit) (s:List Int) (d:Int):Zvo k (w,s,d,()) =
  (Zvt k (s,d,())).bind fun y => bif y.1 != (0:Int) then some (y.1,w,()) else (Zvu k (s,d,())).bind fun y => (ZQ k (w,y.1.1,7,())).bind fun y_1 =>
   bif decide ((0:Int) < y.1.2.1) then (ZQ k ((y_1.2.1.1,y_1.2.1.2.1,()),1,1,())).bind fun y_2 => (ZnS k ((y_2.2.1.1,y_2.2.1.2.1,()),IntKind.i64.wrap (y.1.2.1 - (1:Int)),())).bind fun y_3 => Zk1 k y.1 (y_3.2.1.1,y_3.2.1.2.1,())
   else (ZQ k ((y_1.2.1.1,y_1.2.1.2.1,()),0,1,())).bind fun y_2 => Zk1 k y.1 (y_2.2.1.1,y_2.2.1.2.1,()):=rfl
theorem Zia (k:Nat) (hk:70000 < k) {s:List Int} (h1:1 ≤ s.length) (h2:s.length ≤ 512) {d:Nat} (hd1:1 ≤ d) (hd:d ≤ 25) (hs:∀ x ∈ s,Xp x d = true) {x:Xt} (hx:ZeP s d x) (kk:Int) (bs:List Bool) (hb:bs.length ≤ 1000000000) :
  Zk1 k (ZWs kk d s x) (KG bs) = some (0,KG (bs ++ X3 s d x),()):=by
 unfold Zk1 X3
 rcases hx with ⟨rfl,_⟩ | rfl | ⟨o,ho,hos,hx⟩ | ⟨o,ho,hos,hx⟩
 ·simp only
  rw [ZK,Zc rfl,Zc (by simp only [Qv]; omega),if_pos trivial,List.drop_zero]
  rw [ZfM k (by omega) (by rw [List.length_take]; omega) (by omega) (fun y hy => hs y (List.mem_of_mem_take hy)) bs (by omega)]
  rfl
 ·simp only
  rw [ZK,Zk (by omega),ZK,Zc rfl,if_neg (by omega),if_pos trivial]
  rw [ZfM k (by omega) (by omega) (by omega) hs bs (by omega)]
  rfl
 ·obtain ⟨e1,e2,e3,e4,e5,e6,e7,e8,e9,_⟩:=YM h1 h2 hx
  obtain ⟨kind,c,sh,r,sz⟩:=x
  simp only at e1 e2 e3 e4 e5
  subst e1; subst e2; subst e3; subst e4
  simp only
  rw [ZK,Zk (by omega),ZK,Zk (by omega),Zc (by simp only [Qv]; omega),if_neg (by omega),if_neg (by omega),if_neg (by omega),List.drop_zero]
  rw [show (Int.ofNat (XD o).length).toNat = (XD o).length from rfl]
  rw [ZfM k (by omega) (by rw [List.length_take]; omega) (by omega) (fun y hy => hs y (List.mem_of_mem_take hy)) bs (by omega)]
  simp only [Z1]
  rw [Zk (by omega),show Int.ofNat (XD o).length = ((XD o).length:Nat) from rfl]
  have hlen:=Yl s d (XD o).length e7
  have hmul:d * (XD o).length ≤ 25 * 8:=Nat.mul_le_mul hd e8
  refine (Zn (ZA4 k (by omega) e6 (bs ++ (s.take (XD o).length).flatMap (fun n => WI n d)) (by rw [Q2]; omega)) _).trans ?_
  simp only [List.nil_append,List.append_assoc]
 ·obtain ⟨e1,e2,e3,e4,e5,e6,e7,e8,e9,_⟩:=YM h1 h2 hx
  obtain ⟨hsl,hsr⟩:=Zjb s o ho
  obtain ⟨kind,c,sh,r,sz⟩:=x
  simp only at e1 e2 e3 e4 e5
  subst e1; subst e2; subst e3; subst e4
  simp only
  rw [ZK,Zk (by omega),ZK,Zk (by omega),Zc (by simp only [Qv]; omega),if_neg (by omega),if_neg (by omega),if_pos (by omega),List.drop_zero]
  generalize Zb7 s o = c at hsl hsr e6 e7 e8 e9
  rw [show (Int.ofNat c.length).toNat = c.length from rfl]
  rw [ZfM k (by omega) (by rw [List.length_take]; omega) (by omega) (fun y hy => hs y (List.mem_of_mem_take hy)) bs (by omega)]
  simp only [Z1]
  rw [Zc (by omega),show Int.ofNat c.length = (c.length:Nat) from rfl]
  have hlen:=Yl s d c.length e7
  have hmul:d * c.length ≤ 25 * 8:=Nat.mul_le_mul hd e8
  generalize hW:(s.take c.length).flatMap (fun n => WI n d) = W at hlen
  have l1:(bs ++ W).length = bs.length + d * c.length:=by rw [Q2,hlen]
  refine (Zn (QS k (bs ++ W) 11 4 (by omega) (by omega) (by omega) (by omega)) _).trans ?_
  have l2:(bs ++ W ++ Zb 11 4).length = bs.length + d * c.length + 4:=by rw [Q2,l1,Zj]
  refine (Zn (QS k (bs ++ W ++ Zb 11 4) 4 5 (by omega) (by omega) (by omega) (by omega)) _).trans ?_
  have l3:(bs ++ W ++ Zb 11 4 ++ Zb 4 5).length = bs.length + d * c.length + 9:=by rw [Q2,l2,Zj]
  refine (Zn (ZfM k (l:=c) (w:=12) (by omega) (by omega) (by omega) (fun y hy => by
   have:=hsr y hy
   unfold Xp
   rw [if_neg (by omega),decide_eq_true_eq]
   omega) (bs ++ W ++ Zb 11 4 ++ Zb 4 5) (by omega)) _).trans ?_
  have l4:(bs ++ W ++ Zb 11 4 ++ Zb 4 5 ++ c.flatMap (fun n => WI n 12)).length = bs.length + d * c.length + 9 + 12 * c.length:=by rw [Q2,l3,W0]
  refine (Zn (ZA4 k (by omega) e6 (bs ++ W ++ Zb 11 4 ++ Zb 4 5 ++ c.flatMap (fun n => WI n 12)) (by omega)) _).trans ?_
  show some _ = some _
  simp only [List.append_assoc]
  rfl
theorem ZeP.kind {s:List Int} {d:Nat} {x:Xt} (h1:1 ≤ s.length) (h2:s.length ≤ 512) (h:ZeP s d x):∃ n:Nat,x.1 = (n:Int) ∧ n < 2 ^ 7:=by
 rcases h with ⟨rfl,_⟩ | rfl | ⟨o,ho,hos,hx⟩ | ⟨o,ho,hos,hx⟩
 ·exact ⟨0,rfl,by omega⟩
 ·exact ⟨1,rfl,by omega⟩
 ·exact ⟨8 + o,by rw [(YM h1 h2 hx).1]; omega,by omega⟩
 ·exact ⟨31 + o,by rw [(YM h1 h2 hx).1]; omega,by omega⟩
theorem Zn6 {s:List Int} {d:Nat}:ZhX s (d:Int) = 0 ↔ (1 ≤ s.length ∧ s.length ≤ 512 ∧ 4 ≤ d ∧ d ≤ 25) ∧ ∀ x ∈ s,Xp x d = true:=by
 unfold ZhX
 rw [Xm]
 constructor
 ·intro h
  split at h
  ·split at h
   ·rename_i h1 h2
    exact ⟨by omega,List.all_eq_true.1 h2⟩
   ·omega
  ·omega
 ·rintro ⟨h1,h2⟩
  rw [if_pos (by omega),if_pos (List.all_eq_true.2 h2)]
theorem ZNA (k:Nat) (hk:70000 < k) {s:List Int} {d:Nat} (h:ZhX s (d:Int) = 0) (bs:List Bool) (hb:bs.length ≤ 900000000) :
  Zvo k (KG bs,s,(d:Int),()) = some (0,KG (bs ++ Wp s d),()):=by
 obtain ⟨⟨h1,h2,h3,h4⟩,hs⟩:=Zn6.1 h
 rw [ZJj,ZN0 k s d (by omega),h]
 simp only [Z1]
 rw [show ((0:Int) != 0) = false from rfl]
 simp only [cond_false]
 rw [ZN4 k (by omega) h1 h2 (by omega) h4 hs]
 obtain ⟨x,hx,hok,hsub,hlen,_⟩:=Zeu s d h1 h2
 rw [hx,hsub]
 have hw:=Zdw (by omega) hs
 have hsg:=Zjc (by omega) hs
 have hsl:=ZaS s
 generalize ZI s = kk at hw hsg hok ⊢
 generalize Q4 s = t at hsg hsl hok ⊢
 generalize hdd:d - kk = dd at hsg hok ⊢
 obtain ⟨kn,hk1,hk2⟩:=hok.kind (by omega) (by omega)
 show (ZQ k (KG bs,x.1,7,())).bind _ = _
 unfold Yc
 rw [hk1,Xm]
 refine (Zn (QS k bs kn 7 (by omega) (by omega) hk2 (by omega)) _).trans ?_
 have l1:(bs ++ Zb kn 7).length = bs.length + 7:=by rw [Q2,Zj]
 show (bif decide ((0:Int) < (kk:Int)) then _ else _) = _
 by_cases h0:0 < kk
 ·rw [Zc (by omega),if_pos h0]
  refine (Zn (QS k (bs ++ Zb kn 7) 1 1 (by omega) (by omega) (by omega) (by omega)) _).trans ?_
  have l2:(bs ++ Zb kn 7 ++ Zb 1 1).length = bs.length + 8:=by rw [Q2,l1,Zj]
  show (ZnS k (KG (bs ++ Zb kn 7 ++ Zb 1 1),IntKind.i64.wrap ((kk:Int) - 1),())).bind _ = _
  have e1:IntKind.i64.wrap ((kk:Int) - 1) = ((kk - 1:Nat):Int):=by rw [Qa (by omega)]; omega
  rw [e1]
  refine (Zn (ZA1 k (bs ++ Zb kn 7 ++ Zb 1 1) (kk - 1) (by omega) (by omega) (by omega)) _).trans ?_
  have l3:(bs ++ Zb kn 7 ++ Zb 1 1 ++ (List.replicate (kk - 1) false ++ [true])).length = bs.length + 8 + kk:=by
   rw [Q2,l2]; simp; omega
  have:=Zia k hk (by omega) (by omega) (d:=dd) (by omega) (by omega) hsg hok (kk:Int) (bs ++ Zb kn 7 ++ Zb 1 1 ++ (List.replicate (kk - 1) false ++ [true])) (by omega)
  refine Eq.trans this ?_
  rw [show Zb 1 1 = [true] from rfl]
  simp only [List.append_assoc]
 ·rw [Zk (by omega),if_neg h0]
  refine (Zn (QS k (bs ++ Zb kn 7) 0 1 (by omega) (by omega) (by omega) (by omega)) _).trans ?_
  have l2:(bs ++ Zb kn 7 ++ Zb 0 1).length = bs.length + 8:=by rw [Q2,l1,Zj]
  have:=Zia k hk (by omega) (by omega) (d:=dd) (by omega) (by omega) hsg hok (kk:Int) (bs ++ Zb kn 7 ++ Zb 0 1) (by omega)
  refine Eq.trans this ?_
  rw [show Zb 0 1 = [false] from rfl]
  simp only [List.append_assoc]
end Go.Sh
namespace Go.Sh
open Go Go.Proofs
def QI (n:Nat):Nat:=if 256 < n then 7 else 6
def Qq (mode num n:Nat):List Bool :=
 Zb 16382 14 ++ (Zb (QI n) 6 ++ (Zb mode 8 ++ (Zb 0 4 ++ ((Qz num).flatMap (fun x => Zb x 8) ++ Zb (n - 1) (8 * (QI n - 5))))))
def Qs (mode num n:Nat):List Bool:=Qq mode num n ++ Zb (ZhZ (ZJ (Qq mode num n))) 8
def Qi (ls:List (List Int)) (ds:List Int):List Bool:=(ls.zip ds).flatMap fun x => Wp x.1 x.2.toNat
def X0 (bs:List Bool):List Bool:=bs ++ List.replicate (Zap bs.length) false
def Ys (bs:List Bool):List Bool:=X0 bs ++ Zb (Zcq (ZJ (X0 bs))) 16
def Ke (c d r n:Int) (ch:List (List Int)):List Int × Int :=
 if Yr c d r n ch = 0 then (ZJ (Ys (Qs (Y3 ch).2.toNat n.toNat (ch.headD []).length ++ Qi (Y3 ch).1 (Qg c d (Y3 ch).2))),0) else ([],Yr c d r n ch)
theorem ZaX {c d r n:Int} {ch:List (List Int)} (h:Yr c d r n ch = 0):(1 ≤ c ∧ c ≤ 2 ∧ 4 ≤ d ∧ d ≤ 24 ∧ 1 ≤ r ∧ r ≤ 655350) ∧ (0 ≤ n ∧ n ≤ 2147483647) ∧ (ch.length:Int) = c ∧
  (∀ l ∈ ch,l.length = (ch.headD []).length ∧ 1 ≤ l.length ∧ l.length ≤ 512) ∧ (∀ l ∈ ch,∀ x ∈ l,Xp x d.toNat = true):=by
 unfold Yr at h
 split at h
 ·omega
 ·rename_i h1
  split at h
  ·omega
  ·rename_i h2
   split at h
   ·omega
   ·rename_i h3
    split at h
    ·omega
    ·rename_i h4
     refine ⟨of_decide_eq_true (by simpa [Zes] using h1),by omega,by omega,?_,?_⟩
     ·intro l hl
      have h3:ch.all (ZiW (ch.headD []).length) = true:=by simpa using h3
      have:=of_decide_eq_true (List.all_eq_true.1 h3 l hl)
      exact ⟨this.1,by omega,by omega⟩
     ·intro l hl x hx
      have h4:ch.all (fun l => l.all fun x => Xp x d.toNat) = true:=by simpa using h4
      exact List.all_eq_true.1 (List.all_eq_true.1 h4 l hl) x hx
theorem Zb9 {x:Int} {d:Nat} (hd:d ≤ 24) (h:Xp x d = true):Ql x:=by
 unfold Xp at h
 unfold Ql
 split at h
 ·simp only [decide_eq_true_eq] at h; omega
 ·rw [decide_eq_true_eq,WF] at h
  have:2 ^ (d - 1) ≤ 2 ^ 23:=Nat.pow_le_pow_right (by omega) (by omega)
  generalize 2 ^ (d - 1) = Q at h this
  omega
theorem ZlY {l r:Int} {d:Nat} (h1:1 ≤ d) (hl:Xp l d = true) (hr:Xp r d = true):Xp (l - r) (d + 1) = true ∧ Xp ((l + r) / 2) d = true:=by
 unfold Xp at hl hr ⊢
 rw [if_neg (by omega),decide_eq_true_eq] at hl hr
 rw [if_neg (by omega),decide_eq_true_eq,if_neg (by omega),decide_eq_true_eq]
 have e:(2:Int) ^ (d + 1 - 1) = 2 * 2 ^ (d - 1):=by
  rw [show d + 1 - 1 = (d - 1) + 1 by omega,Int.pow_succ,Int.mul_comm]
 rw [e]
 generalize (2:Int) ^ (d - 1) = Q at hl hr ⊢
 omega
structure LayOk (n d:Nat) (ls:List (List Int)) (ds:List Int):Prop where
 len:ls.length = ds.length
 two:ls.length = 1 ∨ ls.length = 2
 all:∀ (i:Nat) (h1:i < ls.length) (h2:i < ds.length),ls[i].length = n ∧ (ds[i] = (d:Int) ∨ ds[i] = (d:Int) + 1) ∧ ∀ x ∈ ls[i],Xp x ds[i].toNat = true
theorem ZED {c d r n:Int} {ch:List (List Int)} (h:Yr c d r n ch = 0):LayOk (ch.headD []).length d.toNat (Y3 ch).1 (Qg c d (Y3 ch).2) ∧ (∃ m:Nat,(Y3 ch).2 = (m:Int) ∧ (m = 0 ∧ c = 1 ∨ c = 2 ∧ (m = 1 ∨ m = 8 ∨ m = 9 ∨ m = 10))) ∧ ((Y3 ch).1.headD []).length = (ch.headD []).length:=by
 obtain ⟨hs,hn,hc,hlen,hsg⟩:=ZaX h
 obtain ⟨dn,rfl⟩:=Int.eq_ofNat_of_zero_le (show 0 ≤ d by omega)
 simp only [Xm] at hsg ⊢
 match ch,hc,hlen,hsg with
 | [],hc,_,_ => simp at hc; omega
 | [l],hc,hlen,hsg =>
  have hc:c = 1:=by simp at hc; omega
  subst hc
  refine ⟨⟨rfl,.inl rfl,?_⟩,⟨0,rfl,.inl ⟨rfl,rfl⟩⟩,rfl⟩
  intro i h1 h2
  obtain rfl:i = 0:=by simp [Y3] at h1; omega
  exact ⟨rfl,.inl rfl,hsg l (by simp)⟩
 | [l,r'],hc,hlen,hsg =>
  have hc:c = 2:=by simp at hc; omega
  subst hc
  have hr:=(hlen r' (by simp)).1
  simp only [List.headD_cons] at hr
  have hsl:=hsg l (by simp)
  have hsr:=hsg r' (by simp)
  have hmd:=Ziy l r'
  show LayOk _ _ [WW (Z8 l r') l r',WX (Z8 l r') l r'] (Qg 2 dn (if Z8 l r' = 0 then 1 else Z8 l r')) ∧ _ ∧ _
  refine ⟨?_,?_,(Zgt hr.symm).1⟩
  ·have e:Qg 2 (dn:Int) (if Z8 l r' = 0 then 1 else Z8 l r') = Qg 2 dn (Z8 l r'):=by
    rcases hmd with h | h | h | h <;> rw [h] <;> rfl
   rw [e]
   obtain ⟨la,lb⟩:=Zgt (m:=Z8 l r') hr.symm
   have hz:∀ x ∈ l.zip r',Xp x.1 dn = true ∧ Xp x.2 dn = true:=fun x hx => ⟨hsl _ (List.of_mem_zip hx).1,hsr _ (List.of_mem_zip hx).2⟩
   generalize Z8 l r' = m at hmd la lb ⊢
   have hA:∀ y ∈ WW m l r',∃ a b,y = apA m a b ∧ Xp a dn = true ∧ Xp b dn = true:=by
    intro y hy
    obtain ⟨x,hx,rfl⟩:=List.mem_map.1 hy
    exact ⟨_,_,rfl,(hz x hx).1,(hz x hx).2⟩
   have hB:∀ y ∈ WX m l r',∃ a b,y = apB m a b ∧ Xp a dn = true ∧ Xp b dn = true:=by
    intro y hy
    obtain ⟨x,hx,rfl⟩:=List.mem_map.1 hy
    exact ⟨_,_,rfl,(hz x hx).1,(hz x hx).2⟩
   have hdn:1 ≤ dn:=by omega
   have eN:((dn:Int) + 1).toNat = dn + 1:=by omega
   rcases hmd with rfl | rfl | rfl | rfl
   ·refine ⟨rfl,.inr rfl,fun i h1 h2 => ?_⟩
    obtain rfl | rfl:i = 0 ∨ i = 1:=by simp at h1; omega
    ·exact ⟨la,.inl rfl,fun y hy => by obtain ⟨a,b,rfl,ha,hb⟩:=hA y hy; simpa [apA,Qg] using ha⟩
    ·exact ⟨by simpa [hr] using lb,.inl rfl,fun y hy => by obtain ⟨a,b,rfl,ha,hb⟩:=hB y hy; simpa [apB,Qg] using hb⟩
   ·refine ⟨rfl,.inr rfl,fun i h1 h2 => ?_⟩
    obtain rfl | rfl:i = 0 ∨ i = 1:=by simp at h1; omega
    ·exact ⟨la,.inl rfl,fun y hy => by obtain ⟨a,b,rfl,ha,hb⟩:=hA y hy; simpa [apA,Qg] using ha⟩
    ·exact ⟨by simpa [hr] using lb,.inr rfl,fun y hy => by obtain ⟨a,b,rfl,ha,hb⟩:=hB y hy; simpa [apB,Qg,eN] using (ZlY hdn ha hb).1⟩
   ·refine ⟨rfl,.inr rfl,fun i h1 h2 => ?_⟩
    obtain rfl | rfl:i = 0 ∨ i = 1:=by simp at h1; omega
    ·exact ⟨la,.inr rfl,fun y hy => by obtain ⟨a,b,rfl,ha,hb⟩:=hA y hy; simpa [apA,Qg,eN] using (ZlY hdn ha hb).1⟩
    ·exact ⟨by simpa [hr] using lb,.inl rfl,fun y hy => by obtain ⟨a,b,rfl,ha,hb⟩:=hB y hy; simpa [apB,Qg] using hb⟩
   ·refine ⟨rfl,.inr rfl,fun i h1 h2 => ?_⟩
    obtain rfl | rfl:i = 0 ∨ i = 1:=by simp at h1; omega
    ·exact ⟨la,.inl rfl,fun y hy => by obtain ⟨a,b,rfl,ha,hb⟩:=hA y hy; simpa [apA,Qg] using (ZlY hdn ha hb).2⟩
    ·exact ⟨by simpa [hr] using lb,.inr rfl,fun y hy => by obtain ⟨a,b,rfl,ha,hb⟩:=hB y hy; simpa [apB,Qg,eN] using (ZlY hdn ha hb).1⟩
  ·rcases hmd with h | h | h | h
   ·exact ⟨1,by simp [Y3,h],.inr ⟨rfl,by omega⟩⟩
   ·exact ⟨8,by simp [Y3,h],.inr ⟨rfl,by omega⟩⟩
   ·exact ⟨9,by simp [Y3,h],.inr ⟨rfl,by omega⟩⟩
   ·exact ⟨10,by simp [Y3,h],.inr ⟨rfl,by omega⟩⟩
 | _ :: _ :: _ :: _,hc,_,_ => simp at hc; omega
theorem Zgv:∀ (i n:Nat),(X4 n i).length = i
 | 0,_ => rfl
 | i + 1,n => by simp [X4,Zgv i]
theorem Zzy:∀ (i n:Nat),∀ x ∈ X4 n i,x < 256
 | 0,_,x,h => by simp [X4] at h
 | i + 1,n,x,h => by
  rcases List.mem_append.1 h with h | h
  ·exact Zzy i _ x h
  ·simp at h; omega
theorem ZyB (n:Nat):1 ≤ ZbB n ∧ ZbB n ≤ 7:=by
 unfold ZbB
 repeat' split
 all_goals omega
theorem ZJn {k m:Nat} (hm:m < 64):Zeh k m < 256:=by
 unfold Zeh
 exact Nat.or_lt_two_pow (n:=8) (Nat.mod_lt _ (by omega)) (by omega)
theorem Zub (n:Nat):1 ≤ (Qz n).length ∧ (Qz n).length ≤ 7:=by
 unfold Qz
 have:=ZyB n
 split
 ·simp
 ·simp only [List.length_cons,Zgv]; omega
theorem ZvM {n:Nat} (h:n < 2 ^ 36) (h2:128 ≤ n):2 ≤ ZbB n ∧ n < 2 ^ Yk (ZbB n):=by
 obtain ⟨r2,r3,r4,r5,r6,r7⟩:=Ztl
 unfold ZbB
 rw [if_neg (by omega)]
 repeat' split
 all_goals simp only [r2,r3,r4,r5,r6,r7]
 all_goals omega
theorem Zzv {n:Nat} (h:n < 2 ^ 36):∀ x ∈ Qz n,x < 256:=by
 intro x hx
 unfold Qz at hx
 split at hx
 ·simp at hx; omega
 ·rcases List.mem_cons.1 hx with rfl | hx
  ·obtain ⟨h1,h2⟩:=ZvM h (by omega)
   exact ZJn (ZiV h1 (ZyB n).2 h2)
  ·exact Zzy _ _ x hx
theorem ZhN:∀ l:List Nat,(l.flatMap fun x => Zb x 8).length = 8 * l.length
 | [] => rfl
 | a :: l => by rw [List.flatMap_cons,Q2,Zj,ZhN l,List.length_cons]; omega
theorem Zb3 (mode num n:Nat):(Qq mode num n).length = 32 + 8 * (Qz num).length + 8 * (QI n - 5):=by
 unfold Qq
 simp only [Q2,Zj,ZhN]
 omega
theorem Zf2 (n:Nat):QI n = 6 ∨ QI n = 7:=by unfold QI; split <;> omega
theorem ZJB {l:List Nat} {i:Nat} (h:i < (Wa l).length):(Wa l)[i] = ((l[i]'(by simpa [Wa] using h):Nat):Int):=by simp [Wa]
theorem ZhS (l:List Nat):(Wa l).length = l.length:=by simp [Wa]
end Go.Sh
namespace Go.Sh
open Go Go.Proofs
theorem Zp0 {n d:Nat} {ls:List (List Int)} {ds:List Int} (h:LayOk n d ls ds) (hn:1 ≤ n) (hn2:n ≤ 512) (hd1:4 ≤ d) (hd2:d ≤ 24):(Qi ls ds).length ≤ 30000:=by
 have one:∀ (i:Nat) (h1:i < ls.length) (h2:i < ds.length),(Wp ls[i] ds[i].toNat).length ≤ 13000:=by
  intro i h1 h2
  obtain ⟨a,b,c⟩:=h.all i h1 h2
  have hw:=Zdw (d:=ds[i].toNat) (by omega) c
  have:=ZBR (s:=ls[i]) (by omega) (by omega) hw
  have hm:ls[i].length * ds[i].toNat ≤ 512 * 25:=Nat.mul_le_mul (by omega) (by omega)
  omega
 unfold Qi
 have hl:=h.len
 rcases h.two with h2 | h2
 ·match ls,ds,h2,hl,one with
  | [a],[x],_,_,one =>
   have:=one 0 (by simp) (by simp)
   simp at this ⊢
   omega
 ·match ls,ds,h2,hl,one with
  | [a,b],[x,y],_,_,one =>
   have h1:=one 0 (by simp) (by simp)
   have h2:=one 1 (by simp) (by simp)
   simp at h1 h2 ⊢
   omega
theorem ZAh (k:Nat) (hk:100000 < k) {n d:Nat} {ls:List (List Int)} {ds:List Int} (h:LayOk n d ls ds) (hn:1 ≤ n) (hn2:n ≤ 512) (hd1:4 ≤ d) (hd2:d ≤ 24) (bs:List Bool) (hb:bs.length ≤ 200) :
  ZiL k (Int.ofNat ds.length,(0:Int),ds,ls,(bs.length:Int),ZJ bs) = some ((ZJ (Ys (bs ++ Qi ls ds)),0,()),()):=by
 have hdl:ds.length ≤ 2:=by have:=h.len; have:=h.two; omega
 have hall:(bs ++ Qi ls ds).length ≤ 30200:=by have:=Zp0 h hn hn2 hd1 hd2; rw [Q2]; omega
 have hpart:∀ i,(bs ++ ((ls.zip ds).take i).flatMap (fun x => Wp x.1 x.2.toNat)).length ≤ 30200:=by
  intro i
  refine Nat.le_trans ?_ hall
  unfold Qi
  conv => rhs; rw [← List.take_append_drop i (ls.zip ds),List.flatMap_append]
  simp only [Q2]
  omega
 have hzl:(ls.zip ds).length = ds.length:=by rw [List.length_zip]; have:=h.len; omega
 have hend:∀ L,ZcH k L (Int.ofNat ds.length,Int.ofNat ds.length,ds,ls,(((bs ++ Qi ls ds).length:Nat):Int),ZJ (bs ++ Qi ls ds)) = some ((ZJ (Ys (bs ++ Qi ls ds)),0,()),()):=by
  intro L
  generalize bs ++ Qi ls ds = B at hall
  simp only [ZcH]
  rw [Zk (Q3 _)]
  have hp:Zap B.length < 8:=by unfold Zap; omega
  have hpl:(X0 B).length ≤ 30210:=by unfold X0; rw [Q2,List.length_replicate]; omega
  refine (Zn (ZNB k B (by omega)) _).trans ?_
  refine (Zn (ZkZ k (X0 B) (by omega)) _).trans ?_
  have hb16:=KA (X0 B)
  have hpk:(ZJ (X0 B)).length ≤ 4000:=by rw [Qf]; omega
  refine (Zn (ZAM k (ZJ (X0 B)) hb16 (by omega) (by omega)) _).trans ?_
  refine (Zn (QS k (X0 B) (Zcq (ZJ (X0 B))) 16 (by omega) (by omega) (ZzA hb16) (by omega)) _).trans ?_
  have hcl:(Ys B).length ≤ 30300:=by unfold Ys; rw [Q2,Zj]; omega
  refine (Zn (ZkZ k (Ys B) (by omega)) _).trans ?_
  rfl
 have:=Zz (A:=List Bool) (R:=(List Int × Int × Unit) × Unit) (step:=fun L2 => ZcH k L2)
  (fun i a => (Int.ofNat ds.length,Int.ofNat i,ds,ls,(a.length:Int),ZJ a)) (ls.zip ds)
  (fun l' a => some ((ZJ (Ys (a ++ l'.flatMap fun x => Wp x.1 x.2.toNat)),0,()),()))
  (fun i a => a = bs ++ ((ls.zip ds).take i).flatMap (fun x => Wp x.1 x.2.toNat))
  (fun L a ha => by
   rw [List.take_length] at ha
   have:=hend L
   unfold Qi at this
   rw [← ha] at this
   rw [hzl,List.flatMap_nil,List.append_nil]
   exact this)
  (fun L i hi a ha hL => by
   have h1:i < ls.length:=by have:=h.len; omega
   have h2:i < ds.length:=by omega
   obtain ⟨o1,o2,o3⟩:=h.all i h1 h2
   have hal:a.length ≤ 30200:=by rw [ha]; exact hpart i
   simp only [ZcH]
   rw [Zc (ltR h2),Zc (Kh h2),Zc (Kh h1),ZM h1,ZM h2]
   have hds:ds[i] = ((ds[i].toNat:Nat):Int):=by omega
   have hsc:ZhX ls[i] ((ds[i].toNat:Nat):Int) = 0:=Zn6.2 ⟨by omega,o3⟩
   have e:=ZNA k (by omega) hsc a (by omega)
   rw [← hds] at e
   refine (Zn e _).trans ?_
   have hzi:(ls.zip ds)[i] = (ls[i],ds[i]):=by rw [List.getElem_zip]
   have hnext:a ++ Wp ls[i] ds[i].toNat = bs ++ ((ls.zip ds).take (i + 1)).flatMap (fun x => Wp x.1 x.2.toNat):=by
    rw [ha,List.take_add_one,List.getElem?_eq_getElem hi,hzi,List.flatMap_append]
    simp
   have:=hL (a ++ Wp ls[i] ds[i].toNat) hnext
   show L (Int.ofNat ds.length,IntKind.i64.wrap (Int.ofNat i + 1),ds,ls,(((a ++ Wp ls[i] ds[i].toNat).length:Nat):Int),ZJ (a ++ Wp ls[i] ds[i].toNat)) = _
   rw [Qr h2 (by omega),this,hzi,List.flatMap_cons,List.append_assoc])
  k 0 bs (by simp) (by omega) (Nat.zero_le _)
 rw [List.drop_zero] at this
 exact this
theorem ZAg (k:Nat) (hk:100000 < k) {c d r:Int} {mode num n dn:Nat} (hnum:num < 2 ^ 31) (hd:d = (dn:Int)) {ls:List (List Int)} (hc:c = 1 ∧ mode = 0 ∨ c = 2) (hn:1 ≤ n) (hn2:n ≤ 512) (hd1:4 ≤ dn) (hd2:dn ≤ 24)
  (h:LayOk n dn ls (Qg c d (mode:Int))) (bs:List Bool) (hb:bs = Zb 16382 14 ++ (Zb (QI n) 6 ++ (Zb mode 8 ++ Zb 0 4))) :
  ZmJ k (Int.ofNat (Wa (Qz num)).length,(0:Int),Wa (Qz num),(n:Int),((QI n:Nat):Int),(mode:Int),ls,(bs.length:Int),ZJ bs,c,d,r) =
   some ((ZJ (Ys (Qs mode num n ++ Qi ls (Qg c d (mode:Int)))),0,()),()):=by
 have hbl:bs.length = 32:=by rw [hb]; simp only [Q2,Zj]
 have hcl:=Zub num
 have hlt:=Zzv (n:=num) (by omega)
 have hkn:=Zf2 n
 have:=Zz (A:=List Bool) (R:=(List Int × Int × Unit) × Unit) (step:=fun L1 => K3 k (ZiL k) L1)
  (fun i a => (Int.ofNat (Wa (Qz num)).length,Int.ofNat i,Wa (Qz num),(n:Int),((QI n:Nat):Int),(mode:Int),ls,(a.length:Int),ZJ a,c,d,r)) (Qz num)
  (fun l' a => K3 k (ZiL k) (fun _ => none) (Int.ofNat (Qz num).length,Int.ofNat (Qz num).length,Wa (Qz num),(n:Int),((QI n:Nat):Int),(mode:Int),ls,(((a ++ l'.flatMap fun x => Zb x 8).length:Nat):Int),ZJ (a ++ l'.flatMap fun x => Zb x 8),c,d,r))
  (fun i a => a.length ≤ 32 + 8 * i)
  (fun L a ha => by
   rw [ZhS]
   simp only [K3]
   rw [Zk (Q3 _),Zk (Q3 _)]
   simp)
  (fun L i hi a ha hL => by
   have hi2:i < (Wa (Qz num)).length:=by rw [ZhS]; exact hi
   have key:K3 k (ZiL k) L (Int.ofNat (Wa (Qz num)).length,Int.ofNat i,Wa (Qz num),(n:Int),((QI n:Nat):Int),(mode:Int),ls,(a.length:Int),ZJ a,c,d,r) =
     L (Int.ofNat (Wa (Qz num)).length,Int.ofNat (i + 1),Wa (Qz num),(n:Int),((QI n:Nat):Int),(mode:Int),ls,(((a ++ Zb (Qz num)[i] 8).length:Nat):Int),ZJ (a ++ Zb (Qz num)[i] 8),c,d,r):=by
    simp only [K3]
    rw [Zc (ltR hi2),Zc (Kh hi2),ZM hi2,ZJB hi2]
    have hx:=hlt _ (List.getElem_mem hi)
    have hil:=ZhS (Qz num)
    rw [Qa (by omega)]
    refine (Zn (QS k a (Qz num)[i] 8 (by omega) (by omega) (by omega) (by omega)) _).trans ?_
    rw [Qr hi2 (by omega)]
   rw [key,hL _ (by rw [Q2,Zj]; omega),List.flatMap_cons,List.append_assoc])
  k 0 bs (by omega) (by omega) (Nat.zero_le _)
 rw [List.drop_zero] at this
 refine Eq.trans this ?_
 have hpre:bs ++ (Qz num).flatMap (fun x => Zb x 8) ++ Zb (n - 1) (8 * (QI n - 5)) = Qq mode num n:=by
  rw [hb]
  unfold Qq
  simp only [List.append_assoc]
 have hprel:=Zb3 mode num n
 have hB:(bs ++ (Qz num).flatMap (fun x => Zb x 8)).length ≤ 100:=by rw [Q2,ZhN]; omega
 generalize bs ++ (Qz num).flatMap (fun x => Zb x 8) = B at hpre hB
 simp only [K3]
 rw [Zk (Q3 _)]
 have e1:IntKind.i64.wrap ((n:Int) - 1) = ((n - 1:Nat):Int):=by rw [Qa (by omega)]; omega
 have e2:IntKind.i64.wrap ((8:Int) * IntKind.i64.wrap (IntKind.i64.wrap (((QI n:Nat):Int) - (6:Int)) + (1:Int))) = ((8 * (QI n - 5):Nat):Int):=by
  rcases hkn with h | h <;> rw [h] <;> rfl
 have hw:n - 1 < 2 ^ (8 * (QI n - 5)):=by
  unfold QI
  split
  ·show n - 1 < 2 ^ 16; omega
  ·show n - 1 < 2 ^ 8; omega
 rw [e1,e2]
 refine (Zn (QS k B (n - 1) (8 * (QI n - 5)) (by omega) (by omega) hw (by omega)) _).trans ?_
 rw [hpre]
 refine (Zn (ZkZ k (Qq mode num n) (by omega)) _).trans ?_
 have hb8:=KA (Qq mode num n)
 refine (Zn (ZAI k (ZJ (Qq mode num n)) hb8 (by rw [Qf]; omega) (by rw [Qf]; omega)) _).trans ?_
 refine (Zn (QS k (Qq mode num n) (ZhZ (ZJ (Qq mode num n))) 8 (by omega) (by omega) (ZFr hb8) (by omega)) _).trans ?_
 refine (Zn (ZAJ k (c:=c) (d:=d) (r:=r) (m:=(mode:Int)) (by omega) (by omega)) _).trans ?_
 exact ZAh k hk h hn hn2 hd1 hd2 (Qs mode num n) (by unfold Qs; rw [Q2,Zj]; omega)
theorem ZLE (k:Nat) (hk:100000 < k) (c d r n:Int) (ch:List (List Int)):ZuD k ((c,d,r,()),(n,ch,()),()) = some (((Ke c d r n ch).1,(Ke c d r n ch).2,()),()):=by
 show ZjP k (ZmJ k) _ = _
 simp only [ZjP]
 rw [ZAC k c d r n ch (by omega)]
 simp only [Z1]
 unfold Ke
 rw [ZL]
 by_cases h:Yr c d r n ch = 0
 ·rw [Zk (by simpa using h),if_pos h]
  obtain ⟨hs,hn,hc,hlen,hsg⟩:=ZaX h
  obtain ⟨hlay,⟨mode,hm,hmc⟩,hn0⟩:=ZED h
  have hch:ch.length = 1 ∨ (∃ L R,ch = [L,R] ∧ L.length = R.length ∧ L.length ≤ 8192 ∧ (∀ x ∈ L,Ql x) ∧ ∀ x ∈ R,Ql x):=by
   match ch,hc,hlen,hsg with
   | [],hc,_,_ => simp at hc; omega
   | [_],_,_,_ => exact .inl rfl
   | [l,r'],_,hlen,hsg =>
    refine .inr ⟨l,r',rfl,?_,?_,?_,?_⟩
    ·have:=(hlen r' (by simp)).1; simpa using this.symm
    ·have:=(hlen l (by simp)).2.2; omega
    ·exact fun x hx => Zb9 (by omega) (hsg l (by simp) x hx)
    ·exact fun x hx => Zb9 (by omega) (hsg r' (by simp) x hx)
   | _ :: _ :: _ :: _,hc,_,_ => simp at hc; omega
  refine (Zn (ZNu k n ch (by omega) hch) _).trans ?_
  rw [show ((0:Int) != 0) = false from rfl]
  simp only [cond_false]
  have hbig:∃ l0,(Y3 ch).1.getD 0 [] = l0 ∧ l0.length = (ch.headD []).length ∧ 0 < (Y3 ch).1.length:=by
   have:=hlay.two
   match hh:(Y3 ch).1,this with
   | [],h => simp at h
   | l :: ls,_ => rw [hh] at hn0; exact ⟨l,rfl,hn0,by simp⟩
  obtain ⟨l0,hl0,hl0n,hpos⟩:=hbig
  rw [Zc (by simp only [Qv]; omega),hl0,hl0n]
  have hn1:1 ≤ (ch.headD []).length ∧ (ch.headD []).length ≤ 512:=by
   obtain ⟨a,b,c⟩:=hlay.all 0 hpos (by rw [← hlay.len]; exact hpos)
   have:0 < ch.length:=by omega
   match ch,this with
   | l :: _,_ => exact (hlen l (by simp)).2
  rw [hm] at hlay ⊢
  obtain ⟨num,hnum⟩:=Int.eq_ofNat_of_zero_le hn.1
  obtain ⟨dn,hdn⟩:=Int.eq_ofNat_of_zero_le (show 0 ≤ d by omega)
  subst hnum
  rw [Xm,Xm]
  have hdt:d.toNat = dn:=by omega
  rw [hdt] at hlay
  have hmode:mode < 2 ^ 8:=by omega
  have e14:(16382:Int) = ((16382:Nat):Int):=rfl
  generalize hN:(ch.headD []).length = N at hn1 hlay
  have l1:(([]:List Bool) ++ Zb 16382 14).length = 14:=by rw [Q2,Zj]; rfl
  have fin:∀ kd:Nat,kd = QI N → ((ZnR k ()).bind fun y_1 => (ZQ k ((y_1.1.1,y_1.1.2.1,()),16382,14,())).bind fun y_2 => (ZQ k ((y_2.2.1.1,y_2.2.1.2.1,()),(kd:Int),6,())).bind fun y_3 => (ZQ k ((y_3.2.1.1,y_3.2.1.2.1,()),(mode:Int),8,())).bind fun y_4 => (ZQ k ((y_4.2.1.1,y_4.2.1.2.1,()),0,4,())).bind fun y_5 => (Zse k ((num:Int),())).bind fun y_6 => bif y_6.1.2.1 != (0:Int) then some (([],y_6.1.2.1,()),()) else ZmJ k (Int.ofNat (List.length y_6.1.1),(0:Int),y_6.1.1,(N:Int),(kd:Int),(mode:Int),(Y3 ch).1,y_5.2.1.2.1,y_5.2.1.1,c,d,r)) =
    some ((ZJ (Ys (Qs mode num N ++ Qi (Y3 ch).1 (Qg c d (mode:Int)))),0,()),()):=by
   rintro kd rfl
   have hkn:=Zf2 N
   refine (Zn (ZAF k) _).trans ?_
   refine (Zn (QS k [] 16382 14 (by omega) (by omega) (by omega) (by simp)) _).trans ?_
   refine (Zn (QS k ([] ++ Zb 16382 14) (QI N) 6 (by omega) (by omega) (by omega) (by omega)) _).trans ?_
   have l2:([] ++ Zb 16382 14 ++ Zb (QI N) 6).length = 20:=by rw [Q2,l1,Zj]
   refine (Zn (QS k ([] ++ Zb 16382 14 ++ Zb (QI N) 6) mode 8 (by omega) (by omega) hmode (by omega)) _).trans ?_
   have l3:([] ++ Zb 16382 14 ++ Zb (QI N) 6 ++ Zb mode 8).length = 28:=by rw [Q2,l2,Zj]
   refine (Zn (QS k ([] ++ Zb 16382 14 ++ Zb (QI N) 6 ++ Zb mode 8) 0 4 (by omega) (by omega) (by omega) (by omega)) _).trans ?_
   refine (Zn (ZNz k (by omega) (n:=num) (by omega)) _).trans ?_
   exact ZAg k hk (by omega) hdn (hmc.elim (fun h => .inl ⟨h.2,h.1⟩) (fun h => .inr h.1)) hn1.1 hn1.2 (by omega) (by omega) hlay _ (by simp only [List.nil_append,List.append_assoc])
  by_cases h256:256 < N
  ·rw [Zc (by simp only [Qv]; omega)]
   exact fin 7 (by unfold QI; rw [if_pos h256])
  ·rw [Zk (by simp only [Qv]; omega)]
   exact fin 6 (by unfold QI; rw [if_neg h256])
 ·rw [Zc h,if_neg h]
end Go.Sh
namespace Go.Sh
open Go Go.Proofs
def YQ (l:List Nat):List Bool:=l.flatMap fun x => Zb x 8
theorem Ww (l:List Nat):(YQ l).length = 8 * l.length:=by
 unfold YQ
 rw [ZfW (B:=8) fun x _ => Zj x 8]; omega
theorem Ziu (a b:List Nat):YQ (a ++ b) = YQ a ++ YQ b:=by simp [YQ]
theorem Xe {k:Nat} {bs:List Bool} {n w:Nat} (hk:64 < k) (hw:w ≤ 32) (hn:n < 2 ^ w) (hb:bs.length + w < 4294967296) {α:Type} (K:Int × (List Int × Int × Unit) × Unit → Option α) :
  (ZQ k (KG bs,(n:Int),(w:Int),())).bind K = K (0,KG (bs ++ Zb n w),()):=by
 rw [QS k bs n w hk hw hn hb]; rfl
section prog
variable {k:Nat}
theorem Zd7 (hk:100 ≤ k) (bs:List Bool) (s:ByteArray) (hs:s.size < k) (hb:bs.length + 8 * s.size < 4000000000):KN k (KG bs,s,()) = some ((),KG (bs ++ YQ (Zig s)),()):=by
 have hl:=YB s
 have key:=Zz (A:=List Bool) (step:=fun L1 => Zbl k L1) (fun i a => (Int.ofNat s.size,Int.ofNat i,s,(a.length:Int),ZJ a)) s.data.toList
  (fun rest a => some ((),KG (a ++ YQ (rest.map UInt8.toNat)),())) (fun i a => a.length = bs.length + 8 * i)
  (fun L a _ => by
   simp only [Zbl]
   rw [hl,Zk (Q3 _)]
   simp [YQ,KG])
  (fun L i hi a hI hL => by
   rw [hl] at hi
   simp only [Zbl]
   rw [Zc (ltR hi),Zc (Kh hi),ZM (by omega)]
   have h256:=(s.data.toList[i]'(by omega)).toNat_lt
   rw [show IntKind.i64.wrap (Int.ofNat (s.data.toList[i]'(by omega)).toNat) = (((s.data.toList[i]'(by omega)).toNat:Nat):Int) from Qa (by simp only [Qv]; omega)]
   refine Eq.trans (Xe (k:=k) (bs:=a) (w:=8) (by omega) (by omega) h256 (by omega) _) ?_
   rw [Qr hi (by omega)]
   refine Eq.trans (hL _ (by rw [Q2,Zj,hI]; omega)) ?_
   simp [YQ])
  k 0 bs (by simp) (by omega) (by omega)
 rw [List.drop_zero] at key
 exact key
theorem ZiR (hk:100 ≤ k) (bs:List Bool) {a b n:Nat} (ha:a < 2) (hb:b < 128) (hn:n < 16777216) (hl:bs.length < 4000000000):ZaC k (KG bs,(a:Int),(b:Int),(n:Int),()) = some ((),KG (bs ++ (Zb a 1 ++ Zb b 7 ++ Zb n 24)),()):=by
 show Zd8 k _ = _
 simp only [Zd8]
 refine Eq.trans (Xe (k:=k) (bs:=bs) (w:=1) (by omega) (by omega) ha (by omega) _) ?_
 refine Eq.trans (Xe (k:=k) (bs:=bs ++ Zb a 1) (w:=7) (by omega) (by omega) hb (by rw [Q2,Zj]; omega) _) ?_
 refine Eq.trans (Xe (k:=k) (bs:=bs ++ Zb a 1 ++ Zb b 7) (w:=24) (by omega) (by omega) hn (by simp only [Q2,Zj]; omega) _) ?_
 simp [KG]
theorem ZTW {n i:Nat} (hn:n < 4294967296) (hi:i < 4):IntKind.i64.wrap (Int.ofNat (BitVec.ofInt 64 (Int.fdiv (n:Int) ((2:Int) ^ min (((8 * i:Nat):Int)).toNat 64)) &&& BitVec.ofInt 64 (255:Int)).toNat) = ((n / 2 ^ (8 * i) % 256:Nat):Int):=by
 have e1:min (((8 * i:Nat):Int)).toNat 64 = 8 * i:=by omega
 have hd:n / 2 ^ (8 * i) ≤ n:=Nat.div_le_self _ _
 have e:(n / 2 ^ (8 * i)) &&& 255 = n / 2 ^ (8 * i) % 256:=Nat.and_two_pow_sub_one_eq_mod _ 8
 rw [e1,show ((2:Int) ^ (8 * i)) = ((2 ^ (8 * i):Nat):Int) by simp,Zvz,BitVec.toNat_and,ZWX (by omega),show (BitVec.ofInt 64 (255:Int)).toNat = 255 from rfl,e]
 rw [show Int.ofNat (n / 2 ^ (8 * i) % 256) = ((n / 2 ^ (8 * i) % 256:Nat):Int) from rfl,Zyz (by omega)]
theorem ZOB (N i:Nat):YQ (leN N (i + 1)) = YQ (leN N i) ++ Zb (N / 2 ^ (8 * i) % 256) 8:=by
 rw [ZBq,Ziu]; simp [YQ]
theorem ZFS (hk:100 ≤ k) (bs:List Bool) {N:Nat} (hN:N < 4294967296) (hl:bs.length < 4000000000):∀ (n i fuel:Nat),i + n = 4 → n < fuel →
  Zm (fun L1 => Zbo k L1) fuel (((8 * i:Nat):Int),(N:Int),(((bs ++ YQ (leN N i)).length:Nat):Int),ZJ (bs ++ YQ (leN N i))) = some ((),KG (bs ++ YQ (leN N 4)),())
 | 0,i,fuel + 1,h1,h2 => by
  obtain rfl:i = 4:=by omega
  rw [Ze]
  simp only [Zbo]
  rw [Zk (by omega)]
 | n + 1,i,fuel + 1,h1,h2 => by
  rw [Ze]
  simp only [Zbo]
  rw [Zc (by omega),Zc (by omega)]
  simp only [ZTW hN (show i < 4 by omega)]
  refine Eq.trans (Xe (k:=k) (bs:=bs ++ YQ (leN N i)) (w:=8) (by omega) (by omega) (Nat.mod_lt _ (by omega)) (by rw [Q2,Ww,Y4]; omega) _) ?_
  rw [show IntKind.i64.wrap (((8 * i:Nat):Int) + 8) = ((8 * (i + 1):Nat):Int) by rw [Qa (by omega)]; omega,List.append_assoc,← ZOB]
  exact ZFS hk bs hN hl n (i + 1) fuel (by omega) (by omega)
 | 0,_,0,_,h2 => absurd h2 (Nat.lt_irrefl _)
 | n + 1,_,0,_,h2 => absurd h2 (Nat.not_lt_zero _)
theorem ZiS (hk:100 ≤ k) (bs:List Bool) {N:Nat} (hN:N < 4294967296) (hl:bs.length < 4000000000):Zeb k (KG bs,(N:Int),()) = some ((),KG (bs ++ YQ (leN N 4)),()):=by
 have:=ZFS hk bs hN hl 4 0 k rfl (by omega)
 rw [show leN N 0 = [] from rfl,show YQ [] = [] from rfl,List.append_nil] at this
 exact this
def ZsS:List Nat → Nat
 | [] => 0
 | x :: l => l.foldl min x
def ZsQ:List Nat → Nat
 | [] => 0
 | x :: l => l.foldl max x
theorem ZD2 {l:List Nat} (h:l ≠ []) (hk:l.length < k) (hl:l.length < 4294967296):ZkJ k (Zu l,()) = some ((ZsS l:Int),()):=by
 match l,h with
 | x :: l,_ =>
  show Zd9 k (ZkK k) _ = _
  simp only [Zd9]
  rw [ZP,Zk (by simp only [Qv,List.length_cons]; omega),Zc (by simp only [Qv,List.length_cons]; omega)]
  have hc:(Zu (x :: l)).length = l.length + 1:=by rw [ZP]; rfl
  have key:=QN (A:=Nat) (step:=fun L1 => Zbm k L1) (fun i a => (Int.ofNat i,Zu (x :: l),(a:Int))) (x :: l) (fun rest a => some (((rest.foldl min a:Nat):Int),()))
   (fun L a => by
    simp only [Zbm]
    rw [hc,show (x :: l).length = l.length + 1 from rfl,Zk (Q3 _)]
    rfl)
   (fun L i hi a hL => by
    simp only [Zbm]
    rw [ZP,Zc (ltR hi),Zc (Kh hi)]
    have e:(Zu (x :: l)).getD (Int.ofNat i).toNat 0 = (((x :: l)[i]:Nat):Int):=by
     rw [show (Int.ofNat i).toNat = i from rfl,QB,Xc hi]
    rw [e,Qr hi (by omega)]
    have e2:(if (((x :: l)[i]:Nat):Int) < (a:Int) then (((x :: l)[i]:Nat):Int) else (a:Int)) = ((min a (x :: l)[i]:Nat):Int):=by
     split <;> omega
    rw [e2]
    exact hL _) k 1 x (by simp at hk ⊢; omega) (by simp)
  exact key
theorem ZD4 {l:List Nat} (h:l ≠ []) (hk:l.length < k) (hl:l.length < 4294967296):ZkL k (Zu l,()) = some ((ZsQ l:Int),()):=by
 match l,h with
 | x :: l,_ =>
  show Zea k (ZkM k) _ = _
  simp only [Zea]
  rw [ZP,Zk (by simp only [Qv,List.length_cons]; omega),Zc (by simp only [Qv,List.length_cons]; omega)]
  have hc:(Zu (x :: l)).length = l.length + 1:=by rw [ZP]; rfl
  have key:=QN (A:=Nat) (step:=fun L1 => Zbn k L1) (fun i a => (Int.ofNat i,Zu (x :: l),(a:Int))) (x :: l) (fun rest a => some (((rest.foldl max a:Nat):Int),()))
   (fun L a => by
    simp only [Zbn]
    rw [hc,show (x :: l).length = l.length + 1 from rfl,Zk (Q3 _)]
    rfl)
   (fun L i hi a hL => by
    simp only [Zbn]
    rw [ZP,Zc (ltR hi),Zc (Kh hi)]
    have e:(Zu (x :: l)).getD (Int.ofNat i).toNat 0 = (((x :: l)[i]:Nat):Int):=by
     rw [show (Int.ofNat i).toNat = i from rfl,QB,Xc hi]
    rw [e,Qr hi (by omega)]
    have e2:(if (a:Int) < (((x :: l)[i]:Nat):Int) then (((x :: l)[i]:Nat):Int) else (a:Int)) = ((max a (x :: l)[i]:Nat):Int):=by
     split <;> omega
    rw [e2]
    exact hL _) k 1 x (by simp at hk ⊢; omega) (by simp)
  exact key
end prog
end Go.Sh
namespace Go.Sh
open Go Go.Proofs
def Zf3:List Nat:=[102,76,97,67]
def Zn9:List Nat:=[115,104,101,108,108,97,99]
def Zav (a b n:Nat):List Bool:=Zb a 1 ++ Zb b 7 ++ Zb n 24
def Zgb (size n i at_:Nat):List Bool:=Zb 0 32 ++ Zb (i * size) 32 ++ Zb 0 32 ++ Zb at_ 32 ++ Zb (min size (n - i * size)) 16
def Zt2 (size n:Nat):Nat → Nat → List Nat → List Bool
 | _,_,[] => []
 | i,at_,x :: l => Zgb size n i at_ ++ Zt2 size n (i + 1) (at_ + x) l
def ZBZ (tags:List ByteArray):List Bool:=tags.flatMap fun t => YQ (leN t.size 4) ++ YQ (Zig t)
def ZG1 (tags:List ByteArray):Nat:=(tags.map fun t => 4 + t.size).sum
def ZnX (c d r size n small great:Nat):List Bool:=YQ Zf3 ++ Zav 0 0 34 ++ Zb size 16 ++ Zb size 16 ++ Zb small 24 ++ Zb great 24 ++ Zb r 20 ++ Zb (c - 1) 3 ++ Zb (d - 1) 5 ++ Zb 0 4 ++ Zb n 32
def KU (tags:List ByteArray):List Bool:=Zav 1 4 (15 + ZG1 tags) ++ YQ (leN 7 4) ++ YQ Zn9 ++ YQ (leN tags.length 4) ++ ZBZ tags
def Zgl (size n:Nat) (lens:List Nat):List Bool:=if 1 < lens.length then Zav 0 3 (18 * lens.length) ++ Zt2 size n 0 0 lens else []
noncomputable def Ztv (d:Nat) (ch:List (List Int)):List Nat:=ZEI (Zim (nbD d) ch (ch.getD 0 []).length)
noncomputable def ZeT (d r:Nat) (tags:List ByteArray) (ch:List (List Int)) (size:Nat) (lens:List Nat):List Bool :=
 ZnX ch.length d r size (ch.getD 0 []).length (ZsS lens) (ZsQ lens) ++ YQ (Ztv d ch) ++ Zgl size (ch.getD 0 []).length lens ++ KU tags
theorem XU (a b n:Nat):(Zav a b n).length = 32:=by simp [Zav,Zj]
theorem Zs7 (size n i a:Nat):(Zgb size n i a).length = 144:=by simp [Zgb,Zj]
theorem ZWo (s:S4):Xq (ZOT s):=by
 intro x hx
 simp only [ZOT,le4,List.mem_append,List.mem_cons,List.not_mem_nil,or_false] at hx
 omega
theorem Zdr (d:Nat) (ch:List (List Int)):(Ztv d ch).length = 16:=by simp [Ztv,ZEI,ZOT,le4]
theorem ZlD:∀ (l:List Nat) (a:Nat),l.foldl min a ≤ a
 | [],a => Nat.le_refl a
 | x :: l,a => Nat.le_trans (ZlD l (min a x)) (Nat.min_le_left a x)
theorem ZSM {l:List Nat} {B:Nat} (hB:0 < B) (h:∀ x ∈ l,x < B):ZsS l < B:=by
 match l,h with
 | [],_ => exact hB
 | x :: l,h => exact Nat.lt_of_le_of_lt (ZlD l x) (h x (List.mem_cons_self ..))
theorem ZlC {B:Nat}:∀ (l:List Nat) (a:Nat),a < B → (∀ x ∈ l,x < B) → l.foldl max a < B
 | [],a,h,_ => h
 | x :: l,a,h,h2 => ZlC l (max a x) (by have:=h2 x (List.mem_cons_self ..); omega) fun y hy => h2 y (List.mem_cons_of_mem _ hy)
theorem ZSH {l:List Nat} {B:Nat} (hB:0 < B) (h:∀ x ∈ l,x < B):ZsQ l < B:=by
 match l,h with
 | [],_ => exact hB
 | x :: l,h => exact ZlC l x (h x (List.mem_cons_self ..)) fun y hy => h y (List.mem_cons_of_mem _ hy)
section prog
variable {k:Nat} {c d r:Int} {tags:List ByteArray} {ch:List (List Int)}
def Tg (tags:List ByteArray):Prop:=tags.length ≤ 8 ∧ ∀ t ∈ tags,t.size ≤ 12
theorem ZRP (hk:100 ≤ k) (hT:Tg tags) (bs:List Bool) (hb:bs.length < 1000000000):Zft k (Int.ofNat tags.length,(0:Int),tags,(bs.length:Int),ZJ bs) = some (ZJ (bs ++ ZBZ tags),()):=by
 have key:=Zz (A:=List Bool) (step:=fun L3 => Zbi k L3) (fun i a => (Int.ofNat tags.length,Int.ofNat i,tags,(a.length:Int),ZJ a)) tags
  (fun rest a => some (ZJ (a ++ ZBZ rest),())) (fun i a => a.length ≤ bs.length + 200 * i)
  (fun L a hI => by
   simp only [Zbi]
   rw [Zk (Q3 _)]
   refine Eq.trans (congrArg (fun x => Option.bind x _) (ZkZ k a (by have:=hT.1; omega))) ?_
   simp [ZBZ])
  (fun L i hi a hI hL => by
   have ht:=hT.2 _ (List.getElem_mem hi)
   have ht8:=hT.1
   simp only [Zbi]
   rw [Zc (ltR hi),Zc (Kh hi),ZM hi]
   refine Eq.trans (congrArg (fun x => Option.bind x _) (ZiS hk a (N:=tags[i].size) (by omega) (by omega))) ?_
   simp only [Z1]
   refine Eq.trans (congrArg (fun x => Option.bind x _) (Zd7 hk (a ++ YQ (leN tags[i].size 4)) tags[i] (by omega) (by rw [Q2,Ww,Y4]; omega))) ?_
   simp only [Z1]
   rw [Qr hi (by omega)]
   refine Eq.trans (hL _ (by simp only [Q2,Ww,Y4,Znc]; omega)) ?_
   simp only [ZBZ,List.flatMap_cons,List.append_assoc])
  k 0 bs (by simp) (by have:=hT.1; omega) (by omega)
 rw [List.drop_zero] at key
 exact key
theorem ZFL (hk:100 ≤ k) (hT:Tg tags) (bs:List Bool) (hb:bs.length < 900000000):YW k (Int.ofNat tags.length,(0:Int),tags,(15:Int),(bs.length:Int),ZJ bs,c,d,r,tags,ch) = some (ZJ (bs ++ KU tags),()):=by
 have h8:=hT.1
 have key:=Zz (A:=Nat) (step:=fun L2 => Zbh k (Zft k) L2) (fun i a => (Int.ofNat tags.length,Int.ofNat i,tags,(a:Int),(bs.length:Int),ZJ bs,c,d,r,tags,ch)) tags
  (fun rest a => some (ZJ (bs ++ (Zav 1 4 (a + ZG1 rest) ++ YQ (leN 7 4) ++ YQ Zn9 ++ YQ (leN tags.length 4) ++ ZBZ tags)),())) (fun i a => a ≤ 15 + 16 * i)
  (fun L a hI => by
   simp only [Zbh]
   rw [Zk (Q3 _)]
   refine Eq.trans (congrArg (fun x => Option.bind x _) (ZiR hk bs (a:=1) (b:=4) (n:=a) (by omega) (by omega) (by omega) (by omega))) ?_
   simp only [Z1]
   refine Eq.trans (congrArg (fun x => Option.bind x _) (ZiS hk (bs ++ Zav 1 4 a) (N:=7) (by omega) (by rw [Q2,XU]; omega))) ?_
   simp only [Z1]
   have hv:(ByteArray.mk #[115,104,101,108,108,97,99]).size = 7:=rfl
   have hn:Zig (ByteArray.mk #[115,104,101,108,108,97,99]) = Zn9:=rfl
   refine Eq.trans (congrArg (fun x => Option.bind x _) (Zd7 hk (bs ++ Zav 1 4 a ++ YQ (leN 7 4)) (ByteArray.mk #[115,104,101,108,108,97,99]) (by rw [hv]; omega) (by simp only [Q2,XU,Ww,Y4,hv]; omega))) ?_
   rw [hn]
   simp only [Z1]
   refine Eq.trans (congrArg (fun x => Option.bind x _) (ZiS hk (bs ++ Zav 1 4 a ++ YQ (leN 7 4) ++ YQ Zn9) (N:=tags.length) (by omega) (by simp only [Q2,XU,Ww,Y4,Zn9,List.length_cons,List.length_nil]; omega))) ?_
   simp only [Z1]
   refine Eq.trans (ZRP hk hT (bs ++ Zav 1 4 a ++ YQ (leN 7 4) ++ YQ Zn9 ++ YQ (leN tags.length 4)) (by simp only [Q2,XU,Ww,Y4,Zn9,List.length_cons,List.length_nil]; omega)) ?_
   simp [ZG1,List.append_assoc])
  (fun L i hi a hI hL => by
   have ht:=hT.2 _ (List.getElem_mem hi)
   simp only [Zbh]
   rw [Zc (ltR hi),Zc (Kh hi),ZM hi,Qr hi (by omega)]
   have e:IntKind.i64.wrap ((a:Int) + IntKind.i64.wrap ((4:Int) + Int.ofNat tags[i].size)) = ((a + (4 + tags[i].size):Nat):Int):=by
    simp only [Qv]
    rw [Qa (n:=(4:Int) + (tags[i].size:Int)) (by omega),Qa (by omega)]; omega
   rw [e]
   refine Eq.trans (hL _ (by omega)) ?_
   simp only [ZG1,List.map_cons,List.sum_cons,Nat.add_assoc])
  k 0 15 (by omega) (by omega) (by omega)
 rw [List.drop_zero] at key
 exact key
theorem ZRO (hk:1000 ≤ k) (hT:Tg tags) {size n:Nat} (hs:16 ≤ size ∧ size ≤ 512) (hn:(ch.getD 0 []).length = n) (hn4:n ≤ 4096) {lens:List Nat} (hl:lens.length ≤ 300) (hB:∀ x ∈ lens,x < 65536) (hi:∀ i,i < lens.length → i * size ≤ n) (bs:List Bool) (hb:bs.length < 100000000) :
  Zfs k (Int.ofNat lens.length,(0:Int),Zu lens,(size:Int),(0:Int),(bs.length:Int),ZJ bs,c,d,r,tags,ch) = some (ZJ (bs ++ Zt2 size n 0 0 lens ++ KU tags),()):=by
 have key:=Zz (A:=List Bool × Nat) (step:=fun L1 => Zbg k (YW k) L1) (fun i a => (Int.ofNat lens.length,Int.ofNat i,Zu lens,(size:Int),(a.2:Int),(a.1.length:Int),ZJ a.1,c,d,r,tags,ch)) lens
  (fun rest a => some (ZJ (a.1 ++ Zt2 size n (lens.length - rest.length) a.2 rest ++ KU tags),())) (fun i a => a.1.length ≤ bs.length + 144 * i ∧ a.2 ≤ 65536 * i)
  (fun L a hI => by
   simp only [Zbg]
   rw [Zk (Q3 _)]
   refine Eq.trans (ZFL (by omega) hT a.1 (by omega)) ?_
   simp [Zt2])
  (fun L i hlt a hI hL => by
   obtain ⟨B,at_⟩:=a
   simp only at hI hL ⊢
   have hx:=hB _ (List.getElem_mem hlt)
   have hin:=hi i hlt
   have him:i * size < 4294967296:=by omega
   simp only [Zbg]
   rw [ZP,Zc (ltR hlt),Zc (Kh hlt)]
   refine Eq.trans (Xe (k:=k) (bs:=B) (n:=0) (w:=32) (by omega) (by omega) (by omega) (by omega) _) ?_
   have e1:IntKind.i64.wrap (Int.ofNat i * (size:Int)) = ((i * size:Nat):Int):=by
    rw [show Int.ofNat i * (size:Int) = ((i * size:Nat):Int) by simp,Zyz (by omega)]
   rw [e1]
   refine Eq.trans (Xe (k:=k) (bs:=B ++ Zb 0 32) (w:=32) (by omega) (by omega) him (by simp only [Q2,Zj]; omega) _) ?_
   refine Eq.trans (Xe (k:=k) (bs:=B ++ Zb 0 32 ++ Zb (i * size) 32) (n:=0) (w:=32) (by omega) (by omega) (by omega) (by simp only [Q2,Zj]; omega) _) ?_
   refine Eq.trans (Xe (k:=k) (bs:=B ++ Zb 0 32 ++ Zb (i * size) 32 ++ Zb 0 32) (n:=at_) (w:=32) (by omega) (by omega) (by omega) (by simp only [Q2,Zj]; omega) _) ?_
   rw [Yu,hn]
   simp only [Z1]
   have e2:(if IntKind.i64.wrap (Int.ofNat n - ((i * size:Nat):Int)) < (size:Int) then IntKind.i64.wrap (Int.ofNat n - ((i * size:Nat):Int)) else (size:Int)) = ((min size (n - i * size):Nat):Int):=by
    simp only [Qv]
    generalize i * size = q at *
    rw [Qa (by omega)]
    split <;> omega
   rw [e2]
   refine Eq.trans (Xe (k:=k) (bs:=B ++ Zb 0 32 ++ Zb (i * size) 32 ++ Zb 0 32 ++ Zb at_ 32) (w:=16) (by omega) (by omega) (by omega) (by simp only [Q2,Zj]; omega) _) ?_
   have e3:(Zu lens).getD (Int.ofNat i).toNat 0 = ((lens[i]:Nat):Int):=by
    rw [show (Int.ofNat i).toNat = i from rfl,QB,Xc hlt]
   have e4:IntKind.i64.wrap ((at_:Int) + ((lens[i]:Nat):Int)) = ((at_ + lens[i]:Nat):Int):=by rw [Qa (by omega)]; omega
   rw [e3,e4,Qr hlt (by omega)]
   refine Eq.trans (hL (B ++ Zgb size n i at_,at_ + lens[i]) ⟨by rw [Q2,Zs7]; omega,by simp only; omega⟩ |> fun h => by
    simp only [Zgb,← List.append_assoc] at h ⊢
    exact h) ?_
   have e5:lens.length - (lens[i] :: lens.drop (i + 1)).length = i:=by rw [List.length_cons,List.length_drop]; omega
   have e6:lens.length - (lens.drop (i + 1)).length = i + 1:=by rw [List.length_drop]; omega
   simp only [e5,e6,Zt2,Zgb,List.append_assoc])
  k 0 (bs,0) ⟨by simp,by simp⟩ (by omega) (by omega)
 rw [List.drop_zero] at key
 simp only [Nat.sub_self] at key
 exact key
end prog
end Go.Sh
namespace Go.Sh
open Go Go.Proofs
theorem ZBX (size n:Nat):∀ (l:List Nat) (i a:Nat),(Zt2 size n i a l).length = 144 * l.length
 | [],_,_ => rfl
 | x :: l,i,a => by simp only [Zt2,Q2,Zs7,ZBX size n l,List.length_cons]; omega
theorem Good0.tg {tags:List ByteArray} (h:tags.all Zny = true) (h8:tags.length ≤ 8):Tg tags :=
 ⟨h8,fun t ht => by
  have:=List.all_eq_true.1 h t ht
  unfold Zny at this
  simp only [Bool.and_eq_true] at this
  exact Nat.le_of_ble_eq_true this.2.1⟩
structure Lens (size n:Nat) (lens:List Nat):Prop where
 sz:16 ≤ size ∧ size ≤ 512
 len:lens.length ≤ 300
 small:∀ x ∈ lens,x < 65536
 in_:∀ i,i < lens.length → i * size ≤ n
theorem ZTL {k:Nat} (hk:1000 ≤ k) {size small great r c1 d1:Nat} (hs:size < 65536) (h1:small < 16777216) (h2:great < 16777216) (h3:r < 1048576) (h4:c1 < 8) (h5:d1 < 32) (B:List Bool) (hB:B.length ≤ 1000) {α:Type} (K:Int × (List Int × Int × Unit) × Unit → Option α) :
  ((ZQ k (KG B,(size:Int),16,())).bind fun y => (ZQ k ((y.2.1.1,y.2.1.2.1,()),(size:Int),16,())).bind fun y => (ZQ k ((y.2.1.1,y.2.1.2.1,()),(small:Int),24,())).bind fun y => (ZQ k ((y.2.1.1,y.2.1.2.1,()),(great:Int),24,())).bind fun y => (ZQ k ((y.2.1.1,y.2.1.2.1,()),(r:Int),20,())).bind fun y => (ZQ k ((y.2.1.1,y.2.1.2.1,()),(c1:Int),3,())).bind fun y => (ZQ k ((y.2.1.1,y.2.1.2.1,()),(d1:Int),5,())).bind fun y => (ZQ k ((y.2.1.1,y.2.1.2.1,()),0,4,())).bind K) =
   K (0,KG (B ++ Zb size 16 ++ Zb size 16 ++ Zb small 24 ++ Zb great 24 ++ Zb r 20 ++ Zb c1 3 ++ Zb d1 5 ++ Zb 0 4),()):=by
 refine Eq.trans (Xe (k:=k) (bs:=B) (w:=16) (by omega) (by omega) hs (by omega) _) ?_
 refine Eq.trans (Xe (k:=k) (bs:=B ++ Zb size 16) (w:=16) (by omega) (by omega) hs (by simp only [Q2,Zj]; omega) _) ?_
 refine Eq.trans (Xe (k:=k) (bs:=B ++ Zb size 16 ++ Zb size 16) (w:=24) (by omega) (by omega) h1 (by simp only [Q2,Zj]; omega) _) ?_
 refine Eq.trans (Xe (k:=k) (bs:=B ++ Zb size 16 ++ Zb size 16 ++ Zb small 24) (w:=24) (by omega) (by omega) h2 (by simp only [Q2,Zj]; omega) _) ?_
 refine Eq.trans (Xe (k:=k) (bs:=B ++ Zb size 16 ++ Zb size 16 ++ Zb small 24 ++ Zb great 24) (w:=20) (by omega) (by omega) h3 (by simp only [Q2,Zj]; omega) _) ?_
 refine Eq.trans (Xe (k:=k) (bs:=B ++ Zb size 16 ++ Zb size 16 ++ Zb small 24 ++ Zb great 24 ++ Zb r 20) (w:=3) (by omega) (by omega) h4 (by simp only [Q2,Zj]; omega) _) ?_
 refine Eq.trans (Xe (k:=k) (bs:=B ++ Zb size 16 ++ Zb size 16 ++ Zb small 24 ++ Zb great 24 ++ Zb r 20 ++ Zb c1 3) (w:=5) (by omega) (by omega) h5 (by simp only [Q2,Zj]; omega) _) ?_
 exact Xe (k:=k) (bs:=B ++ Zb size 16 ++ Zb size 16 ++ Zb small 24 ++ Zb great 24 ++ Zb r 20 ++ Zb c1 3 ++ Zb d1 5) (n:=0) (w:=4) (by omega) (by omega) (by omega) (by simp only [Q2,Zj]; omega) K
theorem ZDP {k:Nat} (hk:16777216 ≤ k) {d r:Nat} {tags:List ByteArray} {ch:List (List Int)} (h0:chk (ch.length:Int) (d:Int) (r:Int) tags ch = 0) (hS:Small tags ch) {size:Nat} {lens:List Nat} (hL:Lens size (ch.getD 0 []).length lens) :
  ZhH k ((((ch.length:Int),(d:Int),(r:Int),()),tags,ch,()),(size:Int),Zu lens,()) = some (ZJ (ZeT d r tags ch size lens),()):=by
 obtain ⟨hg,hshape,-,htv,ht8⟩:=ZaY h0
 have hT:=Good0.tg htv ht8
 have hsh:=of_decide_eq_true hshape
 have hs:=hL.sz
 have hn4:=hg.n4
 generalize hn:(ch.getD 0 []).length = n at *
 have hmin:ZsS lens < 65536:=ZSM (by omega) hL.small
 have hmax:ZsQ lens < 65536:=ZSH (by omega) hL.small
 show Zd3 k _ _ _ = _
 simp only [Zd3]
 refine Eq.trans (congrArg (fun x => Option.bind x _) (ZAF k)) ?_
 simp only [Z1]
 have hmg:Zig (ByteArray.mk #[102,76,97,67]) = Zf3:=rfl
 refine Eq.trans (congrArg (fun x => Option.bind x _) (Zd7 (by omega) [] (ByteArray.mk #[102,76,97,67]) (by rw [show (ByteArray.mk #[102,76,97,67]).size = 4 from rfl]; omega) (by rw [show (ByteArray.mk #[102,76,97,67]).size = 4 from rfl]; simp))) ?_
 rw [hmg,List.nil_append]
 simp only [Z1]
 refine Eq.trans (congrArg (fun x => Option.bind x _) (ZiR (by omega) (YQ Zf3) (a:=0) (b:=0) (n:=34) (by omega) (by omega) (by omega) (by rw [Ww]; simp [Zf3]))) ?_
 simp only [Z1]
 rw [show (Zb 0 1 ++ Zb 0 7 ++ Zb 34 24) = Zav 0 0 34 from rfl]
 have hA:(YQ Zf3 ++ Zav 0 0 34).length = 64:=by rw [Q2,Ww,XU]; rfl
 generalize hAe:YQ Zf3 ++ Zav 0 0 34 = A at hA
 have e1:IntKind.i64.wrap ((ch.length:Int) - 1) = ((ch.length - 1:Nat):Int):=by rw [Qa (by omega)]; omega
 have e2:IntKind.i64.wrap ((d:Int) - 1) = ((d - 1:Nat):Int):=by rw [Qa (by omega)]; omega
 have e3:IntKind.i64.wrap ((18:Int) * Int.ofNat (Zu lens).length) = ((18 * lens.length:Nat):Int):=by
  have:=hL.len
  rw [ZP,Qa (by simp only [Qv]; omega)]; simp
 rw [ZP] at e3
 have nl:=hL.len
 have tail:∀ (C:List Bool),C.length ≤ 1000 →
   ((ZQ k (KG C,(n:Int),32,())).bind fun y => (ZdO k ((((ch.length:Int),(d:Int),(r:Int),()),tags,ch,()),())).bind fun y_4 => (KN k ((y.2.1.1,y.2.1.2.1,()),y_4.1.1,())).bind fun y => bif decide ((1:Int) < Int.ofNat lens.length) then (ZaC k ((y.2.1.1,y.2.1.2.1,()),0,3,IntKind.i64.wrap ((18:Int) * Int.ofNat lens.length),())).bind fun y => Zfs k (Int.ofNat lens.length,(0:Int),Zu lens,(size:Int),(0:Int),y.2.1.2.1,y.2.1.1,(ch.length:Int),(d:Int),(r:Int),tags,ch) else YW k (Int.ofNat tags.length,(0:Int),tags,(15:Int),y.2.1.2.1,y.2.1.1,(ch.length:Int),(d:Int),(r:Int),tags,ch)) =
    some (ZJ (C ++ Zb n 32 ++ YQ (Ztv d ch) ++ Zgl size n lens ++ KU tags),()):=by
  intro C hC
  refine Eq.trans (Xe (k:=k) (bs:=C) (w:=32) (by omega) (by omega) (by omega) (by omega) _) ?_
  rw [ZDs hk hS,if_pos h0]
  simp only [Z1]
  have hst:(Zig (ZBQ (ZEI (Zim (nbD d) ch (ch.getD 0 []).length)))) = Ztv d ch:=ZEJ (ZWo _)
  have hsz:(ZBQ (ZEI (Zim (nbD d) ch (ch.getD 0 []).length))).size = 16:=by rw [← Znc,hst,Zdr]
  refine Eq.trans (congrArg (fun x => Option.bind x _) (Zd7 (by omega) (C ++ Zb n 32) (ZBQ (ZEI (Zim (nbD d) ch (ch.getD 0 []).length))) (by omega) (by simp only [Q2,Zj]; omega))) ?_
  simp only [Z1]
  rw [hst,e3]
  by_cases h1:1 < lens.length
  ·rw [Zc (by simp only [Qv]; omega)]
   refine Eq.trans (congrArg (fun x => Option.bind x _) (ZiR (by omega) (C ++ Zb n 32 ++ YQ (Ztv d ch)) (a:=0) (b:=3) (n:=18 * lens.length) (by omega) (by omega) (by omega) (by simp only [Q2,Zj,Ww,Zdr]; omega))) ?_
   simp only [Z1]
   refine Eq.trans (ZRO (by omega) hT hs hn hn4 nl hL.small hL.in_ (C ++ Zb n 32 ++ YQ (Ztv d ch) ++ (Zb 0 1 ++ Zb 3 7 ++ Zb (18 * lens.length) 24)) (by simp only [Q2,Zj,Ww,Zdr]; omega)) ?_
   simp only [Zgl,if_pos h1,Zav,List.append_assoc]
  ·rw [Zk (by simp only [Qv]; omega)]
   refine Eq.trans (ZFL (by omega) hT (C ++ Zb n 32 ++ YQ (Ztv d ch)) (by simp only [Q2,Zj,Ww,Zdr]; omega)) ?_
   simp only [Zgl,if_neg h1,List.append_nil]
 have fin:A ++ Zb size 16 ++ Zb size 16 ++ Zb (ZsS lens) 24 ++ Zb (ZsQ lens) 24 ++ Zb r 20 ++ Zb (ch.length - 1) 3 ++ Zb (d - 1) 5 ++ Zb 0 4 ++ Zb n 32 ++ YQ (Ztv d ch) ++ Zgl size n lens ++ KU tags = ZeT d r tags ch size lens:=by
  unfold ZeT ZnX
  rw [hn,hAe]
 have hC:(A ++ Zb size 16 ++ Zb size 16 ++ Zb (ZsS lens) 24 ++ Zb (ZsQ lens) 24 ++ Zb r 20 ++ Zb (ch.length - 1) 3 ++ Zb (d - 1) 5 ++ Zb 0 4).length ≤ 1000:=by
  simp only [Q2,Zj,hA]; omega
 rw [ZP,e1,e2]
 by_cases hl0:0 < lens.length
 ·have hne:lens ≠ []:=by intro h; rw [h] at hl0; simp at hl0
  rw [Zc (by simp only [Qv]; omega),ZD2 hne (by omega) (by omega)]
  simp only [Z1]
  rw [ZD4 hne (by omega) (by omega)]
  simp only [Z1]
  refine Eq.trans (ZTL (by omega) (by omega) (by omega) (by omega) (by omega) (by omega) (by omega) A (by omega) _) ?_
  rw [Yu,hn]
  simp only [Z1]
  refine Eq.trans (tail _ hC) ?_
  rw [fin]
 ·have hne:lens = []:=List.length_eq_zero_iff.1 (by omega)
  rw [Zk (by simp only [Qv]; omega)]
  have hm0:ZsS lens = 0:=by rw [hne]; rfl
  have hx0:ZsQ lens = 0:=by rw [hne]; rfl
  rw [hm0,hx0] at fin hC
  refine Eq.trans (ZTL (small:=0) (great:=0) (by omega) (by omega) (by omega) (by omega) (by omega) (by omega) (by omega) A (by omega) _) ?_
  rw [Yu,hn]
  simp only [Z1]
  refine Eq.trans (tail _ hC) ?_
  rw [fin]
end Go.Sh
namespace Go.Sh
open Go Go.Proofs
def Qm (b:List Int):List Bool:=b.flatMap fun x => Zb x.toNat 8
theorem Qx:∀ b:List Int,(Qm b).length = 8 * b.length
 | [] => rfl
 | a :: b => by
  have:=Qx b
  unfold Qm at this ⊢
  rw [List.flatMap_cons,Q2,Zj,this,List.length_cons]; omega
theorem ZpP (a:Int) (b:List Int):Qm (a :: b) = Zb a.toNat 8 ++ Qm b:=by unfold Qm; rw [List.flatMap_cons]
theorem Zwu (a b:List Int):Qm (a ++ b) = Qm a ++ Qm b:=by unfold Qm; rw [List.flatMap_append]
theorem ZpQ:∀ (b:List Int) (i:Nat),(Qm b).drop (8 * i) = Qm (b.drop i)
 | b,0 => rfl
 | [],i + 1 => by simp [Qm]
 | a :: b,i + 1 => by
  rw [List.drop_succ_cons,ZpP,List.drop_append,Zj,List.drop_eq_nil_of_le (by rw [Zj]; omega),List.nil_append,show 8 * (i + 1) - 8 = 8 * i by omega]
  exact ZpQ b i
theorem ZpS (n:Nat):∀ (w i:Nat) (h:i < (Zb n w).length),(Zb n w)[i] = n.testBit (w - 1 - i)
 | w + 1,0,_ => by simp [Zb]
 | w + 1,i + 1,h => by
  simp only [Zb,List.getElem_cons_succ]
  rw [ZpS n w i (by simpa [Zb] using h)]
  congr 1
  omega
theorem Zmf {b:List Int} {i:Nat} (h:i < 8 * b.length):(Qm b)[i]'(by rw [Qx]; exact h) = (b[i / 8]'(by omega)).toNat.testBit (7 - i % 8):=by
 have h1:i / 8 < b.length:=by omega
 have h2:(Qm b)[i]'(by rw [Qx]; exact h) = (Qm (b.drop (i / 8)))[i % 8]'(by rw [Qx,List.length_drop]; omega):=by
  simp only [← ZpQ,List.getElem_drop]
  congr 1
  omega
 rw [h2]
 have h3:b.drop (i / 8) = b[i / 8] :: b.drop (i / 8 + 1):=List.drop_eq_getElem_cons h1
 simp only [h3,ZpP]
 rw [List.getElem_append_left (by rw [Zj]; omega),ZpS]
def ZX (b:List Int) (r:List Bool):Nat:=8 * b.length - r.length
abbrev KR (b:List Int) (r:List Bool):List Int × Int × Unit:=(b,((ZX b r:Nat):Int),())
def Zo (b:List Int) (r:List Bool):Prop:=r <:+ Qm b
theorem Zo.len {b:List Int} {r:List Bool} (h:Zo b r):r.length ≤ 8 * b.length:=by
 have:=h.length_le
 rwa [Qx] at this
theorem Zo.eq {b:List Int} {r:List Bool} (h:Zo b r):r = (Qm b).drop (ZX b r):=by
 have:=List.suffix_iff_eq_drop.1 h
 unfold ZX
 rwa [Qx] at this
theorem Zo.drop {b:List Int} {r:List Bool} (h:Zo b r) (i:Nat):Zo b (r.drop i):=(List.drop_suffix i r).trans h
theorem Zo.get {b:List Int} {r:List Bool} (h:Zo b r) {i:Nat} (hi:i < r.length):(Qm b)[ZX b r + i]'(by have:=h.len; rw [Qx]; unfold ZX; omega) = r[i]:=by
 have:=h.eq
 have h2:r[i] = ((Qm b).drop (ZX b r))[i]'(by rw [← this]; exact hi):=by congr 1
 rw [h2,List.getElem_drop]
theorem ZhU {b:List Int} {r:List Bool} (h:Zo b r) {i:Nat} (hi:i ≤ r.length):ZX b (r.drop i) = ZX b r + i:=by
 have:=h.len
 unfold ZX
 rw [List.length_drop]
 omega
theorem ZBG (b:List Int):Zo b (Qm b):=List.suffix_refl _
theorem ZWW (v:Fin 256) (r:Fin 8):IntKind.i64.wrap (Int.ofNat (BitVec.ofInt 64 (IntKind.i64.wrap (Int.fdiv (v.val:Int) ((2:Int) ^ min (7 - r.val) 8))) &&& BitVec.ofInt 64 1).toNat) = if v.val.testBit (7 - r.val) then 1 else 0:=by
 revert v r
 decide +kernel
theorem Zsy (k:Nat) {b:List Int} (hb:ZS b = true) (hn:b.length < 536870912) (at_:Int) {i:Nat} (hi:i < 8 * b.length) :
  Zsx k ((b,at_,()),(i:Int),()) = some (if (Qm b)[i]'(by rw [Qx]; exact hi) then 1 else 0,(b,at_,()),()):=by
 show Zly k _ = _
 simp only [Zly]
 rw [Zwe,ZTR,Qa (n:=((i / 8:Nat):Int)) (by omega)]
 have h1:i / 8 < b.length:=by omega
 rw [Zc (by simp only [Qv]; omega)]
 have e1:IntKind.i64.wrap ((7:Int) - ((i % 8:Nat):Int)) = ((7 - i % 8:Nat):Int):=by rw [Qa (by omega)]; omega
 rw [e1,Zc (by omega),Zmf hi]
 obtain ⟨x,hx,hxe⟩:=ZaW hb h1
 have hg:b.getD (((i / 8:Nat):Int)).toNat 0 = (x:Int):=by rw [Xm,Xc h1,hxe]
 rw [hg,hxe,Xm,Xm]
 have:=ZWW ⟨x,hx⟩ ⟨i % 8,Nat.mod_lt _ (by omega)⟩
 simp only at this
 rw [this]
def Xy (l:List Bool):Nat:=l.foldl (fun a b => 2 * a + b.toNat) 0
theorem ZbD:∀ (l:List Bool) (a:Nat),l.foldl (fun a b => 2 * a + b.toNat) a = a * 2 ^ l.length + Xy l
 | [],a => by simp [Xy]
 | x :: l,a => by
  unfold Xy
  rw [List.foldl_cons,List.foldl_cons,ZbD l (2 * a + x.toNat),ZbD l (2 * 0 + x.toNat),List.length_cons,Nat.pow_succ]
  rw [Nat.add_mul,Nat.mul_zero,Nat.zero_add,Nat.mul_comm 2 a,Nat.mul_assoc a 2,Nat.mul_comm 2 (2 ^ _)]
  omega
theorem Zme:∀ (l:List Bool),Xy l < 2 ^ l.length
 | [] => by simp [Xy]
 | x :: l => by
  have:=Zme l
  unfold Xy
  rw [List.foldl_cons,ZbD,List.length_cons,Nat.pow_succ]
  cases x <;> simp <;> omega
theorem ZtL (l m:List Bool):Xy (l ++ m) = Xy l * 2 ^ m.length + Xy m:=by
 unfold Xy
 rw [List.foldl_append,ZbD]
 rfl
theorem Zcb (n:Nat):∀ w,Xy (Zb n w) = n % 2 ^ w
 | 0 => by simp [Zb,Xy,Nat.mod_one]
 | w + 1 => by
  have:=Zcb n w
  rw [show Zb n (w + 1) = [n.testBit w] ++ Zb n w from rfl,ZtL,Zj,this,Nat.mod_pow_succ,Nat.testBit_eq_decide_div_mod_eq]
  have h2:n / 2 ^ w % 2 < 2:=Nat.mod_lt _ (by omega)
  generalize n / 2 ^ w % 2 = m at h2
  match m,h2 with
  | 0,_ => simp [Xy]
  | 1,_ => simp [Xy]; omega
def ZV (w:Nat) (r:List Bool):Nat × Int × List Bool:=if w ≤ r.length then (Xy (r.take w),0,r.drop w) else (0,10,r)
theorem Qh {b:List Int} {r:List Bool} (h:Zo b r) (w:Nat):Zo b (ZV w r).2.2:=by
 unfold ZV
 split
 ·exact h.drop w
 ·exact h
theorem ZhR (w:Nat) (r:List Bool):(ZV w r).1 < 2 ^ w:=by
 unfold ZV
 split
 ·rename_i h
  have:=Zme (r.take w)
  rwa [List.length_take,Nat.min_eq_left h] at this
 ·exact Nat.pow_pos (by omega)
theorem ZHZ (k:Nat) {b:List Int} (hb:ZS b = true) (hn:b.length < 536870912):∀ (w m i v:Nat) (r:List Bool),Zo b r → w ≤ r.length → w < m → i + w ≤ 32 → v < 2 ^ i →
  Zm (fun L1 => Zcz k L1) m (((i + w:Nat):Int),(i:Int),(v:Int),b,((ZX b r:Nat):Int)) = some (((((r.take w).foldl (fun a b => 2 * a + b.toNat) v:Nat):Int),0,()),KR b (r.drop w),()):=by
 intro w
 induction w with
 | zero =>
  intro m i v r hr hw hm hi hv
  obtain ⟨m,rfl⟩:=ZD hm
  rw [Ze]
  simp only [Zcz]
  rw [Zk (by omega)]
  simp
 | succ w ih =>
  intro m i v r hr hw hm hi hv
  obtain ⟨m,rfl⟩:=ZD (show 0 < m by omega)
  rw [Ze]
  simp only [Zcz]
  have hl:=hr.len
  have hp:ZX b r < 8 * b.length:=by unfold ZX; omega
  rw [Zc (by omega),Zsy k hb hn _ hp]
  simp only [Z1]
  have hg:=hr.get (i:=0) (by omega)
  simp only [Nat.add_zero] at hg
  rw [hg]
  have hv2:v < 2 ^ 32:=Nat.lt_of_lt_of_le hv (Nat.pow_le_pow_right (by omega) (by omega))
  have hcons:r = r[0] :: r.drop 1:=by
   have:=List.drop_eq_getElem_cons (l:=r) (i:=0) (by omega)
   rwa [List.drop_zero] at this
  have e1:IntKind.i64.wrap (Int.ofNat (BitVec.ofInt 64 (IntKind.i64.wrap ((v:Int) * 2)) ||| BitVec.ofInt 64 (if r[0] = true then 1 else 0)).toNat) = ((2 * v + r[0].toNat:Nat):Int):=by
   have h1:IntKind.i64.wrap ((v:Int) * 2) = ((v * 2:Nat):Int):=by rw [Qa (by omega)]; omega
   have h2:(if r[0] = true then (1:Int) else 0) = ((r[0].toNat:Nat):Int):=by cases r[0] <;> rfl
   have hb1:r[0].toNat < 2 ^ 1:=by cases r[0] <;> decide
   rw [h1,h2,orN (by omega) (by omega)]
   have:=Nat.shiftLeft_add_eq_or_of_lt hb1 v
   rw [Nat.shiftLeft_eq] at this
   rw [show v * 2 = v * 2 ^ 1 from rfl,← this,Qa (by omega)]
   omega
  rw [e1]
  have e2:IntKind.i64.wrap ((i:Int) + 1) = ((i + 1:Nat):Int):=by rw [Qa (by omega)]; rfl
  have e3:IntKind.i64.wrap (((ZX b r:Nat):Int) + 1) = ((ZX b (r.drop 1):Nat):Int):=by
   rw [ZhU hr (by omega),Qa (by omega)]; rfl
  rw [e2,e3]
  have hp2:2 * v + r[0].toNat < 2 ^ (i + 1):=by
   rw [Nat.pow_succ]
   cases r[0] <;> simp <;> omega
  have:=ih m (i + 1) (2 * v + r[0].toNat) (r.drop 1) (hr.drop 1) (by rw [List.length_drop]; omega) (by omega) (by omega) hp2
  rw [show i + 1 + w = i + (w + 1) by omega] at this
  rw [this]
  have e4:(r.drop 1).drop w = r.drop (w + 1):=by rw [List.drop_drop]; congr 1; omega
  have e5:r.take (w + 1) = r[0] :: (r.drop 1).take w:=by
   conv => lhs; rw [hcons]
   rfl
  rw [e4,e5,List.foldl_cons]
theorem YJ (k:Nat) {b:List Int} (hb:ZS b = true) (hn:b.length < 536870912) {r:List Bool} (hr:Zo b r) {w:Nat} (hw:w ≤ 32) (hk:100 < k) :
  XZ k (KR b r,(w:Int),()) = some (((((ZV w r).1:Nat):Int),(ZV w r).2.1,()),KR b (ZV w r).2.2,()):=by
 show ZgS k (ZoF k) _ = _
 simp only [ZgS]
 rw [Zsr k w hw]
 simp only [Z1,cond_false]
 have hl:=hr.len
 have e1:ZqL k ((b,((ZX b r:Nat):Int),()),()) = some ((r.length:Int),(b,((ZX b r:Nat):Int),()),()):=by
  show Zhj k _ = _
  simp only [Zhj]
  have:IntKind.i64.wrap (IntKind.i64.wrap ((8:Int) * Int.ofNat b.length) - ((ZX b r:Nat):Int)) = (r.length:Int):=by
   unfold ZX
   simp only [Qv]
   rw [Qa (n:=(8:Int) * (b.length:Int)) (by omega),Qa (by omega)]
   omega
  rw [this]
 rw [e1]
 simp only [Z1]
 unfold ZV
 by_cases h:w ≤ r.length
 ·rw [Zk (by omega),if_pos h]
  have:=ZHZ k hb hn w k 0 0 r hr h (by omega) (by omega) (by simp)
  rw [Nat.zero_add] at this
  exact this
 ·rw [Zc (by omega),if_neg h]
  rfl
def ZS3 (w v:Nat):Int:=if 0 < w ∧ 2 ^ (w - 1) ≤ v then (v:Int) - 2 ^ w else v
def WR (w:Nat) (r:List Bool):Int × Int × List Bool:=if w ≤ r.length then (ZS3 w (Xy (r.take w)),0,r.drop w) else (0,10,r)
theorem Zei {b:List Int} {r:List Bool} (h:Zo b r) (w:Nat):Zo b (WR w r).2.2:=by
 unfold WR
 split
 ·exact h.drop w
 ·exact h
theorem ZuM (k:Nat) {b:List Int} (hb:ZS b = true) (hn:b.length < 536870912) {r:List Bool} (hr:Zo b r) {w:Nat} (hw:w ≤ 32) (hk:100 < k) :
  ZmQ k (KR b r,(w:Int),()) = some (((WR w r).1,(WR w r).2.1,()),KR b (WR w r).2.2,()):=by
 show Zhk k _ = _
 simp only [Zhk]
 rw [YJ k hb hn hr hw hk]
 simp only [Z1]
 unfold ZV WR
 by_cases h:w ≤ r.length
 ·rw [if_pos h,if_pos h]
  simp only
  rw [show ((0:Int) == 0) = true from rfl]
  simp only [cond_true]
  have hlt:=Zme (r.take w)
  rw [List.length_take,Nat.min_eq_left h] at hlt
  generalize Xy (r.take w) = v at hlt
  unfold ZS3
  by_cases h0:0 < w
  ·have e1:IntKind.i64.wrap ((w:Int) - 1) = ((w - 1:Nat):Int):=by rw [Qa (by omega)]; omega
   rw [Zc (by omega),e1,Zc (by omega),Xm,Nat.min_eq_left (by omega),ZfQ,ZK]
   have hpw:2 ^ w = 2 * 2 ^ (w - 1):=by rw [show w = (w - 1) + 1 by omega,Nat.pow_succ,Nat.add_sub_cancel]; omega
   have hq:v / 2 ^ (w - 1) = if 2 ^ (w - 1) ≤ v then 1 else 0:=by
    split
    ·rename_i hle
     rw [Nat.div_eq_iff (Nat.pow_pos (by omega))]
     omega
    ·rename_i hle
     exact Nat.div_eq_of_lt (by omega)
   rw [hq]
   have h32:2 ^ w ≤ 2 ^ 32:=Nat.pow_le_pow_right (by omega) hw
   by_cases hle:2 ^ (w - 1) ≤ v
   ·rw [if_pos hle,Zc (show ((1:Nat):Int) = 1 from rfl),if_pos ⟨h0,hle⟩,Zc (by omega),Nat.min_eq_left (by omega:((w:Int)).toNat ≤ 64),Xm,Int.one_mul,WF]
    generalize 2 ^ w = Q at h32 hlt ⊢
    rw [Qa (n:=(Q:Int)) (by omega),Qa (by omega)]
   ·rw [if_neg hle,Zk (by omega),if_neg (by omega)]
  ·rw [Zk (by omega),if_neg (by omega)]
 ·rw [if_neg h,if_neg h]
  rfl
end Go.Sh
namespace Go.Sh
open Go Go.Proofs
def Zgn:Nat → List Bool → Option (Nat × List Bool)
 | _,[] => none
 | n,true :: r => some (n,r)
 | n,false :: r => Zgn (n + 1) r
def unS (r:List Bool):Nat × Int × List Bool:=match Zgn 0 r with
 | some (n,r') => (n,0,r')
 | none => (0,10,r)
theorem Zex:∀ (r:List Bool) (n m:Nat) (r':List Bool),Zgn n r = some (m,r') → r' <:+ r ∧ m + 1 + r'.length = n + r.length
 | true :: r,n,m,r',h => by
  simp only [Zgn,Option.some.injEq,Prod.mk.injEq] at h
  obtain ⟨rfl,rfl⟩:=h
  exact ⟨List.suffix_cons _ _,by simp; omega⟩
 | false :: r,n,m,r',h => by
  obtain ⟨h1,h2⟩:=Zex r (n + 1) m r' h
  exact ⟨h1.trans (List.suffix_cons _ _),by simp; omega⟩
theorem Zdv {b:List Int} {r:List Bool} (h:Zo b r):Zo b (unS r).2.2:=by
 unfold unS
 split
 ·rename_i n r' hu
  exact (Zex r 0 n r' hu).1.trans h
 ·exact h
theorem ZPp {r:List Bool}:(unS r).1 ≤ r.length:=by
 unfold unS
 split
 ·rename_i n r' hu
  have:=(Zex r 0 n r' hu).2
  simp only
  omega
 ·exact Nat.zero_le _
theorem ZH5 (k:Nat) {b:List Int} (hb:ZS b = true) (hn:b.length < 536870912) {r0:List Bool} (hr0:Zo b r0):∀ (r:List Bool) (m n:Nat),Zo b r → r.length < m → n + r.length = r0.length →
  Zm (fun L1 => ZcC k L1) m (((ZX b r:Nat):Int),b,((ZX b r0:Nat):Int)) = some (((match Zgn n r with | some (n,r') => (n:Int) | none => 0),(match Zgn n r with | some (n,r') => 0 | none => 10),()),KR b (match Zgn n r with | some (n,r') => r' | none => r0),()):=by
 intro r
 induction r with
 | nil =>
  intro m n hr hm hl
  obtain ⟨m,rfl⟩:=ZD hm
  rw [Ze]
  simp only [ZcC]
  have e1:IntKind.i64.wrap ((8:Int) * Int.ofNat b.length) = ((8 * b.length:Nat):Int):=by simp only [Qv]; rw [Qa (by omega)]; omega
  rw [e1,Zk (by unfold ZX; simp)]
  rfl
 | cons x r ih =>
  intro m n hr hm hl
  obtain ⟨m,rfl⟩:=ZD (show 0 < m by omega)
  rw [Ze]
  simp only [ZcC]
  have e1:IntKind.i64.wrap ((8:Int) * Int.ofNat b.length) = ((8 * b.length:Nat):Int):=by simp only [Qv]; rw [Qa (by omega)]; omega
  have hlen:=hr.len
  have hlen0:=hr0.len
  simp only [List.length_cons] at hlen hl hm
  have hp:ZX b (x :: r) < 8 * b.length:=by unfold ZX; simp only [List.length_cons]; omega
  rw [e1,Zc (by omega),Zsy k hb hn _ hp]
  simp only [Z1]
  have hg:=hr.get (i:=0) (by simp)
  simp only [Nat.add_zero,List.getElem_cons_zero] at hg
  rw [hg]
  have e2:IntKind.i64.wrap (((ZX b (x :: r):Nat):Int) + 1) = ((ZX b r:Nat):Int):=by
   have:=ZhU hr (i:=1) (by simp)
   rw [List.drop_one,List.tail_cons] at this
   rw [this,Qa (by omega)]; rfl
  have hr':Zo b r:=by have:=hr.drop 1; rwa [List.drop_one,List.tail_cons] at this
  rw [e2,ZK]
  cases x with
  | true =>
   rw [if_pos rfl,Zc rfl]
   have e3:IntKind.i64.wrap (((ZX b (true :: r):Nat):Int) - ((ZX b r0:Nat):Int)) = (n:Int):=by
    unfold ZX at hp ⊢
    simp only [List.length_cons] at hp ⊢
    rw [Qa (by omega)]
    omega
   rw [e3]
   rfl
  | false =>
   rw [if_neg (by simp),Zk (by omega)]
   exact ih m (n + 1) hr' (by omega) (by omega)
theorem ZuA (k:Nat) {b:List Int} (hb:ZS b = true) (hn:b.length < 536870912) {r:List Bool} (hr:Zo b r) (hk:8 * b.length < k) :
  ZiK k (KR b r,()) = some (((((unS r).1:Nat):Int),(unS r).2.1,()),KR b (unS r).2.2,()):=by
 show ZgX k (ZoK k) _ = _
 simp only [ZgX]
 have hl:=hr.len
 refine (ZH5 k hb hn hr r k 0 hr (by omega) (by omega)).trans ?_
 unfold unS
 cases Zgn 0 r with
 | none => rfl
 | some x => rfl
def alS (r:List Bool):Int × List Bool:=if (r.take (r.length % 8)).all (fun x => !x) then (0,r.drop (r.length % 8)) else (2,r)
theorem ZKg {b:List Int} {r:List Bool} (h:Zo b r):Zo b (alS r).2:=by
 unfold alS
 split
 ·exact h.drop _
 ·exact h
theorem up8 {n:Nat} (h:n < 4294967296):IntKind.i64.wrap (Int.ofNat (BitVec.ofInt 64 (IntKind.i64.wrap ((n:Int) + 7)) &&& ~~~BitVec.ofInt 64 7).toNat) = (((n + 7) / 8 * 8:Nat):Int):=by
 rw [Qa (n:=(n:Int) + 7) (by omega),show (n:Int) + 7 = ((n + 7:Nat):Int) from rfl]
 have e:(BitVec.ofInt 64 ((n + 7:Nat):Int) &&& ~~~BitVec.ofInt 64 7).toNat = (n + 7) / 8 * 8:=by
  have h1:BitVec.ofInt 64 ((n + 7:Nat):Int) &&& ~~~BitVec.ofInt 64 7 = ((BitVec.ofNat 64 (n + 7)) >>> 3) <<< 3:=by
   rw [BitVec.ofInt_natCast,show ~~~BitVec.ofInt 64 7 = BitVec.ofNat 64 18446744073709551608 from by decide]
   apply BitVec.eq_of_getLsbD_eq
   intro i hi
   simp only [BitVec.getLsbD_and,BitVec.getLsbD_shiftLeft,BitVec.getLsbD_ushiftRight]
   have hm:=(by decide +kernel:∀ j:Fin 64,(BitVec.ofNat 64 18446744073709551608).getLsbD j.val = decide (3 ≤ j.val)) ⟨i,hi⟩
   simp only at hm
   rw [hm]
   by_cases h3:3 ≤ i
   ·rw [Xj h3,Bool.and_true,show 3 + (i - 3) = i by omega]
    simp [hi]
    omega
   ·rw [Wr h3,Bool.and_false]
    simp
    omega
  rw [h1,BitVec.toNat_shiftLeft,BitVec.toNat_ushiftRight,BitVec.toNat_ofNat,Nat.shiftRight_eq_div_pow,Nat.shiftLeft_eq,Nat.mod_eq_of_lt (by omega),Nat.mod_eq_of_lt (by omega)]
 rw [e,Qa (by simp only [Qv]; omega)]
 rfl
theorem ZNH (k:Nat) {b:List Int} (hb:ZS b = true) (hn:b.length < 536870912) {r0:List Bool}:∀ (p m:Nat) (r:List Bool),Zo b r → p ≤ r.length → p < m →
  Zm (fun L1 => ZfD k L1) m (((ZX b r:Nat):Int),((ZX b r + p:Nat):Int),b,((ZX b r0:Nat):Int)) = some (if (r.take p).all (fun x => !x) then (0,KR b (r.drop p),()) else (2,KR b r0,())):=by
 intro p
 induction p with
 | zero =>
  intro m r hr hp hm
  obtain ⟨m,rfl⟩:=ZD hm
  rw [Ze]
  simp only [ZfD]
  rw [Zk (by omega)]
  simp
 | succ p ih =>
  intro m r hr hp hm
  obtain ⟨m,rfl⟩:=ZD (show 0 < m by omega)
  rw [Ze]
  simp only [ZfD]
  have hlen:=hr.len
  have hpos:ZX b r < 8 * b.length:=by unfold ZX; omega
  rw [Zc (by omega),Zsy k hb hn _ hpos]
  simp only [Z1]
  have hg:=hr.get (i:=0) (by omega)
  simp only [Nat.add_zero] at hg
  rw [hg,ZK]
  have hcons:r = r[0] :: r.drop 1:=by
   have:=List.drop_eq_getElem_cons (l:=r) (i:=0) (by omega)
   rwa [List.drop_zero] at this
  have e5:r.take (p + 1) = r[0] :: (r.drop 1).take p:=by
   conv => lhs; rw [hcons]
   rfl
  rw [e5,List.all_cons]
  cases hx:r[0] with
  | true =>
   rw [if_pos rfl,Zc rfl]
   simp
  | false =>
   rw [if_neg (by simp),Zk (by omega)]
   have e3:IntKind.i64.wrap (((ZX b r:Nat):Int) + 1) = ((ZX b (r.drop 1):Nat):Int):=by
    rw [ZhU hr (by omega),Qa (by omega)]; rfl
   have e4:ZX b r + (p + 1) = ZX b (r.drop 1) + p:=by rw [ZhU hr (by omega)]; omega
   rw [e3,e4,ih m (r.drop 1) (hr.drop 1) (by rw [List.length_drop]; omega) (by omega)]
   have e6:(r.drop 1).drop p = r.drop (p + 1):=by rw [List.drop_drop]; congr 1; omega
   rw [e6]
   simp only [Bool.not_false,Bool.true_and]
theorem ZNI (k:Nat) {b:List Int} (hb:ZS b = true) (hn:b.length < 536870912) {r:List Bool} (hr:Zo b r) (hk:10 < k) :
  ZAR k (KR b r,()) = some ((alS r).1,KR b (alS r).2,()):=by
 show Zk6 k (ZxS k) _ = _
 simp only [Zk6]
 have hlen:=hr.len
 have hp:ZX b r ≤ 8 * b.length:=by unfold ZX; omega
 rw [up8 (by omega)]
 have e:(ZX b r + 7) / 8 * 8 = ZX b r + r.length % 8:=by unfold ZX; omega
 rw [e]
 refine (ZNH k hb hn (r.length % 8) k r hr (Nat.mod_le _ _) (by omega)).trans ?_
 unfold alS
 split <;> rfl
def Zl6 (f:Nat):Int:=if f % 2 = 1 then -((f:Int) + 1) / 2 else (f:Int) / 2
theorem ZII (k:Nat) {f:Nat} (h:f < 4294967296):ZqX k ((f:Int),()) = some ((Zl6 f,0,()),()):=by
 show Zhv k _ = _
 simp only [Zhv]
 rw [Zk (by omega),Zk (by omega),show (1:Int) = ((1:Nat):Int) from rfl,ZG7 (by omega) (by omega),Nat.and_one_is_mod,Qa (n:=((f % 2:Nat):Int)) (by omega)]
 have hd:((f:Nat):Int).fdiv 2 = ((f / 2:Nat):Int):=by rw [Int.fdiv_eq_ediv_of_nonneg _ (by omega)]; rfl
 rw [hd]
 unfold Zl6
 by_cases h1:f % 2 = 1
 ·rw [if_pos h1,h1,show IntKind.i64.wrap ((0:Int) - ((1:Nat):Int)) = -1 from rfl,show BitVec.ofInt 64 (-1) = BitVec.allOnes 64 from by decide,BitVec.xor_allOnes,BitVec.toNat_not,Zzq (by omega)]
  have e2:IntKind.i64.wrap (Int.ofNat (2 ^ 64 - 1 - f / 2)) = -((f:Int) + 1) / 2:=by
   simp only [Qv]
   rw [IntKind.wrap_i64]
   omega
  rw [e2]
 ·rw [if_neg h1,show f % 2 = 0 by omega,show IntKind.i64.wrap ((0:Int) - ((0:Nat):Int)) = 0 from rfl,show BitVec.ofInt 64 0 = 0#64 from rfl,BitVec.xor_zero,Zzq (by omega)]
  rw [Qa (by simp only [Qv]; omega)]
  rfl
theorem ZB8 {n:Int} (h:ZN n):Zl6 (Z2 n) = n:=by
 unfold ZN at h
 unfold Zl6 Z2
 by_cases hn:n < 0
 ·rw [if_pos hn,if_pos (by omega)]; omega
 ·rw [if_neg hn,if_neg (by omega)]; omega
def ZbC (kk:Nat) (r:List Bool):Int × Int × List Bool :=
 if (unS r).2.1 ≠ 0 then (0,(unS r).2.1,(unS r).2.2)
 else if (ZV kk (unS r).2.2).2.1 ≠ 0 then (0,(ZV kk (unS r).2.2).2.1,(ZV kk (unS r).2.2).2.2)
 else if 4294967295 ≤ (unS r).1 * 2 ^ kk + (ZV kk (unS r).2.2).1 then (0,12,(ZV kk (unS r).2.2).2.2)
 else (Zl6 ((unS r).1 * 2 ^ kk + (ZV kk (unS r).2.2).1),0,(ZV kk (unS r).2.2).2.2)
theorem ZvT {b:List Int} {r:List Bool} (h:Zo b r) (kk:Nat):Zo b (ZbC kk r).2.2:=by
 unfold ZbC
 split
 ·exact Zdv h
 ·split
  ·exact Qh (Zdv h) kk
  ·split
   ·exact Qh (Zdv h) kk
   ·exact Qh (Zdv h) kk
theorem ZWy {q d kk:Nat} (hq:q < 4294967296) (hk:kk ≤ 30) (hd:d < 2 ^ kk):IntKind.i64.wrap (Int.ofNat (BitVec.ofInt 64 (IntKind.i64.wrap ((q:Int) * (2:Int) ^ min ((kk:Int)).toNat 64)) ||| BitVec.ofInt 64 (d:Int)).toNat) = ((q * 2 ^ kk + d:Nat):Int):=by
 have h1:2 ^ kk ≤ 2 ^ 30:=Nat.pow_le_pow_right (by omega) hk
 have h2:q * 2 ^ kk ≤ 4294967295 * 1073741824:=Nat.mul_le_mul (by omega) (by omega)
 rw [Xm,Nat.min_eq_left (by omega),WF,← Int.natCast_mul]
 have h3:=Nat.shiftLeft_add_eq_or_of_lt hd q
 rw [Nat.shiftLeft_eq] at h3
 rw [Qa (n:=((q * 2 ^ kk:Nat):Int)) (by generalize q * 2 ^ kk = X at h2; omega),orN (by generalize q * 2 ^ kk = X at h2; omega) (by omega),← h3]
 generalize q * 2 ^ kk = X at h2 ⊢
 rw [Qa (by omega)]
theorem ZIG (k:Nat) {b:List Int} (hb:ZS b = true) (hn:b.length < 268435456) {r:List Bool} (hr:Zo b r) {kk:Nat} (hkk:kk ≤ 30) (hk:8 * b.length + 100 < k) :
  ZqT k (KR b r,(kk:Int),()) = some (((ZbC kk r).1,(ZbC kk r).2.1,()),KR b (ZbC kk r).2.2,()):=by
 show Zhs k _ = _
 simp only [Zhs]
 rw [ZuA k hb (by omega) hr (by omega)]
 simp only [Z1]
 unfold ZbC
 have hu:=ZPp (r:=r)
 have hl:=hr.len
 rw [ZL]
 by_cases h1:(unS r).2.1 = 0
 ·rw [Zk (by simpa using h1),if_neg (by simpa using h1),YJ k hb (by omega) (Zdv hr) (by omega) (by omega)]
  simp only [Z1]
  rw [ZL]
  by_cases h2:(ZV kk (unS r).2.2).2.1 = 0
  ·rw [Zk (by simpa using h2),if_neg (by simpa using h2),Zc (by omega),ZWy (by omega) hkk (ZhR kk _)]
   by_cases h3:4294967295 ≤ (unS r).1 * 2 ^ kk + (ZV kk (unS r).2.2).1
   ·rw [Zc (by omega),if_pos h3]
   ·rw [Zk (by omega),if_neg h3,ZII k (by omega)]
    rfl
  ·rw [Zc h2,if_pos h2]
 ·rw [Zc h1,if_pos h1]
end Go.Sh
namespace Go.Sh
open Go Go.Proofs
abbrev ZFd:=List Bool → Int × Int × List Bool
def Yf (one:ZFd):Nat → List Bool → List Int → List Int × Int × List Bool
 | 0,r,acc => (acc,0,r)
 | n + 1,r,acc => if (one r).2.1 ≠ 0 then ([],(one r).2.1,(one r).2.2) else Yf one n (one r).2.2 (acc ++ [(one r).1])
theorem ZiX {b:List Int} {one:ZFd} (h1:∀ r,Zo b r → Zo b (one r).2.2):∀ (n:Nat) (r:List Bool) (acc:List Int),Zo b r → Zo b (Yf one n r acc).2.2
 | 0,r,acc,h => h
 | n + 1,r,acc,h => by
  unfold Yf
  split
  ·exact h1 r h
  ·exact ZiX h1 n _ _ (h1 r h)
theorem Zna {one:ZFd}:∀ (n:Nat) (r:List Bool) (acc:List Int),(Yf one n r acc).1.length ≤ acc.length + n
 | 0,r,acc => Nat.le_refl _
 | n + 1,r,acc => by
  unfold Yf
  split
  ·simp
  ·have:=Zna (one:=one) n (one r).2.2 (acc ++ [(one r).1])
   rw [Q2,List.length_singleton] at this
   omega
theorem ZQ4 (k:Nat) (L2:Int × Int × List Int × Int × Int × List Int → Option ((List Int × Int × Unit) × (List Int × Int × Unit) × Unit)) {b:List Int} (hb:ZS b = true) (hn:b.length < 268435456) (hk:8 * b.length + 100 < k) {w:Nat} (hw:w ≤ 32) :
  ∀ (d m i:Nat) (r:List Bool) (acc:List Int),Zo b r → d < m → i + d ≤ 4096 → acc.length ≤ i →
  Zm (fun L1 => ZcL k L1) m (((i + d:Nat):Int),(i:Int),b,((ZX b r:Nat):Int),(w:Int),acc) = some (((Yf (WR w) d r acc).1,(Yf (WR w) d r acc).2.1,()),KR b (Yf (WR w) d r acc).2.2,()):=by
 intro d
 induction d with
 | zero =>
  intro m i r acc hr hm hi ha
  obtain ⟨m,rfl⟩:=ZD hm
  rw [Ze]
  simp only [ZcL]
  rw [Zk (by omega)]
  rfl
 | succ d ih =>
  intro m i r acc hr hm hi ha
  obtain ⟨m,rfl⟩:=ZD (show 0 < m by omega)
  rw [Ze]
  simp only [ZcL]
  have e:ZqU k (((b,((ZX b r:Nat):Int),()),()),((w:Int),()),()) = some (((WR w r).1,(WR w r).2.1,()),((KR b (WR w r).2.2),()),((w:Int),()),()):=by
   show Zht k _ = _
   simp only [Zht]
   rw [ZuM k hb (by omega) hr hw (by omega)]
   rfl
  rw [Zc (by omega),e]
  simp only [Z1]
  unfold Yf
  rw [ZL]
  by_cases h:(WR w r).2.1 = 0
  ·rw [Zk (by simpa using h),Zc (by simp only [List.length_singleton]; omega),if_neg (by simpa using h)]
   have e2:IntKind.i64.wrap ((i:Int) + 1) = ((i + 1:Nat):Int):=by rw [Qa (by omega)]; rfl
   rw [e2]
   have:=ih m (i + 1) (WR w r).2.2 (acc ++ [(WR w r).1]) (Zei hr w) (by omega) (by omega) (by simp; omega)
   rw [show i + 1 + d = i + (d + 1) by omega] at this
   exact this
  ·rw [Zc h,if_pos h]
theorem ZLT (k:Nat) {b:List Int} (hb:ZS b = true) (hn:b.length < 268435456) (hk:8 * b.length + 100 < k) {w:Nat} (hw:w ≤ 30) :
  ∀ (d m i:Nat) (r:List Bool) (acc:List Int),Zo b r → d < m → i + d ≤ 4096 → acc.length ≤ i →
  Zm (fun L2 => ZcM k L2) m (((i + d:Nat):Int),(i:Int),b,((ZX b r:Nat):Int),(w:Int),acc) = some (((Yf (ZbC w) d r acc).1,(Yf (ZbC w) d r acc).2.1,()),KR b (Yf (ZbC w) d r acc).2.2,()):=by
 intro d
 induction d with
 | zero =>
  intro m i r acc hr hm hi ha
  obtain ⟨m,rfl⟩:=ZD hm
  rw [Ze]
  simp only [ZcM]
  rw [Zk (by omega)]
  rfl
 | succ d ih =>
  intro m i r acc hr hm hi ha
  obtain ⟨m,rfl⟩:=ZD (show 0 < m by omega)
  rw [Ze]
  simp only [ZcM]
  have e:ZqQ k (((b,((ZX b r:Nat):Int),()),()),((w:Int),()),()) = some (((ZbC w r).1,(ZbC w r).2.1,()),((KR b (ZbC w r).2.2),()),((w:Int),()),()):=by
   show Zhr k _ = _
   simp only [Zhr]
   rw [ZIG k hb (by omega) hr hw (by omega)]
   rfl
  rw [Zc (by omega),e]
  simp only [Z1]
  unfold Yf
  rw [ZL]
  by_cases h:(ZbC w r).2.1 = 0
  ·rw [Zk (by simpa using h),Zc (by simp only [List.length_singleton]; omega),if_neg (by simpa using h)]
   have e2:IntKind.i64.wrap ((i:Int) + 1) = ((i + 1:Nat):Int):=by rw [Qa (by omega)]; rfl
   rw [e2]
   have:=ih m (i + 1) (ZbC w r).2.2 (acc ++ [(ZbC w r).1]) (ZvT hr w) (by omega) (by omega) (by simp; omega)
   rw [show i + 1 + d = i + (d + 1) by omega] at this
   exact this
  ·rw [Zc h,if_pos h]
def Yi (m count : Nat) (r : List Bool) : List Int × Int × List Bool :=
  if (ZV (4 + m) r).2.1 ≠ 0 then ([], (ZV (4 + m) r).2.1, (ZV (4 + m) r).2.2)
  else if (ZV (4 + m) r).1 = Xv m then
    (if (ZV 5 (ZV (4 + m) r).2.2).2.1 ≠ 0 then ([], (ZV 5 (ZV (4 + m) r).2.2).2.1, (ZV 5 (ZV (4 + m) r).2.2).2.2)
     else Yf (WR (ZV 5 (ZV (4 + m) r).2.2).1) count (ZV 5 (ZV (4 + m) r).2.2).2.2 [])
  else Yf (ZbC (ZV (4 + m) r).1) count (ZV (4 + m) r).2.2 []
theorem Zi2 {b:List Int} {r:List Bool} (h:Zo b r) (m count:Nat):Zo b (Yi m count r).2.2:=by
 unfold Yi
 split
 ·exact Qh h _
 ·split
  ·split
   ·exact Qh (Qh h _) _
   ·exact ZiX (fun r h => Zei h _) _ _ _ (Qh (Qh h _) _)
  ·exact ZiX (fun r h => ZvT h _) _ _ _ (Qh h _)
theorem ZvW (m count:Nat) (r:List Bool):(Yi m count r).1.length ≤ count:=by
 unfold Yi
 split
 ·simp
 ·split
  ·split
   ·simp
   ·have:=Zna (one:=WR (ZV 5 (ZV (4 + m) r).2.2).1) count (ZV 5 (ZV (4 + m) r).2.2).2.2 []
    simpa using this
  ·have:=Zna (one:=ZbC (ZV (4 + m) r).1) count (ZV (4 + m) r).2.2 []
   simpa using this
theorem ZID (k:Nat) {b:List Int} (hb:ZS b = true) (hn:b.length < 268435456) {r:List Bool} (hr:Zo b r) (hk:8 * b.length + 5000 < k) {m count:Nat} (hm:m = 0 ∨ m = 1) (hc:count ≤ 4096) :
  ZiO k (KR b r,(m:Int),(count:Int),()) = some (((Yi m count r).1,(Yi m count r).2.1,()),KR b (Yi m count r).2.2,()):=by
 show Zhl k (Zo4 k) (ZjT k) _ = _
 simp only [Zhl]
 have hmi:(m:Int) = 0 ∨ (m:Int) = 1:=by omega
 rw [ZTT,Zmy k hmi]
 simp only [Z1]
 have e4:(4:Int) + (m:Int) = ((4 + m:Nat):Int):=rfl
 rw [e4,YJ k hb (by omega) hr (by omega) (by omega)]
 simp only [Z1]
 unfold Yi
 have hlt:=ZhR (4 + m) r
 rw [ZL]
 by_cases h1:(ZV (4 + m) r).2.1 = 0
 ·rw [Zk (by simpa using h1),if_neg (by simpa using h1),ZG5,Zcx k hmi]
  simp only [Z1]
  rw [ZK]
  by_cases h2:(ZV (4 + m) r).1 = Xv m
  ·rw [Zc (by omega),if_pos h2,show (5:Int) = ((5:Nat):Int) from rfl,YJ k hb (by omega) (Qh hr _) (by omega) (by omega)]
   simp only [Z1]
   rw [ZL]
   by_cases h3:(ZV 5 (ZV (4 + m) r).2.2).2.1 = 0
   ·rw [Zk (by simpa using h3),if_neg (by simpa using h3)]
    have hlt5:=ZhR 5 (ZV (4 + m) r).2.2
    have:=ZQ4 k (ZjT k) hb hn (by omega) (w:=(ZV 5 (ZV (4 + m) r).2.2).1) (by omega) count k 0 (ZV 5 (ZV (4 + m) r).2.2).2.2 [] (Qh (Qh hr _) _) (by omega) (by omega) (by simp)
    rw [Nat.zero_add] at this
    exact this
   ·rw [Zc h3,if_pos h3]
  ·rw [Zk (by omega),if_neg h2]
   have h30:(ZV (4 + m) r).1 ≤ 30:=by
    rcases hm with rfl | rfl
    ·have:(ZV (4 + 0) r).1 < 16:=hlt
     omega
    ·have h32:(ZV (4 + 1) r).1 < 32:=hlt
     have:Xv (1:Nat) = 31:=rfl
     omega
   have:=ZLT k hb hn (by omega) h30 count k 0 (ZV (4 + m) r).2.2 [] (Qh hr _) (by omega) (by omega) (by simp)
   rw [Nat.zero_add] at this
   exact this
 ·rw [Zc h1,if_pos h1]
def Wn (m n o p:Nat):Nat → Nat → List Bool → List Int → List Int × Int × List Bool
 | 0,_,r,acc => (acc,0,r)
 | d + 1,i,r,acc => if (Yi m (n / 2 ^ p - if i = 0 then o else 0) r).2.1 ≠ 0 then ([],(Yi m (n / 2 ^ p - if i = 0 then o else 0) r).2.1,(Yi m (n / 2 ^ p - if i = 0 then o else 0) r).2.2)
  else Wn m n o p d (i + 1) (Yi m (n / 2 ^ p - if i = 0 then o else 0) r).2.2 (acc ++ (Yi m (n / 2 ^ p - if i = 0 then o else 0) r).1)
theorem Zjl {b:List Int} {m n o p:Nat}:∀ (d i:Nat) (r:List Bool) (acc:List Int),Zo b r → Zo b (Wn m n o p d i r acc).2.2
 | 0,_,r,acc,h => h
 | d + 1,i,r,acc,h => by
  unfold Wn
  generalize (n / 2 ^ p - if i = 0 then o else 0) = cnt
  split
  ·exact Zi2 h _ _
  ·exact Zjl d (i + 1) _ _ (Zi2 h _ _)
theorem ZIb (k:Nat) {b:List Int} (hb:ZS b = true) (hn:b.length < 268435456) (hk:8 * b.length + 5000 < k) {m n o p:Nat} (hm:m = 0 ∨ m = 1) (hnn:n ≤ 512) (hp:p ≤ 15) (ho:o ≤ n / 2 ^ p) :
  ∀ (d j i:Nat) (r:List Bool) (acc:List Int),Zo b r → d < j → i + d ≤ 32768 → acc.length ≤ i * 512 →
  Zm (fun L1 => ZaO k L1) j (((i + d:Nat):Int),(i:Int),(n:Int),(p:Int),(o:Int),(m:Int),b,((ZX b r:Nat):Int),acc) = some (((Wn m n o p d i r acc).1,(Wn m n o p d i r acc).2.1,()),KR b (Wn m n o p d i r acc).2.2,()):=by
 intro d
 have hdiv:n / 2 ^ p ≤ n:=Nat.div_le_self _ _
 induction d with
 | zero =>
  intro j i r acc hr hj hi ha
  obtain ⟨j,rfl⟩:=ZD hj
  rw [Ze]
  simp only [ZaO]
  rw [Zk (by omega)]
  rfl
 | succ d ih =>
  intro j i r acc hr hj hi ha
  obtain ⟨j,rfl⟩:=ZD (show 0 < j by omega)
  rw [Ze]
  simp only [ZaO,Xm,Nat.min_eq_left (show p ≤ 64 by omega),ZfQ]
  have e2:IntKind.i64.wrap ((i:Int) + 1) = ((i + 1:Nat):Int):=by rw [Qa (by omega)]; rfl
  have e3:IntKind.i64.wrap (((n / 2 ^ p:Nat):Int) - (o:Int)) = ((n / 2 ^ p - o:Nat):Int):=by generalize n / 2 ^ p = q at hdiv ho ⊢; rw [Qa (by omega)]; omega
  have fin:∀ cnt:Nat,cnt = (n / 2 ^ p - if i = 0 then o else 0) → ((ZiO k ((b,((ZX b r:Nat):Int),()),(m:Int),(cnt:Int),())).bind fun y => bif y.1.2.1 != (0:Int) then some (([],y.1.2.1,()),(y.2.1.1,y.2.1.2.1,()),()) else bif decide (acc.length + List.length y.1.1 < (2147483648:Nat)) then Zm (fun L1 => ZaO k L1) j (((i + (d + 1):Nat):Int),IntKind.i64.wrap ((i:Int) + 1),(n:Int),(p:Int),(o:Int),(m:Int),y.2.1.1,y.2.1.2.1,acc ++ y.1.1) else none) =
    some (((Wn m n o p (d + 1) i r acc).1,(Wn m n o p (d + 1) i r acc).2.1,()),KR b (Wn m n o p (d + 1) i r acc).2.2,()):=by
   intro cnt hcnt
   have hcl:cnt ≤ 512:=by omega
   refine (Zn (ZID k hb hn hr hk hm (by omega)) _).trans ?_
   simp only
   unfold Wn
   rw [← hcnt,ZL]
   have hlen:=ZvW m cnt r
   by_cases h:(Yi m cnt r).2.1 = 0
   ·rw [Zk (by simpa using h),Zc (by omega),if_neg (by simpa using h),e2]
    have:=ih j (i + 1) (Yi m cnt r).2.2 (acc ++ (Yi m cnt r).1) (Zi2 hr _ _) (by omega) (by omega) (by rw [Q2]; omega)
    rw [show i + 1 + d = i + (d + 1) by omega] at this
    exact this
   ·rw [Zc h,if_pos h]
  rw [Zc (by omega),Zc (by omega),ZK]
  by_cases h0:i = 0
  ·rw [Zc (by omega),e3]
   exact fin _ (by rw [if_pos h0])
  ·rw [Zk (by omega)]
   exact fin _ (by rw [if_neg h0,Nat.sub_zero])
def Ka (n o:Nat) (r:List Bool):List Int × Int × List Bool :=
 if Zcc n o = false then ([],1,r)
 else if (ZV 2 r).2.1 ≠ 0 then ([],(ZV 2 r).2.1,(ZV 2 r).2.2)
 else if 1 < (ZV 2 r).1 then ([],2,(ZV 2 r).2.2)
 else if (ZV 4 (ZV 2 r).2.2).2.1 ≠ 0 then ([],(ZV 4 (ZV 2 r).2.2).2.1,(ZV 4 (ZV 2 r).2.2).2.2)
 else if ZeM n o (ZV 4 (ZV 2 r).2.2).1 = false then ([],2,(ZV 4 (ZV 2 r).2.2).2.2)
 else Wn (ZV 2 r).1 n o (ZV 4 (ZV 2 r).2.2).1 (2 ^ (ZV 4 (ZV 2 r).2.2).1) 0 (ZV 4 (ZV 2 r).2.2).2.2 []
theorem Ztk {b:List Int} {r:List Bool} (h:Zo b r) (n o:Nat):Zo b (Ka n o r).2.2:=by
 unfold Ka
 repeat' split
 all_goals first | exact h | exact Qh h _ | exact Qh (Qh h _) _ | exact Zjl _ _ _ _ (Qh (Qh h _) _)
theorem ZIc (k:Nat) {b:List Int} (hb:ZS b = true) (hn:b.length < 268435456) {r:List Bool} (hr:Zo b r) (hk:8 * b.length + 50000 < k) (n o:Nat) :
  Zcf k (KR b r,(n:Int),(o:Int),()) = some (((Ka n o r).1,(Ka n o r).2.1,()),KR b (Ka n o r).2.2,()):=by
 show Zg1 k (ZoQ k) _ = _
 simp only [Zg1]
 rw [ZuH]
 simp only [Z1]
 unfold Ka
 cases hbl:Zcc n o with
 | false => rfl
 | true =>
  have hbb:=of_decide_eq_true hbl
  simp only [Bool.not_true,cond_false,Bool.true_eq_false,if_false]
  have g2:XZ k (KR b r,2,()) = _:=YJ k hb (by omega) hr (w:=2) (by omega) (by omega)
  rw [g2]
  simp only [Z1]
  rw [ZL]
  have hlt2:=ZhR 2 r
  by_cases h1:(ZV 2 r).2.1 = 0
  ·rw [Zk (by simpa using h1),if_neg (by simpa using h1)]
   by_cases h2:1 < (ZV 2 r).1
   ·rw [Zc (by omega),if_pos h2]
   ·have g4:XZ k (KR b (ZV 2 r).2.2,4,()) = _:=YJ k hb (by omega) (Qh hr _) (w:=4) (by omega) (by omega)
    rw [Zk (by omega),if_neg h2,g4]
    simp only [Z1]
    rw [ZL]
    have hlt4:=ZhR 4 (ZV 2 r).2.2
    by_cases h3:(ZV 4 (ZV 2 r).2.2).2.1 = 0
    ·rw [Zk (by simpa using h3),if_neg (by simpa using h3),ZuJ k (by omega) (by omega)]
     simp only [Z1]
     cases hf:ZeM n o (ZV 4 (ZV 2 r).2.2).1 with
     | false => rfl
     | true =>
      simp only [Bool.not_true,cond_false,Bool.true_eq_false,if_false]
      have hfit:=hf
      unfold ZeM at hfit
      simp only [Bool.and_eq_true,decide_eq_true_eq] at hfit
      rw [Zc (by omega),Zpy (by omega)]
      have h15:2 ^ (ZV 4 (ZV 2 r).2.2).1 ≤ 2 ^ 15:=Nat.pow_le_pow_right (by omega) (by omega)
      have:=ZIb k hb hn (by omega) (m:=(ZV 2 r).1) (n:=n) (o:=o) (p:=(ZV 4 (ZV 2 r).2.2).1) (by omega) (by omega) (by omega) hfit.2 (2 ^ (ZV 4 (ZV 2 r).2.2).1) k 0 (ZV 4 (ZV 2 r).2.2).2.2 [] (Qh (Qh hr _) _) (by omega) (by omega) (by simp)
      rw [Nat.zero_add] at this
      exact this
    ·rw [Zc h3,if_pos h3]
  ·rw [Zc h1,if_pos h1]
theorem ZXX:∀ n:Fin 513,Zhp 0 (1,(n.val:Int),()) = some ((0,(n.val:Int),()),()):=by decide +kernel
theorem ZLR (k:Nat) {n:Nat} (hn:n ≤ 512):ZqM k (1,(n:Int),()) = some ((0,(n:Int),()),()):=by
 have:=ZXX ⟨n,by omega⟩
 simp only at this
 show (Zhp 0 (1,(n:Int),())).bind _ = _
 rw [this]
 rfl
theorem ZH7 (k:Nat) (x:Int) {n:Nat} (hn:n ≤ 512):∀ (d m i:Nat),i + d = n → d < m → 1 ≤ i →
  Zm (fun L1 => ZgZ k L1) m ((i:Int),List.replicate i x ++ List.replicate d 0) = some (List.replicate n x,()):=by
 intro d
 induction d using Nat.strongRecOn with
 | ind d ih =>
  intro m i hi hm h1
  obtain ⟨m,rfl⟩:=ZD (show 0 < m by omega)
  rw [Ze]
  simp only [ZgZ]
  have hlen:(List.replicate i x ++ List.replicate d (0:Int)).length = n:=by simp; omega
  rw [hlen]
  by_cases h0:d = 0
  ·subst h0
   rw [Zk (by simp only [Qv]; omega)]
   obtain rfl:i = n:=by omega
   simp
  ·rw [Zc (by simp only [Qv]; omega),Zc (by simp only [Qv]; omega),Zc (by simp only [Qv]; omega)]
   simp only [Xm,show (Int.ofNat n).toNat = n from rfl]
   rw [Zc (by omega),Zc (by omega),List.drop_zero]
   have ht:(List.replicate i x ++ List.replicate d (0:Int)).take i = List.replicate i x:=by
    rw [List.take_append_of_le_length (by simp)]
    simp
   rw [ht,List.length_replicate]
   have e1:IntKind.i64.wrap ((i:Int) + Int.ofNat (min i (n - i))) = ((i + min i (n - i):Nat):Int):=by simp only [Qv]; rw [Qa (by omega)]; omega
   have e2:List.replicate i x ++ List.take (n - i) (List.replicate i x) ++ List.drop (i + min i (n - i)) (List.replicate i x ++ List.replicate d (0:Int)) = List.replicate (i + min i (n - i)) x ++ List.replicate (d - min i (n - i)) 0:=by
    rw [List.take_replicate,List.replicate_append_replicate,List.drop_append]
    simp
    omega
   rw [e1,e2]
   exact ih (d - min i (n - i)) (by omega) m _ (by omega) (by omega) (by omega)
theorem ZH8 (k:Nat) (x:Int) {n:Nat} (h1:1 ≤ n) (hn:n ≤ 512) (hk:1000 < k):Zqr k ([x],(n:Int),()) = some (List.replicate n x,()):=by
 show ZgY k (ZoM k) _ = _
 simp only [ZgY]
 have e1:IntKind.u64.wrap (Int.ofNat [x].length) = 1:=rfl
 have e2:IntKind.u64.wrap (n:Int) = (n:Int):=by rw [IntKind.wrap_u64]; omega
 rw [Zk (by omega),e1,e2,ZLR k hn]
 simp only [Z1]
 have e3:IntKind.i64.wrap (n:Int) = (n:Int):=by rw [Qa (by omega)]
 rw [Zk (by omega),Zk (by omega),e3,Zc (by omega)]
 simp only [Xm,List.length_replicate,List.length_singleton,Nat.sub_zero,List.take_zero,List.nil_append,Nat.zero_add]
 rw [Nat.min_eq_left h1,List.take_of_length_le (by simp; omega),List.drop_replicate]
 exact ZH7 k x hn (n - 1) k 1 (by omega) (by omega) (by omega)
end Go.Sh
namespace Go.Sh
open Go Go.Proofs
def ZlU (c:List Int) (sh:Int):List Int → List Int → List Int × Int
 | [],out => (out,0)
 | x :: xs,out => if Qw (x + ZeG c sh out) = true then ([],12) else ZlU c sh xs (out ++ [x + ZeG c sh out])
def Zai (c:List Int) (sh:Int) (warm res:List Int):List Int × Int :=
 if Zbs c sh = false then ([],2) else if warm.length ≠ c.length then ([],1) else if warm.any Qw = true then ([],12) else if res.any Qw = true then ([],12) else ZlU c sh res warm
theorem Zv3 {c:List Int} {sh:Int}:∀ (xs out:List Int),(ZlU c sh xs out).1.length ≤ out.length + xs.length
 | [],out => Nat.le_refl _
 | x :: xs,out => by
  unfold ZlU
  split
  ·simp
  ·have:=Zv3 (c:=c) (sh:=sh) xs (out ++ [x + ZeG c sh out])
   rw [Q2,List.length_singleton] at this
   rw [List.length_cons]
   omega
theorem ZCc {x:Int} (h:Qw x = false):ZN x:=by
 unfold Qw at h
 rw [decide_eq_false_iff_not] at h
 unfold ZN
 omega
theorem ZIe (k:Nat) {c warm res:List Int} {sh:Int} (hk:1000 < k) (hc:c.length ≤ 8192) (hw:warm.length ≤ 900) (hr:res.length ≤ 900) :
  Zcg k ((c,sh,()),warm,res,()) = some (((Zai c sh warm res).1,(Zai c sh warm res).2,()),()):=by
 show Zg2 k (ZoS k) _ = _
 simp only [Zg2]
 rw [ZuN k c sh (by omega)]
 simp only [Z1]
 unfold Zai
 cases hm:Zbs c sh with
 | false => rfl
 | true =>
  simp only [if_true,Bool.true_eq_false,if_false]
  rw [show ((0:Int) != 0) = false from rfl]
  simp only [cond_false]
  rw [ZL]
  by_cases hl:warm.length = c.length
  ·rw [Zk (by simp [hl]),if_neg (by simpa using hl),ZbL k warm (by omega) (by omega)]
   simp only [Z1]
   cases hw1:warm.any Qw with
   | true => rfl
   | false =>
    simp only [cond_false,Bool.false_eq_true,if_false]
    rw [ZbL k res (by omega) (by omega)]
    simp only [Z1]
    cases hr1:res.any Qw with
    | true => rfl
    | false =>
     simp only [cond_false,Bool.false_eq_true,if_false]
     have ecl:ZmN k (warm,()) = some (warm,()):=by show YT _ = _; unfold YT; rw [Zc (by simp only; omega)]
     rw [ecl]
     simp only [Z1]
     obtain ⟨h8,hsh,hco⟩:=Zf5 hm
     have:=Zz (A:=List Int) (R:=(List Int × Int × Unit) × Unit) (step:=fun L1 => ZcF k L1)
      (fun i out => (Int.ofNat res.length,Int.ofNat i,res,c,sh,out)) res
      (fun l' out => some (((ZlU c sh l' out).1,(ZlU c sh l' out).2,()),()))
      (fun i out => c.length ≤ out.length ∧ out.length = warm.length + i ∧ ∀ x ∈ out,ZN x)
      (fun L out _ => by simp only [ZcF]; rw [Zk (Q3 _)]; rfl)
      (fun L i hi out ho hL => by
       simp only [ZcF]
       rw [Zc (ltR hi),Zc (Kh hi),ZuO k (by omega) h8 ho.1 (by omega) hsh hco ho.2.2,ZM hi]
       simp only [Z1]
       have hx:=Ky hr1 res[i] (List.getElem_mem hi)
       have hp:=Zn5 (sh:=sh) hco ho.2.2 h8
       unfold ZN at hx
       rw [Qa (n:=res[i] + ZeG c sh out) (by omega),ZmL]
       simp only [Z1]
       unfold ZlU
       cases hwi:Qw (res[i] + ZeG c sh out) with
       | true => rfl
       | false =>
        simp only [cond_false,Bool.false_eq_true,if_false]
        rw [Zc (by simp only [List.length_singleton]; omega),Qr hi (by omega)]
        exact hL _ ⟨by simp; omega,by simp; omega,fun x hx => by
         rcases List.mem_append.1 hx with h | h
         ·exact ho.2.2 x h
         ·rw [List.mem_singleton.1 h]; exact ZCc hwi⟩)
      k 0 warm ⟨by omega,by omega,Ky hw1⟩ (by omega) (Nat.zero_le _)
     rw [List.drop_zero] at this
     exact this
  ·rw [Zc (by simp only [Qv]; omega),if_pos hl]
abbrev IS:=List Bool × Int
def gI (w:Nat) (s:IS):Nat × IS:=if s.2 = 0 then ((ZV w s.1).1,(ZV w s.1).2.2,(ZV w s.1).2.1) else (0,s)
def mI (ok:Bool) (s:IS) (code:Int):IS:=if s.2 = 0 ∧ ok = false then (s.1,code) else s
theorem QJ {b:List Int} {s:IS} (h:Zo b s.1) (w:Nat):Zo b (gI w s).2.1:=by
 unfold gI
 split
 ·exact Qh h w
 ·exact h
theorem QF {b:List Int} {s:IS} (h:Zo b s.1) (ok:Bool) (code:Int):Zo b (mI ok s code).1:=by
 unfold mI
 split
 ·exact h
 ·exact h
theorem ZXB (w:Nat) (s:IS):(gI w s).1 < 2 ^ w:=by
 unfold gI
 split
 ·exact ZhR w _
 ·exact Nat.pow_pos (by omega)
theorem ZcB (k:Nat) {b:List Int} (hb:ZS b = true) (hn:b.length < 268435456) (hk:100 < k) {s:IS} (hs:Zo b s.1) {w:Nat} (hw:w ≤ 32) :
  YU k ((KR b s.1,s.2,()),(w:Int),()) = some ((((gI w s).1:Nat):Int),(KR b (gI w s).2.1,(gI w s).2.2,()),()):=by
 show ZgV k _ = _
 simp only [ZgV]
 unfold gI
 rw [ZK]
 by_cases h:s.2 = 0
 ·rw [Zc h,if_pos h,YJ k hb (by omega) hs hw hk]
  rfl
 ·rw [Zk h,if_neg h]
  rfl
theorem YK (k:Nat) {b:List Int} {s:IS} (ok:Bool):W9 k ((KR b s.1,s.2,()),ok,()) = some ((),(KR b (mI ok s 2).1,(mI ok s 2).2,()),()):=by
 show ZgU k _ = _
 simp only [ZgU]
 unfold mI
 rw [ZK]
 by_cases h:s.2 = 0
 ·rw [Zc h]
  cases ok with
  | false => rw [if_pos ⟨h,rfl⟩]; rfl
  | true => rw [if_neg (by simp)]; rfl
 ·rw [Zk h,if_neg (fun hh => h hh.1)]
def Zdf (n:Nat):Bool:=n = 0 ∨ n = 1 ∨ 8 ≤ n ∧ n ≤ 12 ∨ 32 ≤ n ∧ n ≤ 39
theorem ZH3 (k n:Nat):Zqq k ((n:Int),()) = some (Zdf n,()):=by
 show ZgW k _ = _
 simp only [ZgW]
 unfold Zdf
 rw [ZK,ZK]
 by_cases h0:n = 0
 ·rw [Zc (by omega),Xj (by omega)]
 ·rw [Zk (by omega)]
  by_cases h1:n = 1
  ·rw [Zc (by omega),Xj (by omega)]
  ·rw [Zk (by omega)]
   by_cases h8:8 ≤ n
   ·rw [Zc (by omega)]
    by_cases h12:n ≤ 12
    ·rw [Zc (by omega),Xj (by omega)]
    ·rw [Zk (by omega)]
     by_cases h31:31 < n
     ·rw [Zc (by omega)]
      by_cases h39:n ≤ 39
      ·rw [Xj (by omega),Xj (by omega)]
      ·rw [Wr (by omega),Wr (by omega)]
     ·rw [Zk (by omega),Wr (by omega)]
   ·rw [Zk (by omega),Zk (by omega),Wr (by omega)]
def XQ (w:Nat):Nat → IS → List Int → List Int × IS
 | 0,s,acc => (acc,s)
 | n + 1,s,acc => if s.2 = 0 then XQ w n ((WR w s.1).2.2,(WR w s.1).2.1) (acc ++ [(WR w s.1).1]) else XQ w n s (acc ++ [0])
theorem XR {b:List Int} {w:Nat}:∀ (n:Nat) (s:IS) (acc:List Int),Zo b s.1 → Zo b (XQ w n s acc).2.1
 | 0,s,acc,h => h
 | n + 1,s,acc,h => by
  unfold XQ
  split
  ·exact XR n _ _ (Zei h w)
  ·exact XR n _ _ h
theorem Zae {w:Nat}:∀ (n:Nat) (s:IS) (acc:List Int),(XQ w n s acc).1.length = acc.length + n
 | 0,s,acc => rfl
 | n + 1,s,acc => by
  unfold XQ
  split
  ·rw [Zae n,Q2,List.length_singleton]; omega
  ·rw [Zae n,Q2,List.length_singleton]; omega
theorem ZcE (k:Nat) {b:List Int} (hb:ZS b = true) (hn:b.length < 268435456) (hk:1000 < k) {s:IS} (hs:Zo b s.1) {w n:Nat} (hw:w ≤ 32) (hnn:n ≤ 512) :
  Za1 k ((KR b s.1,s.2,()),(n:Int),(w:Int),()) = some ((XQ w n s []).1,(KR b (XQ w n s []).2.1,(XQ w n s []).2.2,()),()):=by
 show Zg0 k (ZoO k) _ = _
 simp only [Zg0]
 suffices H:∀ (d m i:Nat) (s:IS) (acc:List Int),Zo b s.1 → d < m → i + d ≤ 512 → acc.length = i →
   Zm (fun L1 => ZcD k L1) m (((i + d:Nat):Int),(i:Int),(w:Int),s.2,b,((ZX b s.1:Nat):Int),acc) = some ((XQ w d s acc).1,(KR b (XQ w d s acc).2.1,(XQ w d s acc).2.2,()),()) by
  have:=H n k 0 s [] hs (by omega) (by omega) rfl
  rw [Nat.zero_add] at this
  exact this
 intro d
 induction d with
 | zero =>
  intro m i s acc hs hm hi ha
  obtain ⟨m,rfl⟩:=ZD hm
  rw [Ze]
  simp only [ZcD]
  rw [Zk (by omega)]
  rfl
 | succ d ih =>
  intro m i s acc hs hm hi ha
  obtain ⟨m,rfl⟩:=ZD (show 0 < m by omega)
  rw [Ze]
  simp only [ZcD]
  have e2:IntKind.i64.wrap ((i:Int) + 1) = ((i + 1:Nat):Int):=by rw [Qa (by omega)]; rfl
  rw [Zc (by omega),ZK]
  unfold XQ
  by_cases h:s.2 = 0
  ·rw [Zc h,if_pos h,ZuM k hb (by omega) hs hw (by omega)]
   simp only [Z1]
   rw [Zc (by simp only [List.length_singleton]; omega),e2]
   have:=ih m (i + 1) ((WR w s.1).2.2,(WR w s.1).2.1) (acc ++ [(WR w s.1).1]) (Zei hs w) (by omega) (by omega) (by simp; omega)
   rw [show i + 1 + d = i + (d + 1) by omega] at this
   exact this
  ·rw [Zk h,if_neg h,Zc (by omega),e2]
   have:=ih m (i + 1) s (acc ++ [0]) hs (by omega) (by omega) (by simp; omega)
   rw [show i + 1 + d = i + (d + 1) by omega] at this
   exact this
def Zbz (s:IS):IS:=mI ((gI 1 s).1 == 0) (gI 1 s).2 2
def YP (s:IS):Nat × IS:=((gI 6 s).1,mI (Zdf (gI 6 s).1) (gI 6 s).2 2)
def Zdq (kind depth:Nat) (s:IS):Nat × Nat × IS :=
 if (gI 1 s).1 = 1 ∧ (gI 1 s).2.2 = 0 then (kind,(unS (gI 1 s).2.1).1 + 1,mI (decide ((unS (gI 1 s).2.1).1 + 1 < depth)) ((unS (gI 1 s).2.1).2.2,(unS (gI 1 s).2.1).2.1) 2)
 else (kind,0,mI (decide (0 < depth)) (gI 1 s).2 2)
def ZW (depth:Nat) (s:IS):Nat × Nat × IS:=Zdq (YP (Zbz s)).1 depth (YP (Zbz s)).2
theorem Wv (a b:Nat):((a:Int) == (b:Int)) = (a == b):=by
 rw [Bool.eq_iff_iff,beq_iff_eq,beq_iff_eq]
 omega
theorem ZE4 {b:List Int} {s:IS} (h:Zo b s.1) (kind d:Nat):Zo b (Zdq kind d s).2.2.1:=by
 unfold Zdq
 split
 ·exact QF (s:=(_,_)) (Zdv (QJ h _)) _ _
 ·exact QF (QJ h _) _ _
theorem Zts {b:List Int} {s:IS} (h:Zo b s.1):Zo b (Zbz s).1:=QF (QJ h _) _ _
theorem Ztt {b:List Int} {s:IS} (h:Zo b s.1):Zo b (YP s).2.1:=QF (QJ h _) _ _
theorem Zl2 {b:List Int} {s:IS} (h:Zo b s.1) (d:Nat):Zo b (ZW d s).2.2.1:=ZE4 (Ztt (Zts h)) _ _
theorem ZOg (k:Nat) {b:List Int} (hb:ZS b = true) (hn:b.length < 268435456) (hk:8 * b.length + 1000 < k) {s:IS} (hs:Zo b s.1) (d:Nat) :
  ZA6 k ((KR b s.1,s.2,()),(d:Int),()) = some (((((ZW d s).1:Nat):Int),(((ZW d s).2.1:Nat):Int),()),(KR b (ZW d s).2.2.1,(ZW d s).2.2.2,()),()):=by
 show Zlv k _ = _
 simp only [Zlv]
 refine (Zn (ZcB k hb hn (by omega) hs (w:=1) (by omega)) _).trans ?_
 refine (Zn (YK k (s:=(gI 1 s).2) _) _).trans ?_
 rw [show ((((gI 1 s).1:Nat):Int) == (0:Int)) = ((gI 1 s).1 == 0) from Wv _ 0]
 have r2:=Zts hs
 unfold ZW
 change ((YU k ((KR b (Zbz s).1,(Zbz s).2,()),6,())).bind _) = _
 generalize Zbz s = s1 at r2 ⊢
 refine (Zn (ZcB k hb hn (by omega) r2 (w:=6) (by omega)) _).trans ?_
 refine (Zn (ZH3 k (gI 6 s1).1) _).trans ?_
 refine (Zn (YK k (s:=(gI 6 s1).2) _) _).trans ?_
 have r4:=Ztt r2
 change ((YU k ((KR b (YP s1).2.1,(YP s1).2.2,()),1,())).bind fun y_3 => bif y_3.1 == (1:Int) then bif y_3.2.1.2.1 == (0:Int) then (ZiK k ((y_3.2.1.1.1,y_3.2.1.1.2.1,()),())).bind fun y_4 => (W9 k (((y_4.2.1.1,y_4.2.1.2.1,()),y_4.1.2.1,()),decide (IntKind.i64.wrap (y_4.1.1 + (1:Int)) < d),())).bind fun y_5 => some (((((YP s1).1:Nat):Int),IntKind.i64.wrap (y_4.1.1 + (1:Int)),()),((y_5.2.1.1.1,y_5.2.1.1.2.1,()),y_5.2.1.2.1,()),())
  else (W9 k (((y_3.2.1.1.1,y_3.2.1.1.2.1,()),y_3.2.1.2.1,()),decide ((0:Int) < d),())).bind fun y_4 => some (((((YP s1).1:Nat):Int),0,()),((y_4.2.1.1.1,y_4.2.1.1.2.1,()),y_4.2.1.2.1,()),())
  else (W9 k (((y_3.2.1.1.1,y_3.2.1.1.2.1,()),y_3.2.1.2.1,()),decide ((0:Int) < d),())).bind fun y_4 => some (((((YP s1).1:Nat):Int),0,()),((y_4.2.1.1.1,y_4.2.1.1.2.1,()),y_4.2.1.2.1,()),())) = _
 generalize (YP s1).1 = kind
 generalize (YP s1).2 = s2 at r4 ⊢
 unfold Zdq
 have r5:=QJ r4 1
 refine (Zn (ZcB k hb hn (by omega) r4 (w:=1) (by omega)) _).trans ?_
 simp only
 rw [show ((((gI 1 s2).1:Nat):Int) == (1:Int)) = ((gI 1 s2).1 == 1) from Wv _ 1]
 have fin0:((W9 k ((KR b (gI 1 s2).2.1,(gI 1 s2).2.2,()),decide ((0:Int) < (d:Int)),())).bind fun y_4 => some ((((kind:Nat):Int),0,()),((y_4.2.1.1.1,y_4.2.1.1.2.1,()),y_4.2.1.2.1,()),())) =
   some ((((kind:Nat):Int),(((0:Nat):Int)),()),(KR b (mI (decide (0 < d)) (gI 1 s2).2 2).1,(mI (decide (0 < d)) (gI 1 s2).2 2).2,()),()):=by
  refine (Zn (YK k (s:=(gI 1 s2).2) _) _).trans ?_
  have:decide ((0:Int) < (d:Int)) = decide (0 < d):=by
   by_cases h:0 < d
   ·rw [Xj h,Xj (by omega)]
   ·rw [Wr h,Wr (by omega)]
  rw [this]
  rfl
 by_cases h1:(gI 1 s2).1 = 1
 ·rw [show ((gI 1 s2).1 == 1) = true from by simp [h1]]
  simp only [cond_true]
  rw [ZK]
  by_cases h2:(gI 1 s2).2.2 = 0
  ·rw [Zc h2,if_pos ⟨h1,h2⟩]
   refine (Zn (ZuA k hb (by omega) r5 (by omega)) _).trans ?_
   have hu:=ZPp (r:=(gI 1 s2).2.1)
   have hl:=r5.len
   have e1:IntKind.i64.wrap ((((unS (gI 1 s2).2.1).1:Nat):Int) + 1) = (((unS (gI 1 s2).2.1).1 + 1:Nat):Int):=by rw [Qa (by omega)]; rfl
   simp only
   rw [e1]
   refine (Zn (YK k (b:=b) (s:=((unS (gI 1 s2).2.1).2.2,(unS (gI 1 s2).2.1).2.1)) _) _).trans ?_
   have:decide ((((unS (gI 1 s2).2.1).1 + 1:Nat):Int) < (d:Int)) = decide ((unS (gI 1 s2).2.1).1 + 1 < d):=by
    by_cases h:(unS (gI 1 s2).2.1).1 + 1 < d
    ·rw [Xj h,Xj (by omega)]
    ·rw [Wr h,Wr (by omega)]
   rw [this]
  ·rw [Zk h2,if_neg (fun h => h2 h.2)]
   exact fin0
 ·rw [show ((gI 1 s2).1 == 1) = false from by simp [h1]]
  simp only [cond_false]
  rw [if_neg (fun h => h1 h.1)]
  exact fin0
end Go.Sh
namespace Go.Sh
open Go Go.Proofs
def Zcp (coefs:List Int) (sh:Int) (c n:Nat) (warm:List Int) (s:IS):List Int × IS :=
 if (Ka n c s.1).2.1 ≠ 0 then ([],((Ka n c s.1).2.2,(Ka n c s.1).2.1))
 else ((Zai coefs sh warm (Ka n c s.1).1).1,((Ka n c s.1).2.2,(Zai coefs sh warm (Ka n c s.1).1).2))
def Zaq (s:IS):IS:=mI ((gI 4 s).1 == 11) (gI 4 s).2 2
def Wq (s:IS):Nat × IS:=((gI 5 s).1,mI (decide ((gI 5 s).1 ≤ 15)) (gI 5 s).2 2)
def ZeA (c n:Nat) (warm:List Int) (sh:Nat) (x:List Int × IS):List Int × IS :=
 if x.2.2 ≠ 0 then ([],x.2) else Zcp x.1 sh c n warm x.2
def ZbE (num:Bool) (c n:Nat) (w:List Int × IS):List Int × IS :=
 if num = true then ZeA c n w.1 (Wq (Zaq w.2)).1 (XQ 12 c (Wq (Zaq w.2)).2 [])
 else if w.2.2 ≠ 0 then ([],w.2) else Zcp (XD (min 4 c)) 0 c n w.1 w.2
def Zh6 (num:Bool) (c n depth:Nat) (s:IS):List Int × IS :=
 if (mI (decide (c ≤ n)) s 2).2 ≠ 0 then ([],mI (decide (c ≤ n)) s 2) else ZbE num c n (XQ depth c (mI (decide (c ≤ n)) s 2) [])
def WY (kind n depth:Nat) (s:IS):List Int × IS :=
 if kind = 0 then (List.replicate n ((XQ depth 1 s []).1.headD 0),(XQ depth 1 s []).2)
 else if kind = 1 then XQ depth n s []
 else if 31 < kind then Zh6 true (kind - 31) n depth s else Zh6 false (kind - 8) n depth s
theorem ZnC {m n o p:Nat}:∀ (d i:Nat) (r:List Bool) (acc:List Int),(Wn m n o p d i r acc).1.length ≤ acc.length + d * (n / 2 ^ p)
 | 0,_,r,acc => by simp [Wn]
 | d + 1,i,r,acc => by
  unfold Wn
  have hle:(n / 2 ^ p - if i = 0 then o else 0) ≤ n / 2 ^ p:=Nat.sub_le _ _
  generalize (n / 2 ^ p - if i = 0 then o else 0) = cnt at hle ⊢
  have h1:=ZvW m cnt r
  rw [Nat.add_mul,Nat.one_mul]
  split
  ·simp
  ·have:=ZnC (m:=m) (n:=n) (o:=o) (p:=p) d (i + 1) (Yi m cnt r).2.2 (acc ++ (Yi m cnt r).1)
   rw [Q2] at this
   omega
theorem Zv4 {n o:Nat} (r:List Bool):(Ka n o r).1.length ≤ n:=by
 unfold Ka
 repeat' split
 all_goals try simp
 rename_i hf
 have hf:ZeM n o (ZV 4 (ZV 2 r).2.2).1 = true:=by simpa using hf
 unfold ZeM at hf
 simp only [Bool.and_eq_true,decide_eq_true_eq] at hf
 have:=ZnC (m:=(ZV 2 r).1) (n:=n) (o:=o) (p:=(ZV 4 (ZV 2 r).2.2).1) (2 ^ (ZV 4 (ZV 2 r).2.2).1) 0 (ZV 4 (ZV 2 r).2.2).2.2 []
 rw [List.length_nil,Nat.zero_add] at this
 refine Nat.le_trans this ?_
 rw [Nat.mul_comm]
 exact Nat.div_mul_le_self _ _
theorem ZbZ {ok:Bool} {s:IS} {code:Int} (hc:code ≠ 0):(mI ok s code).2 = 0 ↔ s.2 = 0 ∧ ok = true:=by
 unfold mI
 split
 ·rename_i h
  exact ⟨fun e => absurd e hc,fun e => by rw [h.2] at e; exact absurd e.2 (by simp)⟩
 ·rename_i h
  constructor
  ·intro e
   refine ⟨e,?_⟩
   cases ok with
   | true => rfl
   | false => exact absurd ⟨e,rfl⟩ h
  ·exact fun e => e.1
theorem Zl3 {d:Nat} {s:IS} (h:(ZW d s).2.2.2 = 0):(ZW d s).2.1 < d ∧ Zdf (ZW d s).1 = true:=by
 unfold ZW at h ⊢
 have hk:(YP (Zbz s)).2.2 = 0 → Zdf (YP (Zbz s)).1 = true:=fun h => ((ZbZ (by decide)).1 h).2
 generalize (YP (Zbz s)).1 = kind at h hk ⊢
 generalize (YP (Zbz s)).2 = s2 at h hk ⊢
 have g0:(gI 1 s2).2.2 = 0 → s2.2 = 0:=by
  unfold gI
  split
  ·rename_i h; exact fun _ => h
  ·exact fun e => e
 unfold Zdq at h ⊢
 split
 ·rename_i hc
  rw [if_pos hc] at h
  have:=(ZbZ (by decide)).1 h
  exact ⟨of_decide_eq_true this.2,hk (g0 hc.2)⟩
 ·rename_i hc
  rw [if_neg hc] at h
  have:=(ZbZ (by decide)).1 h
  exact ⟨of_decide_eq_true this.2,hk (g0 this.1)⟩
theorem ZpU {b:List Int} {coefs warm:List Int} {sh:Int} {c n:Nat} {s:IS} (h:Zo b s.1):Zo b (Zcp coefs sh c n warm s).2.1:=by
 unfold Zcp
 split
 ·exact Ztk h _ _
 ·exact Ztk h _ _
theorem Zt8 {coefs warm:List Int} {sh:Int} {c n:Nat} {s:IS}:(Zcp coefs sh c n warm s).1.length ≤ warm.length + n:=by
 unfold Zcp
 split
 ·simp
 ·have h1:=Zv4 (n:=n) (o:=c) s.1
  simp only
  unfold Zai
  repeat' split
  all_goals try simp
  have:=Zv3 (c:=coefs) (sh:=sh) (Ka n c s.1).1 warm
  omega
theorem Zp4 {b:List Int} {s:IS} (h:Zo b s.1):Zo b (Zaq s).1:=QF (QJ h _) _ _
theorem Zp5 {b:List Int} {s:IS} (h:Zo b s.1):Zo b (Wq s).2.1:=QF (QJ h _) _ _
theorem ZCC {b:List Int} {c n:Nat} {warm:List Int} {sh:Nat} {x:List Int × IS} (h:Zo b x.2.1):Zo b (ZeA c n warm sh x).2.1:=by
 unfold ZeA
 split
 ·exact h
 ·exact ZpU h
theorem ZCD {b:List Int} {num:Bool} {c n:Nat} {w:List Int × IS} (h:Zo b w.2.1):Zo b (ZbE num c n w).2.1:=by
 unfold ZbE
 split
 ·exact ZCC (XR _ _ _ (Zp5 (Zp4 h)))
 ·split
  ·exact h
  ·exact ZpU h
theorem ZpT {b:List Int} {num:Bool} {c n d:Nat} {s:IS} (h:Zo b s.1):Zo b (Zh6 num c n d s).2.1:=by
 unfold Zh6
 split
 ·exact QF h _ _
 ·exact ZCD (XR _ _ _ (QF h _ _))
theorem ZCB {b:List Int} {kind n d:Nat} {s:IS} (h:Zo b s.1):Zo b (WY kind n d s).2.1:=by
 unfold WY
 split
 ·exact XR _ _ _ h
 ·split
  ·exact XR _ _ _ h
  ·split
   ·exact ZpT h
   ·exact ZpT h
theorem Zt6 {num:Bool} {c n d:Nat} {s:IS} (hc:c ≤ 8):(Zh6 num c n d s).1.length ≤ 8 + n:=by
 unfold Zh6
 split
 ·simp
 ·have hl:=Zae (w:=d) c (mI (decide (c ≤ n)) s 2) []
  generalize XQ d c (mI (decide (c ≤ n)) s 2) [] = w at hl
  simp only [List.length_nil,Nat.zero_add] at hl
  unfold ZbE ZeA
  repeat' split
  all_goals try simp
  ·have:=Zt8 (coefs:=(XQ 12 c (Wq (Zaq w.2)).2 []).1) (warm:=w.1) (sh:=((Wq (Zaq w.2)).1:Nat)) (c:=c) (n:=n) (s:=(XQ 12 c (Wq (Zaq w.2)).2 []).2)
   omega
  ·have:=Zt8 (coefs:=XD (min 4 c)) (warm:=w.1) (sh:=0) (c:=c) (n:=n) (s:=w.2)
   omega
theorem Zt5 {kind n d:Nat} {s:IS} (hk:Zdf kind = true):(WY kind n d s).1.length ≤ 8 + n:=by
 have hk:=of_decide_eq_true hk
 unfold WY
 split
 ·simp
 ·split
  ·rw [Zae]; simp
  ·split
   ·exact Zt6 (by omega)
   ·exact Zt6 (by omega)
abbrev BT:=List Int × ((List Int × Int × Unit) × Int × Unit) × Unit
theorem ZTF (k:Nat) {b:List Int} (hb:ZS b = true) (hn:b.length < 268435456) (hk:8 * b.length + 50000 < k) {s:IS} (hs:Zo b s.1) {coefs warm:List Int} (hco:coefs.length ≤ 8192) (hw:warm.length ≤ 8) {sh:Int} {n c:Nat} (hnn:n ≤ 512) :
  ((Zcf k (KR b s.1,(n:Int),(c:Int),())).bind fun y_2 => bif y_2.1.2.1 != (0:Int) then some (([],((y_2.2.1.1,y_2.2.1.2.1,()),y_2.1.2.1,()),()):BT) else (Zcg k ((coefs,sh,()),warm,y_2.1.1,())).bind fun y => some (y.1.1,((y_2.2.1.1,y_2.2.1.2.1,()),y.1.2.1,()),())) =
   some ((Zcp coefs sh c n warm s).1,(KR b (Zcp coefs sh c n warm s).2.1,(Zcp coefs sh c n warm s).2.2,()),()):=by
 refine (Zn (ZIc k hb hn hs hk n c) _).trans ?_
 unfold Zcp
 simp only
 rw [ZL]
 by_cases h:(Ka n c s.1).2.1 = 0
 ·rw [Zk (by simpa using h),if_neg (by simpa using h)]
  have hl:=Zv4 (n:=n) (o:=c) s.1
  exact Zn (ZIe k (by omega) hco (by omega) (by omega)) _
 ·rw [Zc h,if_pos h]
theorem ZOh (k:Nat) {b:List Int} (hb:ZS b = true) (hn:b.length < 268435456) (hk:8 * b.length + 50000 < k) {s:IS} (hs:Zo b s.1) {kind n d:Nat} (hkd:Zdf kind = true) (h1:1 ≤ n) (hnn:n ≤ 512) (hd:d ≤ 32) :
  ZA7 k ((KR b s.1,s.2,()),(kind:Int),(n:Int),(d:Int),()) = some ((WY kind n d s).1,(KR b (WY kind n d s).2.1,(WY kind n d s).2.2,()),()):=by
 show Zlw k _ = _
 simp only [Zlw]
 have hkd:=of_decide_eq_true hkd
 unfold WY
 rw [ZK,ZK]
 by_cases h0:kind = 0
 ·rw [Zc (by omega),if_pos h0]
  refine (Zn (ZcE k hb hn (by omega) hs (w:=d) (n:=1) hd (by omega)) _).trans ?_
  have hl:=Zae (w:=d) 1 s []
  generalize XQ d 1 s [] = w at hl
  obtain ⟨w1,w2⟩:=w
  match w1,hl with
  | [x],_ =>
   refine (Zn (ZH8 k x h1 hnn (by omega)) _).trans ?_
   rfl
 ·rw [Zk (by omega),if_neg h0]
  by_cases hk1:kind = 1
  ·rw [Zc (by omega),if_pos hk1]
   exact Zn (ZcE k hb hn (by omega) hs (w:=d) (n:=n) hd hnn) _
  ·rw [Zk (by omega),if_neg hk1]
   by_cases h31:31 < kind
   ·simp only [Zc (show (31:Int) < (kind:Int) by omega)]
    rw [if_pos h31]
    have ec:IntKind.i64.wrap ((kind:Int) - 31) = ((kind - 31:Nat):Int):=by rw [Qa (by omega)]; omega
    simp only [ec]
    have hc8:kind - 31 ≤ 8:=by omega
    generalize kind - 31 = c at hc8
    have edn:decide ((c:Int) ≤ (n:Int)) = decide (c ≤ n):=by
     by_cases h:c ≤ n
     ·rw [Xj h,Xj (by omega)]
     ·rw [Wr h,Wr (by omega)]
    rw [edn]
    refine (Zn (YK k (s:=s) _) _).trans ?_
    unfold Zh6
    have r1:=QF hs (decide (c ≤ n)) 2
    generalize mI (decide (c ≤ n)) s 2 = s1 at r1 ⊢
    simp only
    rw [ZL]
    by_cases he:s1.2 = 0
    ·rw [Zk (by simpa using he),if_neg (show ¬ s1.2 ≠ 0 by simpa using he)]
     refine (Zn (ZcE k hb hn (by omega) r1 (w:=d) (n:=c) hd (by omega)) _).trans ?_
     have r2:=XR (w:=d) c s1 [] r1
     have hl:=Zae (w:=d) c s1 []
     generalize XQ d c s1 [] = w at r2 hl ⊢
     simp only [List.length_nil,Nat.zero_add] at hl
     have e4:(if (4:Int) < (c:Int) then (4:Int) else (c:Int)) = ((min 4 c:Nat):Int):=by split <;> omega
     simp only
     rw [e4]
     refine (Zn (Zms k (min 4 c) (by omega) (by omega)) _).trans ?_
     unfold ZbE
     rw [if_pos rfl]
     refine (Zn (ZcB k hb hn (by omega) r2 (w:=4) (by omega)) _).trans ?_
     refine (Zn (YK k (s:=(gI 4 w.2).2) _) _).trans ?_
     rw [show ((((gI 4 w.2).1:Nat):Int) == (11:Int)) = ((gI 4 w.2).1 == 11) from Wv _ 11]
     have r3:=Zp4 r2
     change ((YU k ((KR b (Zaq w.2).1,(Zaq w.2).2,()),5,())).bind _) = _
     generalize Zaq w.2 = s3 at r3 ⊢
     refine (Zn (ZcB k hb hn (by omega) r3 (w:=5) (by omega)) _).trans ?_
     refine (Zn (YK k (s:=(gI 5 s3).2) _) _).trans ?_
     have e15:decide ((((gI 5 s3).1:Nat):Int) ≤ 15) = decide ((gI 5 s3).1 ≤ 15):=by
      by_cases h:(gI 5 s3).1 ≤ 15
      ·rw [Xj h,Xj (by omega)]
      ·rw [Wr h,Wr (by omega)]
     rw [e15]
     have r4:=Zp5 r3
     change ((Za1 k ((KR b (Wq s3).2.1,(Wq s3).2.2,()),(c:Int),12,())).bind fun y_6 => bif y_6.2.1.2.1 != (0:Int) then some (([],((y_6.2.1.1.1,y_6.2.1.1.2.1,()),y_6.2.1.2.1,()),()):BT) else (Zcf k ((y_6.2.1.1.1,y_6.2.1.1.2.1,()),(n:Int),(c:Int),())).bind fun y_7 => bif y_7.1.2.1 != (0:Int) then some ([],((y_7.2.1.1,y_7.2.1.2.1,()),y_7.1.2.1,()),()) else (Zcg k ((y_6.1,(((Wq s3).1:Nat):Int),()),w.1,y_7.1.1,())).bind fun y => some (y.1.1,((y_7.2.1.1,y_7.2.1.2.1,()),y.1.2.1,()),())) = _
     generalize (Wq s3).1 = sh
     generalize (Wq s3).2 = s4 at r4 ⊢
     refine (Zn (ZcE k hb hn (by omega) r4 (w:=12) (n:=c) (by omega) (by omega)) _).trans ?_
     have r5:=XR (w:=12) c s4 [] r4
     have hl5:=Zae (w:=12) c s4 []
     generalize XQ 12 c s4 [] = x at r5 hl5 ⊢
     simp only [List.length_nil,Nat.zero_add] at hl5
     unfold ZeA
     simp only
     rw [ZL]
     by_cases hx:x.2.2 = 0
     ·rw [Zk (by simpa using hx),if_neg (by simpa using hx)]
      exact ZTF k hb hn hk r5 (by omega) (by omega) hnn
     ·rw [Zc hx,if_pos hx]
    ·rw [Zc he,if_pos he]
   ·simp only [Zk (show ¬ (31:Int) < (kind:Int) by omega)]
    rw [if_neg h31]
    have ec:IntKind.i64.wrap ((kind:Int) - 8) = ((kind - 8:Nat):Int):=by rw [Qa (by omega)]; omega
    simp only [ec]
    have hc8:kind - 8 ≤ 4:=by omega
    generalize kind - 8 = c at hc8
    have edn:decide ((c:Int) ≤ (n:Int)) = decide (c ≤ n):=by
     by_cases h:c ≤ n
     ·rw [Xj h,Xj (by omega)]
     ·rw [Wr h,Wr (by omega)]
    rw [edn]
    refine (Zn (YK k (s:=s) _) _).trans ?_
    unfold Zh6
    have r1:=QF hs (decide (c ≤ n)) 2
    generalize mI (decide (c ≤ n)) s 2 = s1 at r1 ⊢
    simp only
    rw [ZL]
    by_cases he:s1.2 = 0
    ·rw [Zk (by simpa using he),if_neg (show ¬ s1.2 ≠ 0 by simpa using he)]
     refine (Zn (ZcE k hb hn (by omega) r1 (w:=d) (n:=c) hd (by omega)) _).trans ?_
     have r2:=XR (w:=d) c s1 [] r1
     have hl:=Zae (w:=d) c s1 []
     generalize XQ d c s1 [] = w at r2 hl ⊢
     simp only [List.length_nil,Nat.zero_add] at hl
     have e4:(if (4:Int) < (c:Int) then (4:Int) else (c:Int)) = ((min 4 c:Nat):Int):=by split <;> omega
     simp only
     rw [e4]
     refine (Zn (Zms k (min 4 c) (by omega) (by omega)) _).trans ?_
     unfold ZbE
     rw [if_neg (by simp)]
     simp only
     rw [ZL]
     by_cases hx:w.2.2 = 0
     ·rw [Zk (by simpa using hx),if_neg (by simpa using hx)]
      exact ZTF k hb hn hk r2 (by rw [ZsA _ (by omega)]; omega) (by omega) hnn
     ·rw [Zc hx,if_pos hx]
    ·rw [Zc he,if_pos he]
def QT (n d:Nat) (r:List Bool):List Int × Int × List Bool :=
 if ¬ (1 ≤ n ∧ n ≤ 512 ∧ 4 ≤ d ∧ d ≤ 25) then ([],1,r)
 else if (ZW d (r,0)).2.2.2 ≠ 0 then ([],(ZW d (r,0)).2.2.2,(ZW d (r,0)).2.2.1)
 else if (WY (ZW d (r,0)).1 n (d - (ZW d (r,0)).2.1) (ZW d (r,0)).2.2).2.2 ≠ 0 then ([],(WY (ZW d (r,0)).1 n (d - (ZW d (r,0)).2.1) (ZW d (r,0)).2.2).2.2,(WY (ZW d (r,0)).1 n (d - (ZW d (r,0)).2.1) (ZW d (r,0)).2.2).2.1)
 else if (WY (ZW d (r,0)).1 n (d - (ZW d (r,0)).2.1) (ZW d (r,0)).2.2).1.all (Xp · (d - (ZW d (r,0)).2.1)) = true then
  ((WY (ZW d (r,0)).1 n (d - (ZW d (r,0)).2.1) (ZW d (r,0)).2.2).1.map (fun x => x * 2 ^ (ZW d (r,0)).2.1),0,(WY (ZW d (r,0)).1 n (d - (ZW d (r,0)).2.1) (ZW d (r,0)).2.2).2.1)
 else ([],12,(WY (ZW d (r,0)).1 n (d - (ZW d (r,0)).2.1) (ZW d (r,0)).2.2).2.1)
theorem Zt1 {b:List Int} {r:List Bool} (h:Zo b r) (n d:Nat):Zo b (QT n d r).2.2:=by
 unfold QT
 have h1:=Zl2 (s:=(r,0)) h d
 repeat' split
 all_goals first | exact h | exact h1 | exact ZCB h1
theorem ZGX {x:Int} {d k:Nat} (hk:k < d) (hd:d ≤ 32) (h:Xp x (d - k) = true):Xp (x * 2 ^ k) d = true ∧ -9223372036854775808 ≤ x * 2 ^ k ∧ x * 2 ^ k ≤ 9223372036854775807:=by
 unfold Xp at h ⊢
 rw [if_neg (by omega),decide_eq_true_eq] at h
 rw [if_neg (by omega),decide_eq_true_eq]
 have hp:(0:Int) < 2 ^ k:=Int.pow_pos (by omega)
 have e:(2:Int) ^ (d - 1) = 2 ^ (d - k - 1) * 2 ^ k:=by rw [← Int.pow_add]; congr 1; omega
 have h1 : -(2 ^ (d - 1):Int) ≤ x * 2 ^ k:=by rw [e,← Int.neg_mul]; exact Int.mul_le_mul_of_nonneg_right h.1 (by omega)
 have h2:x * 2 ^ k < 2 ^ (d - 1):=by rw [e]; exact Int.mul_lt_mul_of_pos_right h.2 hp
 refine ⟨⟨h1,h2⟩,?_⟩
 rw [WF (d - 1)] at h1 h2
 have:2 ^ (d - 1) ≤ 2 ^ 31:=Nat.pow_le_pow_right (by omega) (by omega)
 generalize 2 ^ (d - 1) = Q at h1 h2 this
 omega
theorem ZNF (k:Nat) {b:List Int} (hb:ZS b = true) (hn:b.length < 268435456) (hk:8 * b.length + 50000 < k) {r:List Bool} (hr:Zo b r) (n d:Nat) :
  ZAQ k (KR b r,(n:Int),(d:Int),()) = some (((QT n d r).1,(QT n d r).2.1,()),KR b (QT n d r).2.2,()):=by
 show Zk5 k (ZxQ k) _ = _
 simp only [Zk5]
 rw [ZA5]
 simp only [Z1]
 unfold QT
 by_cases h:1 ≤ n ∧ n ≤ 512 ∧ 4 ≤ d ∧ d ≤ 25
 ·rw [if_neg (by simpa using h),Xj (by omega)]
  simp only [Bool.not_true,cond_false]
  refine (Zn (ZOg k hb hn (by omega) (s:=(r,0)) hr d) _).trans ?_
  have hz:=Zl3 (d:=d) (s:=(r,0))
  have r1:=Zl2 (s:=(r,0)) hr d
  generalize ZW d (r,0) = hd at hz r1 ⊢
  obtain ⟨kind,kk,s1⟩:=hd
  simp only at hz r1 ⊢
  rw [ZL]
  by_cases he:s1.2 = 0
  ·rw [Zk (by simpa using he),if_neg (by simpa using he)]
   obtain ⟨hkd,hkind⟩:=hz he
   have e1:IntKind.i64.wrap ((d:Int) - (kk:Int)) = ((d - kk:Nat):Int):=by rw [Qa (by omega)]; omega
   rw [e1]
   refine (Zn (ZOh k hb hn hk r1 hkind h.1 h.2.1 (d:=d - kk) (by omega)) _).trans ?_
   have hl:=Zt5 (kind:=kind) (n:=n) (d:=d - kk) (s:=s1) hkind
   generalize WY kind n (d - kk) s1 = y at hl ⊢
   simp only
   rw [ZL]
   by_cases hy:y.2.2 = 0
   ·rw [Zk (by simpa using hy),if_neg (by simpa using hy)]
    have:=Zz (A:=List Int) (R:=(List Int × Int × Unit) × (List Int × Int × Unit) × Unit) (step:=fun L1 => ZfC k L1)
     (fun i out => (Int.ofNat y.1.length,Int.ofNat i,y.1,(d:Int),(kk:Int),b,((ZX b y.2.1:Nat):Int),out)) y.1
     (fun l' out => some (if l'.all (Xp · (d - kk)) = true then ((out ++ l'.map (fun x => x * 2 ^ kk),0,()),KR b y.2.1,()) else (([],12,()),KR b y.2.1,())))
     (fun i out => out.length = i)
     (fun L out _ => by simp only [ZfC]; rw [Zk (Q3 _)]; simp)
     (fun L i hi out ho hL => by
      simp only [ZfC]
      rw [Zc (ltR hi),Zc (Kh hi),ZM hi,e1,ZA8 k _ (by omega) (by omega)]
      simp only [Z1]
      rw [List.all_cons]
      cases hs:Xp y.1[i] (d - kk) with
      | false => simp
      | true =>
       simp only [Bool.not_true,cond_false,Bool.true_and]
       have hsh:=(ZGX hkd (by omega) hs).2
       rw [Zc (by omega),Xm,Nat.min_eq_left (by omega),Qa hsh,Zc (by simp only [List.length_singleton]; omega),Qr hi (by omega),hL _ (by simp; omega)]
       simp only [List.map_cons,List.append_assoc,List.singleton_append])
     k 0 [] rfl (by omega) (Nat.zero_le _)
    rw [List.drop_zero] at this
    refine Eq.trans this ?_
    split <;> simp
   ·rw [Zc hy,if_pos hy]
  ·rw [Zc he,if_pos he]
 ·rw [if_pos h,Wr (by omega)]
  rfl
end Go.Sh
namespace Go.Sh
open Go Go.Proofs
def Kz (x:Nat):Nat:=if x < 128 then 0 else if x < 192 then 1 else if x < 224 then 2 else if x < 240 then 3 else if x < 248 then 4 else if x < 252 then 5 else if x < 254 then 6 else if x < 255 then 7 else 8
theorem ZOR:∀ x:Fin 256,ZmP 0 (IntKind.u8.wrap (Int.ofNat (BitVec.ofInt 8 255 ^^^ BitVec.ofInt 8 (x.val:Int)).toNat),()) = some (((Kz x.val:Nat):Int),()):=by decide +kernel
theorem ZIA (k:Nat) {x:Nat} (h:x < 256):ZmP k (IntKind.u8.wrap (Int.ofNat (BitVec.ofInt 8 255 ^^^ BitVec.ofInt 8 (x:Int)).toNat),()) = some (((Kz x:Nat):Int),()):=ZOR ⟨x,h⟩
theorem ZGM (x:Nat):Kz x ≤ 8:=by
 unfold Kz
 repeat' split
 all_goals omega
theorem ZOF:∀ (x:Fin 256) (k:Fin 8),IntKind.i64.wrap (Int.ofNat (BitVec.ofInt 64 (IntKind.i64.wrap (x.val:Int)) &&& BitVec.ofInt 64 (Int.fdiv (127:Int) ((2:Int) ^ min k.val 64))).toNat) = ((x.val % 2 ^ (7 - k.val):Nat):Int):=by decide +kernel
def cgL:Nat → List Int → Nat → Nat → Option (Nat × Nat)
 | 0,_,a,g => some (a,g)
 | n + 1,[],a,g => cgL n [] (a * 64) (g * 64 + 63)
 | n + 1,x :: xs,a,g => if x.toNat / 64 = 2 then cgL n xs (a * 64 + x.toNat % 64) (g * 64 + x.toNat % 64) else none
def ZeN (b:List Int):Nat × Nat × Int:=match b with
 | [] => (0,0,10)
 | x :: xs => if Kz x.toNat = 0 then (x.toNat,1,0) else if Kz x.toNat = 1 then (0,0,2) else if 7 < Kz x.toNat then (0,0,2)
  else match cgL (Kz x.toNat - 1) xs (x.toNat % 2 ^ (7 - Kz x.toNat)) (x.toNat % 2 ^ (7 - Kz x.toNat)) with
   | none => (0,0,2)
   | some (a,g) => if g < 2 ^ Yk (Kz x.toNat - 1) then (0,0,2) else if xs.length + 1 < Kz x.toNat then (0,0,10) else (a,Kz x.toNat,0)
theorem ZSU {a m:Nat} (ha:a < 1125899906842624) (hm:m < 64):IntKind.i64.wrap (Int.ofNat (BitVec.ofInt 64 (IntKind.i64.wrap ((a:Int) * 64)) ||| BitVec.ofInt 64 (m:Int)).toNat) = ((a * 64 + m:Nat):Int):=by
 have h1:IntKind.i64.wrap ((a:Int) * 64) = ((a * 64:Nat):Int):=by rw [Qa (by omega)]; omega
 rw [h1,orN (by omega) (by omega)]
 have:=Nat.shiftLeft_add_eq_or_of_lt (i:=6) (show m < 2 ^ 6 from hm) a
 rw [Nat.shiftLeft_eq] at this
 rw [show a * 64 = a * 2 ^ 6 from rfl,← this,Qa (by omega)]
theorem ZWT {x:Nat} (hx:x < 256):IntKind.i64.wrap (Int.ofNat (BitVec.ofInt 64 (IntKind.i64.wrap (x:Int)) &&& BitVec.ofInt 64 63).toNat) = ((x % 64:Nat):Int):=by
 rw [Qa (n:=(x:Int)) (by omega),show (63:Int) = ((63:Nat):Int) from rfl,ZG7 (by omega) (by omega),show (63:Nat) = 2 ^ 6 - 1 from rfl,Nat.and_two_pow_sub_one_eq_mod,Qa (by omega)]
theorem ZH1 (k:Nat) {b:List Int} (hb:ZS b = true) {kk:Nat} (h2:2 ≤ kk) (h7:kk ≤ 7):∀ (d m i a g:Nat),i + d = kk → 1 ≤ i → d < m → a < 2 ^ (6 * i + 6) → g < 2 ^ (6 * i + 6) →
  Zm (fun L1 => ZcA k L1) m ((i:Int),(kk:Int),b,(a:Int),(g:Int)) = some (match cgL d (b.drop i) a g with
   | none => (0,0,2,())
   | some (a,g) => if g < 2 ^ Yk (kk - 1) then (0,0,2,()) else if b.length < kk then (0,0,10,()) else ((a:Int),(kk:Int),0,()),()):=by
 intro d
 induction d with
 | zero =>
  intro m i a g hi h1 hm ha hg
  obtain ⟨m,rfl⟩:=ZD hm
  rw [Ze]
  simp only [ZcA]
  have e1:IntKind.i64.wrap ((kk:Int) - 1) = ((kk - 1:Nat):Int):=by rw [Qa (by omega)]; omega
  rw [Zk (by omega),e1,Zst k (kk - 1) (by omega)]
  simp only [Z1,cgL]
  have hr:Yk (kk - 1) ≤ 31:=by unfold Yk; split <;> omega
  rw [Zc (by omega),Zpy hr]
  by_cases hlt:g < 2 ^ Yk (kk - 1)
  ·rw [Zc (by omega),if_pos hlt]
  ·rw [Zk (by omega),if_neg hlt]
   by_cases hl:b.length < kk
   ·rw [Zc (by simp only [Qv]; omega),if_pos hl]
   ·rw [Zk (by simp only [Qv]; omega),if_neg hl]
 | succ d ih =>
  intro m i a g hi h1 hm ha hg
  obtain ⟨m,rfl⟩:=ZD (show 0 < m by omega)
  rw [Ze]
  simp only [ZcA]
  have hpow:2 ^ (6 * i + 6) ≤ 2 ^ 42:=Nat.pow_le_pow_right (by omega) (by omega)
  have hnext:2 ^ (6 * (i + 1) + 6) = 64 * 2 ^ (6 * i + 6):=by rw [show 6 * (i + 1) + 6 = (6 * i + 6) + 6 by omega,Nat.pow_add]; omega
  have e2:IntKind.i64.wrap ((i:Int) + 1) = ((i + 1:Nat):Int):=by rw [Qa (by omega)]; rfl
  rw [Zc (by omega)]
  by_cases hlt:i < b.length
  ·obtain ⟨x,hx,hxe⟩:=ZaW hb hlt
   rw [Zc (by simp only [Qv]; omega),Zc (by simp only [Qv]; omega),Xm,Xc hlt,hxe,List.drop_eq_getElem_cons hlt,hxe]
   have hd:((x:Nat):Int).fdiv 64 = ((x / 64:Nat):Int):=by rw [Int.fdiv_eq_ediv_of_nonneg _ (by omega)]; rfl
   rw [hd,ZL]
   simp only [cgL,Xm]
   by_cases h64:x / 64 = 2
   ·rw [Zk (by omega),if_pos h64,Zc (by simp only [Qv]; omega),ZWT hx,ZSU (by omega) (by omega),ZSU (by omega) (by omega),e2]
    exact ih m (i + 1) _ _ (by omega) (by omega) (by omega) (by omega) (by omega)
   ·rw [Zc (by omega),if_neg h64]
  ·rw [Zk (by simp only [Qv]; omega),show (0:Int) = ((0:Nat):Int) from rfl,show (63:Int) = ((63:Nat):Int) from rfl,ZSU (by omega) (by omega),ZSU (by omega) (by omega),e2]
   have hd0:b.drop i = []:=List.drop_eq_nil_of_le (by omega)
   have hd1:b.drop (i + 1) = []:=List.drop_eq_nil_of_le (by omega)
   have:=ih m (i + 1) (a * 64 + 0) (g * 64 + 63) (by omega) (by omega) (by omega) (by omega) (by omega)
   rw [hd1] at this
   rw [hd0]
   exact this
theorem ZH2 (k:Nat) {b:List Int} (hb:ZS b = true) (hk:20 < k):Zqp k (b,()) = some (((((ZeN b).1:Nat):Int),(((ZeN b).2.1:Nat):Int),(ZeN b).2.2,()),()):=by
 show ZgT k (ZoH k) _ = _
 simp only [ZgT]
 match b,hb with
 | [],_ => rfl
 | x :: xs,hb =>
  obtain ⟨y,hy,hye⟩:=ZaW hb (i:=0) (by simp)
  simp only [List.getElem_cons_zero] at hye
  subst hye
  rw [show (Int.ofNat ((y:Int) :: xs).length == (0:Int)) = false from by rw [ZK,Wr]; simp only [Qv,List.length_cons]; omega]
  simp only [cond_false]
  have hpos:(0:Int) ≤ 0 ∧ (0:Int) < Int.ofNat ((y:Int) :: xs).length:=by simp only [Qv,List.length_cons]; omega
  rw [Zc hpos,show ((y:Int) :: xs).getD 0 0 = (y:Int) from rfl,ZIA k hy]
  simp only [Z1]
  unfold ZeN
  simp only [Xm]
  have h8:=ZGM y
  rw [ZK]
  by_cases h0:Kz y = 0
  ·rw [Zc (by omega),Zc hpos,if_pos h0,Qa (by omega)]
   rfl
  ·rw [Zk (by omega),if_neg h0,ZK]
   by_cases h1:Kz y = 1
   ·rw [Zc (by omega),if_pos h1]
    rfl
   ·rw [Zk (by omega),if_neg h1]
    by_cases h7:7 < Kz y
    ·rw [Zc (by omega),if_pos h7]
     rfl
    ·rw [Zk (by omega),if_neg h7,Zc hpos,Zc (by omega),Zc hpos,Zc (by omega)]
     have hm:=ZOF ⟨y,hy⟩ ⟨Kz y,by omega⟩
     simp only at hm
     rw [hm]
     have hlt:y % 2 ^ (7 - Kz y) < 2 ^ (6 * 1 + 6):=Nat.lt_of_le_of_lt (Nat.mod_le _ _) (by omega)
     refine (ZH1 k hb (kk:=Kz y) (by omega) (by omega) (Kz y - 1) k 1 _ _ (by omega) (by omega) (by omega) hlt hlt).trans ?_
     rw [show ((y:Int) :: xs).drop 1 = xs from rfl]
     cases cgL (Kz y - 1) xs (y % 2 ^ (7 - Kz y)) (y % 2 ^ (7 - Kz y)) with
     | none => rfl
     | some ag =>
      obtain ⟨a,g⟩:=ag
      simp only [List.length_cons]
      by_cases hg:g < 2 ^ Yk (Kz y - 1)
      ·rw [if_pos hg,if_pos hg]; rfl
      ·rw [if_neg hg,if_neg hg]
       by_cases hl:xs.length + 1 < Kz y
       ·rw [if_pos hl,if_pos hl]; rfl
       ·rw [if_neg hl,if_neg hl]
def tgL (m x y:Int):Int:=if m = 9 then x + y else if m = 10 then (2 * x + y % 2 + y) / 2 else x
def tgR (m x y:Int):Int:=if m = 8 then x - y else if m = 10 then (2 * x + y % 2 - y) / 2 else y
theorem ZWn {x y:Int} (hx:Qy x) (hy:Qy y):IntKind.i64.wrap (Int.ofNat (BitVec.ofInt 64 (IntKind.i64.wrap (x * 2)) ||| BitVec.ofInt 64 (IntKind.i64.wrap (Int.ofNat (BitVec.ofInt 64 y &&& BitVec.ofInt 64 1).toNat))).toNat) = 2 * x + y % 2:=by
 unfold Qy at hx hy
 have e1:IntKind.i64.wrap (Int.ofNat (BitVec.ofInt 64 y &&& BitVec.ofInt 64 1).toNat) = (((y % 2).toNat:Nat):Int):=by
  rw [BitVec.toNat_and,Zag,show (BitVec.ofInt 64 1).toNat = 1 from rfl,Nat.and_one_is_mod]
  have:ZaH y % 2 = (y % 2).toNat:=by unfold ZaH; omega
  rw [this,Qa (by simp only [Qv]; omega)]
  rfl
 rw [e1,Qa (n:=x * 2) (by omega),BitVec.toNat_or,Zag,Zag]
 have e2:ZaH (((y % 2).toNat:Nat):Int) = (y % 2).toNat:=by unfold ZaH; omega
 obtain ⟨q,hq⟩:∃ q,ZaH (x * 2) = q * 2:=⟨ZaH (x * 2) / 2,by unfold ZaH; omega⟩
 have hb:(y % 2).toNat < 2 ^ 1:=by omega
 have:=Nat.shiftLeft_add_eq_or_of_lt hb q
 rw [Nat.shiftLeft_eq] at this
 rw [e2,hq,show q * 2 = q * 2 ^ 1 from rfl,← this]
 have h3:q * 2 = ZaH (x * 2):=hq.symm
 unfold ZaH at h3
 rw [IntKind.wrap_i64]
 simp only [Qv]
 omega
def Zh4 (m:Int) (A B:List Int):List Int:=(A.zip B).map fun x => tgL m x.1 x.2
def Zh5 (m:Int) (A B:List Int):List Int:=(A.zip B).map fun x => tgR m x.1 x.2
def Y0 (x:Int):Bool:=decide (-16777216 ≤ x ∧ x ≤ 16777216)
theorem ZSk (k:Nat) {L R:List Int} (hk:L.length < k) (h:L.length = R.length) (hn:L.length ≤ 8192) :
  Zsl k (L,R,()) = some (if (L.zip R).all (fun x => Y0 x.1 && Y0 x.2) = true then (Zf1 L R,0,()) else ([],12,()),()):=by
 show Zc7 k (Zsm k) _ = _
 simp only [Zc7]
 rw [show (Int.ofNat L.length != Int.ofNat R.length) = false from by rw [h]; simp]
 simp only [cond_false]
 rw [Zk (by simp only [Qv]; omega)]
 have:=Zz (A:=List (Nat × Nat)) (step:=fun L1 => K9 k L1) (fun i acc => (Int.ofNat L.length,Int.ofNat i,L,R,acc)) (L.zip R)
  (fun l acc => some (if l.all (fun x => Y0 x.1 && Y0 x.2) = true then (acc ++ l.map (fun x => (FloatKind.f64.nearest x.1,FloatKind.f64.nearest x.2)),0,()) else ([],12,()),())) (fun i acc => acc.length = i)
  (fun L1 acc ha => by
   simp only [K9]
   rw [List.length_zip,← h,Nat.min_self,Zk (Q3 _)]
   simp)
  (fun L1 i hi acc ha hL1 => by
   have hi2:i < L.length:=by simp at hi; omega
   have hi3:i < R.length:=by omega
   simp only [K9]
   rw [Zc (ltR hi2),Zc (Kh hi2),Zc (Kh hi3),ZM hi2,ZM hi3,List.all_cons,List.getElem_zip]
   have hok:∀ x:Int,Y0 x = true ↔ (¬ x < -16777216 ∧ ¬ 16777216 < x):=by intro x; unfold Y0; rw [decide_eq_true_eq]; omega
   by_cases h1:L[i] < -16777216
   ·have:Y0 L[i] = false:=by rw [Bool.eq_false_iff]; intro hh; exact ((hok _).1 hh).1 h1
    rw [Zc h1,this]; rfl
   ·rw [Zk h1]
    by_cases h2:16777216 < L[i]
    ·have:Y0 L[i] = false:=by rw [Bool.eq_false_iff]; intro hh; exact ((hok _).1 hh).2 h2
     rw [Zc h2,this]; rfl
    ·have hl:Y0 L[i] = true:=(hok _).2 ⟨h1,h2⟩
     rw [Zk h2]
     by_cases h3:R[i] < -16777216
     ·have:Y0 R[i] = false:=by rw [Bool.eq_false_iff]; intro hh; exact ((hok _).1 hh).1 h3
      rw [Zc h3,hl,this]; rfl
     ·rw [Zk h3]
      by_cases h4:16777216 < R[i]
      ·have:Y0 R[i] = false:=by rw [Bool.eq_false_iff]; intro hh; exact ((hok _).1 hh).2 h4
       rw [Zc h4,hl,this]; rfl
      ·have hr:Y0 R[i] = true:=(hok _).2 ⟨h3,h4⟩
       rw [Zk h4,Zc (by simp; omega),Qr hi2 (by omega),hL1 _ (by simp [ha]),hl,hr]
       simp only [Bool.true_and,Bool.and_true,List.map_cons,List.append_assoc,List.singleton_append]) k 0 [] rfl (by simp; omega) (Nat.zero_le _)
 exact Eq.trans this (by rw [List.drop_zero]; rfl)
theorem ZPl {m x y:Int} (hm:ZlG m) (hx:Qy x) (hy:Qy y) : -300000000 ≤ tgL m x y ∧ tgL m x y ≤ 300000000 ∧ -300000000 ≤ tgR m x y ∧ tgR m x y ≤ 300000000:=by
 unfold Qy at hx hy
 unfold tgL tgR
 rcases hm with rfl | rfl | rfl | rfl
 ·simp; omega
 ·simp; omega
 ·simp; omega
 ·simp; omega
def Q5 (m:Int) (A B:List Int):List (Nat × Nat) × Int :=
 if A.length ≠ B.length then ([],1) else if ((Zh4 m A B).zip (Zh5 m A B)).all (fun x => Y0 x.1 && Y0 x.2) = true then (Zf1 (Zh4 m A B) (Zh5 m A B),0) else ([],12)
theorem ZBM {xs:List Int} {g:List Int} {i:Nat} {v:Int} (h:i < xs.length) (hx:∀ j (h:j < i),xs[j]? = g[j]?) (hv:g[i]? = some v):∀ j,j < i + 1 → (xs.set i v)[j]? = g[j]? := by
 intro j hj
 rw [List.getElem?_set]
 split
 ·rename_i e; subst e; rw [hv]; try rw [if_pos h]
 ·exact hx j (by omega)
theorem ZNL (k:Nat) {A B:List Int} {m:Int} (hm:ZlG m) (hn:A.length ≤ 600) (hk:1000 < k) (hA:∀ x ∈ A,Qy x) (hB:∀ x ∈ B,Qy x) :
  Zsi k (A,B,m,()) = some (((Q5 m A B).1,(Q5 m A B).2,()),()):=by
 show Zk8 k (ZxV k) _ = _
 simp only [Zk8]
 rw [ZBa k hm]
 simp only [Z1,Bool.not_true,cond_false]
 by_cases hl:A.length = B.length
 case neg =>
  rw [ZL,Zc (by simp only [Qv]; omega)]
  unfold Q5
  rw [if_pos hl]
 rw [show (Int.ofNat A.length != Int.ofNat B.length) = false from by rw [hl]; simp]
 simp only [cond_false]
 rw [Zk (by simp only [Qv]; omega),Zc (by simp only [Qv]; omega),Zc (by simp only [Qv]; omega)]
 have hzl:(A.zip B).length = A.length:=by rw [List.length_zip]; omega
 have hLl:(Zh4 m A B).length = A.length:=by unfold Zh4; rw [List.length_map,hzl]
 have hRl:(Zh5 m A B).length = A.length:=by unfold Zh5; rw [List.length_map,hzl]
 have hgL:∀ (i:Nat) (h:i < A.length),(Zh4 m A B)[i]? = some (tgL m A[i] (B[i]'(by omega))):=by
  intro i h
  rw [List.getElem?_eq_getElem (by omega)]
  unfold Zh4
  rw [List.getElem_map,List.getElem_zip]
 have hgR:∀ (i:Nat) (h:i < A.length),(Zh5 m A B)[i]? = some (tgR m A[i] (B[i]'(by omega))):=by
  intro i h
  rw [List.getElem?_eq_getElem (by omega)]
  unfold Zh5
  rw [List.getElem_map,List.getElem_zip]
 have:=Zz (A:=List Int × List Int) (R:=(List (Nat × Nat) × Int × Unit) × Unit) (step:=fun L1 => Zc6 k L1)
  (fun i a => (Int.ofNat A.length,Int.ofNat i,A,B,m,a.1,a.2)) A
  (fun l' a => some (((Q5 m A B).1,(Q5 m A B).2,()),()))
  (fun i a => a.1.length = A.length ∧ a.2.length = A.length ∧ (∀ j,j < i → a.1[j]? = (Zh4 m A B)[j]?) ∧ (∀ j,j < i → a.2[j]? = (Zh5 m A B)[j]?))
  (fun L a ha => by
   simp only [Zc6]
   rw [Zk (Q3 _)]
   have e1:a.1 = Zh4 m A B:=by
    apply List.ext_getElem?
    intro j
    by_cases hj:j < A.length
    ·exact ha.2.2.1 j hj
    ·rw [List.getElem?_eq_none (by omega),List.getElem?_eq_none (by omega)]
   have e2:a.2 = Zh5 m A B:=by
    apply List.ext_getElem?
    intro j
    by_cases hj:j < A.length
    ·exact ha.2.2.2 j hj
    ·rw [List.getElem?_eq_none (by omega),List.getElem?_eq_none (by omega)]
   rw [e1,e2,ZSk k (by omega) (by omega) (by omega)]
   simp only [Z1]
   unfold Q5
   rw [if_neg (show ¬ A.length ≠ B.length from fun h => h hl)]
   split <;> rfl)
  (fun L i hi a ha hL => by
   have hi2:i < B.length:=by omega
   have hx:=hA A[i] (List.getElem_mem hi)
   have hy:=hB B[i] (List.getElem_mem hi2)
   have hbd:=ZPl hm hx hy
   have key:Zc6 k L (Int.ofNat A.length,Int.ofNat i,A,B,m,a.1,a.2) = L (Int.ofNat A.length,Int.ofNat (i + 1),A,B,m,a.1.set i (tgL m A[i] B[i]),a.2.set i (tgR m A[i] B[i])):=by
    have hor:=ZWn hx hy
    unfold Qy at hx hy
    simp only [Zc6]
    rw [Zc (ltR hi),Zc (Kh hi),Zc (Kh hi2),ZM hi,ZM hi2,Zk (by split <;> omega),Zk (by split <;> omega)]
    have c1:(0:Int) ≤ Int.ofNat i ∧ Int.ofNat i < Int.ofNat a.1.length:=by rw [ha.1]; exact Kh hi
    have c2:(0:Int) ≤ Int.ofNat i ∧ Int.ofNat i < Int.ofNat a.2.length:=by rw [ha.2.1]; exact Kh hi
    have c3:(Int.ofNat i).toNat < a.1.length:=by rw [ha.1]; simpa using hi
    have c4:(Int.ofNat i).toNat < a.2.length:=by rw [ha.2.1]; simpa using hi
    rw [ZK,ZK,ZK,ZK]
    simp only [Xj c1,Xj c2,Xj c3,Xj c4,cond_true]
    rw [hor,Qr hi (by omega)]
    unfold tgL tgR
    rcases hm with rfl | rfl | rfl | rfl
    ·rfl
    ·rw [Qa (n:=A[i] - B[i]) (by omega)]; rfl
    ·rw [Qa (n:=A[i] + B[i]) (by omega)]; rfl
    ·rw [Qa (n:=2 * A[i] + B[i] % 2 + B[i]) (by omega),Qa (n:=2 * A[i] + B[i] % 2 - B[i]) (by omega),Int.fdiv_eq_ediv_of_nonneg _ (by omega),Int.fdiv_eq_ediv_of_nonneg _ (by omega)]
     rfl
   rw [key]
   exact hL (a.1.set i (tgL m A[i] B[i]),a.2.set i (tgR m A[i] B[i])) ⟨by simp [ha.1],by simp [ha.2.1],ZBM (by omega) ha.2.2.1 (hgL i hi),ZBM (by omega) ha.2.2.2 (hgR i hi)⟩)
  k 0 (List.replicate A.length 0,List.replicate A.length 0) ⟨by simp,by simp,fun j hj => by omega,fun j hj => by omega⟩ (by omega) (Nat.zero_le _)
 exact this
theorem ZNM (k:Nat) {p:List (Nat × Nat)} {L R:List Int} (hp:PP p L R) (hk:p.length + 4 < k) (hn:p.length ≤ 8192):Zsk k (p,()) = some ((L,R,0,()),()):=by
 show Zk9 k _ = _
 simp only [Zk9]
 rw [Zsp k hp hk hn (.inl rfl)]
 have hlr:L.length = R.length:=by rw [← hp.hl,hp.hr]
 have e1:WW 0 L R = L:=by
  unfold WW
  show (L.zip R).map (fun x => x.1) = L
  exact List.map_fst_zip (by omega)
 have e2:WX 0 L R = R:=by
  unfold WX
  show (L.zip R).map (fun x => x.2) = R
  exact List.map_snd_zip (by omega)
 rw [e1,e2]
 rfl
end Go.Sh
namespace Go.Sh
open Go Go.Proofs
abbrev InT:=List Int × (List Int × Int × Unit) × Int × Unit
abbrev inp (b:List Int) (s:IS):InT:=(b,KR b s.1,s.2,())
theorem Ya (k:Nat) {b:List Int} (hb:ZS b = true) (hn:b.length < 268435456) (hk:100 < k) {s:IS} (hs:Zo b s.1) {w:Nat} (hw:w ≤ 32) :
  WB k (inp b s,(w:Int),()) = some ((((gI w s).1:Nat):Int),inp b (gI w s).2,()):=by
 show Zlq k _ = _
 simp only [Zlq]
 unfold gI
 rw [ZK]
 by_cases h:s.2 = 0
 ·rw [Zc h,if_pos h,YJ k hb (by omega) hs hw hk]
  rfl
 ·rw [Zk h,if_neg h]
  rfl
theorem WA (k:Nat) {b:List Int} {s:IS} (ok:Bool) (code:Int):Q9 k (inp b s,ok,code,()) = some ((),inp b (mI ok s code),()):=by
 show Zlp k _ = _
 simp only [Zlp]
 unfold mI
 rw [ZK]
 by_cases h:s.2 = 0
 ·rw [Zc h]
  cases ok with
  | false => rw [if_pos ⟨h,rfl⟩]; rfl
  | true => rw [if_neg (by simp)]; rfl
 ·rw [Zk h,if_neg (fun hh => h hh.1)]
def ZeF (c:Int) (m:Nat):Bool:=if c = 1 then m == 0 else m == 1 || (decide (8 ≤ m) && decide (m ≤ 10))
theorem ZOc (k:Nat) (c d r:Int) (m:Nat):Zsv k ((c,d,r,()),(m:Int),()) = some (ZeF c m,()):=by
 show Zlr k _ = _
 simp only [Zlr]
 unfold ZeF
 rw [ZK,show ((m:Int) == (0:Int)) = (m == 0) from Wv m 0,show ((m:Int) == (1:Int)) = (m == 1) from Wv m 1]
 by_cases h:c = 1
 ·rw [Zc h,if_pos h]
 ·rw [Zk h,if_neg h]
  cases m == 1 with
  | true => rfl
  | false =>
   simp only [cond_false,Bool.false_or]
   by_cases h8:8 ≤ m
   ·rw [Zc (by omega),Xj h8,Bool.true_and]
    by_cases h10:m ≤ 10
    ·rw [Xj h10,Xj (by omega)]
    ·rw [Wr h10,Wr (by omega)]
   ·rw [Zk (by omega),Wr h8,Bool.false_and]
def Zv9:Nat → IS → IS
 | 0,s => s
 | n + 1,s => Zv9 n (gI 8 s).2
theorem Zto {b:List Int}:∀ (n:Nat) (s:IS),Zo b s.1 → Zo b (Zv9 n s).1
 | 0,s,h => h
 | n + 1,s,h => Zto n _ (QJ h 8)
def ZlL (b:List Int) (s:IS):Nat × IS :=
 if s.2 ≠ 0 then (0,s) else ((ZeN (b.drop (ZX b s.1 / 8))).1,mI (decide ((ZeN (b.drop (ZX b s.1 / 8))).1 ≤ 2147483647)) (Zv9 (ZeN (b.drop (ZX b s.1 / 8))).2.1 (s.1,(ZeN (b.drop (ZX b s.1 / 8))).2.2)) 2)
theorem ZvR {b:List Int} {s:IS} (h:Zo b s.1):Zo b (ZlL b s).2.1:=by
 unfold ZlL
 split
 ·exact h
 ·exact QF (Zto (ZeN (b.drop (ZX b s.1 / 8))).2.1 (s.1,(ZeN (b.drop (ZX b s.1 / 8))).2.2) h) _ _
theorem Zzs {b:List Int} (h:ZS b = true) (i:Nat):ZS (b.drop i) = true :=
 List.all_eq_true.2 fun x hx => List.all_eq_true.1 h x (List.mem_of_mem_drop hx)
theorem ZnI {b:List Int} (h:ZS b = true) (i:Nat):ZS (b.take i) = true :=
 List.all_eq_true.2 fun x hx => List.all_eq_true.1 h x (List.mem_of_mem_take hx)
theorem ZJv (b:List Int):(ZeN b).2.1 ≤ 8:=by
 unfold ZeN
 split
 ·simp
 ·rename_i x xs
  have:=ZGM x.toNat
  repeat' split
  all_goals simp
  all_goals omega
theorem ZOf (k:Nat) {b:List Int} (hb:ZS b = true) (hn:b.length < 268435456) (hk:1000 < k) {s:IS} (hs:Zo b s.1) :
  Zls k (inp b s,()) = some ((((ZlL b s).1:Nat):Int),inp b (ZlL b s).2,()):=by
 show Zlt k (Zym k) _ = _
 simp only [Zlt]
 unfold ZlL
 rw [ZL]
 by_cases h:s.2 = 0
 ·rw [Zk (by simpa using h),if_neg (by simpa using h)]
  have e51:K8 k ((b,((ZX b s.1:Nat):Int),()),()) = some (((ZX b s.1:Nat):Int),KR b s.1,()):=rfl
  rw [e51]
  simp only [Z1]
  have hp:ZX b s.1 ≤ 8 * b.length:=by unfold ZX; omega
  rw [Zwe,Qa (n:=((ZX b s.1 / 8:Nat):Int)) (by omega),Zc (by simp only [Qv]; omega),Xm,show (Int.ofNat b.length).toNat = b.length from rfl,List.take_length]
  rw [ZH2 k (Zzs hb _) (by omega)]
  simp only [Z1]
  have hu:=ZJv (b.drop (ZX b s.1 / 8))
  generalize ZeN (b.drop (ZX b s.1 / 8)) = c at hu
  have H:∀ (d m i:Nat) (t:IS),Zo b t.1 → d < m → i + d ≤ 8 →
    Zm (fun L1 => ZfO k L1) m (((i + d:Nat):Int),(i:Int),((c.1:Nat):Int),b,t.2,b,((ZX b t.1:Nat):Int)) = some (((c.1:Nat):Int),inp b (mI (decide (c.1 ≤ 2147483647)) (Zv9 d t) 2),()):=by
   intro d
   induction d with
   | zero =>
    intro m i t ht hm hi
    obtain ⟨m,rfl⟩:=ZD hm
    rw [Ze]
    simp only [ZfO]
    rw [Zk (by omega)]
    refine (Zn (WA k (b:=b) (s:=t) _ _) _).trans ?_
    have:decide (((c.1:Nat):Int) ≤ 2147483647) = decide (c.1 ≤ 2147483647):=by
     by_cases h:c.1 ≤ 2147483647
     ·rw [Xj h,Xj (by omega)]
     ·rw [Wr h,Wr (by omega)]
    rw [this]
    rfl
   | succ d ih =>
    intro m i t ht hm hi
    obtain ⟨m,rfl⟩:=ZD (show 0 < m by omega)
    rw [Ze]
    simp only [ZfO]
    rw [Zc (by omega)]
    refine (Zn (Ya k hb hn (by omega) ht (w:=8) (by omega)) _).trans ?_
    have e2:IntKind.i64.wrap ((i:Int) + 1) = ((i + 1:Nat):Int):=by rw [Qa (by omega)]; rfl
    rw [e2]
    have:=ih m (i + 1) (gI 8 t).2 (QJ ht 8) (by omega) (by omega)
    rw [show i + 1 + d = i + (d + 1) by omega] at this
    exact this
  have:=H c.2.1 k 0 (s.1,c.2.2) hs (by omega) (by omega)
  rw [Nat.zero_add] at this
  exact this
 ·rw [Zc h,if_pos h]
  rfl
def Zh3 (of:List Int → Nat) (b:List Int) (w:Nat) (s:IS):IS:=if (gI w s).2.2 ≠ 0 then (gI w s).2 else mI ((gI w s).1 == of (b.take (ZX b s.1 / 8))) (gI w s).2 16
theorem ZJ0 {of:List Int → Nat} {b:List Int} {s:IS} (h:Zo b s.1) (w:Nat):Zo b (Zh3 of b w s).1:=by
 unfold Zh3
 split
 ·exact QJ h _
 ·exact QF (QJ h _) _ _
theorem XS (s:IS) (code:Int):mI true s code = s:=by unfold mI; rw [if_neg (by simp)]
theorem ZAS (k:Nat) {b:List Int} (hb:ZS b = true) (hn:b.length < 268435456) (hk:b.length + 1000 < k) {s:IS} (hs:Zo b s.1) {w:Nat} (hw:w ≤ 32) :
  Zib k (inp b s,(w:Int),(),()) = some ((),inp b (Zh3 ZhZ b w s),()):=by
 show Zk7 k _ = _
 simp only [Zk7]
 have e51:K8 k ((b,((ZX b s.1:Nat):Int),()),()) = some (((ZX b s.1:Nat):Int),KR b s.1,()):=rfl
 rw [e51]
 simp only [Z1]
 refine (Zn (Ya k hb hn (by omega) hs hw) _).trans ?_
 unfold Zh3
 simp only
 rw [ZL]
 by_cases h:(gI w s).2.2 = 0
 ·rw [Zk (by simpa using h),if_neg (by simpa using h)]
  have hp:ZX b s.1 ≤ 8 * b.length:=by unfold ZX; omega
  rw [Zwe,Qa (n:=((ZX b s.1 / 8:Nat):Int)) (by omega),Zc (by simp only [Qv]; omega),Xm,List.drop_zero]
  have htl:(b.take (ZX b s.1 / 8)).length ≤ b.length:=by rw [List.length_take]; omega
  refine (Zn (ZAI k (b.take (ZX b s.1 / 8)) (ZnI hb _) (by omega) (by omega)) _).trans ?_
  simp only
  rw [Wv]
  exact Zn (WA k (b:=b) (s:=(gI w s).2) _ _) _
 ·rw [Zc h,if_pos h]
  refine (Zn (WA k (b:=b) (s:=(gI w s).2) _ _) _).trans ?_
  rw [XS]
theorem ZCS (k:Nat) {b:List Int} (hb:ZS b = true) (hn:b.length < 268435456) (hk:b.length + 1000 < k) {s:IS} (hs:Zo b s.1) {w:Nat} (hw:w ≤ 32) :
  ZjE k (inp b s,(w:Int),(),()) = some ((),inp b (Zh3 Zcq b w s),()):=by
 show ZdE k _ = _
 simp only [ZdE]
 have e51:K8 k ((b,((ZX b s.1:Nat):Int),()),()) = some (((ZX b s.1:Nat):Int),KR b s.1,()):=rfl
 rw [e51]
 simp only [Z1]
 refine (Zn (Ya k hb hn (by omega) hs hw) _).trans ?_
 unfold Zh3
 simp only
 rw [ZL]
 by_cases h:(gI w s).2.2 = 0
 ·rw [Zk (by simpa using h),if_neg (by simpa using h)]
  have hp:ZX b s.1 ≤ 8 * b.length:=by unfold ZX; omega
  rw [Zwe,Qa (n:=((ZX b s.1 / 8:Nat):Int)) (by omega),Zc (by simp only [Qv]; omega),Xm,List.drop_zero]
  have htl:(b.take (ZX b s.1 / 8)).length ≤ b.length:=by rw [List.length_take]; omega
  refine (Zn (ZAM k (b.take (ZX b s.1 / 8)) (ZnI hb _) (by omega) (by omega)) _).trans ?_
  simp only
  rw [Wv]
  exact Zn (WA k (b:=b) (s:=(gI w s).2) _ _) _
 ·rw [Zc h,if_pos h]
  refine (Zn (WA k (b:=b) (s:=(gI w s).2) _ _) _).trans ?_
  rw [XS]
def hd1 (s:IS):IS:=mI ((gI 15 s).1 == 32764) (gI 15 s).2 11
def hd2 (s:IS):IS:=mI ((gI 1 s).1 == 0) (gI 1 s).2 2
def hd3 (s:IS):Nat × IS:=((gI 4 s).1,mI ((gI 4 s).1 == 6 || (gI 4 s).1 == 7) (gI 4 s).2 2)
def hd4 (s:IS):IS:=mI ((gI 4 s).1 == 0) (gI 4 s).2 2
def hd5 (c:Int) (s:IS):Nat × IS:=((gI 4 s).1,mI (ZeF c (gI 4 s).1) (gI 4 s).2 2)
def hd6 (kind:Nat) (s:IS):Nat × IS:=if s.2 = 0 then ((gI (8 * (kind - 5)) s).1 + 1,mI (decide ((gI (8 * (kind - 5)) s).1 + 1 ≤ 512)) (gI (8 * (kind - 5)) s).2 1) else (0,s)
abbrev HdT:=Nat × Nat × Nat × IS
def Zyu (b:List Int) (kind mode num:Nat) (s:IS):HdT:=(mode,num,(hd6 kind s).1,Zh3 ZhZ b 8 (hd6 kind s).2)
def ZOx (b:List Int) (kind mode:Nat) (s:IS):HdT:=Zyu b kind mode (ZlL b s).1 (ZlL b s).2
def ZOw (c:Int) (b:List Int) (kind:Nat) (s:IS):HdT:=ZOx b kind (hd5 c s).1 (hd4 (hd5 c s).2)
def Zyt (c:Int) (b:List Int) (kind:Nat) (s:IS):HdT:=ZOw c b kind (hd4 s)
def ZbW (c:Int) (b:List Int) (s:IS):HdT:=Zyt c b (hd3 (hd2 (hd1 s))).1 (hd3 (hd2 (hd1 s))).2
abbrev ZWO:=(Int × Int × Int × Unit) × InT × Unit
def ZxO (k:Nat) (kind mode num:Int) (w:InT):Option ZWO :=
 bif w.2.2.1 == (0:Int) then (WB k (w,IntKind.i64.wrap ((8:Int) * IntKind.i64.wrap (IntKind.i64.wrap (kind - (6:Int)) + (1:Int))),())).bind fun y => (Q9 k (y.2.1,decide (IntKind.i64.wrap (y.1 + (1:Int)) ≤ (512:Int)),1,())).bind fun y_10 => (Zib k (y_10.2.1,8,(),())).bind fun y_11 => some ((mode,num,IntKind.i64.wrap (y.1 + (1:Int)),()),y_11.2.1,())
 else (Q9 k (w,decide ((0:Int) ≤ (512:Int)),1,())).bind fun y => (Zib k (y.2.1,8,(),())).bind fun y => some ((mode,num,0,()),y.2.1,())
def ZxN (k:Nat) (sh:Int × Int × Int × Unit) (kind:Int) (w:InT):Option ZWO :=
 (WB k (w,4,())).bind fun y_2 => (Q9 k (y_2.2.1,y_2.1 == (0:Int),2,())).bind fun y_3 => (WB k (y_3.2.1,4,())).bind fun y_4 => (Zsv k (sh,y_4.1,())).bind fun y_5 => (Q9 k (y_4.2.1,y_5.1,2,())).bind fun y_6 => (WB k (y_6.2.1,4,())).bind fun y_7 => (Q9 k (y_7.2.1,y_7.1 == (0:Int),2,())).bind fun y_8 => (Zls k (y_8.2.1,())).bind fun y_9 => ZxO k kind y_4.1 y_9.1 y_9.2.1
theorem ZJk (k:Nat) (w:InT) (sh:Int × Int × Int × Unit):Zvq k (w,sh,()) =
  (WB k (w,15,())).bind fun y => (Q9 k (y.2.1,y.1 == (32764:Int),11,())).bind fun y => (WB k (y.2.1,1,())).bind fun y => (Q9 k (y.2.1,y.1 == (0:Int),2,())).bind fun y => (WB k (y.2.1,4,())).bind fun y =>
   bif y.1 == (6:Int) then (Q9 k (y.2.1,true,2,())).bind fun y_1 => ZxN k sh y.1 y_1.2.1 else (Q9 k (y.2.1,y.1 == (7:Int),2,())).bind fun y_1 => ZxN k sh y.1 y_1.2.1:=rfl
theorem Zys {w:Nat} {s:IS} (h:(gI w s).2.2 = 0):s.2 = 0:=by
 unfold gI at h
 split at h
 ·rename_i h0; exact h0
 ·exact h
theorem ZvS {b:List Int} {s:IS} (h:(ZlL b s).2.2 = 0):s.2 = 0:=by
 unfold ZlL at h
 split at h
 ·exact h
 ·rename_i h0; simpa using h0
theorem ZsF {s:IS} (h:(hd4 s).2 = 0):s.2 = 0:=Zys ((ZbZ (by decide)).1 h).1
theorem ZBk {c:Int} {s:IS} (h:(hd5 c s).2.2 = 0):s.2 = 0 ∧ ZeF c (hd5 c s).1 = true:=⟨Zys ((ZbZ (by decide)).1 h).1,((ZbZ (by decide)).1 h).2⟩
theorem ZOt {s:IS} (h:(hd3 s).2.2 = 0):(hd3 s).1 = 6 ∨ (hd3 s).1 = 7:=by
 have:=((ZbZ (by decide)).1 h).2
 show (gI 4 s).1 = 6 ∨ (gI 4 s).1 = 7
 simpa using this
theorem ZOv {b:List Int} {s:IS} (h:Zo b s.1) (kind:Nat):Zo b (hd6 kind s).2.1:=by
 unfold hd6
 split
 ·exact QF (QJ h _) _ _
 ·exact h
theorem ZAP (k:Nat) {b:List Int} (hb:ZS b = true) (hn:b.length < 268435456) (hk:b.length + 1000 < k) {s:IS} (hs:Zo b s.1) {kind:Nat} (hkind:s.2 = 0 → kind = 6 ∨ kind = 7) (mode num:Nat) :
  ZxO k (kind:Int) (mode:Int) (num:Int) (inp b s) = some (((((Zyu b kind mode num s).1:Nat):Int),(((Zyu b kind mode num s).2.1:Nat):Int),(((Zyu b kind mode num s).2.2.1:Nat):Int),()),inp b (Zyu b kind mode num s).2.2.2,()):=by
 unfold ZxO Zyu hd6
 rw [ZK]
 by_cases h:s.2 = 0
 ·rw [Zc h]
  simp only [if_pos h]
  have e1:IntKind.i64.wrap ((8:Int) * IntKind.i64.wrap (IntKind.i64.wrap ((kind:Int) - (6:Int)) + (1:Int))) = ((8 * (kind - 5):Nat):Int):=by
   rcases hkind h with rfl | rfl <;> rfl
  have hw:8 * (kind - 5) ≤ 32:=by rcases hkind h with rfl | rfl <;> omega
  rw [e1]
  refine (Zn (Ya k hb hn (by omega) hs hw) _).trans ?_
  have hlt:=ZXB (8 * (kind - 5)) s
  have r1:=QJ hs (8 * (kind - 5))
  have h32:2 ^ (8 * (kind - 5)) ≤ 2 ^ 32:=Nat.pow_le_pow_right (by omega) hw
  generalize gI (8 * (kind - 5)) s = x at hlt r1 ⊢
  have e2:IntKind.i64.wrap (((x.1:Nat):Int) + 1) = ((x.1 + 1:Nat):Int):=by rw [Qa (by omega)]; rfl
  have e3:decide (((x.1 + 1:Nat):Int) ≤ 512) = decide (x.1 + 1 ≤ 512):=by
   by_cases h:x.1 + 1 ≤ 512
   ·rw [Xj h,Xj (by omega)]
   ·rw [Wr h,Wr (by omega)]
  simp only
  rw [e2,e3]
  refine (Zn (WA k (b:=b) (s:=x.2) _ _) _).trans ?_
  refine (Zn (ZAS k hb hn hk (QF r1 _ _) (w:=8) (by omega)) _).trans ?_
  rfl
 ·rw [Zk h]
  simp only [if_neg h]
  refine (Zn (WA k (b:=b) (s:=s) _ _) _).trans ?_
  rw [show decide ((0:Int) ≤ 512) = true from rfl,XS]
  refine (Zn (ZAS k hb hn hk hs (w:=8) (by omega)) _).trans ?_
  rfl
theorem ZAO (k:Nat) {b:List Int} (hb:ZS b = true) (hn:b.length < 268435456) (hk:b.length + 1000 < k) {s:IS} (hs:Zo b s.1) {kind:Nat} (hkind:s.2 = 0 → kind = 6 ∨ kind = 7) (c d r:Int) :
  ZxN k (c,d,r,()) (kind:Int) (inp b s) = some (((((Zyt c b kind s).1:Nat):Int),(((Zyt c b kind s).2.1:Nat):Int),(((Zyt c b kind s).2.2.1:Nat):Int),()),inp b (Zyt c b kind s).2.2.2,()):=by
 unfold ZxN Zyt
 refine (Zn (Ya k hb hn (by omega) hs (w:=4) (by omega)) _).trans ?_
 refine (Zn (WA k (b:=b) (s:=(gI 4 s).2) _ _) _).trans ?_
 rw [show ((((gI 4 s).1:Nat):Int) == (0:Int)) = ((gI 4 s).1 == 0) from Wv _ 0]
 have r1:Zo b (hd4 s).1:=QF (QJ hs _) _ _
 have k1:=fun h => hkind (ZsF (s:=s) h)
 change ((WB k (inp b (hd4 s),4,())).bind _) = _
 generalize hd4 s = s1 at r1 k1 ⊢
 unfold ZOw
 refine (Zn (Ya k hb hn (by omega) r1 (w:=4) (by omega)) _).trans ?_
 refine (Zn (ZOc k c d r (gI 4 s1).1) _).trans ?_
 refine (Zn (WA k (b:=b) (s:=(gI 4 s1).2) _ _) _).trans ?_
 have r2:Zo b (hd5 c s1).2.1:=QF (QJ r1 _) _ _
 have k2:=fun h => k1 (ZBk (c:=c) (s:=s1) h).1
 change ((WB k (inp b (hd5 c s1).2,4,())).bind fun y_7 => (Q9 k (y_7.2.1,y_7.1 == (0:Int),2,())).bind fun y_8 => (Zls k (y_8.2.1,())).bind fun y_9 => ZxO k (kind:Int) (((hd5 c s1).1:Nat):Int) y_9.1 y_9.2.1) = _
 generalize (hd5 c s1).1 = mode
 generalize (hd5 c s1).2 = s2 at r2 k2 ⊢
 refine (Zn (Ya k hb hn (by omega) r2 (w:=4) (by omega)) _).trans ?_
 refine (Zn (WA k (b:=b) (s:=(gI 4 s2).2) _ _) _).trans ?_
 rw [show ((((gI 4 s2).1:Nat):Int) == (0:Int)) = ((gI 4 s2).1 == 0) from Wv _ 0]
 have r3:Zo b (hd4 s2).1:=QF (QJ r2 _) _ _
 have k3:=fun h => k2 (ZsF (s:=s2) h)
 change ((Zls k (inp b (hd4 s2),())).bind _) = _
 generalize hd4 s2 = s3 at r3 k3 ⊢
 unfold ZOx
 refine (Zn (ZOf k hb hn (by omega) r3) _).trans ?_
 exact ZAP k hb hn hk (ZvR r3) (fun h => k3 (ZvS h)) mode (ZlL b s3).1
theorem ZNC (k:Nat) {b:List Int} (hb:ZS b = true) (hn:b.length < 268435456) (hk:b.length + 1000 < k) {s:IS} (hs:Zo b s.1) (c d r:Int) :
  Zvq k (inp b s,(c,d,r,()),()) = some (((((ZbW c b s).1:Nat):Int),(((ZbW c b s).2.1:Nat):Int),(((ZbW c b s).2.2.1:Nat):Int),()),inp b (ZbW c b s).2.2.2,()):=by
 rw [ZJk]
 unfold ZbW
 refine (Zn (Ya k hb hn (by omega) hs (w:=15) (by omega)) _).trans ?_
 refine (Zn (WA k (b:=b) (s:=(gI 15 s).2) _ _) _).trans ?_
 rw [show ((((gI 15 s).1:Nat):Int) == (32764:Int)) = ((gI 15 s).1 == 32764) from Wv _ 32764]
 have r1:Zo b (hd1 s).1:=QF (QJ hs _) _ _
 change ((WB k (inp b (hd1 s),1,())).bind _) = _
 generalize hd1 s = s1 at r1 ⊢
 refine (Zn (Ya k hb hn (by omega) r1 (w:=1) (by omega)) _).trans ?_
 refine (Zn (WA k (b:=b) (s:=(gI 1 s1).2) _ _) _).trans ?_
 rw [show ((((gI 1 s1).1:Nat):Int) == (0:Int)) = ((gI 1 s1).1 == 0) from Wv _ 0]
 have r2:Zo b (hd2 s1).1:=QF (QJ r1 _) _ _
 change ((WB k (inp b (hd2 s1),4,())).bind _) = _
 generalize hd2 s1 = s2 at r2 ⊢
 refine (Zn (Ya k hb hn (by omega) r2 (w:=4) (by omega)) _).trans ?_
 simp only
 rw [show ((((gI 4 s2).1:Nat):Int) == (6:Int)) = ((gI 4 s2).1 == 6) from Wv _ 6,show ((((gI 4 s2).1:Nat):Int) == (7:Int)) = ((gI 4 s2).1 == 7) from Wv _ 7]
 have r3:Zo b (hd3 s2).2.1:=QF (QJ r2 _) _ _
 have fin:=ZAO k hb hn hk r3 (fun h => ZOt h) c d r
 unfold hd3 at fin ⊢
 cases h6:(gI 4 s2).1 == 6 with
 | true =>
  rw [h6] at fin
  simp only [cond_true]
  refine (Zn (WA k (b:=b) (s:=(gI 4 s2).2) _ _) _).trans ?_
  exact fin
 | false =>
  rw [h6] at fin
  simp only [cond_false]
  refine (Zn (WA k (b:=b) (s:=(gI 4 s2).2) _ _) _).trans ?_
  exact fin
end Go.Sh
