/-
  What the row needs, part 12.
-/
import Derived.Test.YtgbhjfacjekhcaaGreatDoorXStreamCuts11
import Derived.Lib.ItoaNum
set_option linter.unusedSimpArgs false
set_option linter.unusedVariables false
set_option linter.unusedSectionVars false
namespace Go.Sh
open Go Go.Proofs
def Z2 (n:Int):Nat:=if n < 0 then (-2 * n - 1).toNat else (2 * n).toNat
theorem ZB1 {a:Int} {n:Int} (ha : -1152921504606846976 ≤ a ∧ a ≤ 1152921504606846976) (hn:(a < 0 ↔ n < 0)) (hn' : -1152921504606846976 ≤ n ∧ n ≤ 1152921504606846976) :
  IntKind.i64.wrap (Int.ofNat (BitVec.ofInt 64 a ^^^ BitVec.ofInt 64 (n.fdiv 9223372036854775808)).toNat) = if n < 0 then -a - 1 else a:=by
 by_cases h:n < 0
 ·have e1:n.fdiv 9223372036854775808 = -1:=by rw [Int.fdiv_eq_ediv_of_nonneg _ (by omega)]; omega
  rw [e1,if_pos h,show BitVec.ofInt 64 (-1) = BitVec.allOnes 64 from by decide,BitVec.xor_allOnes,BitVec.toNat_not,BitVec.toNat_ofInt]
  have:((a % ((2 ^ 64:Nat):Int)).toNat) = (a + 18446744073709551616).toNat:=by omega
  rw [this]
  have e2:Int.ofNat (2 ^ 64 - 1 - (a + 18446744073709551616).toNat) = -a - 1:=by simp only [Qz]; omega
  rw [e2,Qi (by omega)]
 ·have e1:n.fdiv 9223372036854775808 = 0:=by rw [Int.fdiv_eq_ediv_of_nonneg _ (by omega)]; omega
  rw [e1,if_neg h,show BitVec.ofInt 64 0 = 0#64 from rfl,BitVec.xor_zero,BitVec.toNat_ofInt]
  have:Int.ofNat ((a % ((2 ^ 64:Nat):Int)).toNat) = a:=by simp only [Qz]; omega
  rw [this,Qi (by omega)]
theorem Zuj (k:Nat) {n:Int} (h:ZN n):ZeW k (n,()) = some ((((Z2 n:Nat):Int),0,()),()):=by
 show ZgF k _ = _
 simp only [ZgF]
 unfold ZN at h
 rw [Zj (by omega),Zj (by omega),Qi (n:=n * 2) (by omega),ZB1 (by omega) (by omega) (by omega)]
 unfold Z2
 congr 3
 split <;> omega
theorem Zsq {n:Int} (h:ZN n):Z2 n < 4294967296:=by
 unfold ZN at h
 unfold Z2
 split <;> omega
def Yz (n:Int):Nat:=Lib.bitLen (if n < 0 then (-n - 1).toNat else n.toNat) + 1
theorem ZpJ {n:Int} (h:ZN n):Yz n ≤ 32:=by
 unfold ZN at h
 unfold Yz
 have:=Lib.bitLen_le (if n < 0 then (-n - 1).toNat else n.toNat) 31 (by omega) (by split <;> omega)
 omega
theorem ZGR {n:Int} (h:ZN n) {w:Nat} (hw:Yz n ≤ w):Xl n w = true:=by
 unfold Yz at hw
 unfold Xl
 unfold ZN at h
 rw [if_neg (by omega),decide_eq_true_eq]
 generalize hm:(if n < 0 then (-n - 1).toNat else n.toNat) = m at hw
 have hm':m < 2 ^ 64:=by rw [← hm]; split <;> omega
 have hlt:m < 2 ^ (w - 1):=by
  by_cases h0:m = 0
  ·rw [h0]; exact Nat.pow_pos (by omega)
  ·have:=(Lib.bitLenAux_bounds 64 m hm' h0).2.2
   exact Nat.lt_of_lt_of_le this (Nat.pow_le_pow_right (by omega) (by unfold Lib.bitLen at hw; omega))
 have hlt':(m:Int) < 2 ^ (w - 1):=by
  have:((2:Int) ^ (w - 1)) = ((2 ^ (w - 1):Nat):Int):=WC _
  rw [this]; exact_mod_cast hlt
 generalize (2:Int) ^ (w - 1) = P at hlt'
 split at hm <;> omega
theorem ZIl (k:Nat) {n:Int} (h:ZN n):ZqI k (n,()) = some (((Yz n:Nat):Int),()):=by
 show Zhc k _ = _
 simp only [Zhc]
 have hb:=ZpJ h
 unfold ZN at h
 rw [ZB1 (by omega) (by omega) (by omega)]
 have e1:IntKind.u64.wrap (if n < 0 then -n - 1 else n) = (((if n < 0 then (-n - 1).toNat else n.toNat):Nat):Int):=by
  rw [IntKind.wrap_u64]; split <;> omega
 rw [e1]
 have e2:Zxc k ((((if n < 0 then (-n - 1).toNat else n.toNat):Nat):Int),()) = some (((Lib.bitLen (if n < 0 then (-n - 1).toNat else n.toNat):Nat):Int),()):=by
  show ZOn _ = _
  unfold ZOn
  rw [show (decide ((0:Int) ≤ (((if n < 0 then (-n - 1).toNat else n.toNat):Nat):Int)) && decide ((((if n < 0 then (-n - 1).toNat else n.toNat):Nat):Int) < 18446744073709551616)) = true from by
   rw [Bool.and_eq_true,decide_eq_true_eq,decide_eq_true_eq]; split <;> omega]
  rfl
 rw [e2]
 simp only [Z1]
 unfold Yz at hb ⊢
 rw [Qi (by omega)]
 push_cast
 rfl
theorem ZHC (k:Nat) {m:Int} (h:m = 0 ∨ m = 1):Zdx k (m,()) = some (if m = 0 then 15 else 31,()):=by
 rcases h with rfl | rfl <;> rfl
def Xr (m:Int):Nat:=if m = 0 then 15 else 31
theorem Zcq (k:Nat) {m:Int} (h:m = 0 ∨ m = 1):Zdx k (m,()) = some (((Xr m:Nat):Int),()):=by
 rw [ZHC k h]; unfold Xr; split <;> rfl
abbrev Prt:=Int × Int × Int × Unit
def QP (l:List Int):Nat:=l.foldl (fun w n => if n = 0 then w else max w (Yz n)) 0
def Zi4:List Nat → Nat
 | [] => 0
 | x :: l => x + Zi4 l
def Zef (l:List Int) (kk:Nat):Nat:=(kk + 1) * l.length + Zi4 (l.map fun n => Z2 n / 2 ^ kk)
def ZmY (l:List Int) (kk:Nat):Bool:=l.any fun n => decide (65536 < Z2 n / 2 ^ kk)
def Zh8 (l:List Int) (B:Prt × Bool) (kk:Nat):Prt × Bool :=
 if ZmY l kk = false ∧ (B.2 = false ∨ ((Zef l kk:Nat):Int) < B.1.2.2.1) then (((kk:Int),0,((Zef l kk:Nat):Int),()),true) else B
def kF (l:List Int):Nat → Nat → Prt × Bool → Prt × Bool
 | 0,_,B => B
 | d + 1,kk,B => kF l d (kk + 1) (Zh8 l B kk)
def Wc (l:List Int) (m:Int):Prt × Bool :=
 let B:=kF l (Xr m) 0 ((0,0,0,()),false)
 if QP l ≤ 31 ∧ (B.2 = false ∨ ((5 + QP l * l.length:Nat):Int) < B.1.2.2.1) then (((Xr m:Nat),((QP l:Nat):Int),((5 + QP l * l.length:Nat):Int),()),true) else B
theorem ZSM {l:List Nat} {b:Nat} (h:∀ x ∈ l,x ≤ b):Zi4 l ≤ l.length * b:=by
 induction l with
 | nil => simp [Zi4]
 | cons x l ih =>
  have h1:=h x (List.mem_cons_self ..)
  have h2:=ih fun y hy => h y (List.mem_cons_of_mem _ hy)
  simp only [Zi4,List.length_cons,Nat.add_mul,Nat.one_mul]
  omega
theorem Zi8:∀ (l:List Int) (w:Nat),(∀ x ∈ l,ZN x) → w ≤ 32 → w ≤ l.foldl (fun w n => if n = 0 then w else max w (Yz n)) w ∧ l.foldl (fun w n => if n = 0 then w else max w (Yz n)) w ≤ 32 ∧
   ∀ x ∈ l,x ≠ 0 → Yz x ≤ l.foldl (fun w n => if n = 0 then w else max w (Yz n)) w
 | [],w,_,hw => ⟨Nat.le_refl _,hw,by simp⟩
 | x :: l,w,hl,hw => by
  simp only [List.foldl_cons]
  have hx:=ZpJ (hl x (List.mem_cons_self ..))
  have h1:(if x = 0 then w else max w (Yz x)) ≤ 32:=by split <;> omega
  obtain ⟨a,b,c⟩:=Zi8 l _ (fun y hy => hl y (List.mem_cons_of_mem _ hy)) h1
  refine ⟨Nat.le_trans (by split <;> omega) a,b,fun y hy hne => ?_⟩
  rcases List.mem_cons.1 hy with rfl | hy
  ·rw [if_neg hne] at a ⊢
   omega
  ·exact c y hy hne
theorem Zv1 {l:List Int} (hl:∀ x ∈ l,ZN x):∀ x ∈ l,Xl x (QP l) = true:=by
 intro x hx
 obtain ⟨_,_,h⟩:=Zi8 l 0 hl (by omega)
 by_cases h0:x = 0
 ·subst h0
  unfold Xl
  split
  ·rfl
  ·rw [decide_eq_true_eq]
   have hp:(0:Int) < 2 ^ (QP l - 1):=Int.pow_pos (by omega)
   omega
 ·exact ZGR (hl x hx) (h x hx h0)
theorem Zvp {n:Int} (h:ZN n) (kk:Nat):Z2 n / 2 ^ kk ≤ 4294967295:=by
 have:=Zsq h
 have:=Nat.div_le_self (Z2 n) (2 ^ kk)
 omega
theorem ZGL:Zae = Zdx:=Zuf
theorem ZWu:Zix = ZeW:=Zuh
theorem ZC1 (k:Nat) (L2:Int × Int × List Int × Bool × Int × Int × List Int × Int × Int × Int × Int × Int × Int → Option (((Int × Int × Int × Unit) × Bool × Unit) × Unit))
  {l:List Int} (hl:∀ x ∈ l,ZN x) (hn:l.length ≤ 512) (hk:l.length < k) {kk:Nat} (hkk:kk ≤ 31) (ok:Bool) (e w m b0 b1 b2 c0 c1 c2:Int) :
  ZjI k L2 (Int.ofNat l.length,(0:Int),((kk + 1) * l.length:Nat),(kk:Int),false,ok,(kk:Int),e,l,w,m,l.map fun n => ((Z2 n:Nat):Int),b0,b1,b2,c0,c1,c2) =
   L2 (e,((kk + 1:Nat):Int),l,(Zh8 l ((b0,b1,b2,()),ok) kk).2,w,m,l.map fun n => ((Z2 n:Nat):Int),(Zh8 l ((b0,b1,b2,()),ok) kk).1.1,(Zh8 l ((b0,b1,b2,()),ok) kk).1.2.1,(Zh8 l ((b0,b1,b2,()),ok) kk).1.2.2.1,c0,c1,c2):=by
 have hml:(l.map fun n => ((Z2 n:Nat):Int)).length = l.length:=by simp
 have:=Zw (A:=Int × Bool) (R:=((Int × Int × Int × Unit) × Bool × Unit) × Unit) (step:=fun L3 => ZaF k L2 L3) (fun i a => (Int.ofNat l.length,Int.ofNat i,a.1,(kk:Int),a.2,ok,(kk:Int),e,l,w,m,l.map (fun n => ((Z2 n:Nat):Int)),b0,b1,b2,c0,c1,c2)) l
  (fun l' a => bif !(a.2 || ZmY l' kk) then bif !ok then L2 (e,((kk + 1:Nat):Int),l,true,w,m,l.map (fun n => ((Z2 n:Nat):Int)),(kk:Int),0,a.1 + (Zi4 (l'.map fun n => Z2 n / 2 ^ kk):Nat),c0,c1,c2)
    else bif decide (a.1 + (Zi4 (l'.map fun n => Z2 n / 2 ^ kk):Nat) < b2) then L2 (e,((kk + 1:Nat):Int),l,true,w,m,l.map (fun n => ((Z2 n:Nat):Int)),(kk:Int),0,a.1 + (Zi4 (l'.map fun n => Z2 n / 2 ^ kk):Nat),c0,c1,c2)
    else L2 (e,((kk + 1:Nat):Int),l,ok,w,m,l.map (fun n => ((Z2 n:Nat):Int)),b0,b1,b2,c0,c1,c2)
   else L2 (e,((kk + 1:Nat):Int),l,ok,w,m,l.map (fun n => ((Z2 n:Nat):Int)),b0,b1,b2,c0,c1,c2))
  (fun i a => 0 ≤ a.1 ∧ a.1 ≤ 16384 + (i:Int) * 4294967296)
  (fun L a _ => by
   simp only [ZaF]
   rw [Zj (QW _),Qi (n:=(kk:Int) + 1) (by omega)]
   simp only [ZmY,List.any_nil,Bool.or_false,List.map_nil,Zi4,Int.natCast_zero,Int.add_zero]
   push_cast
   rfl)
  (fun L i hi a ha hL => by
   simp only [ZaF]
   have hx:=hl l[i] (List.getElem_mem hi)
   have hp:=Zvp hx kk
   have hg:(l.map fun n => ((Z2 n:Nat):Int)).getD (Int.toNat (Int.ofNat i)) 0 = ((Z2 l[i]:Nat):Int):=by
    rw [ZK (by rw [hml]; exact hi)]; simp
   rw [Zc (K7 hi),Zc (by rw [hml]; exact XW hi),Zc (by rw [hml]; simpa using hi),Zc (by omega),hg]
   simp only [Xm,Nat.min_eq_left (show kk ≤ 64 by omega),ZfH]
   have hfar:ZmY (l[i] :: l.drop (i + 1)) kk = (decide (65536 < Z2 l[i] / 2 ^ kk) || ZmY (l.drop (i + 1)) kk):=by unfold ZmY; rw [List.any_cons]
   have hsum:a.1 + ((Zi4 ((l[i] :: l.drop (i + 1)).map fun n => Z2 n / 2 ^ kk):Nat):Int) = a.1 + ((Z2 l[i] / 2 ^ kk:Nat):Int) + ((Zi4 ((l.drop (i + 1)).map fun n => Z2 n / 2 ^ kk):Nat):Int):=by
    simp only [List.map_cons,Zi4]
    generalize Z2 l[i] / 2 ^ kk = q
    omega
   generalize Z2 l[i] / 2 ^ kk = q at hp hfar hsum ⊢
   have hi5:(i:Int) ≤ 512:=by omega
   rw [Qi (n:=a.1 + ((q:Nat):Int)) (by omega),Qk hi (by omega)]
   rw [hfar,hsum]
   cases h4:a.2 with
   | true =>
    simp only [cond_true]
    rw [hL (a.1 + ((q:Nat):Int),true) ⟨by omega,by push_cast; omega⟩]
    simp
   | false =>
    simp only [cond_false]
    rw [Zc (by omega)]
    have hd:decide ((65536:Int) < ((q:Nat):Int)) = decide (65536 < q):=by
     by_cases hh:65536 < q
     ·rw [Xe hh,Xe (by omega)]
     ·rw [Wp hh,Wp (by omega)]
    rw [hd,hL (a.1 + ((q:Nat):Int),decide (65536 < q)) ⟨by omega,by push_cast; omega⟩]
    simp) k 0 ((((kk + 1) * l.length:Nat):Int),false) ⟨by omega,by
     have:(kk + 1) * l.length ≤ 32 * 512:=Nat.mul_le_mul (by omega) hn
     show (((kk + 1) * l.length:Nat):Int) ≤ 16384 + ((0:Nat):Int) * 4294967296
     generalize (kk + 1) * l.length = N at this ⊢
     omega⟩ (by omega) (Nat.zero_le _)
 refine Eq.trans this ?_
 rw [List.drop_zero]
 unfold Zh8
 have hsz:(((kk + 1) * l.length:Nat):Int) + ((Zi4 (l.map fun n => Z2 n / 2 ^ kk):Nat):Int) = ((Zef l kk:Nat):Int):=by unfold Zef; push_cast; rfl
 simp only [Bool.false_or,hsz]
 cases hfb:ZmY l kk with
 | true => simp
 | false =>
  simp only [Bool.not_false,cond_true,true_and]
  cases ok with
  | false => simp
  | true =>
   simp only [Bool.not_true,cond_false,Bool.true_eq_false,false_or]
   by_cases hlt:((Zef l kk:Nat):Int) < b2
   ·rw [Zc hlt,if_pos hlt]
   ·rw [Zj hlt,if_neg hlt]
theorem ZLw (k:Nat) {l:List Int} (hl:∀ x ∈ l,ZN x) (hn:l.length ≤ 512) (hk:l.length < k) {m:Int} (hm:m = 0 ∨ m = 1) (c0 c1 c2:Int) (hw:QP l ≤ 32) :
  ∀ (d kk j:Nat) (B:Prt × Bool),kk + d = Xr m → d < j →
  Zn (fun L2 => ZcD k (ZjI k L2) L2) j (((Xr m:Nat):Int),(kk:Int),l,B.2,((QP l:Nat):Int),m,l.map (fun n => ((Z2 n:Nat):Int)),B.1.1,B.1.2.1,B.1.2.2.1,c0,c1,c2) =
   some ((let B:=kF l d kk B; if QP l ≤ 31 ∧ (B.2 = false ∨ ((5 + QP l * l.length:Nat):Int) < B.1.2.2.1) then ((((Xr m:Nat):Int),((QP l:Nat):Int),((5 + QP l * l.length:Nat):Int),()),true,()) else (B.1,B.2,())),()):=by
 have he:Xr m ≤ 31:=by unfold Xr; split <;> omega
 intro d
 induction d with
 | zero =>
  intro kk j B hkk hj
  obtain ⟨j,rfl⟩:=ZC hj
  rw [Zg]
  simp only [ZcD]
  rw [Zj (by omega)]
  have hwl:QP l * l.length ≤ 32 * 512:=Nat.mul_le_mul hw hn
  have e1:IntKind.i64.wrap ((5:Int) + IntKind.i64.wrap (((QP l:Nat):Int) * Int.ofNat l.length)) = ((5 + QP l * l.length:Nat):Int):=by
   have:((QP l:Nat):Int) * Int.ofNat l.length = ((QP l * l.length:Nat):Int):=by simp only [Qz]; push_cast; rfl
   rw [this,Qi (n:=((QP l * l.length:Nat):Int)) (by omega),Qi (by omega)]
   push_cast; rfl
  rw [e1,ZGL,Zcq k hm]
  simp only [Z1]
  rw [show kF l 0 kk B = B from rfl]
  by_cases h31:QP l ≤ 31
  ·rw [Zc (by omega)]
   cases hB:B.2 with
   | false => simp only [Bool.not_false,cond_true]; rw [if_pos ⟨h31,.inl trivial⟩]
   | true =>
    simp only [Bool.not_true,cond_false,Bool.true_eq_false,false_or]
    by_cases hlt:((5 + QP l * l.length:Nat):Int) < B.1.2.2.1
    ·rw [Zc hlt,if_pos ⟨h31,hlt⟩]
    ·rw [Zj hlt,if_neg (fun h => hlt h.2)]
  ·rw [Zj (by omega),if_neg (fun h => h31 h.1)]
 | succ d ih =>
  intro kk j B hkk hj
  obtain ⟨j,rfl⟩:=ZC (show 0 < j by omega)
  rw [Zg]
  simp only [ZcD]
  rw [Zc (by omega)]
  have hkl:(kk + 1) * l.length ≤ 32 * 512:=Nat.mul_le_mul (by omega) hn
  have e1:IntKind.i64.wrap (IntKind.i64.wrap ((kk:Int) + 1) * Int.ofNat l.length) = (((kk + 1) * l.length:Nat):Int):=by
   have h1:IntKind.i64.wrap ((kk:Int) + 1) = ((kk + 1:Nat):Int):=by rw [Qi (by omega)]; push_cast; rfl
   rw [h1]
   have:((kk + 1:Nat):Int) * Int.ofNat l.length = (((kk + 1) * l.length:Nat):Int):=by simp only [Qz]; rw [Int.natCast_mul]
   rw [this,Qi (by omega)]
  rw [e1]
  have e2:Int.ofNat (l.map fun n => ((Z2 n:Nat):Int)).length = Int.ofNat l.length:=by simp
  rw [e2,ZC1 k _ hl hn hk (by omega)]
  rw [ih (kk + 1) j (Zh8 l B kk) (by omega) (by omega)]
  rfl
theorem ZIf (k:Nat) {l:List Int} (hl:∀ x ∈ l,ZN x) (hn:l.length ≤ 512) (hk:l.length + 40 < k) {m:Int} (hm:m = 0 ∨ m = 1) :
  ZqD k (l,m,()) = some (((Wc l m).1,(Wc l m).2,()),()):=by
 show Zg5 k (ZoX k) _ = _
 simp only [Zg5]
 rw [Zc (by simp only [Qz]; omega)]
 have hwid:=(Zi8 l 0 hl (by omega)).2.1
 have he:Xr m ≤ 31:=by unfold Xr; split <;> omega
 have:=Zw (A:=Nat × List Int) (step:=fun L1 => ZcC k (ZjH k) L1) (fun i a => (Int.ofNat l.length,Int.ofNat i,l,((a.1:Nat):Int),m,l,false,a.2,0,0,0,0,0,0)) l
  (fun l' a => ZjH k (((Xr m:Nat):Int),0,l,false,((l'.foldl (fun w n => if n = 0 then w else max w (Yz n)) a.1:Nat):Int),m,a.2.take (l.length - l'.length) ++ l'.map (fun n => ((Z2 n:Nat):Int)),0,0,0,0,0,0))
  (fun i a => a.1 ≤ 32 ∧ a.2.length = l.length)
  (fun L a ha => by
   simp only [ZcC]
   rw [Zj (QW _),ZGL,Zcq k hm]
   simp only [Z1,List.foldl_nil,List.map_nil,List.append_nil,List.length_nil,Nat.sub_zero]
   rw [List.take_of_length_le (by omega)])
  (fun L i hi a ha hL => by
   simp only [ZcC]
   have hx:=hl l[i] (List.getElem_mem hi)
   have hb:=ZpJ hx
   rw [Zc (K7 hi),Zc (XW hi),ZK hi,ZWu,Zuj k hx]
   simp only [Z1]
   rw [Zc (by rw [ha.2]; exact XW hi),Zc (by rw [ha.2]; simpa using hi),ZI,Qk hi (by omega)]
   have hdl:(l.drop (i + 1)).length = l.length - (i + 1):=by simp
   have hset:(a.2.set (Int.ofNat i).toNat ((Z2 l[i]:Nat):Int)).take (l.length - (l.drop (i + 1)).length) ++ (l.drop (i + 1)).map (fun n => ((Z2 n:Nat):Int)) =
     a.2.take (l.length - (l[i] :: l.drop (i + 1)).length) ++ (l[i] :: l.drop (i + 1)).map (fun n => ((Z2 n:Nat):Int)):=by
    rw [hdl,List.length_cons,hdl,show l.length - (l.length - (i + 1)) = i + 1 by omega,show l.length - (l.length - (i + 1) + 1) = i by omega]
    rw [List.map_cons,List.take_add_one,List.take_set_of_le (by simp)]
    have:(a.2.set (Int.ofNat i).toNat ((Z2 l[i]:Nat):Int))[i]? = some ((Z2 l[i]:Nat):Int):=by
     rw [List.getElem?_set]; simp; omega
    rw [this]
    simp
   have hfold:(l[i] :: l.drop (i + 1)).foldl (fun w n => if n = 0 then w else max w (Yz n)) a.1 = (l.drop (i + 1)).foldl (fun w n => if n = 0 then w else max w (Yz n)) (if l[i] = 0 then a.1 else max a.1 (Yz l[i])):=rfl
   by_cases h0:l[i] = 0
   ·rw [Zj (by simpa using h0)]
    rw [hL (a.1,a.2.set (Int.ofNat i).toNat ((Z2 l[i]:Nat):Int)) ⟨ha.1,by simpa using ha.2⟩,hset,hfold,if_pos h0]
   ·rw [Zc h0,ZIl k hx]
    simp only [Z1]
    have e1:(if ((a.1:Nat):Int) < ((Yz l[i]:Nat):Int) then ((Yz l[i]:Nat):Int) else ((a.1:Nat):Int)) = ((max a.1 (Yz l[i]):Nat):Int):=by split <;> omega
    rw [e1,hL (max a.1 (Yz l[i]),a.2.set (Int.ofNat i).toNat ((Z2 l[i]:Nat):Int)) ⟨by omega,by simpa using ha.2⟩,hset,hfold,if_neg h0])
  k 0 (0,List.replicate l.length 0) ⟨by omega,by simp⟩ (by omega) (Nat.zero_le _)
 rw [List.drop_zero] at this
 refine Eq.trans this ?_
 have:=ZLw k hl hn (by omega) hm 0 0 0 hwid (Xr m) 0 k ((0,0,0,()),false) (by omega) (by omega)
 rw [Nat.sub_self,List.take_zero,List.nil_append]
 refine Eq.trans this ?_
 unfold Wc
 simp only
 split <;> rfl
end Go.Sh
namespace Go.Sh
open Go Go.Proofs
theorem ZTA:Zdw = Zdv:=Zud
theorem ZXt:ZqC = Zdz:=Zus
theorem Zmr (k:Nat) {m:Int} (h:m = 0 ∨ m = 1):Zdv k (m,()) = some (4 + m,()):=by
 rcases h with rfl | rfl <;> rfl
theorem ZIa (k:Nat) (x:Int):ZqB k (x,()) = some (Qv x,()):=by
 show Zg1 k _ = _
 simp only [Zg1]
 unfold Qv
 by_cases h:x ≤ -2147483648
 ·rw [Zc h,Xe (.inl h)]
 ·rw [Zj h]
  by_cases h2:2147483648 ≤ x
  ·rw [Xe h2,Xe (.inr h2)]
  ·rw [Wp h2,Wp (by omega)]
theorem Zzx (k:Nat) (c:List Int) (hk:c.length < k) (hn:c.length < 4294967296):ZeS k (c,(),()) = some (c.any Qv,()):=by
 show ZbD k _ = _
 simp only [ZbD]
 have key:∃ i:Int,Ze2 k (c,(),()) = some (i,()) ∧ (0 ≤ i ↔ c.any Qv = true):=by
  have:=QG (A:=Unit) (R:=Int × Unit) (step:=fun L1 => KT k L1) (fun i _ => (Int.ofNat c.length,Int.ofNat i,c)) c
   (fun l _ => some (if l.any Qv then Int.ofNat (c.length - l.length + (l.takeWhile (fun x => !Qv x)).length) else -1,()))
   (fun L _ => by simp only [KT]; rw [Zj (QW _)]; rfl)
   (fun L i hi _ hL => by
    simp only [KT]
    rw [Zc (K7 hi),Zc (XW hi),ZK hi,ZIa]
    simp only [Z1]
    have hlen:(List.drop (i + 1) c).length = c.length - (i + 1):=by simp
    cases hc:Qv c[i] with
    | false =>
     simp only [cond_false]
     rw [Qk hi (by omega),hL ()]
     simp only [List.any_cons,hc,Bool.false_or,List.takeWhile_cons,Bool.not_false,if_true,List.length_cons,hlen]
     split
     ·congr 3; omega
     ·rfl
    | true =>
     simp only [cond_true,List.any_cons,hc,Bool.true_or,if_true,List.takeWhile_cons,Bool.not_true,Bool.false_eq_true,if_false,List.length_cons,hlen,List.length_nil]
     congr 3; omega) k 0 () (by omega) (Nat.zero_le _)
  rw [List.drop_zero] at this
  refine ⟨_,this,?_⟩
  cases c.any Qv <;> simp
 obtain ⟨i,h1,h2⟩:=key
 rw [h1]
 simp only [Z1]
 cases hc:c.any Qv with
 | true => rw [Xe (h2.2 hc)]
 | false => rw [Wp (fun h => by have:=h2.1 h; rw [hc] at this; cases this)]
def Zb5 (n o:Int):Bool:=decide (1 ≤ n ∧ n ≤ 512 ∧ 0 ≤ o ∧ o ≤ 8 ∧ o ≤ n)
theorem Zur (k:Nat) (n o:Int):ZmH k (n,o,()) = some (Zb5 n o,()):=by
 show Zg0 k _ = _
 simp only [Zg0]
 unfold Zb5
 by_cases h1:1 ≤ n
 ·rw [Zc h1]
  by_cases h2:n ≤ 512
  ·rw [Zc h2]
   by_cases h3:0 ≤ o
   ·rw [Zc h3]
    congr 2
    by_cases h4:o ≤ 8 ∧ o ≤ n
    ·rw [Xe (show 1 ≤ n ∧ n ≤ 512 ∧ 0 ≤ o ∧ o ≤ 8 ∧ o ≤ n by omega),Xe (by split <;> omega)]
    ·rw [Wp (show ¬ (1 ≤ n ∧ n ≤ 512 ∧ 0 ≤ o ∧ o ≤ 8 ∧ o ≤ n) by omega),Wp (by split <;> omega)]
   ·rw [Zj h3,Wp (by omega)]
  ·rw [Zj h2,Wp (by omega)]
 ·rw [Zj h1,Wp (by omega)]
def Yl (l:List Int) (o:Int):Int:=if o < 0 ∨ 8 < o then 1 else if Zb5 ((l.length:Int) + o) o = false then 1 else if l.any Qv then 12 else 0
theorem Zua (k:Nat) (l:List Int) (o:Int) (hk:l.length < k) (hn:l.length < 4294967296):Zmn k (l,o,()) = some (Yl l o,()):=by
 show ZgA k _ = _
 simp only [ZgA]
 unfold Yl
 by_cases h1:o < 0
 ·rw [Zc h1,if_pos (.inl h1)]
 ·rw [Zj h1]
  by_cases h2:8 < o
  ·rw [Zc h2,if_pos (.inr h2)]
  ·rw [Zj h2,if_neg (by omega),Qi (by simp only [Qz]; omega),Zur]
   simp only [Z1,Qz]
   cases hb:Zb5 ((l.length:Int) + o) o with
   | false => rfl
   | true =>
    simp only [Bool.not_true,cond_false,Bool.true_eq_false,if_false]
    rw [Zzx k l hk hn]
    simp only [Z1]
    cases l.any Qv <;> rfl
theorem ZV0 {p:Nat} (hp:p ≤ 31):IntKind.i64.wrap (IntKind.i64.wrap ((1:Int) * (2:Int) ^ min ((p:Int)).toNat 64) - 1) = ((2 ^ p - 1:Nat):Int):=by
 have h1:2 ^ p ≤ 2 ^ 31:=Nat.pow_le_pow_right (by omega) hp
 have h0:0 < 2 ^ p:=Nat.pow_pos (by omega)
 rw [Xm,Nat.min_eq_left (by omega),Int.one_mul,WC]
 rw [Qi (n:=((2 ^ p:Nat):Int)) (by omega),Qi (by omega)]
 omega
theorem Zpq {p:Nat} (hp:p ≤ 31):IntKind.i64.wrap ((1:Int) * (2:Int) ^ min ((p:Int)).toNat 64) = ((2 ^ p:Nat):Int):=by
 have h1:2 ^ p ≤ 2 ^ 31:=Nat.pow_le_pow_right (by omega) hp
 rw [Xm,Nat.min_eq_left (by omega),Int.one_mul,WC]
 generalize 2 ^ p = Q at h1 ⊢
 rw [Qi (by omega)]
theorem Zy3 {n p:Nat} (hn:n < 4294967296) (hp:p ≤ 31):IntKind.i64.wrap (Int.ofNat (BitVec.ofInt 64 (n:Int) &&& BitVec.ofInt 64 (IntKind.i64.wrap (IntKind.i64.wrap ((1:Int) * (2:Int) ^ min ((p:Int)).toNat 64) - 1))).toNat) = ((n % 2 ^ p:Nat):Int):=by
 have h1:2 ^ p ≤ 2 ^ 31:=Nat.pow_le_pow_right (by omega) hp
 rw [ZV0 hp,ZGN (by omega) (by omega),Nat.and_two_pow_sub_one_eq_mod]
 have:n % 2 ^ p ≤ n:=Nat.mod_le _ _
 rw [Qi (by omega)]
def ZeB (n o p:Nat):Bool:=decide (n % 2 ^ p = 0) && decide (o ≤ n / 2 ^ p)
theorem Zut (k:Nat) {n o p:Nat} (hn:n < 4294967296) (hp:p ≤ 31):Zdz k ((n:Int),(o:Int),(p:Int),()) = some (ZeB n o p,()):=by
 show Zg3 k _ = _
 simp only [Zg3]
 rw [Zc (by omega),Zy3 hn hp,ZL,Xm,Nat.min_eq_left (by omega),ZfH]
 unfold ZeB
 by_cases h:n % 2 ^ p = 0
 ·rw [Zc (by omega),Zc (by omega),Xe h,Bool.true_and]
  congr 2
  by_cases h2:o ≤ n / 2 ^ p
  ·rw [Xe h2,Xe (by omega)]
  ·rw [Wp h2,Wp (by omega)]
 ·rw [Zj (by omega),Wp h,Bool.false_and]
def Ke (size:Nat):Nat → List Int → List (List Int)
 | 0,_ => []
 | d + 1,r => r.take size :: Ke size d (r.drop size)
def Yo (l:List Int) (o p:Nat):List (List Int):=l.take ((l.length + o) / 2 ^ p - o) :: Ke ((l.length + o) / 2 ^ p) (2 ^ p - 1) (l.drop ((l.length + o) / 2 ^ p - o))
theorem ZpV (size:Nat):∀ (d:Nat) (r:List Int),(Ke size d r).length = d
 | 0,_ => rfl
 | d + 1,r => by simp [Ke,ZpV size d]
theorem Zjo (l:List Int) (o p:Nat):(Yo l o p).length = 2 ^ p:=by
 have h0:0 < 2 ^ p:=Nat.pow_pos (by omega)
 simp only [Yo,List.length_cons,ZpV]
 omega
theorem ZpW {size:Nat}:∀ {d:Nat} {r c:List Int},c ∈ Ke size d r → ∀ x ∈ c,x ∈ r
 | d + 1,r,c,h,x,hx => by
  rcases List.mem_cons.1 h with rfl | h
  ·exact List.mem_of_mem_take hx
  ·exact List.mem_of_mem_drop (ZpW h x hx)
theorem ZaR {l:List Int} {o p:Nat} {c:List Int} (h:c ∈ Yo l o p):∀ x ∈ c,x ∈ l:=by
 intro x hx
 rcases List.mem_cons.1 h with rfl | h
 ·exact List.mem_of_mem_take hx
 ·exact List.mem_of_mem_drop (ZpW h x hx)
theorem ZtU {size:Nat}:∀ {d:Nat} {r c:List Int},c ∈ Ke size d r → c.length ≤ r.length
 | d + 1,r,c,h => by
  rcases List.mem_cons.1 h with rfl | h
  ·rw [List.length_take]; omega
  ·have:=ZtU h
   rw [List.length_drop] at this
   omega
theorem Zjn {l:List Int} {o p:Nat} {c:List Int} (h:c ∈ Yo l o p):c.length ≤ l.length:=by
 rcases List.mem_cons.1 h with rfl | h
 ·rw [List.length_take]; omega
 ·have:=ZtU h
  rw [List.length_drop] at this
  omega
theorem ZHB (k:Nat) {p size:Nat} (hp:p ≤ 15):∀ (d m:Nat) (r:List Int) (out:List (List Int)),d < m → out.length + d = 2 ^ p → r.length = d * size → r.length < 4294967296 →
  Zn (fun L1 => Zcp k L1) m ((p:Int),r,(size:Int),out) = some (out ++ Ke size d r,()):=by
 have h15:2 ^ p ≤ 2 ^ 15:=Nat.pow_le_pow_right (by omega) hp
 intro d
 induction d with
 | zero =>
  intro m r out hm ho hr hn
  obtain ⟨m,rfl⟩:=ZC hm
  rw [Zg]
  simp only [Zcp]
  rw [Zc (by omega),Zpq (by omega),Zj (by simp only [Qz]; omega)]
  simp [Ke]
 | succ d ih =>
  intro m r out hm ho hr hn
  obtain ⟨m,rfl⟩:=ZC (show 0 < m by omega)
  rw [Zg]
  simp only [Zcp]
  have hs:(d + 1) * size = d * size + size:=by rw [Nat.add_mul,Nat.one_mul]
  have hle:size ≤ r.length:=by omega
  rw [Zc (by omega),Zpq (by omega),Zc (by simp only [Qz]; omega),Zc (by simp only [Qz]; omega),
   Zc (by simp only [List.length_singleton]; omega),Zc (by simp only [Qz]; omega)]
  rw [Xm,show (Int.ofNat r.length).toNat = r.length from rfl,List.take_length,List.drop_zero]
  rw [ih m (r.drop size) _ (by omega) (by rw [Wa,List.length_singleton]; omega) (by rw [List.length_drop]; omega) (by rw [List.length_drop]; omega)]
  simp [Ke]
theorem Zuc (k:Nat) {l:List Int} {o p:Nat} (hp:p ≤ 15) (hn:l.length + o < 4294967296) (hk:32768 < k) (hf:ZeB (l.length + o) o p = true) :
  Zmp k (l,(o:Int),(p:Int),()) = some (Yo l o p,()):=by
 show ZgE k (Zov k) _ = _
 have h15:2 ^ p ≤ 2 ^ 15:=Nat.pow_le_pow_right (by omega) hp
 have h0:0 < 2 ^ p:=Nat.pow_pos (by omega)
 unfold ZeB at hf
 simp only [Bool.and_eq_true,decide_eq_true_eq] at hf
 obtain ⟨hm,ho⟩:=hf
 simp only [ZgE]
 have e1:IntKind.i64.wrap (Int.ofNat l.length + (o:Int)) = ((l.length + o:Nat):Int):=by rw [Qi (by simp only [Qz]; omega)]; rfl
 have hd:(l.length + o) / 2 ^ p ≤ l.length + o:=Nat.div_le_self _ _
 have hmul:2 ^ p * ((l.length + o) / 2 ^ p) = l.length + o:=by have:=Nat.div_add_mod (l.length + o) (2 ^ p); omega
 unfold Yo
 rw [e1]
 simp only [Xm,Nat.min_eq_left (show p ≤ 64 by omega),ZfH]
 generalize hsz:(l.length + o) / 2 ^ p = size at ho hd hmul
 have e2:IntKind.i64.wrap ((size:Int) - (o:Int)) = ((size - o:Nat):Int):=by rw [Qi (by omega)]; omega
 have hle:size ≤ l.length + o:=hd
 have e3:(2 ^ p - 1) * size = 2 ^ p * size - size:=by rw [Nat.sub_mul,Nat.one_mul]
 rw [e2,Zc (by omega),Zc (by simp only [Qz]; omega),Zc (by simp only [Qz]; omega)]
 rw [Xm,show (Int.ofNat l.length).toNat = l.length from rfl,List.take_length,List.drop_zero]
 have hps:size ≤ 2 ^ p * size:=Nat.le_mul_of_pos_left _ h0
 refine Eq.trans (ZHB k hp (2 ^ p - 1) k _ _ (by omega) (by rw [List.length_singleton]; omega) (by rw [List.length_drop,e3]; omega) (by rw [List.length_drop]; omega)) ?_
 rfl
end Go.Sh
namespace Go.Sh
open Go Go.Proofs
def Zad (c:List Int) (m:Int) (y:Prt):Prop :=
 (∃ kk:Nat,kk < Xr m ∧ ZmY c kk = false ∧ y = ((kk:Int),0,((Zef c kk:Nat):Int),())) ∨
 (QP c ≤ 31 ∧ y = (((Xr m:Nat):Int),((QP c:Nat):Int),((5 + QP c * c.length:Nat):Int),()))
theorem ZTt {c:List Int} {m:Int}:∀ (d kk:Nat) (B:Prt × Bool),kk + d = Xr m → (B.2 = true → Zad c m B.1) → ((kF c d kk B).2 = true → Zad c m (kF c d kk B).1)
 | 0,_,B,_,hB => hB
 | d + 1,kk,B,hk,hB => by
  refine ZTt d (kk + 1) _ (by omega) fun h => ?_
  unfold Zh8 at h ⊢
  split
  ·rename_i hc
   exact .inl ⟨kk,by omega,hc.1,rfl⟩
  ·rename_i hc
   rw [if_neg hc] at h
   exact hB h
theorem ZeK {c:List Int} {m:Int} (h:(Wc c m).2 = true):Zad c m (Wc c m).1:=by
 unfold Wc at h ⊢
 simp only at h ⊢
 split
 ·rename_i hc
  exact .inr ⟨hc.1,rfl⟩
 ·rename_i hc
  rw [if_neg hc] at h
  exact ZTt _ _ _ (by omega) (fun h => by cases h) h
theorem ZGl {c:List Int}:∀ (d kk:Nat) (B:Prt × Bool),B.2 = true → (kF c d kk B).2 = true
 | 0,_,B,hB => hB
 | d + 1,kk,B,hB => by
  refine ZGl d (kk + 1) _ ?_
  unfold Zh8
  split
  ·rfl
  ·exact hB
theorem ZGm {c:List Int} {j:Nat} (hj:ZmY c j = false):∀ (d kk:Nat) (B:Prt × Bool),kk ≤ j → j < kk + d → (kF c d kk B).2 = true
 | 0,_,B,h1,h2 => by omega
 | d + 1,kk,B,h1,h2 => by
  by_cases he:kk = j
  ·subst he
   refine ZGl d _ _ ?_
   unfold Zh8
   split
   ·rfl
   ·rename_i hc
    simp only [hj,true_and,not_or] at hc
    simpa using hc.1
  ·exact ZGm hj d (kk + 1) _ (by omega) (by omega)
theorem ZXd {c:List Int} (hc:∀ x ∈ c,ZN x):ZmY c 16 = false:=by
 unfold ZmY
 rw [List.any_eq_false]
 intro x hx
 have h1:=Zsq (hc x hx)
 have:Z2 x / 2 ^ 16 < 65536:=by rw [Nat.div_lt_iff_lt_mul (by decide)]; omega
 simp only [decide_eq_true_eq]
 omega
theorem ZCi {c:List Int} (hc:∀ x ∈ c,ZN x):(Wc c 1).2 = true:=by
 unfold Wc
 simp only
 split
 ·rfl
 ·exact ZGm (ZXd hc) _ _ _ (by omega) (by decide)
theorem Zad.size {c:List Int} {m:Int} {y:Prt} (h:Zad c m y) (hc:∀ x ∈ c,ZN x) (hn:c.length ≤ 512):0 ≤ y.2.2.1 ∧ y.2.2.1 ≤ 4398046511104:=by
 have he:Xr m ≤ 31:=by unfold Xr; split <;> omega
 rcases h with ⟨kk,hk,_,rfl⟩ | ⟨hw,rfl⟩
 ·simp only
  have h1:(kk + 1) * c.length ≤ 32 * 512:=Nat.mul_le_mul (by omega) hn
  have h2:Zi4 (c.map fun n => Z2 n / 2 ^ kk) ≤ (c.map fun n => Z2 n / 2 ^ kk).length * 4294967295:=ZSM fun x hx => by
   obtain ⟨n,hn,rfl⟩:=List.mem_map.1 hx
   exact Zvp (hc n hn) kk
  rw [List.length_map] at h2
  unfold Zef
  omega
 ·simp only
  have h1:QP c * c.length ≤ 31 * 512:=Nat.mul_le_mul hw hn
  omega
def QK (m:Int):List (List Int) → List Prt → Int → List Prt × Int × Bool
 | [],ps,sz => (ps,sz,true)
 | c :: cs,ps,sz => if (Wc c m).2 = true then QK m cs (ps ++ [(Wc c m).1]) (sz + (4 + m + (Wc c m).1.2.2.1)) else (ps,sz,false)
theorem ZiT {m:Int} {c:List Int} (cs:List (List Int)) (ps:List Prt) (sz:Int) (h:(Wc c m).2 = true):QK m (c :: cs) ps sz = QK m cs (ps ++ [(Wc c m).1]) (sz + (4 + m + (Wc c m).1.2.2.1)):=by
 show (if (Wc c m).2 = true then _ else _) = _
 rw [if_pos h]
theorem Znc {m:Int} {c:List Int} (cs:List (List Int)) (ps:List Prt) (sz:Int) (h:(Wc c m).2 = false):QK m (c :: cs) ps sz = (ps,sz,false):=by
 show (if (Wc c m).2 = true then _ else _) = _
 rw [if_neg (by rw [h]; simp)]
abbrev XX:=Int × Int × Int × List Prt
def XS (l:List Int) (o p:Nat) (m:Int) (B:XX):XX :=
 if (QK m (Yo l o p) [] 6).2.2 = true ∧ (B.2.2.1 < 0 ∨ (QK m (Yo l o p) [] 6).2.1 < B.2.2.1) then (m,(p:Int),(QK m (Yo l o p) [] 6).2.1,(QK m (Yo l o p) [] 6).1) else B
def ZlU (l:List Int) (o:Nat) (B:XX) (p:Nat):XX:=if ZeB (l.length + o) o p = true then XS l o p 1 (XS l o p 0 B) else B
def Yi (l:List Int) (o:Nat):Nat → Nat → XX → XX
 | 0,_,B => B
 | d + 1,p,B => Yi l o d (p + 1) (ZlU l o B p)
def WP (l:List Int) (o:Nat):XX:=Yi l o 5 0 (0,0,-1,[])
theorem ZCH (k:Nat) (L1:Int × List Int × Int × Int × Int × Int × List (Int × Int × Int × Unit) × Int × Int × Int → Option ((Int × Int × List (Int × Int × Int × Unit) × Int × Unit) × Unit))
  (L2:Int × Int × List Int × Int × Int × Int × Int × List (Int × Int × Int × Unit) × Int × Int × Int → Option ((Int × Int × List (Int × Int × Int × Unit) × Int × Unit) × Unit))
  {cs:List (List Int)} (hcs:∀ c ∈ cs,(∀ x ∈ c,ZN x) ∧ c.length ≤ 512) (hn:cs.length ≤ 16) (hk:600 < k) {m:Int} (hm:m = 0 ∨ m = 1) (p:Int) (l:List Int) (o:Int) (B:XX) :
  ZbH k L1 L2 (Int.ofNat cs.length,(0:Int),cs,m,p,l,o,true,B.1,B.2.1,B.2.2.1,B.2.2.2,m,p,(6:Int),[],0,0,0) =
   L2 (m + 1,p,l,o,if (QK m cs [] 6).2.2 = true ∧ (B.2.2.1 < 0 ∨ (QK m cs [] 6).2.1 < B.2.2.1) then (m,p,(QK m cs [] 6).2.1,(QK m cs [] 6).1,0,0,0) else (B.1,B.2.1,B.2.2.1,B.2.2.2,0,0,0)):=by
 have hm1:IntKind.i64.wrap (m + 1) = m + 1:=by rcases hm with rfl | rfl <;> rfl
 have:=Zw (A:=Int × List Prt) (R:=(Int × Int × List (Int × Int × Int × Unit) × Int × Unit) × Unit) (step:=fun L3 => ZaD k L1 L2 L3)
  (fun i a => (Int.ofNat cs.length,Int.ofNat i,cs,m,p,l,o,true,B.1,B.2.1,B.2.2.1,B.2.2.2,m,p,a.1,a.2,0,0,0)) cs
  (fun cs' a => L2 (m + 1,p,l,o,if (QK m cs' a.2 a.1).2.2 = true ∧ (B.2.2.1 < 0 ∨ (QK m cs' a.2 a.1).2.1 < B.2.2.1) then (m,p,(QK m cs' a.2 a.1).2.1,(QK m cs' a.2 a.1).1,0,0,0) else (B.1,B.2.1,B.2.2.1,B.2.2.2,0,0,0)))
  (fun i a => 0 ≤ a.1 ∧ a.1 ≤ 6 + (i:Int) * 8796093022208 ∧ a.2.length = i)
  (fun L a _ => by
   simp only [ZaD]
   rw [Zj (QW _),hm1]
   simp only [cond_true,QK,true_and]
   by_cases h1:B.2.2.1 < 0
   ·rw [Zc h1,if_pos (.inl h1)]
   ·rw [Zj h1]
    by_cases h2:a.1 < B.2.2.1
    ·rw [Zc h2,if_pos (.inr h2)]
    ·rw [Zj h2,if_neg (by omega)])
  (fun L i hi a ha hL => by
   simp only [ZaD]
   obtain ⟨hc1,hc2⟩:=hcs cs[i] (List.getElem_mem hi)
   rw [Zc (K7 hi),Zc (XW hi),ZK hi,ZIf k hc1 hc2 (by omega) hm]
   simp only [Z1]
   cases hb:(Wc cs[i] m).2 with
   | false =>
    rw [Znc _ _ _ hb]
    simp only [Bool.not_false,cond_true,cond_false,hm1,Bool.false_eq_true,if_false,false_and]
   | true =>
    rw [ZiT _ _ _ hb]
    simp only [Bool.not_true,cond_false]
    have hs:=(ZeK hb).size hc1 hc2
    have hi16:(i:Int) < 16:=by omega
    have hm01:0 ≤ m ∧ m ≤ 1:=by rcases hm with rfl | rfl <;> omega
    rw [Zc (by simp only [List.length_singleton]; omega),ZTA,Zmr k hm]
    simp only [Z1]
    rw [Qk hi (by omega),Qi (n:=4 + m + (Wc cs[i] m).1.2.2.1) (by omega),Qi (by omega)]
    exact hL (a.1 + (4 + m + (Wc cs[i] m).1.2.2.1),a.2 ++ [(Wc cs[i] m).1]) ⟨by omega,by push_cast; omega,by simp; omega⟩)
  k 0 ((6:Int),[]) ⟨by omega,by simp,rfl⟩ (by omega) (Nat.zero_le _)
 rw [List.drop_zero] at this
 exact this
theorem ZHw (k:Nat) (L1:Int × List Int × Int × Int × Int × Int × List (Int × Int × Int × Unit) × Int × Int × Int → Option ((Int × Int × List (Int × Int × Int × Unit) × Int × Unit) × Unit))
  {l:List Int} (hl:∀ x ∈ l,ZN x) {o p:Nat} (hn:l.length + o ≤ 512) (hp:p ≤ 4) (hk:40000 < k) (hf:ZeB (l.length + o) o p = true) (B:XX) :
  ZjA k L1 ((0:Int),(p:Int),l,(o:Int),B.1,B.2.1,B.2.2.1,B.2.2.2,0,0,0) =
   L1 (((p + 1:Nat):Int),l,(o:Int),(XS l o p 1 (XS l o p 0 B)).1,(XS l o p 1 (XS l o p 0 B)).2.1,(XS l o p 1 (XS l o p 0 B)).2.2.1,(XS l o p 1 (XS l o p 0 B)).2.2.2,0,0,0):=by
 have hcs:∀ c ∈ Yo l o p,(∀ x ∈ c,ZN x) ∧ c.length ≤ 512:=fun c hc => ⟨fun x hx => hl x (ZaR hc x hx),by have:=Zjn hc; omega⟩
 have hlen:(Yo l o p).length ≤ 16:=by
  rw [Zjo]
  have:2 ^ p ≤ 2 ^ 4:=Nat.pow_le_pow_right (by omega) hp
  omega
 have hcut:=Zuc k (l:=l) (o:=o) (p:=p) (by omega) (by omega) (by omega) hf
 have one:∀ (j:Nat) (m:Int) (B:XX),m = 0 ∨ m = 1 → Zn (fun L2 => YD k (ZbH k L1 L2) L1 L2) (j + 1) (m,(p:Int),l,(o:Int),B.1,B.2.1,B.2.2.1,B.2.2.2,0,0,0) =
   Zn (fun L2 => YD k (ZbH k L1 L2) L1 L2) j (m + 1,(p:Int),l,(o:Int),(XS l o p m B).1,(XS l o p m B).2.1,(XS l o p m B).2.2.1,(XS l o p m B).2.2.2,0,0,0):=by
  intro j m B hm
  rw [Zg]
  simp only [YD]
  rw [Zc (by rcases hm with rfl | rfl <;> omega),hcut]
  simp only [Z1]
  refine (ZCH k L1 _ hcs hlen (by omega) hm (p:Int) l (o:Int) B).trans ?_
  unfold XS
  split <;> rfl
 obtain ⟨j,rfl⟩:∃ j,k = j + 3:=⟨k - 3,by omega⟩
 show Zn (fun L2 => YD (j + 3) (ZbH (j + 3) L1 L2) L1 L2) (j + 3) _ = _
 rw [one (j + 2) 0 B (.inl rfl),show (0:Int) + 1 = 1 from rfl,one (j + 1) 1 _ (.inr rfl),Zg]
 simp only [YD]
 rw [Zj (by omega),Qi (by omega)]
 rfl
theorem Zub (k:Nat) {l:List Int} (hl:∀ x ∈ l,ZN x) {o:Nat} (hn:l.length + o ≤ 512) (hk:40000 < k) :
  Zmo k (l,(o:Int),()) = some (((WP l o).1,(WP l o).2.1,(WP l o).2.2.2,(WP l o).2.2.1,()),()):=by
 show ZgC k (Zot k) _ = _
 simp only [ZgC]
 suffices H:∀ (d p m:Nat) (B:XX),d < m → p + d = 5 → Zn (fun L1 => Zco k (ZjA k L1) L1) m ((p:Int),l,(o:Int),B.1,B.2.1,B.2.2.1,B.2.2.2,0,0,0) =
   some (((Yi l o d p B).1,(Yi l o d p B).2.1,(Yi l o d p B).2.2.2,(Yi l o d p B).2.2.1,()),()) from H 5 0 k (0,0,-1,[]) (by omega) rfl
 intro d
 induction d with
 | zero =>
  intro p m B hm hp
  obtain ⟨m,rfl⟩:=ZC hm
  rw [Zg]
  simp only [Zco]
  rw [Zj (by omega)]
  rfl
 | succ d ih =>
  intro p m B hm hp
  obtain ⟨m,rfl⟩:=ZC (show 0 < m by omega)
  rw [Zg]
  simp only [Zco]
  have e1:IntKind.i64.wrap (Int.ofNat l.length + (o:Int)) = ((l.length + o:Nat):Int):=by rw [Qi (by simp only [Qz]; omega)]; rfl
  rw [Zc (by omega),e1,ZXt,Zut k (by omega) (by omega)]
  simp only [Z1]
  have e2:IntKind.i64.wrap ((p:Int) + 1) = ((p + 1:Nat):Int):=by rw [Qi (by omega)]; rfl
  cases hf:ZeB (l.length + o) o p with
  | false =>
   simp only [Bool.not_false,cond_true]
   rw [e2,ih (p + 1) m B (by omega) (by omega)]
   simp only [Yi,ZlU,hf,Bool.false_eq_true,if_false]
  | true =>
   simp only [Bool.not_true,cond_false]
   rw [ZHw k _ hl hn (by omega) hk hf,ih (p + 1) m _ (by omega) (by omega)]
   simp only [Yi,ZlU,hf,if_true]
structure RGood (l:List Int) (o:Nat) (R:XX) (p:Nat):Prop where
 hp:R.2.1 = (p:Int)
 p4:p ≤ 4
 fit:ZeB (l.length + o) o p = true
 hm:R.1 = 0 ∨ R.1 = 1
 parts:QK R.1 (Yo l o p) [] 6 = (R.2.2.2,R.2.2.1,true)
theorem Znd {m:Int} (hm:0 ≤ m):∀ (cs:List (List Int)) (ps:List Prt) (sz:Int),(∀ c ∈ cs,(∀ x ∈ c,ZN x) ∧ c.length ≤ 512) → sz ≤ (QK m cs ps sz).2.1
 | [],_,_,_ => Int.le_refl _
 | c :: cs,ps,sz,h => by
  unfold QK
  split
  ·rename_i hb
   have h1:=h c (List.mem_cons_self ..)
   have h2:=(ZeK hb).size h1.1 h1.2
   have:=Znd hm cs (ps ++ [(Wc c m).1]) (sz + (4 + m + (Wc c m).1.2.2.1)) fun c hc => h c (List.mem_cons_of_mem _ hc)
   omega
  ·exact Int.le_refl _
theorem ZsS {l:List Int} {o p:Nat} {m:Int} {B:XX} (hm:m = 0 ∨ m = 1) (hp:p ≤ 4) (hf:ZeB (l.length + o) o p = true) (hB:B.2.2.1 < 0 ∨ ∃ q,RGood l o B q) :
  (XS l o p m B).2.2.1 < 0 ∨ ∃ q,RGood l o (XS l o p m B) q:=by
 unfold XS
 split
 ·rename_i hc
  right
  refine ⟨p,rfl,hp,hf,hm,?_⟩
  simp only
  rw [← hc.1]
 ·exact hB
theorem ZEJ {l:List Int} {o p:Nat} {B:XX} (hp:p ≤ 4) (hB:B.2.2.1 < 0 ∨ ∃ q,RGood l o B q):(ZlU l o B p).2.2.1 < 0 ∨ ∃ q,RGood l o (ZlU l o B p) q:=by
 unfold ZlU
 split
 ·rename_i hf
  exact ZsS (.inr rfl) hp hf (ZsS (.inl rfl) hp hf hB)
 ·exact hB
theorem Zjf {l:List Int} {o:Nat}:∀ (d p:Nat) (B:XX),p + d ≤ 5 → (B.2.2.1 < 0 ∨ ∃ q,RGood l o B q) → (Yi l o d p B).2.2.1 < 0 ∨ ∃ q,RGood l o (Yi l o d p B) q
 | 0,_,B,_,hB => hB
 | d + 1,p,B,h,hB => Zjf d (p + 1) _ (by omega) (ZEJ (by omega) hB)
theorem ZsT {l:List Int} {o p:Nat} {m:Int} {B:XX} (hl:∀ x ∈ l,ZN x) (hn:l.length ≤ 512) (hm:0 ≤ m) (hB:0 ≤ B.2.2.1):0 ≤ (XS l o p m B).2.2.1:=by
 unfold XS
 split
 ·have:=Znd hm (Yo l o p) [] 6 fun c hc => ⟨fun x hx => hl x (ZaR hc x hx),by have:=Zjn hc; omega⟩
  simp only
  omega
 ·exact hB
theorem ZpU {l:List Int} {o:Nat} (hl:∀ x ∈ l,ZN x) (hn:l.length ≤ 512):∀ (d p:Nat) (B:XX),0 ≤ B.2.2.1 → 0 ≤ (Yi l o d p B).2.2.1
 | 0,_,B,hB => hB
 | d + 1,p,B,hB => ZpU hl hn d (p + 1) _ (by
  unfold ZlU
  split
  ·exact ZsT hl hn (by omega) (ZsT hl hn (by omega) hB)
  ·exact hB)
theorem ZvH {m:Int}:∀ (cs:List (List Int)) (ps:List Prt) (sz:Int),(∀ c ∈ cs,(Wc c m).2 = true) → (QK m cs ps sz).2.2 = true
 | [],_,_,_ => rfl
 | c :: cs,ps,sz,h => by
  unfold QK
  rw [if_pos (h c (List.mem_cons_self ..))]
  exact ZvH cs _ _ fun c hc => h c (List.mem_cons_of_mem _ hc)
theorem Zap {l:List Int} {o:Nat} (hl:∀ x ∈ l,ZN x) (hn:l.length + o ≤ 512) (ho:o ≤ l.length + o):0 ≤ (WP l o).2.2.1 ∧ ∃ q,RGood l o (WP l o) q:=by
 have hnn:0 ≤ (WP l o).2.2.1:=by
  show 0 ≤ (Yi l o 4 1 (ZlU l o (0,0,-1,[]) 0)).2.2.1
  refine ZpU hl (by omega) 4 1 _ ?_
  unfold ZlU
  have hf:ZeB (l.length + o) o 0 = true:=by unfold ZeB; simp [Nat.mod_one]
  rw [if_pos hf]
  generalize XS l o 0 0 (0,0,-1,[]) = B
  by_cases hB:0 ≤ B.2.2.1
  ·exact ZsT hl (by omega) (by omega) hB
  ·unfold XS
   have hok:=ZvH (m:=1) (Yo l o 0) [] 6 fun c hc => ZCi fun x hx => hl x (ZaR hc x hx)
   rw [if_pos ⟨hok,.inl (by omega)⟩]
   have:=Znd (m:=1) (by omega) (Yo l o 0) [] 6 fun c hc => ⟨fun x hx => hl x (ZaR hc x hx),by have:=Zjn hc; omega⟩
   simp only
   omega
 refine ⟨hnn,?_⟩
 rcases Zjf (l:=l) (o:=o) 5 0 (0,0,-1,[]) (by omega) (.inl (by show (-1:Int) < 0; omega)) with h | h
 ·exact absurd h (by unfold WP at hnn; omega)
 ·exact h
end Go.Sh
namespace Go.Sh
open Go Go.Proofs
theorem ZH6 (k:Nat) {l:List Int} (hl:l.length ≤ 512) {o:Nat} (hk:40000 < k) :
  Zqx k (l,(o:Int),()) = some ((if Yl l o = 0 then ((WP l o).2.2.1,0,()) else (0,Yl l o,())),()):=by
 show ZgX k _ = _
 simp only [ZgX]
 rw [Zua k l o (by omega) (by omega)]
 simp only [Z1]
 rw [ZI]
 by_cases h:Yl l o = 0
 ·rw [Zj (by simpa using h),if_pos h]
  have hc:Zb5 ((l.length:Int) + o) o = true ∧ l.any Qv = false:=by
   unfold Yl at h
   split at h
   ·omega
   ·split at h
    ·omega
    ·rename_i hb
     split at h
     ·omega
     ·rename_i hw
      exact ⟨by simpa using hb,by simpa using hw⟩
  have hb:=of_decide_eq_true hc.1
  rw [Zub k (Kt hc.2) (by omega) hk]
  rfl
 ·rw [Zc h,if_neg h]
theorem Zf5 {l:List Int} {o:Nat}:Yl l o = 0 ↔ (1 ≤ l.length + o ∧ l.length + o ≤ 512 ∧ o ≤ 8) ∧ l.any Qv = false:=by
 unfold Yl
 constructor
 ·intro h
  split at h
  ·omega
  ·split at h
   ·omega
   ·rename_i h1 h2
    split at h
    ·omega
    ·rename_i hw
     have:=of_decide_eq_true (by simpa using h2:Zb5 ((l.length:Int) + o) o = true)
     exact ⟨by omega,by simpa using hw⟩
 ·rintro ⟨h1,h2⟩
  rw [if_neg (by omega),if_neg,if_neg (by simp [h2])]
  unfold Zb5
  rw [Xe (by omega)]
  simp
def KH (kk:Nat) (n:Int):List Bool:=(List.replicate (Z2 n / 2 ^ kk) false ++ [true]) ++ Zb (Z2 n % 2 ^ kk) kk
def YZ (m:Int) (y:Prt) (c:List Int):List Bool:=if y.1 = (Xr m:Int) then c.flatMap (fun n => WF n y.2.1.toNat) else c.flatMap (KH y.1.toNat)
def XB (m:Int) (x:List Int × Prt):List Bool:=Zb x.2.1.toNat (4 + m.toNat) ++ ((if x.2.1 = (Xr m:Int) then Zb x.2.2.1.toNat 5 else []) ++ YZ m x.2 x.1)
def Zf1 (l:List Int) (o:Nat) (R:XX):List Bool:=(Zb R.1.toNat 2 ++ Zb R.2.1.toNat 4) ++ ((Yo l o R.2.1.toNat).zip R.2.2.2).flatMap (XB R.1)
def Xi (l:List Int) (o:Nat):List Bool:=Zf1 l o (WP l o)
theorem ZfZ (kk:Nat) (n:Int):(KH kk n).length = Z2 n / 2 ^ kk + 1 + kk:=by
 simp [KH,Zk]
 omega
theorem ZAN (k:Nat) (L1:Int × Int × List (List Int) × Int × List Int × Int × Int × List (Int × Int × Int × Unit) × Int → Option (Int × (List Int × Int × Unit) × Unit))
  {c:List Int} (hc:∀ x ∈ c,ZN x) (hn:c.length ≤ 512) (hk:70000 < k) {m:Int} (hm:m = 0 ∨ m = 1) {y:Prt} (hy:Zad c m y) (v3 v4:Int) (v5:List (List Int)) (v12:Int) (v13:List Prt) (v14:Int)
  (hv3:0 ≤ v3 ∧ v3 ≤ 65536) (bs:List Bool) (hb:bs.length ≤ 2147483648) :
  ZmX k L1 (Int.ofNat c.length,(0:Int),c,v3,v4,v5,(bs.length:Int),ZM bs,y.1,y.2.1,y.2.2.1,m,v12,v13,v14) =
   L1 (v4,v3 + 1,v5,((bs ++ YZ m y c).length:Int),ZM (bs ++ YZ m y c),m,v12,v13,v14):=by
 have he:Xr m ≤ 31:=by unfold Xr; split <;> omega
 have hfin:∀ (g:Int → List Bool),(∀ x ∈ c,(g x).length ≤ 70000) →
   (∀ (L:Int × Int × List Int × Int × Int × List (List Int) × Int × List Int × Int × Int × Int × Int × Int × List (Int × Int × Int × Unit) × Int → Option (Int × (List Int × Int × Unit) × Unit)) (i:Nat) (hi:i < c.length) (a:List Bool),a.length ≤ 2147483648 + i * 70000 →
    K3 k L1 L (Int.ofNat c.length,Int.ofNat i,c,v3,v4,v5,(a.length:Int),ZM a,y.1,y.2.1,y.2.2.1,m,v12,v13,v14) =
    L (Int.ofNat c.length,Int.ofNat (i + 1),c,v3,v4,v5,((a ++ g c[i]).length:Int),ZM (a ++ g c[i]),y.1,y.2.1,y.2.2.1,m,v12,v13,v14)) →
   ZmX k L1 (Int.ofNat c.length,(0:Int),c,v3,v4,v5,(bs.length:Int),ZM bs,y.1,y.2.1,y.2.2.1,m,v12,v13,v14) =
   L1 (v4,v3 + 1,v5,((bs ++ c.flatMap g).length:Int),ZM (bs ++ c.flatMap g),m,v12,v13,v14):=by
  intro g hg hstep
  have:=Zw (A:=List Bool) (R:=Int × (List Int × Int × Unit) × Unit) (step:=fun L2 => K3 k L1 L2)
   (fun i a => (Int.ofNat c.length,Int.ofNat i,c,v3,v4,v5,(a.length:Int),ZM a,y.1,y.2.1,y.2.2.1,m,v12,v13,v14)) c
   (fun c' a => L1 (v4,v3 + 1,v5,((a ++ c'.flatMap g).length:Int),ZM (a ++ c'.flatMap g),m,v12,v13,v14))
   (fun i a => a.length ≤ 2147483648 + i * 70000)
   (fun L a _ => by
    simp only [K3]
    rw [Zj (QW _),Qi (by omega)]
    simp)
   (fun L i hi a ha hL => by
    rw [hstep L i hi a ha,hL (a ++ g c[i]) (by
     have:=hg c[i] (List.getElem_mem hi)
     rw [Wa]; omega)]
    rw [List.flatMap_cons,List.append_assoc])
   k 0 bs (by omega) (by omega) (Nat.zero_le _)
  rw [List.drop_zero] at this
  exact this
 unfold YZ
 rcases hy with ⟨kk,hkk,hfar,rfl⟩ | ⟨hw,rfl⟩
 ·simp only
  rw [if_neg (by omega)]
  have hq:∀ x ∈ c,Z2 x / 2 ^ kk ≤ 65536:=by
   intro x hx
   unfold ZmY at hfar
   rw [List.any_eq_false] at hfar
   have:=hfar x hx
   simp only [decide_eq_true_eq] at this
   omega
  rw [Xm]
  refine hfin (KH kk) (fun x hx => by have:=hq x hx; rw [ZfZ]; omega) ?_
  intro L i hi a ha
  have hx:=hc c[i] (List.getElem_mem hi)
  have hxq:=hq c[i] (List.getElem_mem hi)
  simp only [K3]
  rw [Zc (K7 hi),Zc (XW hi),ZGL,Zcq k hm]
  simp only [Z1]
  rw [ZL,Zj (by omega),ZK hi,ZWu,Zuj k hx]
  simp only [Z1]
  have hf32:=Zsq hx
  rw [Zc (by omega),Zy3 (by omega) (by omega)]
  simp only [Xm,Nat.min_eq_left (show kk ≤ 64 by omega),ZfH]
  rw [show ((ZM a,((a.length:Nat):Int),()):List Int × Int × Unit) = KA a from rfl,ZAL k a _ (by omega) hxq (by omega)]
  simp only [Z1]
  rw [Zc (by omega)]
  have hlen:(a ++ (List.replicate (Z2 c[i] / 2 ^ kk) false ++ [true])).length = a.length + (Z2 c[i] / 2 ^ kk + 1):=by simp
  rw [QS k (a ++ (List.replicate (Z2 c[i] / 2 ^ kk) false ++ [true])) _ kk (by omega) (by omega) (Nat.mod_lt _ (Nat.pow_pos (by omega))) (by rw [hlen]; omega)]
  simp only [Z1]
  rw [Qk hi (by omega)]
  unfold KH
  simp only [List.append_assoc]
 ·simp only
  rw [if_pos trivial,Xm]
  refine hfin (fun n => WF n (QP c)) (fun x hx => by simp only [ZaI]; omega) ?_
  intro L i hi a ha
  have hx:=Zv1 hc c[i] (List.getElem_mem hi)
  simp only [K3]
  rw [Zc (K7 hi),Zc (XW hi),ZGL,Zcq k hm]
  simp only [Z1]
  rw [ZL,Zc rfl,ZK hi]
  rw [show ((ZM a,((a.length:Nat):Int),()):List Int × Int × Unit) = KA a from rfl,Zt9 k a _ (QP c) (by omega) (by omega) hx (by omega)]
  simp only [Z1]
  rw [Qk hi (by omega)]
theorem ZBe {c:List Int} (hc:∀ x ∈ c,ZN x) (hn:c.length ≤ 512) {m:Int} {y:Prt} (hy:Zad c m y):(YZ m y c).length ≤ c.length * 70000:=by
 have he:Xr m ≤ 31:=by unfold Xr; split <;> omega
 have key:∀ (g:Int → List Bool) (l:List Int),(∀ x ∈ l,(g x).length ≤ 70000) → (l.flatMap g).length ≤ l.length * 70000:=by
  intro g l
  induction l with
  | nil => intro _; simp
  | cons a l ih =>
   intro h
   have h1:=h a (List.mem_cons_self ..)
   have h2:=ih fun x hx => h x (List.mem_cons_of_mem _ hx)
   rw [List.flatMap_cons,Wa,List.length_cons]
   omega
 unfold YZ
 rcases hy with ⟨kk,hkk,hfar,rfl⟩ | ⟨hw,rfl⟩
 ·simp only
  rw [if_neg (by omega)]
  refine key _ c fun x hx => ?_
  unfold ZmY at hfar
  rw [List.any_eq_false] at hfar
  have:=hfar x hx
  simp only [decide_eq_true_eq] at this
  rw [ZfZ,Xm]
  omega
 ·simp only
  rw [if_pos trivial]
  refine key _ c fun x hx => ?_
  rw [ZaI,Xm]
  omega
def KB (m:Int):List (List Int) → List Prt → Prop
 | [],[] => True
 | c :: cs,y :: ys => Zad c m y ∧ KB m cs ys
 | _,_ => False
theorem Zf0 {m:Int}:∀ (cs:List (List Int)) (ps:List Prt) (sz:Int),(QK m cs ps sz).2.2 = true → ∃ ys,(QK m cs ps sz).1 = ps ++ ys ∧ KB m cs ys ∧ ys = cs.map fun c => (Wc c m).1
 | [],ps,sz,_ => ⟨[],by simp [QK],trivial,rfl⟩
 | c :: cs,ps,sz,h => by
  unfold QK at h ⊢
  split at h
  ·rename_i hb
   rw [if_pos hb]
   obtain ⟨ys,h1,h2,h3⟩:=Zf0 cs _ _ h
   refine ⟨(Wc c m).1 :: ys,by rw [h1]; simp,⟨ZeK hb,h2⟩,by rw [h3]; rfl⟩
  ·cases h
theorem KB.len {m:Int}:∀ {cs:List (List Int)} {ys:List Prt},KB m cs ys → ys.length = cs.length
 | [],[],_ => rfl
 | c :: cs,y :: ys,h => by simp [KB.len h.2]
theorem KB.get {m:Int}:∀ {cs:List (List Int)} {ys:List Prt},KB m cs ys → ∀ (i:Nat) (h1:i < cs.length) (h2:i < ys.length),Zad cs[i] m ys[i]
 | c :: cs,y :: ys,h,0,_,_ => h.1
 | c :: cs,y :: ys,h,i + 1,h1,h2 => by
  simp only [List.getElem_cons_succ]
  exact KB.get h.2 i (by simpa using h1) (by simpa using h2)
theorem RGood.ys {l:List Int} {o p:Nat} {R:XX} (h:RGood l o R p):KB R.1 (Yo l o p) R.2.2.2:=by
 obtain ⟨ys,h1,h2,_⟩:=Zf0 (m:=R.1) (Yo l o p) [] 6 (by rw [h.parts])
 rw [h.parts] at h1
 simp only [List.nil_append] at h1
 rw [h1]; exact h2
theorem ZsQ {c:List Int} {m:Int} (hm:m = 0 ∨ m = 1) {y:Prt} (hy:Zad c m y):∃ a w:Nat,y.1 = (a:Int) ∧ a < 2 ^ (4 + m.toNat) ∧ y.2.1 = (w:Int) ∧ w ≤ 31:=by
 rcases hy with ⟨kk,hkk,hfar,rfl⟩ | ⟨hw,rfl⟩
 ·refine ⟨kk,0,rfl,?_,rfl,by omega⟩
  rcases hm with rfl | rfl
  ·have:Xr 0 = 15:=rfl
   rw [this] at hkk
   show kk < 16
   omega
  ·have:Xr 1 = 31:=rfl
   rw [this] at hkk
   show kk < 32
   omega
 ·refine ⟨Xr m,QP c,rfl,?_,rfl,hw⟩
  rcases hm with rfl | rfl <;> decide
theorem ZAO (k:Nat) {l:List Int} {o:Nat} (hk:70000 < k) (h:Yl l o = 0) (bs:List Bool) (hb:bs.length ≤ 1073741824) :
  Zh2 k (KA bs,l,(o:Int),()) = some (0,KA (bs ++ Xi l o),()):=by
 show Zli k (Zx6 k) _ = _
 have ⟨h1,h2⟩:=Zf5.1 h
 have hl:=Kt h2
 obtain ⟨hsz,q,hg⟩:=Zap hl (o:=o) (by omega) (by omega)
 simp only [Zli]
 rw [Zua k l o (by omega) (by omega),h]
 simp only [Z1]
 rw [show ((0:Int) != 0) = false from rfl]
 simp only [cond_false]
 rw [Zub k hl (by omega) (by omega)]
 simp only [Z1]
 unfold Xi Zf1
 generalize WP l o = R at hg hsz
 have hys:=hg.ys
 obtain ⟨m,p,sz,ys⟩:=R
 obtain ⟨hp,p4,hfit,hm,hparts⟩:=hg
 simp only at hp hm hparts hys
 subst hp
 simp only [Xm]
 have hmn:m = ((m.toNat:Nat):Int):=by rcases hm with rfl | rfl <;> rfl
 have hm2:m.toNat < 2 ^ 2:=by rcases hm with rfl | rfl <;> decide
 have e1:=QS k bs m.toNat 2 (by omega) (by omega) hm2 (by omega)
 rw [← hmn] at e1
 rw [show ((ZM bs,((bs.length:Nat):Int),()):List Int × Int × Unit) = KA bs from rfl,show (2:Int) = ((2:Nat):Int) from rfl,e1]
 simp only [Z1]
 have hl1:(bs ++ Zb m.toNat 2).length = bs.length + 2:=by rw [Wa,Zk]
 have e2:=QS k (bs ++ Zb m.toNat 2) q 4 (by omega) (by omega) (by omega) (by rw [hl1]; omega)
 rw [show (4:Int) = ((4:Nat):Int) from rfl,e2]
 simp only [Z1]
 rw [Zuc k (by omega) (by omega) (by omega) hfit]
 simp only [Z1]
 have hcs:∀ c ∈ Yo l o q,(∀ x ∈ c,ZN x) ∧ c.length ≤ 512:=fun c hc => ⟨fun x hx => hl x (ZaR hc x hx),by have:=Zjn hc; omega⟩
 have hclen:(Yo l o q).length ≤ 16:=by
  rw [Zjo]
  have:2 ^ q ≤ 2 ^ 4:=Nat.pow_le_pow_right (by omega) p4
  omega
 have hyl:=hys.len
 generalize Yo l o q = cs at hcs hclen hys hyl
 have hzl:(cs.zip ys).length = cs.length:=by rw [List.length_zip]; omega
 have hl2:(bs ++ Zb m.toNat 2 ++ Zb q 4).length = bs.length + 6:=by rw [Wa,hl1,Zk]
 have:=Zw (A:=List Bool) (R:=Int × (List Int × Int × Unit) × Unit) (step:=fun L1 => ZfE k (ZmX k L1) L1)
  (fun i a => (Int.ofNat cs.length,Int.ofNat i,cs,(a.length:Int),ZM a,m,(q:Int),ys,sz)) (cs.zip ys)
  (fun l' a => some (0,KA (a ++ l'.flatMap (XB m)),()))
  (fun i a => a.length ≤ 1073741900 + i * 35900000)
  (fun L a _ => by
   simp only [ZfE]
   rw [hzl,Zj (QW _)]
   simp)
  (fun L i hi a ha hL => by
   have hi1:i < cs.length:=by omega
   have hi2:i < ys.length:=by omega
   obtain ⟨hc1,hc2⟩:=hcs cs[i] (List.getElem_mem hi1)
   have hy:=hys.get i hi1 hi2
   have hzi:(cs.zip ys)[i] = (cs[i],ys[i]):=by rw [List.getElem_zip]
   simp only [ZfE]
   rw [Zc (K7 hi1),Zc (XW hi1),Zc (XW hi2),ZTA,Zmr k hm]
   simp only [Z1]
   rw [ZK hi1,ZK hi2]
   obtain ⟨b,w,hb1,hb2,hw1,hw2⟩:=ZsQ hm hy
   have hll:=ZBe hc1 hc2 hy
   have e4:(4:Int) + m = ((4 + m.toNat:Nat):Int):=by rcases hm with rfl | rfl <;> rfl
   have hm1:m.toNat ≤ 1:=by rcases hm with rfl | rfl <;> decide
   rw [hb1,hw1,e4,show ((ZM a,((a.length:Nat):Int),()):List Int × Int × Unit) = KA a from rfl,QS k a b (4 + m.toNat) (by omega) (by omega) hb2 (by omega)]
   simp only [Z1]
   rw [ZGL,Zcq k hm]
   simp only [Z1]
   have hla:(a ++ Zb b (4 + m.toNat)).length = a.length + (4 + m.toNat):=by rw [Wa,Zk]
   have hI:((i:Nat):Int) ≤ 16:=by omega
   have hout:XB m (cs[i],ys[i]) = Zb b (4 + m.toNat) ++ ((if (b:Int) = (Xr m:Int) then Zb w 5 else []) ++ YZ m ys[i] cs[i]):=by
    unfold XB
    simp only [hb1,hw1,Xm]
   rw [hzi,List.flatMap_cons,hout,ZL]
   have hnext:Int.ofNat i + 1 = Int.ofNat (i + 1):=rfl
   by_cases hesc:(b:Int) = (Xr m:Int)
   ·rw [Zc hesc,if_pos hesc]
    have h5:w < 2 ^ 5:=by omega
    rw [show ((5:Int)) = ((5:Nat):Int) from rfl,QS k (a ++ Zb b (4 + m.toNat)) w 5 (by omega) (by omega) h5 (by omega)]
    simp only [Z1]
    have hlb:(a ++ Zb b (4 + m.toNat) ++ Zb w 5).length = a.length + (4 + m.toNat) + 5:=by rw [Wa,hla,Zk]
    have:=ZAN k L hc1 hc2 (by omega) hm hy (Int.ofNat i) (Int.ofNat cs.length) cs (q:Int) ys sz (by simp only [Qz]; omega) (a ++ Zb b (4 + m.toNat) ++ Zb w 5) (by omega)
    rw [hb1,hw1] at this
    refine Eq.trans this ?_
    rw [hnext,hL _ (by rw [Wa,hlb]; omega)]
    simp
   ·rw [Zj hesc,if_neg hesc]
    have:=ZAN k L hc1 hc2 (by omega) hm hy (Int.ofNat i) (Int.ofNat cs.length) cs (q:Int) ys sz (by simp only [Qz]; omega) (a ++ Zb b (4 + m.toNat)) (by omega)
    rw [hb1,hw1] at this
    refine Eq.trans this ?_
    rw [hnext,hL _ (by rw [Wa,hla]; omega)]
    simp)
  k 0 (bs ++ Zb m.toNat 2 ++ Zb q 4) (by omega) (by omega) (Nat.zero_le _)
 rw [List.drop_zero] at this
 refine Eq.trans this ?_
 simp
end Go.Sh
namespace Go.Sh
open Go Go.Proofs
theorem ZAP (k:Nat) (n d:Int):Zvh k (n,d,()) = some (decide (1 ≤ n ∧ n ≤ 512 ∧ 4 ≤ d ∧ d ≤ 25),()):=by
 show Zlo k _ = _
 simp only [Zlo]
 by_cases h1:1 ≤ n
 ·rw [Zc h1]
  by_cases h2:n ≤ 512
  ·rw [Zc h2]
   by_cases h3:4 ≤ d
   ·rw [Zc h3]
    congr 2
    by_cases h4:d ≤ 25
    ·rw [Xe h4,Xe (by omega)]
    ·rw [Wp h4,Wp (by omega)]
   ·rw [Zj h3,Wp (by omega)]
  ·rw [Zj h2,Wp (by omega)]
 ·rw [Zj h1,Wp (by omega)]
theorem ZAS (k:Nat) (x:Int) {d:Nat} (h1:1 ≤ d) (h2:d ≤ 64):Zvi k (x,(d:Int),()) = some (Xl x d,()):=by
 show Zlr k _ = _
 simp only [Zlr]
 have e1:IntKind.i64.wrap ((d:Int) - 1) = ((d - 1:Nat):Int):=by rw [Qi (by omega)]; omega
 rw [e1,ZBz x (by omega)]
 simp only [Xm,Nat.min_eq_left (show d - 1 ≤ 64 by omega)]
 rw [Zc (by omega),Zc (by omega)]
 cases x.fdiv (2 ^ (d - 1)) == 0 <;> rfl
theorem ZHk (k:Nat) (x:Int) {d:Nat} (h1:1 ≤ d) (h2:d ≤ 64):Zqc k (x,((d:Int),()),()) = some (!Xl x d,((d:Int),()),()):=by
 show Zgq k _ = _
 simp only [Zgq]
 rw [ZAS k x h1 h2]
 rfl
theorem Zzv (k:Nat) (c:List Int) {d:Nat} (h1:1 ≤ d) (h2:d ≤ 64) (hk:c.length < k) (hn:c.length < 4294967296) :
  ZeQ k (c,(((d:Int),()),()),()) = some (!c.all (Xl · d),((d:Int),()),()):=by
 show Zbz k _ = _
 simp only [Zbz]
 have key:∃ i:Int,ZeZ k (c,(((d:Int),()),()),()) = some (i,((d:Int),()),()) ∧ (0 ≤ i ↔ c.all (Xl · d) = false):=by
  have:=QG (A:=Unit) (R:=Int × (Int × Unit) × Unit) (step:=fun L1 => KQ k L1) (fun i _ => (Int.ofNat c.length,Int.ofNat i,c,(d:Int))) c
   (fun l _ => some (if l.all (Xl · d) then -1 else Int.ofNat (c.length - l.length + (l.takeWhile (fun x => Xl x d)).length),((d:Int),()),()))
   (fun L _ => by simp only [KQ]; rw [Zj (QW _)]; rfl)
   (fun L i hi _ hL => by
    simp only [KQ]
    rw [Zc (K7 hi),Zc (XW hi),ZK hi,ZHk k _ h1 h2]
    simp only [Z1]
    have hlen:(List.drop (i + 1) c).length = c.length - (i + 1):=by simp
    cases hc:Xl c[i] d with
    | true =>
     simp only [Bool.not_true,cond_false]
     rw [Qk hi (by omega),hL ()]
     simp only [List.all_cons,hc,Bool.true_and,List.takeWhile_cons,if_true,List.length_cons,hlen]
     split
     ·rfl
     ·congr 3; omega
    | false =>
     simp only [Bool.not_false,cond_true,List.all_cons,hc,Bool.false_and,Bool.false_eq_true,if_false,List.takeWhile_cons,List.length_cons,hlen,List.length_nil]
     congr 3; omega) k 0 () (by omega) (Nat.zero_le _)
  rw [List.drop_zero] at this
  refine ⟨_,this,?_⟩
  cases c.all (Xl · d) <;> simp
 obtain ⟨i,h1,h2⟩:=key
 rw [h1]
 simp only [Z1]
 cases hc:c.all (Xl · d) with
 | false => rw [Xe (h2.2 hc)]; rfl
 | true => rw [Wp (fun h => by have:=h2.1 h; rw [hc] at this; cases this)]; rfl
def ZhM (s:List Int) (d:Int):Int:=if 1 ≤ s.length ∧ s.length ≤ 512 ∧ 4 ≤ d ∧ d ≤ 25 then (if s.all (Xl · d.toNat) = true then 0 else 12) else 1
theorem ZNK (k:Nat) (s:List Int) (d:Int) (hk:1000 < k):Zvf k (s,d,()) = some (ZhM s d,()):=by
 show Zld k _ = _
 simp only [Zld]
 rw [ZAP]
 simp only [Z1]
 unfold ZhM
 by_cases h:1 ≤ s.length ∧ s.length ≤ 512 ∧ 4 ≤ d ∧ d ≤ 25
 ·rw [if_pos h,Xe (by simp only [Qz]; omega)]
  simp only [Bool.not_true,cond_false]
  obtain ⟨e,rfl⟩:=Int.eq_ofNat_of_zero_le (show 0 ≤ d by omega)
  rw [Zzv k s (by omega) (by omega) (by omega) (by omega),Xm]
  simp only [Z1]
  cases s.all (Xl · e) <;> rfl
 ·rw [if_neg h,Wp (by simp only [Qz]; omega)]
  rfl
def Zax (x:Int):Nat:=(x % 18446744073709551616).toNat
def Zwc (s:List Int):Nat:=s.foldl (fun v x => v ||| Zax x) 0
def ZJ (s:List Int):Nat:=if Zwc s = 0 then 0 else Lib.ctz 64 (Zwc s)
theorem ZGo (x:Int):Zax x < 2 ^ 64:=by unfold Zax; omega
theorem K9 (x:Int):(BitVec.ofInt 64 x).toNat = Zax x:=by rw [BitVec.toNat_ofInt]; rfl
theorem Zvx {n:Nat} (h:n < 2 ^ 64):Zax (IntKind.i64.wrap (n:Int)) = n:=by
 unfold Zax
 rw [IntKind.wrap_i64]
 omega
theorem ZsO:∀ (s:List Int) (v:Nat),v < 2 ^ 64 → s.foldl (fun v x => v ||| Zax x) v < 2 ^ 64
 | [],_,h => h
 | x :: s,v,h => ZsO s _ (Nat.or_lt_two_pow h (ZGo x))
theorem ZPn (s:List Int):Zwc s < 2 ^ 64:=ZsO s 0 (by decide)
theorem ZHm (k:Nat) (s:List Int) (hk:s.length < k) (hn:s.length < 4294967296):Zqd k (s,()) = some (((ZJ s:Nat):Int),()):=by
 show Zgr k (Zok k) _ = _
 simp only [Zgr]
 have:=Zw (A:=Nat) (R:=Int × Unit) (step:=fun L1 => Zcn k L1) (fun i v => (Int.ofNat s.length,Int.ofNat i,s,IntKind.i64.wrap (v:Int))) s
  (fun s' v => some ((((if s'.foldl (fun v x => v ||| Zax x) v = 0 then 0 else Lib.ctz 64 (s'.foldl (fun v x => v ||| Zax x) v)):Nat):Int),()))
  (fun i v => v < 2 ^ 64)
  (fun L v hv => by
   simp only [Zcn]
   rw [Zj (QW _),ZL,List.foldl_nil]
   by_cases h0:v = 0
   ·subst h0; rfl
   ·have hne:¬ IntKind.i64.wrap (v:Int) = 0:=by
     intro h
     have:=Zvx hv
     rw [h] at this
     exact h0 this.symm
    rw [Zj hne,if_neg h0]
    have hu:IntKind.u64.wrap (IntKind.i64.wrap (v:Int)) = (v:Int):=by
     rw [IntKind.wrap_u64,IntKind.wrap_i64]; omega
    rw [hu]
    show (tzF _).bind _ = _
    unfold tzF
    rw [show (decide ((0:Int) ≤ (v:Int)) && decide ((v:Int) < 18446744073709551616)) = true from by
     rw [Bool.and_eq_true,decide_eq_true_eq,decide_eq_true_eq]; omega]
    rfl)
  (fun L i hi v hv hL => by
   simp only [Zcn]
   rw [Zc (K7 hi),Zc (XW hi),ZK hi,BitVec.toNat_or,K9,K9,Zvx hv,Qk hi (by omega),List.foldl_cons]
   exact hL (v ||| Zax s[i]) (Nat.or_lt_two_pow hv (ZGo _)))
  k 0 0 (by decide) (by omega) (Nat.zero_le _)
 rw [List.drop_zero] at this
 exact this
theorem ZBk {a b k:Nat} (h:(a ||| b) % 2 ^ k = 0):a % 2 ^ k = 0 ∧ b % 2 ^ k = 0:=by
 rw [Nat.or_mod_two_pow] at h
 have h1:a % 2 ^ k ≤ a % 2 ^ k ||| b % 2 ^ k:=Nat.left_le_or
 have h2:b % 2 ^ k ≤ a % 2 ^ k ||| b % 2 ^ k:=Nat.right_le_or
 omega
theorem ZlF {k:Nat}:∀ (s:List Int) (v:Nat),(s.foldl (fun v x => v ||| Zax x) v) % 2 ^ k = 0 → v % 2 ^ k = 0 ∧ ∀ x ∈ s,Zax x % 2 ^ k = 0
 | [],v,h => ⟨h,by simp⟩
 | x :: s,v,h => by
  obtain ⟨h1,h2⟩:=ZlF s _ h
  obtain ⟨h3,h4⟩:=ZBk h1
  refine ⟨h3,fun y hy => ?_⟩
  rcases List.mem_cons.1 hy with rfl | hy
  ·exact h4
  ·exact h2 y hy
theorem ZSm {x : Int} {k : Nat} (hk : k ≤ 64) (h : Zax x % 2 ^ k = 0) : ((2 : Int) ^ k) ∣ x := by
  have := ZnT x k 64 hk
  unfold Zax at h
  rw [show (18446744073709551616 : Int) = 2 ^ 64 from rfl, this] at h
  have h0 : 0 ≤ x % 2 ^ k := Int.emod_nonneg _ (by have : (0 : Int) < 2 ^ k := Int.pow_pos (by omega)
                                                   omega)
  exact Int.dvd_of_emod_eq_zero (by omega)
theorem ZBV {s:List Int} (h:Zwc s ≠ 0):∃ m,Zwc s = 2 ^ ZJ s * (2 * m + 1) ∧ ZJ s < 64:=by
 unfold ZJ Lib.ctz
 rw [if_neg h,if_neg h]
 exact Lib.ctzFrom_spec 64 (Zwc s) (by omega) (ZPn s)
theorem Zi7 {s:List Int}:∀ x ∈ s,((2:Int) ^ ZJ s) ∣ x:=by
 intro x hx
 by_cases h:Zwc s = 0
 ·unfold ZJ
  rw [if_pos h]
  exact Int.one_dvd _
 ·obtain ⟨m,hm,hlt⟩:=ZBV h
  have:Zwc s % 2 ^ ZJ s = 0:=by rw [hm]; exact Nat.mul_mod_right _ _
  exact ZSm (by omega) ((ZlF s 0 this).2 x hx)
theorem Zy4:∀ (s:List Int) (v:Nat),v = 0 → (∀ x ∈ s,x = 0) → s.foldl (fun v x => v ||| Zax x) v = 0
 | [],v,h,_ => h
 | x :: s,v,h,hx => by
  refine Zy4 s _ ?_ fun y hy => hx y (List.mem_cons_of_mem _ hy)
  rw [h,hx x (List.mem_cons_self ..)]
  rfl
theorem Zdm {s:List Int} {d:Nat} (hd:1 ≤ d) (hs:∀ x ∈ s,Xl x d = true):ZJ s < d:=by
 by_cases h:Zwc s = 0
 ·unfold ZJ
  rw [if_pos h]
  omega
 ·have:∃ x ∈ s,x ≠ 0:=by
   apply Classical.byContradiction
   intro hc
   refine h (Zy4 s 0 rfl fun x hx => ?_)
   apply Classical.byContradiction
   intro hne
   exact hc ⟨x,hx,hne⟩
  obtain ⟨x,hx,hne⟩:=this
  have h1:=hs x hx
  unfold Xl at h1
  rw [if_neg (by omega),decide_eq_true_eq] at h1
  have h2:=Int.natAbs_dvd_natAbs.2 (Zi7 x hx)
  rw [Int.natAbs_pow] at h2
  have h3:=Nat.le_of_dvd (by omega) h2
  have h4:x.natAbs ≤ 2 ^ (d - 1):=by
   rw [WC] at h1
   generalize 2 ^ (d - 1) = Q at h1 ⊢
   omega
  have h5:2 ^ ZJ s ≤ 2 ^ (d - 1):=Nat.le_trans h3 h4
  have:=(Nat.pow_le_pow_iff_right (by omega:1 < 2)).1 h5
  omega
def Q2 (s:List Int):List Int:=s.map fun x => x.fdiv (2 ^ ZJ s)
theorem ZaJ (s:List Int):(Q2 s).length = s.length:=by simp [Q2]
theorem ZAX {x:Int} {k:Nat} (h:((2:Int) ^ k) ∣ x):x.fdiv (2 ^ k) * 2 ^ k = x:=by
 rw [Int.fdiv_eq_ediv_of_nonneg _ (Int.pow_nonneg (by omega))]
 exact Int.ediv_mul_cancel h
theorem ZJD {x:Int} {d k:Nat} (hk:k < d) (h:((2:Int) ^ k) ∣ x) (hx:Xl x d = true):Xl (x.fdiv (2 ^ k)) (d - k) = true:=by
 have he:=ZAX h
 generalize x.fdiv (2 ^ k) = y at he
 unfold Xl at hx ⊢
 rw [if_neg (by omega),decide_eq_true_eq] at hx
 rw [if_neg (by omega),decide_eq_true_eq]
 have hp:(0:Int) < 2 ^ k:=Int.pow_pos (by omega)
 have e:(2:Int) ^ (d - 1) = 2 ^ (d - k - 1) * 2 ^ k:=by rw [← Int.pow_add]; congr 1; omega
 rw [e,← he,← Int.neg_mul] at hx
 exact ⟨Int.le_of_mul_le_mul_right hx.1 hp,Int.lt_of_mul_lt_mul_right hx.2 (by omega)⟩
theorem Zi2 {s:List Int} {d:Nat} (hd:1 ≤ d) (hs:∀ x ∈ s,Xl x d = true):∀ x ∈ Q2 s,Xl x (d - ZJ s) = true:=by
 intro y hy
 obtain ⟨x,hx,rfl⟩:=List.mem_map.1 hy
 exact ZJD (Zdm hd hs) (Zi7 x hx) (hs x hx)
theorem ZEI {x:Int} {d:Nat} (hd:d ≤ 31) (h:Xl x d = true):ZN x:=by
 unfold Xl at h
 unfold ZN
 split at h
 ·simp only [decide_eq_true_eq] at h; omega
 ·rw [decide_eq_true_eq,WC] at h
  have:2 ^ (d - 1) ≤ 2 ^ 30:=Nat.pow_le_pow_right (by omega) (by omega)
  generalize 2 ^ (d - 1) = Q at h this
  omega
end Go.Sh
namespace Go.Sh
open Go Go.Proofs
abbrev Xq:=Int × List Int × Int × List Int × Int
def ZsG (s:List Int) (d:Nat) (kind:Int) (c:List Int) (sh head:Int):Option Xq :=
 if (QV c sh s).2 = 0 then some (kind,c,sh,(QV c sh s).1,head + (c.length:Int) * (d:Int) + (WP (QV c sh s).1 c.length).2.2.1) else none
def Wf (b:Option Xq) (x:Option Xq):Option Xq :=
 match x with
 | none => b
 | some x => match b with
  | none => some x
  | some b => if x.2.2.2.2 < b.2.2.2.2 then some x else some b
abbrev FPl:=Int × Int × Int × List Int × List Int × Int × List Int × Int × Unit
abbrev SPl:=Int × Int × Int × List Int × (List Int × Int × Unit) × List Int × Int × Unit
def QA (kk d:Int) (s:List Int):Option Xq → FPl
 | none => (0,0,0,[],[],0,[],-1,())
 | some (kind,c,sh,r,sz) => (kind,kk,d,s,c,sh,r,sz,())
abbrev ZV7 (kk d:Int) (s:List Int) (x:Xq):SPl:=(x.1,kk,d,s,(x.2.1,x.2.2.1,()),x.2.2.2.1,x.2.2.2.2,())
def nnC (b:Option Xq):Prop := ∀ c,b = some c → 0 ≤ c.2.2.2.2
theorem Zdi {b x:Option Xq} (hb:nnC b) (hx:nnC x):nnC (Wf b x):=by
 intro c hc
 unfold Wf at hc
 match x,b,hc with
 | none,b,hc => exact hb c hc
 | some x,none,hc => exact hx c hc
 | some x,some b,hc =>
  simp only at hc
  split at hc
  ·exact hx c hc
  ·exact hb c hc
theorem Zqe (k:Nat) (kk d:Int) (s:List Int) (x:Xq) (b:Option Xq) (hb:nnC b) :
  Zb7 k (ZV7 kk d s x,true,QA kk d s b,()) = some ((),QA kk d s (Wf b (some x)),()):=by
 match b with
 | none => rfl
 | some b =>
  have h0:=hb b rfl
  show (bif decide (b.2.2.2.2 < 0) then _ else bif decide (x.2.2.2.2 < b.2.2.2.2) then _ else _) = _
  rw [Zj (by omega)]
  unfold Wf
  simp only
  by_cases h:x.2.2.2.2 < b.2.2.2.2
  ·rw [Zc h,if_pos h]; rfl
  ·rw [Zj h,if_neg h]; rfl
theorem Zjg {l:List Int} {o:Nat} (hl:∀ x ∈ l,ZN x) (hn:l.length + o ≤ 512):0 ≤ (WP l o).2.2.1 ∧ (WP l o).2.2.1 ≤ 281474976710656:=by
 obtain ⟨h1,q,hg⟩:=Zap hl hn (by omega)
 refine ⟨h1,?_⟩
 have key:∀ (cs:List (List Int)) (ps:List Prt) (sz m:Int),(m = 0 ∨ m = 1) → (∀ c ∈ cs,(∀ x ∈ c,ZN x) ∧ c.length ≤ 512) → (QK m cs ps sz).2.1 ≤ sz + (cs.length:Int) * 8796093022208:=by
  intro cs
  induction cs with
  | nil => intro ps sz m _ _; simp [QK]
  | cons c cs ih =>
   intro ps sz m hm h
   cases hb:(Wc c m).2 with
   | false => rw [Znc _ _ _ hb]; simp only [List.length_cons]; omega
   | true =>
    rw [ZiT _ _ _ hb]
    have h1:=h c (List.mem_cons_self ..)
    have h2:=(ZeK hb).size h1.1 h1.2
    have:=ih (ps ++ [(Wc c m).1]) (sz + (4 + m + (Wc c m).1.2.2.1)) m hm fun c hc => h c (List.mem_cons_of_mem _ hc)
    simp only [List.length_cons]
    omega
 have:=key (Yo l o q) [] 6 _ hg.hm fun c hc => ⟨fun x hx => hl x (ZaR hc x hx),by have:=Zjn hc; omega⟩
 rw [hg.parts,Zjo] at this
 have h16:2 ^ q ≤ 2 ^ 4:=Nat.pow_le_pow_right (by omega) hg.p4
 generalize 2 ^ q = Q at this h16
 simp only at this
 omega
theorem Zf7 {c s:List Int} {sh:Int} (h:(QV c sh s).2 = 0):(QV c sh s).1 = XV c sh s ∧ c.length ≤ s.length ∧ Zbj c sh = true:=by
 unfold QV at h ⊢
 split at h
 ·simp at h
 ·split at h
  ·simp at h
  ·split at h
   ·simp at h
   ·split at h
    ·simp at h
    ·rename_i h1 h2 h3 h4
     rw [if_neg h1,if_neg h2,if_neg h3,if_neg h4]
     refine ⟨rfl,by omega,by simpa using h1⟩
theorem KI {c s:List Int} {sh:Int} (h:(QV c sh s).2 = 0) (h1:1 ≤ s.length) (h2:s.length ≤ 512):(QV c sh s).1.length + c.length = s.length ∧ c.length ≤ 8 ∧ Yl (QV c sh s).1 (c.length:Nat) = 0:=by
 have hz:=Zf7 h
 have hlen:(QV c sh s).1.length + c.length = s.length:=by rw [hz.1,XV,Zs4]; omega
 have h8:=(ZfV hz.2.2).1
 refine ⟨hlen,h8,Zf5.2 ⟨⟨by omega,by omega,h8⟩,?_⟩⟩
 rw [List.any_eq_false]
 intro x hx
 have:=Ye c sh s x hx
 unfold ZN at this
 unfold Qv
 simp only [decide_eq_true_eq]
 omega
def ZV1 (p:SPl) (kk d:Int) (s:List Int):Option Xq → SPl × Bool × Unit
 | none => (p,false,())
 | some x => (ZV7 kk d s x,true,())
theorem ZHq (k:Nat) (hk:40000 < k) {s:List Int} (h1:1 ≤ s.length) (h2:s.length ≤ 512) {d:Nat} (hd:d ≤ 25) {head:Int} (hh:0 ≤ head ∧ head ≤ 1000) (kind:Int) (c:List Int) (sh a0 a1 a5:Int) (a4 a6:List Int) (a7:Int) :
  Ziu k ((a0,a1,(d:Int),s,(a4,a5,()),a6,a7,()),kind,(c,sh,()),head,()) = some (ZV1 (a0,a1,(d:Int),s,(a4,a5,()),a6,a7,()) a1 d s (ZsG s d kind c sh head),()):=by
 show Zgv k _ = _
 simp only [Zgv]
 rw [Zum k c sh s (by omega) (by omega)]
 simp only [Z1]
 rw [ZI]
 unfold ZsG
 by_cases h:(QV c sh s).2 = 0
 ·rw [Zj (by simpa using h),if_pos h]
  obtain ⟨hl,h8,hr⟩:=KI h h1 h2
  have hc:=ZH6 k (l:=(QV c sh s).1) (o:=c.length) (by omega) hk
  rw [if_pos hr] at hc
  rw [show Int.ofNat c.length = ((c.length:Nat):Int) from rfl,hc]
  simp only [Z1]
  rw [show ((0:Int) != 0) = false from rfl]
  simp only [cond_false]
  have hsz:=Zjg (Ye c sh s) (o:=c.length) (by omega)
  have hcd:c.length * d ≤ 8 * 25:=Nat.mul_le_mul h8 hd
  have e1:((c.length:Nat):Int) * (d:Int) = ((c.length * d:Nat):Int):=by push_cast; rfl
  rw [e1,Qi (n:=((c.length * d:Nat):Int)) (by omega),Qi (n:=head + ((c.length * d:Nat):Int)) (by omega),Qi (by omega)]
  rfl
 ·rw [Zc h,if_neg h]
  rfl
theorem Zzw (k:Nat) {s:List Int} (h1:1 ≤ s.length) (h2:s.length ≤ 512) (hk:1000 < k) (a0 a1 a2 a5 a7:Int) (a4 a6:List Int) :
  ZeR k (s,((a0,a1,a2,s,a4,a5,a6,a7,()),()),()) = some (!s.all (fun x => decide (x = s.headD 0)),(a0,a1,a2,s,a4,a5,a6,a7,()),()):=by
 show ZbA k _ = _
 simp only [ZbA]
 have hhd:s.getD 0 0 = s.headD 0:=by cases s <;> rfl
 have key:∃ i:Int,Ze0 k (s,((a0,a1,a2,s,a4,a5,a6,a7,()),()),()) = some (i,(a0,a1,a2,s,a4,a5,a6,a7,()),()) ∧ (0 ≤ i ↔ s.all (fun x => decide (x = s.headD 0)) = false):=by
  have:=QG (A:=Unit) (R:=Int × FPl × Unit) (step:=fun L1 => KR k L1) (fun i _ => (Int.ofNat s.length,Int.ofNat i,s,a0,a1,a2,s,a4,a5,a6,a7)) s
   (fun l _ => some (if l.all (fun x => decide (x = s.headD 0)) then -1 else Int.ofNat (s.length - l.length + (l.takeWhile (fun x => decide (x = s.headD 0))).length),(a0,a1,a2,s,a4,a5,a6,a7,()),()))
   (fun L _ => by simp only [KR]; rw [Zj (QW _)]; rfl)
   (fun L i hi _ hL => by
    simp only [KR]
    have e:Zqf k (s[i],(a0,a1,a2,s,a4,a5,a6,a7,()),()) = some (s[i] != s.headD 0,(a0,a1,a2,s,a4,a5,a6,a7,()),()):=by
     show Zgs k _ = _
     simp only [Zgs]
     rw [Zc (by simp only [Qz]; omega),hhd]
    rw [Zc (K7 hi),Zc (XW hi),ZK hi,e]
    simp only [Z1]
    have hlen:(List.drop (i + 1) s).length = s.length - (i + 1):=by simp
    rw [ZI]
    by_cases hc:s[i] = s.headD 0
    ·rw [Zj (by simpa using hc),Qk hi (by omega),hL ()]
     simp only [List.all_cons,hc,decide_true,Bool.true_and,List.takeWhile_cons,if_true,List.length_cons,hlen]
     split
     ·rfl
     ·congr 3; omega
    ·rw [Zc hc]
     simp only [List.all_cons,hc,decide_false,Bool.false_and,Bool.false_eq_true,if_false,List.takeWhile_cons,List.length_cons,hlen,List.length_nil]
     congr 3; omega) k 0 () (by omega) (Nat.zero_le _)
  rw [List.drop_zero] at this
  refine ⟨_,this,?_⟩
  cases s.all (fun x => decide (x = s.headD 0)) <;> simp
 obtain ⟨i,h1,h2⟩:=key
 rw [h1]
 simp only [Z1]
 cases hc:s.all (fun x => decide (x = s.headD 0)) with
 | false => rw [Xe (h2.2 hc)]; rfl
 | true => rw [Wp (fun h => by have:=h2.1 h; rw [hc] at this; cases this)]; rfl
def ZfL (s:List Int) (d:Nat):Option Xq:=if s.all (fun x => decide (x = s.headD 0)) = true then some (0,[],0,[],(d:Int)) else none
def ZSf (s:List Int) (d:Nat) (o:Nat):Option Xq:=ZsG s d (8 + (o:Int)) (Xz o) 0 0
def ZeD (s:List Int) (d:Nat) (o:Nat):Option Xq:=if o < s.length then ZsG s d (31 + (o:Int)) (Zb0 s o) 4 (9 + 12 * (o:Int)) else none
def ZPb (s:List Int) (d:Nat):Option Xq:=some (1,[],0,[],(s.length:Int) * (d:Int))
def ZI5 (s:List Int) (d:Nat):Nat → Nat → Option Xq → Option Xq
 | 0,_,b => b
 | e + 1,o,b => ZI5 s d e (o + 1) (Wf b (ZSf s d o))
def Zod (s:List Int) (d:Nat):Option Xq :=
 Wf (Wf (Wf (Wf (ZI5 s d (min 4 s.length + 1) 0 (Wf none (ZfL s d))) (ZeD s d 2)) (ZeD s d 4)) (ZeD s d 8)) (ZPb s d)
theorem ZGq {s:List Int} {d:Nat} {kind:Int} {c:List Int} {sh head:Int} (h1:1 ≤ s.length) (h2:s.length ≤ 512) (hh:0 ≤ head):nnC (ZsG s d kind c sh head):=by
 intro x hx
 unfold ZsG at hx
 split at hx
 ·rename_i h
  obtain rfl:=(Option.some.inj hx).symm
  obtain ⟨hl,h8,_⟩:=KI h h1 h2
  have:=(Zjg (Ye c sh s) (o:=c.length) (by omega)).1
  have e1:((c.length:Nat):Int) * (d:Int) = ((c.length * d:Nat):Int):=by push_cast; rfl
  simp only
  rw [e1]
  omega
 ·cases hx
theorem Zyu:nnC none:=fun _ h => by cases h
theorem ZI3 (s:List Int) (d:Nat):nnC (ZfL s d):=by
 intro x hx
 unfold ZfL at hx
 split at hx
 ·obtain rfl:=(Option.some.inj hx).symm
  simp only
  omega
 ·cases hx
theorem ZGf {s:List Int} {d o:Nat} (h1:1 ≤ s.length) (h2:s.length ≤ 512):nnC (ZSf s d o):=ZGq h1 h2 (Int.le_refl _)
theorem Zyq {s:List Int} {d o:Nat} (h1:1 ≤ s.length) (h2:s.length ≤ 512):nnC (ZeD s d o):=by
 unfold ZeD
 split
 ·exact ZGq h1 h2 (by omega)
 ·exact Zyu
theorem ZGg {s:List Int} {d:Nat} (h1:1 ≤ s.length) (h2:s.length ≤ 512):∀ (e o:Nat) (b:Option Xq),nnC b → nnC (ZI5 s d e o b)
 | 0,_,b,h => h
 | e + 1,o,b,h => ZGg h1 h2 e (o + 1) _ (Zdi h (ZGf h1 h2))
theorem Zv0 (k:Nat) (hk:40000 < k) {s:List Int} (h1:1 ≤ s.length) (h2:s.length ≤ 512) {d:Nat} (hd:d ≤ 25) {head:Int} (hh:0 ≤ head ∧ head ≤ 1000) (kind:Int) (c:List Int) (sh a0 a1 a5:Int) (a4 a6:List Int) (a7:Int) {b:Option Xq} (hb:nnC b)
  {R:Type} (K:Unit × FPl × Unit → Option R) :
  ((Ziu k ((a0,a1,(d:Int),s,(a4,a5,()),a6,a7,()),kind,(c,sh,()),head,())).bind fun y =>
   (Zb7 k ((y.1.1.1,y.1.1.2.1,y.1.1.2.2.1,y.1.1.2.2.2.1,(y.1.1.2.2.2.2.1.1,y.1.1.2.2.2.2.1.2.1,()),y.1.1.2.2.2.2.2.1,y.1.1.2.2.2.2.2.2.1,()),y.1.2.1,((QA a1 d s b).1,(QA a1 d s b).2.1,(QA a1 d s b).2.2.1,(QA a1 d s b).2.2.2.1,(QA a1 d s b).2.2.2.2.1,(QA a1 d s b).2.2.2.2.2.1,(QA a1 d s b).2.2.2.2.2.2.1,(QA a1 d s b).2.2.2.2.2.2.2.1,()),())).bind K) =
  K ((),QA a1 d s (Wf b (ZsG s d kind c sh head)),()):=by
 rw [ZHq k hk h1 h2 hd hh]
 simp only [Z1]
 cases hm:ZsG s d kind c sh head with
 | none => rfl
 | some x =>
  have:=Zqe k a1 d s x b hb
  exact (congrArg (fun z => z.bind K) this).trans rfl
end Go.Sh
namespace Go.Sh
open Go Go.Proofs
theorem Zm {α β:Type} {x:Option α} {a:α} (h:x = some a) (K:α → Option β):x.bind K = K a:=by rw [h]; rfl
theorem ZR5 (k:Nat) (hk:40000 < k) {s:List Int} (h1:1 ≤ s.length) (h2:s.length ≤ 512) {d:Nat} (hd:d ≤ 25) (kk:Int) :
  ∀ (e o j:Nat) (b:Option Xq),e < j → o + e ≤ 5 → nnC b →
  Zn (fun L2 => Zfz k (ZmU k) L2) j (((o + e:Nat):Int),(o:Int),Int.ofNat s.length,(QA kk d s b).1,(QA kk d s b).2.1,(QA kk d s b).2.2.1,(QA kk d s b).2.2.2.1,(QA kk d s b).2.2.2.2.1,(QA kk d s b).2.2.2.2.2.1,(QA kk d s b).2.2.2.2.2.2.1,(QA kk d s b).2.2.2.2.2.2.2.1,
    0,kk,(d:Int),s,[],0,[],0,0,kk,(d:Int),0,(d:Int),s,0,0,0,0,0) =
   (fun b => ZmU k ((0:Int),(2:Int),(4:Int),(8:Int),Int.ofNat s.length,0,kk,(d:Int),s,[],0,[],0,(QA kk d s b).1,(QA kk d s b).2.1,(QA kk d s b).2.2.1,(QA kk d s b).2.2.2.1,(QA kk d s b).2.2.2.2.1,(QA kk d s b).2.2.2.2.2.1,(QA kk d s b).2.2.2.2.2.2.1,(QA kk d s b).2.2.2.2.2.2.2.1,
    0,kk,(d:Int),0,(d:Int),s,0,0,0,0,0)) (ZI5 s d e o b):=by
 intro e
 induction e with
 | zero =>
  intro o j b hj ho hb
  obtain ⟨j,rfl⟩:=ZC hj
  rw [Zg]
  simp only [Zfz]
  rw [Zj (by omega)]
  rfl
 | succ e ih =>
  intro o j b hj ho hb
  obtain ⟨j,rfl⟩:=ZC (show 0 < j by omega)
  rw [Zg]
  simp only [Zfz]
  rw [Zc (by omega),Zml k o (by omega) (by omega)]
  simp only [Z1]
  have e1:IntKind.i64.wrap ((8:Int) + (o:Int)) = 8 + (o:Int):=by rw [Qi (by omega)]
  have e2:IntKind.i64.wrap ((o:Int) + 1) = ((o + 1:Nat):Int):=by rw [Qi (by omega)]; rfl
  rw [e1,e2]
  refine (Zv0 k hk h1 h2 hd (show (0:Int) ≤ 0 ∧ (0:Int) ≤ 1000 by omega) (8 + (o:Int)) (Xz o) 0 0 kk 0 [] [] 0 hb _).trans ?_
  have:=ih (o + 1) j (Wf b (ZSf s d o)) (by omega) (by omega) (Zdi hb (ZGf h1 h2))
  rw [show o + 1 + e = o + (e + 1) by omega] at this
  exact this
theorem ZR6 (k:Nat) (hk:40000 < k) {s:List Int} (h1:1 ≤ s.length) (h2:s.length ≤ 512) (hs:∀ x ∈ s,ZN x) {d:Nat} (hd:d ≤ 25) (kk:Int) (b:Option Xq) (hb:nnC b) :
  ZmU k ((0:Int),(2:Int),(4:Int),(8:Int),Int.ofNat s.length,0,kk,(d:Int),s,[],0,[],0,(QA kk d s b).1,(QA kk d s b).2.1,(QA kk d s b).2.2.1,(QA kk d s b).2.2.2.1,(QA kk d s b).2.2.2.2.1,(QA kk d s b).2.2.2.2.2.1,(QA kk d s b).2.2.2.2.2.2.1,(QA kk d s b).2.2.2.2.2.2.2.1,
    0,kk,(d:Int),0,(d:Int),s,0,0,0,0,0) =
   (fun b => some (((QA kk d s b).1,(QA kk d s b).2.1,(QA kk d s b).2.2.1,(QA kk d s b).2.2.2.1,((QA kk d s b).2.2.2.2.1,(QA kk d s b).2.2.2.2.2.1,()),(QA kk d s b).2.2.2.2.2.2.1,(QA kk d s b).2.2.2.2.2.2.2.1,()),()))
    (Wf (Wf (Wf (Wf b (ZeD s d 2)) (ZeD s d 4)) (ZeD s d 8)) (ZPb s d)):=by
 have one:∀ (j i o:Nat) (b:Option Xq),(i = 0 ∧ o = 2 ∨ i = 1 ∧ o = 4 ∨ i = 2 ∧ o = 8) → nnC b →
   Zn (fun L3 => Zc2 k L3) (j + 1) ((i:Int),(2:Int),(4:Int),(8:Int),Int.ofNat s.length,0,kk,(d:Int),s,[],0,[],0,(QA kk d s b).1,(QA kk d s b).2.1,(QA kk d s b).2.2.1,(QA kk d s b).2.2.2.1,(QA kk d s b).2.2.2.2.1,(QA kk d s b).2.2.2.2.2.1,(QA kk d s b).2.2.2.2.2.2.1,(QA kk d s b).2.2.2.2.2.2.2.1,
    0,kk,(d:Int),0,(d:Int),s,0,0,0,0,0) =
   (fun b => Zn (fun L3 => Zc2 k L3) j (((i + 1:Nat):Int),(2:Int),(4:Int),(8:Int),Int.ofNat s.length,0,kk,(d:Int),s,[],0,[],0,(QA kk d s b).1,(QA kk d s b).2.1,(QA kk d s b).2.2.1,(QA kk d s b).2.2.2.1,(QA kk d s b).2.2.2.2.1,(QA kk d s b).2.2.2.2.2.1,(QA kk d s b).2.2.2.2.2.2.1,(QA kk d s b).2.2.2.2.2.2.2.1,
    0,kk,(d:Int),0,(d:Int),s,0,0,0,0,0)) (Wf b (ZeD s d o)):=by
  intro j i o b hio hb
  rw [Zg]
  simp only [Zc2]
  have ho:o = 2 ∨ o = 4 ∨ o = 8:=by omega
  have hg:[(2:Int),4,8].getD ((i:Int)).toNat 0 = (o:Int):=by
   rcases hio with ⟨rfl,rfl⟩ | ⟨rfl,rfl⟩ | ⟨rfl,rfl⟩ <;> rfl
  have e2:IntKind.i64.wrap ((i:Int) + 1) = ((i + 1:Nat):Int):=by rw [Qi (by omega)]; rfl
  rw [Zc (by omega),Zc (by omega),hg,e2]
  unfold ZeD
  by_cases hlt:o < s.length
  ·rw [Zc (by simp only [Qz]; omega),if_pos hlt,ZHv k s o ho (by omega) hs (by omega) (by omega)]
   simp only [Z1]
   have e1:IntKind.i64.wrap ((31:Int) + (o:Int)) = 31 + (o:Int):=by rw [Qi (by omega)]
   have e3:IntKind.i64.wrap ((9:Int) + IntKind.i64.wrap ((12:Int) * (o:Int))) = 9 + 12 * (o:Int):=by rw [Qi (n:=12 * (o:Int)) (by omega),Qi (by omega)]
   rw [e1,e3]
   exact Zv0 k hk h1 h2 hd (show (0:Int) ≤ 9 + 12 * (o:Int) ∧ 9 + 12 * (o:Int) ≤ 1000 by omega) (31 + (o:Int)) (Zb0 s o) 4 0 kk 0 [] [] 0 hb _
  ·rw [Zj (by simp only [Qz]; omega),if_neg hlt]
   rfl
 obtain ⟨j,rfl⟩:∃ j,k = j + 4:=⟨k - 4,by omega⟩
 have nn1:=Zdi hb (Zyq (o:=2) (d:=d) h1 h2)
 have nn2:=Zdi nn1 (Zyq (o:=4) (d:=d) h1 h2)
 have nn3:=Zdi nn2 (Zyq (o:=8) (d:=d) h1 h2)
 refine (one (j + 3) 0 2 b (by omega) hb).trans ((one (j + 2) 1 4 _ (by omega) nn1).trans ((one (j + 1) 2 8 _ (by omega) nn2).trans ?_))
 generalize Wf (Wf (Wf b (ZeD s d 2)) (ZeD s d 4)) (ZeD s d 8) = b3 at nn3
 simp only
 rw [Zg]
 simp only [Zc2]
 rw [Zj (by omega)]
 have hmul:s.length * d ≤ 512 * 25:=Nat.mul_le_mul h2 hd
 have e1:IntKind.i64.wrap (Int.ofNat s.length * (d:Int)) = (s.length:Int) * (d:Int):=by
  have:Int.ofNat s.length * (d:Int) = ((s.length * d:Nat):Int):=by simp only [Qz]; push_cast; rfl
  rw [this,Qi (by omega)]; push_cast; rfl
 rw [e1]
 have:=Zqe (j + 4) kk d s (1,[],0,[],(s.length:Int) * (d:Int)) b3 nn3
 exact Zm this _
theorem ZNO (k:Nat) (hk:40000 < k) {s:List Int} (h1:1 ≤ s.length) (h2:s.length ≤ 512) {d:Nat} (hd1:1 ≤ d) (hd:d ≤ 25) (hs:∀ x ∈ s,Xl x d = true) :
  Zvg k (s,(d:Int),()) = (fun b => some (((QA (ZJ s:Nat) ((d - ZJ s:Nat):Int) (Q2 s) b).1,(QA (ZJ s:Nat) ((d - ZJ s:Nat):Int) (Q2 s) b).2.1,(QA (ZJ s:Nat) ((d - ZJ s:Nat):Int) (Q2 s) b).2.2.1,(QA (ZJ s:Nat) ((d - ZJ s:Nat):Int) (Q2 s) b).2.2.2.1,((QA (ZJ s:Nat) ((d - ZJ s:Nat):Int) (Q2 s) b).2.2.2.2.1,(QA (ZJ s:Nat) ((d - ZJ s:Nat):Int) (Q2 s) b).2.2.2.2.2.1,()),(QA (ZJ s:Nat) ((d - ZJ s:Nat):Int) (Q2 s) b).2.2.2.2.2.2.1,(QA (ZJ s:Nat) ((d - ZJ s:Nat):Int) (Q2 s) b).2.2.2.2.2.2.2.1,()),()))
   (Zod (Q2 s) (d - ZJ s)):=by
 show Zle k (Zx0 k) _ = _
 simp only [Zle]
 rw [ZHm k s (by omega) (by omega)]
 simp only [Z1]
 have hw:=Zdm hd1 hs
 have hsg:=Zi2 hd1 hs
 have hsl:=ZaJ s
 have e1:IntKind.i64.wrap ((d:Int) - ((ZJ s:Nat):Int)) = ((d - ZJ s:Nat):Int):=by rw [Qi (by omega)]; omega
 rw [e1]
 generalize hkk:ZJ s = kk at hw hsg
 generalize hdd:d - kk = dd at hsg
 have:=Zw (A:=List Int) (R:=SPl × Unit) (step:=fun L1 => K2 k (ZmT k) L1)
  (fun i a => (Int.ofNat s.length,Int.ofNat i,s,(kk:Int),(0:Int),(kk:Int),(dd:Int),(0:Int),(0:Int),a,(0:Int),(0:Int),(0:Int),(0:Int),(0:Int))) s
  (fun s' a => K2 k (ZmT k) (fun _ => none) (Int.ofNat s.length,Int.ofNat s.length,s,(kk:Int),(0:Int),(kk:Int),(dd:Int),(0:Int),(0:Int),a ++ s'.map (fun x => x.fdiv (2 ^ kk)),(0:Int),(0:Int),(0:Int),(0:Int),(0:Int)))
  (fun i a => a.length = i)
  (fun L a _ => by
   simp only [K2]
   rw [Zj (QW _),Zj (QW _)]
   simp)
  (fun L i hi a ha hL => by
   have key:K2 k (ZmT k) L (Int.ofNat s.length,Int.ofNat i,s,(kk:Int),(0:Int),(kk:Int),(dd:Int),(0:Int),(0:Int),a,(0:Int),(0:Int),(0:Int),(0:Int),(0:Int)) =
     L (Int.ofNat s.length,Int.ofNat (i + 1),s,(kk:Int),(0:Int),(kk:Int),(dd:Int),(0:Int),(0:Int),a ++ [s[i].fdiv (2 ^ kk)],(0:Int),(0:Int),(0:Int),(0:Int),(0:Int)):=by
    simp only [K2]
    rw [Zc (K7 hi),Zc (XW hi),Zc (by omega),Zc (by simp only [List.length_singleton]; omega),ZK hi,Xm,Nat.min_eq_left (by omega),Qk hi (by omega)]
   rw [key,hL _ (by simp; omega),List.map_cons,List.append_assoc]
   rfl)
  k 0 [] rfl (by omega) (Nat.zero_le _)
 rw [List.drop_zero,List.nil_append] at this
 refine Eq.trans this ?_
 have hsh:s.map (fun x => x.fdiv (2 ^ kk)) = Q2 s:=by unfold Q2; rw [hkk]
 rw [hsh]
 generalize Q2 s = t at hsg hsl
 simp only [K2]
 rw [Zj (QW _),Zzw k (by omega) (by omega) (by omega)]
 simp only [Z1,Bool.not_not]
 have nar:∀ x ∈ t,ZN x:=fun x hx => ZEI (by omega) (hsg x hx)
 have hfirst:Zb7 k (((0:Int),(kk:Int),(dd:Int),t,([],0,()),[],(dd:Int),()),t.all (fun x => decide (x = t.headD 0)),(0,0,0,[],[],0,[],(-1:Int),()),()) = some ((),QA kk dd t (Wf none (ZfL t dd)),()):=by
  unfold ZfL
  cases t.all (fun x => decide (x = t.headD 0)) with
  | false => rfl
  | true => exact Zqe k kk dd t (0,[],0,[],(dd:Int)) none Zyu
 rw [hfirst]
 simp only [Z1]
 have e4:IntKind.i64.wrap ((if Int.ofNat t.length < (4:Int) then Int.ofNat t.length else (4:Int)) + (1:Int)) = ((0 + (min 4 t.length + 1):Nat):Int):=by
  have:(if Int.ofNat t.length < (4:Int) then Int.ofNat t.length else (4:Int)) = ((min 4 t.length:Nat):Int):=by
   simp only [Qz]; split <;> omega
  rw [this,Qi (by omega)]
  omega
 rw [e4]
 have nn0:nnC (Wf none (ZfL t dd)):=Zdi Zyu (ZI3 t dd)
 refine (ZR5 k hk (by omega) (by omega) (show dd ≤ 25 by omega) kk (min 4 t.length + 1) 0 k _ (by omega) (by omega) nn0).trans ?_
 exact ZR6 k hk (by omega) (by omega) nar (by omega) kk _ (ZGg (by omega) (by omega) _ _ _ nn0)
end Go.Sh
namespace Go.Sh
open Go Go.Proofs
theorem WX (w:Nat):∀ c:List Int,(c.flatMap fun n => WF n w).length = w * c.length
 | [] => rfl
 | a :: c => by rw [List.flatMap_cons,Wa,ZaI,WX w c,List.length_cons,Nat.mul_add,Nat.mul_one]; omega
theorem Zlu (kk:Nat):∀ c:List Int,(c.flatMap (KH kk)).length = Zef c kk
 | [] => rfl
 | a :: c => by
  rw [List.flatMap_cons,Wa,ZfZ,Zlu kk c]
  unfold Zef
  simp only [List.length_cons,List.map_cons,Zi4,Nat.mul_add,Nat.mul_one]
  omega
theorem ZyA {c:List Int} {m:Int} (hm:m = 0 ∨ m = 1) {y:Prt} (hy:Zad c m y):((XB m (c,y)).length:Int) = 4 + m + y.2.2.1:=by
 have hmn:((m.toNat:Nat):Int) = m:=by rcases hm with rfl | rfl <;> rfl
 unfold XB YZ
 rcases hy with ⟨kk,hkk,hfar,rfl⟩ | ⟨hw,rfl⟩
 ·simp only
  rw [if_neg (by omega),if_neg (by omega)]
  simp only [Wa,Zk,List.length_nil,Xm,Zlu]
  omega
 ·simp only
  rw [if_pos trivial,if_pos trivial]
  simp only [Wa,Zk,Xm,WX]
  omega
theorem ZvI {m:Int} (hm:m = 0 ∨ m = 1):∀ (cs:List (List Int)) (ps:List Prt) (sz:Int),(QK m cs ps sz).2.2 = true →
  ((((cs.zip (cs.map fun c => (Wc c m).1)).flatMap (XB m)).length:Nat):Int) = (QK m cs ps sz).2.1 - sz
 | [],ps,sz,_ => by simp [QK]
 | c :: cs,ps,sz,h => by
  cases hb:(Wc c m).2 with
  | false => rw [Znc _ _ _ hb] at h; cases h
  | true =>
   rw [ZiT _ _ _ hb] at h ⊢
   have h1:=ZyA hm (ZeK hb)
   have h2:=ZvI hm cs _ _ h
   simp only [List.map_cons,List.zip_cons_cons,List.flatMap_cons,Wa]
   omega
theorem RGood.map {l:List Int} {o p:Nat} {R:XX} (h:RGood l o R p):R.2.2.2 = (Yo l o p).map fun c => (Wc c R.1).1:=by
 obtain ⟨ys,h1,h2,h3⟩:=Zf0 (m:=R.1) (Yo l o p) [] 6 (by rw [h.parts])
 rw [h.parts] at h1
 simp only [List.nil_append] at h1
 rw [h1,h3]
theorem RGood.len {l:List Int} {o p:Nat} {R:XX} (h:RGood l o R p):((Zf1 l o R).length:Int) = R.2.2.1:=by
 have h1:=ZvI h.hm (Yo l o p) [] 6 (by rw [h.parts])
 rw [h.parts,← h.map] at h1
 unfold Zf1
 rw [h.hp,Xm]
 simp only [Wa,Zk]
 simp only at h1
 omega
theorem ZyH {l:List Int} {o:Nat} (hl:∀ x ∈ l,ZN x) (hn:l.length + o ≤ 512):((Xi l o).length:Int) = (WP l o).2.2.1:=by
 obtain ⟨_,q,hg⟩:=Zap hl hn (by omega)
 exact hg.len
def ZeE (s:List Int) (d:Nat) (x:Xq):Prop :=
 (x = (0,[],0,[],(d:Int)) ∧ s.all (fun x => decide (x = s.headD 0)) = true) ∨ x = (1,[],0,[],(s.length:Int) * (d:Int)) ∨
 (∃ o,o ≤ 4 ∧ o ≤ s.length ∧ ZSf s d o = some x) ∨ (∃ o,(o = 2 ∨ o = 4 ∨ o = 8) ∧ o < s.length ∧ ZsG s d (31 + (o:Int)) (Zb0 s o) 4 (9 + 12 * (o:Int)) = some x)
def ZtP (s:List Int) (d:Nat) (b:Option Xq):Prop := ∀ x,b = some x → ZeE s d x
theorem ZBL {b x:Option Xq} {y:Xq} (h:Wf b x = some y):b = some y ∨ x = some y:=by
 unfold Wf at h
 match x,b,h with
 | none,b,h => exact .inl h
 | some x,none,h => exact .inr h
 | some x,some b,h =>
  simp only at h
  split at h
  ·exact .inr h
  ·exact .inl h
theorem Zdj {s:List Int} {d:Nat} {b x:Option Xq} (hb:ZtP s d b) (hx:ZtP s d x):ZtP s d (Wf b x):=fun y hy => by
 rcases ZBL hy with h | h
 ·exact hb y h
 ·exact hx y h
theorem ZO1 {b x:Option Xq}:(∀ y,b = some y → ∃ z,Wf b x = some z ∧ z.2.2.2.2 ≤ y.2.2.2.2) ∧ (∀ y,x = some y → ∃ z,Wf b x = some z ∧ z.2.2.2.2 ≤ y.2.2.2.2):=by
 unfold Wf
 match x,b with
 | none,b => exact ⟨fun y hy => ⟨y,hy,Int.le_refl _⟩,fun y hy => by cases hy⟩
 | some x,none => exact ⟨fun y hy => (by cases hy),fun y hy => ⟨y,hy,Int.le_refl _⟩⟩
 | some x,some b =>
  simp only
  split
  ·exact ⟨fun y hy => by cases hy; exact ⟨x,rfl,by omega⟩,fun y hy => by cases hy; exact ⟨x,rfl,Int.le_refl _⟩⟩
  ·exact ⟨fun y hy => by cases hy; exact ⟨b,rfl,Int.le_refl _⟩,fun y hy => by cases hy; exact ⟨b,rfl,by omega⟩⟩
theorem ZGh {s:List Int} {d:Nat}:∀ (e o:Nat) (b:Option Xq),o + e ≤ min 4 s.length + 1 → ZtP s d b → ZtP s d (ZI5 s d e o b)
 | 0,_,b,_,h => h
 | e + 1,o,b,he,h => ZGh e (o + 1) _ (by omega) (Zdj h fun x hx => .inr (.inr (.inl ⟨o,by omega,by omega,hx⟩)))
theorem Zyr {s:List Int} {d o:Nat} (ho:o = 2 ∨ o = 4 ∨ o = 8):ZtP s d (ZeD s d o):=by
 intro x hx
 unfold ZeD at hx
 split at hx
 ·exact .inr (.inr (.inr ⟨o,ho,by omega,hx⟩))
 ·cases hx
theorem ZCw (s:List Int) (d:Nat):∃ x,Zod s d = some x ∧ ZeE s d x ∧ x.2.2.2.2 ≤ (s.length:Int) * (d:Int):=by
 obtain ⟨z,h1,h2⟩:=(ZO1 (b:=Wf (Wf (Wf (ZI5 s d (min 4 s.length + 1) 0 (Wf none (ZfL s d))) (ZeD s d 2)) (ZeD s d 4)) (ZeD s d 8)) (x:=ZPb s d)).2 _ rfl
 refine ⟨z,h1,?_,h2⟩
 refine Zdj (Zdj (Zdj (Zdj (ZGh _ _ _ (by omega) (Zdj (fun x hx => by cases hx) ?_)) (Zyr (.inl rfl))) (Zyr (.inr (.inl rfl)))) (Zyr (.inr (.inr rfl)))) ?_ z h1
 ·intro x hx
  unfold ZfL at hx
  split at hx
  ·rename_i h
   exact .inl ⟨(Option.some.inj hx).symm,h⟩
  ·cases hx
 ·intro x hx
  exact .inr (.inl (Option.some.inj hx).symm)
def XY (s:List Int) (d:Nat) (x:Xq):List Bool :=
 if x.1 = 0 then (s.take 1).flatMap (fun n => WF n d) else if x.1 = 1 then s.flatMap (fun n => WF n d)
 else (s.take x.2.1.length).flatMap (fun n => WF n d) ++ ((if 31 < x.1 then Zb 11 4 ++ (Zb x.2.2.1.toNat 5 ++ x.2.1.flatMap (fun n => WF n 12)) else []) ++ Xi x.2.2.2.1 x.2.1.length)
def X7 (kind:Int) (kk:Nat):List Bool:=Zb kind.toNat 7 ++ (if 0 < kk then [true] ++ (List.replicate (kk - 1) false ++ [true]) else [false])
def Wn (s:List Int) (d:Nat):List Bool:=match Zod (Q2 s) (d - ZJ s) with
 | none => []
 | some x => X7 x.1 (ZJ s) ++ XY (Q2 s) (d - ZJ s) x
theorem Zyj (kind:Int) (kk:Nat):(X7 kind kk).length = 8 + kk:=by
 unfold X7
 rw [Wa,Zk]
 split
 ·simp; omega
 ·simp; omega
theorem YH {s:List Int} {d:Nat} {kind:Int} {c:List Int} {sh head:Int} {x:Xq} (h1:1 ≤ s.length) (h2:s.length ≤ 512) (h:ZsG s d kind c sh head = some x) :
  x.1 = kind ∧ x.2.1 = c ∧ x.2.2.1 = sh ∧ x.2.2.2.1 = XV c sh s ∧ x.2.2.2.2 = head + (c.length:Int) * (d:Int) + ((Xi (XV c sh s) c.length).length:Int) ∧ Yl (XV c sh s) (c.length:Nat) = 0 ∧ c.length ≤ s.length ∧ c.length ≤ 8 ∧ Zbj c sh = true ∧
   (QV c sh s).2 = 0:=by
 unfold ZsG at h
 split at h
 ·rename_i hz
  obtain rfl:=(Option.some.inj h).symm
  obtain ⟨hl,h8,hr⟩:=KI hz h1 h2
  obtain ⟨e1,e2,e3⟩:=Zf7 hz
  have:=ZyH (Ye c sh s) (o:=c.length) (by omega)
  rw [e1] at hr this ⊢
  exact ⟨rfl,rfl,rfl,rfl,by simp only; omega,hr,e2,h8,e3,hz⟩
 ·cases h
theorem Yg (s:List Int) (d j:Nat) (h:j ≤ s.length):((s.take j).flatMap (fun n => WF n d)).length = d * j:=by
 rw [WX,List.length_take,Nat.min_eq_left h]
theorem Zso (o:Nat) (h:o ≤ 4):(Xz o).length = o:=by
 obtain rfl | rfl | rfl | rfl | rfl:o = 0 ∨ o = 1 ∨ o = 2 ∨ o = 3 ∨ o = 4:=by omega
 all_goals rfl
theorem Zwi {s:List Int} {d:Nat} {x:Xq} (h1:1 ≤ s.length) (h2:s.length ≤ 512) (h:ZeE s d x):((XY s d x).length:Int) = x.2.2.2.2:=by
 unfold XY
 rcases h with ⟨rfl,_⟩ | rfl | ⟨o,ho,hos,hx⟩ | ⟨o,ho,hos,hx⟩
 ·simp only
  rw [if_pos trivial,Yg _ _ _ h1]
  omega
 ·simp only
  rw [if_neg (by omega),if_pos trivial,WX]
  push_cast
  rw [Int.mul_comm]
 ·obtain ⟨e1,e2,e3,e4,e5,e6,e7,e8,e9,_⟩:=YH h1 h2 hx
  rw [e1,e2,e3,e4,e5,if_neg (by omega),if_neg (by omega),if_neg (by omega)]
  simp only [Wa,List.length_nil,Yg _ _ _ e7]
  push_cast
  rw [Int.mul_comm (d:Int)]
  omega
 ·obtain ⟨e1,e2,e3,e4,e5,e6,e7,e8,e9,_⟩:=YH h1 h2 hx
  have hsl:=(Zi1 s o ho).1
  rw [e1,e2,e3,e4,e5,if_neg (by omega),if_neg (by omega),if_pos (by omega)]
  simp only [Wa,Yg _ _ _ e7,Zk,WX]
  rw [hsl]
  push_cast
  rw [Int.mul_comm (d:Int)]
  omega
theorem Zek (s:List Int) (d:Nat) (h1:1 ≤ s.length) (h2:s.length ≤ 512):∃ x,Zod (Q2 s) (d - ZJ s) = some x ∧ ZeE (Q2 s) (d - ZJ s) x ∧ Wn s d = X7 x.1 (ZJ s) ++ XY (Q2 s) (d - ZJ s) x ∧
  ((Wn s d).length:Int) = 8 + (ZJ s:Int) + x.2.2.2.2 ∧ x.2.2.2.2 ≤ (s.length:Int) * ((d - ZJ s:Nat):Int):=by
 obtain ⟨x,h3,h4,h5⟩:=ZCw (Q2 s) (d - ZJ s)
 have hb:=Zwi (by rw [ZaJ]; exact h1) (by rw [ZaJ]; exact h2) h4
 rw [ZaJ] at h5
 have e:Wn s d = X7 x.1 (ZJ s) ++ XY (Q2 s) (d - ZJ s) x:=by unfold Wn; rw [h3]
 refine ⟨x,h3,h4,e,?_,h5⟩
 rw [e,Wa,Zyj]
 omega
theorem ZBD {s:List Int} {d:Nat} (h1:1 ≤ s.length) (h2:s.length ≤ 512) (hw:ZJ s < d):(Wn s d).length ≤ 8 + s.length * d:=by
 obtain ⟨x,_,_,_,h4,h5⟩:=Zek s d h1 h2
 have e:(s.length:Int) * ((d - ZJ s:Nat):Int) = ((s.length * d - s.length * ZJ s:Nat):Int):=by
  rw [← Nat.mul_sub]; push_cast; rfl
 have h6:ZJ s ≤ s.length * ZJ s:=Nat.le_mul_of_pos_left _ h1
 have h7:s.length * ZJ s ≤ s.length * d:=Nat.mul_le_mul_left _ (by omega)
 omega
end Go.Sh
namespace Go.Sh
open Go Go.Proofs
theorem ZfD (k:Nat) {l:List Int} {w:Nat} (hk:10000 < k) (hl:l.length ≤ 8192) (hw:w ≤ 32) (hs:∀ x ∈ l,Xl x w = true) (bs:List Bool) (hb:bs.length ≤ 2147483648) :
  Zal k (KA bs,l,(w:Int),()) = some ((),KA (bs ++ l.flatMap (fun n => WF n w)),()):=by
 show Zlg k (Zx4 k) _ = _
 simp only [Zlg]
 have:=Zw (A:=List Bool) (R:=Unit × (List Int × Int × Unit) × Unit) (step:=fun L1 => ZfC k L1)
  (fun i a => (Int.ofNat l.length,Int.ofNat i,l,(w:Int),(a.length:Int),ZM a)) l
  (fun l' a => some ((),KA (a ++ l'.flatMap (fun n => WF n w)),()))
  (fun i a => a.length ≤ 2147483648 + i * 32)
  (fun L a _ => by
   simp only [ZfC]
   rw [Zj (QW _)]
   simp)
  (fun L i hi a ha hL => by
   simp only [ZfC]
   rw [Zc (K7 hi),Zc (XW hi),ZK hi]
   rw [show ((ZM a,((a.length:Nat):Int),()):List Int × Int × Unit) = KA a from rfl,Zt9 k a _ w (by omega) hw (hs _ (List.getElem_mem hi)) (by omega)]
   simp only [Z1]
   rw [Qk hi (by omega),hL (a ++ WF l[i] w) (by rw [Wa,ZaI]; omega),List.flatMap_cons,List.append_assoc])
  k 0 bs (by omega) (by omega) (Nat.zero_le _)
 rw [List.drop_zero] at this
 exact this
noncomputable def ZkU (k:Nat) (p:SPl) (w:List Int × Int × Unit):Option (Int × (List Int × Int × Unit) × Unit) :=
 bif p.1 == (0:Int) then bif decide ((0:Int) ≤ (0:Int) ∧ (0:Int) ≤ (1:Int) ∧ (1:Int) ≤ Int.ofNat (List.length p.2.2.2.1)) then (Zal k (w,List.drop (0:Nat) (List.take (1:Nat) p.2.2.2.1),p.2.2.1,())).bind fun y => some (0,(y.2.1.1,y.2.1.2.1,()),()) else none
 else bif p.1 == (1:Int) then (Zal k (w,p.2.2.2.1,p.2.2.1,())).bind fun y => some (0,(y.2.1.1,y.2.1.2.1,()),())
 else bif decide ((0:Int) ≤ (0:Int) ∧ (0:Int) ≤ Int.ofNat (List.length p.2.2.2.2.1.1) ∧ Int.ofNat (List.length p.2.2.2.2.1.1) ≤ Int.ofNat (List.length p.2.2.2.1)) then
  (Zal k (w,List.drop (0:Nat) (List.take (Int.ofNat (List.length p.2.2.2.2.1.1)).toNat p.2.2.2.1),p.2.2.1,())).bind fun y_4 =>
   bif decide ((31:Int) < p.1) then (ZP k ((y_4.2.1.1,y_4.2.1.2.1,()),11,4,())).bind fun y_5 => (ZP k ((y_5.2.1.1,y_5.2.1.2.1,()),p.2.2.2.2.1.2.1,5,())).bind fun y_6 => (Zal k ((y_6.2.1.1,y_6.2.1.2.1,()),p.2.2.2.2.1.1,12,())).bind fun y_7 => (Zh2 k ((y_7.2.1.1,y_7.2.1.2.1,()),p.2.2.2.2.2.1,Int.ofNat (List.length p.2.2.2.2.1.1),())).bind fun y => some (y.1,(y.2.1.1,y.2.1.2.1,()),())
   else (Zh2 k ((y_4.2.1.1,y_4.2.1.2.1,()),p.2.2.2.2.2.1,Int.ofNat (List.length p.2.2.2.2.1.1),())).bind fun y => some (y.1,(y.2.1.1,y.2.1.2.1,()),())
 else none
theorem ZIY (k:Nat) (w:List Int × Int × Unit) (s:List Int) (d:Int):Zva k (w,s,d,()) =
  (Zvf k (s,d,())).bind fun y => bif y.1 != (0:Int) then some (y.1,w,()) else (Zvg k (s,d,())).bind fun y => (ZP k (w,y.1.1,7,())).bind fun y_1 =>
   bif decide ((0:Int) < y.1.2.1) then (ZP k ((y_1.2.1.1,y_1.2.1.2.1,()),1,1,())).bind fun y_2 => (ZnL k ((y_2.2.1.1,y_2.2.1.2.1,()),IntKind.i64.wrap (y.1.2.1 - (1:Int)),())).bind fun y_3 => ZkU k y.1 (y_3.2.1.1,y_3.2.1.2.1,())
   else (ZP k ((y_1.2.1.1,y_1.2.1.2.1,()),0,1,())).bind fun y_2 => ZkU k y.1 (y_2.2.1.1,y_2.2.1.2.1,()):=rfl
theorem ZhZ (k:Nat) (hk:70000 < k) {s:List Int} (h1:1 ≤ s.length) (h2:s.length ≤ 512) {d:Nat} (hd1:1 ≤ d) (hd:d ≤ 25) (hs:∀ x ∈ s,Xl x d = true) {x:Xq} (hx:ZeE s d x) (kk:Int) (bs:List Bool) (hb:bs.length ≤ 1000000000) :
  ZkU k (ZV7 kk d s x) (KA bs) = some (0,KA (bs ++ XY s d x),()):=by
 unfold ZkU XY
 rcases hx with ⟨rfl,_⟩ | rfl | ⟨o,ho,hos,hx⟩ | ⟨o,ho,hos,hx⟩
 ·simp only
  rw [ZL,Zc rfl,Zc (by simp only [Qz]; omega),if_pos trivial,List.drop_zero]
  rw [ZfD k (by omega) (by rw [List.length_take]; omega) (by omega) (fun y hy => hs y (List.mem_of_mem_take hy)) bs (by omega)]
  rfl
 ·simp only
  rw [ZL,Zj (by omega),ZL,Zc rfl,if_neg (by omega),if_pos trivial]
  rw [ZfD k (by omega) (by omega) (by omega) hs bs (by omega)]
  rfl
 ·obtain ⟨e1,e2,e3,e4,e5,e6,e7,e8,e9,_⟩:=YH h1 h2 hx
  obtain ⟨kind,c,sh,r,sz⟩:=x
  simp only at e1 e2 e3 e4 e5
  subst e1; subst e2; subst e3; subst e4
  simp only
  rw [ZL,Zj (by omega),ZL,Zj (by omega),Zc (by simp only [Qz]; omega),if_neg (by omega),if_neg (by omega),if_neg (by omega),List.drop_zero]
  rw [show (Int.ofNat (Xz o).length).toNat = (Xz o).length from rfl]
  rw [ZfD k (by omega) (by rw [List.length_take]; omega) (by omega) (fun y hy => hs y (List.mem_of_mem_take hy)) bs (by omega)]
  simp only [Z1]
  rw [Zj (by omega),show Int.ofNat (Xz o).length = ((Xz o).length:Nat) from rfl]
  have hlen:=Yg s d (Xz o).length e7
  have hmul:d * (Xz o).length ≤ 25 * 8:=Nat.mul_le_mul hd e8
  refine (Zm (ZAO k (by omega) e6 (bs ++ (s.take (Xz o).length).flatMap (fun n => WF n d)) (by rw [Wa]; omega)) _).trans ?_
  simp only [List.nil_append,List.append_assoc]
 ·obtain ⟨e1,e2,e3,e4,e5,e6,e7,e8,e9,_⟩:=YH h1 h2 hx
  obtain ⟨hsl,hsr⟩:=Zi1 s o ho
  obtain ⟨kind,c,sh,r,sz⟩:=x
  simp only at e1 e2 e3 e4 e5
  subst e1; subst e2; subst e3; subst e4
  simp only
  rw [ZL,Zj (by omega),ZL,Zj (by omega),Zc (by simp only [Qz]; omega),if_neg (by omega),if_neg (by omega),if_pos (by omega),List.drop_zero]
  generalize Zb0 s o = c at hsl hsr e6 e7 e8 e9
  rw [show (Int.ofNat c.length).toNat = c.length from rfl]
  rw [ZfD k (by omega) (by rw [List.length_take]; omega) (by omega) (fun y hy => hs y (List.mem_of_mem_take hy)) bs (by omega)]
  simp only [Z1]
  rw [Zc (by omega),show Int.ofNat c.length = (c.length:Nat) from rfl]
  have hlen:=Yg s d c.length e7
  have hmul:d * c.length ≤ 25 * 8:=Nat.mul_le_mul hd e8
  generalize hW:(s.take c.length).flatMap (fun n => WF n d) = W at hlen
  have l1:(bs ++ W).length = bs.length + d * c.length:=by rw [Wa,hlen]
  refine (Zm (QS k (bs ++ W) 11 4 (by omega) (by omega) (by omega) (by omega)) _).trans ?_
  have l2:(bs ++ W ++ Zb 11 4).length = bs.length + d * c.length + 4:=by rw [Wa,l1,Zk]
  refine (Zm (QS k (bs ++ W ++ Zb 11 4) 4 5 (by omega) (by omega) (by omega) (by omega)) _).trans ?_
  have l3:(bs ++ W ++ Zb 11 4 ++ Zb 4 5).length = bs.length + d * c.length + 9:=by rw [Wa,l2,Zk]
  refine (Zm (ZfD k (l:=c) (w:=12) (by omega) (by omega) (by omega) (fun y hy => by
   have:=hsr y hy
   unfold Xl
   rw [if_neg (by omega),decide_eq_true_eq]
   omega) (bs ++ W ++ Zb 11 4 ++ Zb 4 5) (by omega)) _).trans ?_
  have l4:(bs ++ W ++ Zb 11 4 ++ Zb 4 5 ++ c.flatMap (fun n => WF n 12)).length = bs.length + d * c.length + 9 + 12 * c.length:=by rw [Wa,l3,WX]
  refine (Zm (ZAO k (by omega) e6 (bs ++ W ++ Zb 11 4 ++ Zb 4 5 ++ c.flatMap (fun n => WF n 12)) (by omega)) _).trans ?_
  show some _ = some _
  simp only [List.append_assoc]
  rfl
theorem ZeE.kind {s:List Int} {d:Nat} {x:Xq} (h1:1 ≤ s.length) (h2:s.length ≤ 512) (h:ZeE s d x):∃ n:Nat,x.1 = (n:Int) ∧ n < 2 ^ 7:=by
 rcases h with ⟨rfl,_⟩ | rfl | ⟨o,ho,hos,hx⟩ | ⟨o,ho,hos,hx⟩
 ·exact ⟨0,rfl,by omega⟩
 ·exact ⟨1,rfl,by omega⟩
 ·exact ⟨8 + o,by rw [(YH h1 h2 hx).1]; omega,by omega⟩
 ·exact ⟨31 + o,by rw [(YH h1 h2 hx).1]; omega,by omega⟩
theorem ZnZ {s:List Int} {d:Nat}:ZhM s (d:Int) = 0 ↔ (1 ≤ s.length ∧ s.length ≤ 512 ∧ 4 ≤ d ∧ d ≤ 25) ∧ ∀ x ∈ s,Xl x d = true:=by
 unfold ZhM
 rw [Xm]
 constructor
 ·intro h
  split at h
  ·split at h
   ·rename_i h1 h2
    exact ⟨by omega,List.all_eq_true.1 h2⟩
   ·omega
  ·omega
 ·rintro ⟨h1,h2⟩
  rw [if_pos (by omega),if_pos (List.all_eq_true.2 h2)]
theorem ZNj (k:Nat) (hk:70000 < k) {s:List Int} {d:Nat} (h:ZhM s (d:Int) = 0) (bs:List Bool) (hb:bs.length ≤ 900000000) :
  Zva k (KA bs,s,(d:Int),()) = some (0,KA (bs ++ Wn s d),()):=by
 obtain ⟨⟨h1,h2,h3,h4⟩,hs⟩:=ZnZ.1 h
 rw [ZIY,ZNK k s d (by omega),h]
 simp only [Z1]
 rw [show ((0:Int) != 0) = false from rfl]
 simp only [cond_false]
 rw [ZNO k (by omega) h1 h2 (by omega) h4 hs]
 obtain ⟨x,hx,hok,hsub,hlen,_⟩:=Zek s d h1 h2
 rw [hx,hsub]
 have hw:=Zdm (by omega) hs
 have hsg:=Zi2 (by omega) hs
 have hsl:=ZaJ s
 generalize ZJ s = kk at hw hsg hok ⊢
 generalize Q2 s = t at hsg hsl hok ⊢
 generalize hdd:d - kk = dd at hsg hok ⊢
 obtain ⟨kn,hk1,hk2⟩:=hok.kind (by omega) (by omega)
 show (ZP k (KA bs,x.1,7,())).bind _ = _
 unfold X7
 rw [hk1,Xm]
 refine (Zm (QS k bs kn 7 (by omega) (by omega) hk2 (by omega)) _).trans ?_
 have l1:(bs ++ Zb kn 7).length = bs.length + 7:=by rw [Wa,Zk]
 show (bif decide ((0:Int) < (kk:Int)) then _ else _) = _
 by_cases h0:0 < kk
 ·rw [Zc (by omega),if_pos h0]
  refine (Zm (QS k (bs ++ Zb kn 7) 1 1 (by omega) (by omega) (by omega) (by omega)) _).trans ?_
  have l2:(bs ++ Zb kn 7 ++ Zb 1 1).length = bs.length + 8:=by rw [Wa,l1,Zk]
  show (ZnL k (KA (bs ++ Zb kn 7 ++ Zb 1 1),IntKind.i64.wrap ((kk:Int) - 1),())).bind _ = _
  have e1:IntKind.i64.wrap ((kk:Int) - 1) = ((kk - 1:Nat):Int):=by rw [Qi (by omega)]; omega
  rw [e1]
  refine (Zm (ZAL k (bs ++ Zb kn 7 ++ Zb 1 1) (kk - 1) (by omega) (by omega) (by omega)) _).trans ?_
  have l3:(bs ++ Zb kn 7 ++ Zb 1 1 ++ (List.replicate (kk - 1) false ++ [true])).length = bs.length + 8 + kk:=by
   rw [Wa,l2]; simp; omega
  have:=ZhZ k hk (by omega) (by omega) (d:=dd) (by omega) (by omega) hsg hok (kk:Int) (bs ++ Zb kn 7 ++ Zb 1 1 ++ (List.replicate (kk - 1) false ++ [true])) (by omega)
  refine Eq.trans this ?_
  rw [show Zb 1 1 = [true] from rfl]
  simp only [List.append_assoc]
 ·rw [Zj (by omega),if_neg h0]
  refine (Zm (QS k (bs ++ Zb kn 7) 0 1 (by omega) (by omega) (by omega) (by omega)) _).trans ?_
  have l2:(bs ++ Zb kn 7 ++ Zb 0 1).length = bs.length + 8:=by rw [Wa,l1,Zk]
  have:=ZhZ k hk (by omega) (by omega) (d:=dd) (by omega) (by omega) hsg hok (kk:Int) (bs ++ Zb kn 7 ++ Zb 0 1) (by omega)
  refine Eq.trans this ?_
  rw [show Zb 0 1 = [false] from rfl]
  simp only [List.append_assoc]
end Go.Sh
namespace Go.Sh
open Go Go.Proofs
def QI (n:Nat):Nat:=if 256 < n then 7 else 6
def Qr (mode num n:Nat):List Bool :=
 Zb 16382 14 ++ (Zb (QI n) 6 ++ (Zb mode 8 ++ (Zb 0 4 ++ ((Qy num).flatMap (fun x => Zb x 8) ++ Zb (n - 1) (8 * (QI n - 5))))))
def Qs (mode num n:Nat):List Bool:=Qr mode num n ++ Zb (ZhO (ZM (Qr mode num n))) 8
def Qh (ls:List (List Int)) (ds:List Int):List Bool:=(ls.zip ds).flatMap fun x => Wn x.1 x.2.toNat
def XU (bs:List Bool):List Bool:=bs ++ List.replicate (Zai bs.length) false
def Yn (bs:List Bool):List Bool:=XU bs ++ Zb (Zcj (ZM (XU bs))) 16
def Y8 (c d r n:Int) (ch:List (List Int)):List Int × Int :=
 if Ym c d r n ch = 0 then (ZM (Yn (Qs (YX ch).2.toNat n.toNat (ch.headD []).length ++ Qh (YX ch).1 (Qe c d (YX ch).2))),0) else ([],Ym c d r n ch)
theorem ZaO {c d r n:Int} {ch:List (List Int)} (h:Ym c d r n ch = 0):(1 ≤ c ∧ c ≤ 2 ∧ 4 ≤ d ∧ d ≤ 24 ∧ 1 ≤ r ∧ r ≤ 655350) ∧ (0 ≤ n ∧ n ≤ 2147483647) ∧ (ch.length:Int) = c ∧
  (∀ l ∈ ch,l.length = (ch.headD []).length ∧ 1 ≤ l.length ∧ l.length ≤ 512) ∧ (∀ l ∈ ch,∀ x ∈ l,Xl x d.toNat = true):=by
 unfold Ym at h
 split at h
 ·omega
 ·rename_i h1
  split at h
  ·omega
  ·rename_i h2
   split at h
   ·omega
   ·rename_i h3
    split at h
    ·omega
    ·rename_i h4
     refine ⟨of_decide_eq_true (by simpa [Zei] using h1),by omega,by omega,?_,?_⟩
     ·intro l hl
      have h3:ch.all (ZiK (ch.headD []).length) = true:=by simpa using h3
      have:=of_decide_eq_true (List.all_eq_true.1 h3 l hl)
      exact ⟨this.1,by omega,by omega⟩
     ·intro l hl x hx
      have h4:ch.all (fun l => l.all fun x => Xl x d.toNat) = true:=by simpa using h4
      exact List.all_eq_true.1 (List.all_eq_true.1 h4 l hl) x hx
theorem Zb2 {x:Int} {d:Nat} (hd:d ≤ 24) (h:Xl x d = true):Qm x:=by
 unfold Xl at h
 unfold Qm
 split at h
 ·simp only [decide_eq_true_eq] at h; omega
 ·rw [decide_eq_true_eq,WC] at h
  have:2 ^ (d - 1) ≤ 2 ^ 23:=Nat.pow_le_pow_right (by omega) (by omega)
  generalize 2 ^ (d - 1) = Q at h this
  omega
theorem ZlR {l r:Int} {d:Nat} (h1:1 ≤ d) (hl:Xl l d = true) (hr:Xl r d = true):Xl (l - r) (d + 1) = true ∧ Xl ((l + r) / 2) d = true:=by
 unfold Xl at hl hr ⊢
 rw [if_neg (by omega),decide_eq_true_eq] at hl hr
 rw [if_neg (by omega),decide_eq_true_eq,if_neg (by omega),decide_eq_true_eq]
 have e:(2:Int) ^ (d + 1 - 1) = 2 * 2 ^ (d - 1):=by
  rw [show d + 1 - 1 = (d - 1) + 1 by omega,Int.pow_succ,Int.mul_comm]
 rw [e]
 generalize (2:Int) ^ (d - 1) = Q at hl hr ⊢
 omega
structure LayOk (n d:Nat) (ls:List (List Int)) (ds:List Int):Prop where
 len:ls.length = ds.length
 two:ls.length = 1 ∨ ls.length = 2
 all:∀ (i:Nat) (h1:i < ls.length) (h2:i < ds.length),ls[i].length = n ∧ (ds[i] = (d:Int) ∨ ds[i] = (d:Int) + 1) ∧ ∀ x ∈ ls[i],Xl x ds[i].toNat = true
theorem ZEm {c d r n:Int} {ch:List (List Int)} (h:Ym c d r n ch = 0):LayOk (ch.headD []).length d.toNat (YX ch).1 (Qe c d (YX ch).2) ∧ (∃ m:Nat,(YX ch).2 = (m:Int) ∧ (m = 0 ∧ c = 1 ∨ c = 2 ∧ (m = 1 ∨ m = 8 ∨ m = 9 ∨ m = 10))) ∧ ((YX ch).1.headD []).length = (ch.headD []).length:=by
 obtain ⟨hs,hn,hc,hlen,hsg⟩:=ZaO h
 obtain ⟨dn,rfl⟩:=Int.eq_ofNat_of_zero_le (show 0 ≤ d by omega)
 simp only [Xm] at hsg ⊢
 match ch,hc,hlen,hsg with
 | [],hc,_,_ => simp at hc; omega
 | [l],hc,hlen,hsg =>
  have hc:c = 1:=by simp at hc; omega
  subst hc
  refine ⟨⟨rfl,.inl rfl,?_⟩,⟨0,rfl,.inl ⟨rfl,rfl⟩⟩,rfl⟩
  intro i h1 h2
  obtain rfl:i = 0:=by simp [YX] at h1; omega
  exact ⟨rfl,.inl rfl,hsg l (by simp)⟩
 | [l,r'],hc,hlen,hsg =>
  have hc:c = 2:=by simp at hc; omega
  subst hc
  have hr:=(hlen r' (by simp)).1
  simp only [List.headD_cons] at hr
  have hsl:=hsg l (by simp)
  have hsr:=hsg r' (by simp)
  have hmd:=Zim l r'
  show LayOk _ _ [WT (Z8 l r') l r',WU (Z8 l r') l r'] (Qe 2 dn (if Z8 l r' = 0 then 1 else Z8 l r')) ∧ _ ∧ _
  refine ⟨?_,?_,(Zgh hr.symm).1⟩
  ·have e:Qe 2 (dn:Int) (if Z8 l r' = 0 then 1 else Z8 l r') = Qe 2 dn (Z8 l r'):=by
    rcases hmd with h | h | h | h <;> rw [h] <;> rfl
   rw [e]
   obtain ⟨la,lb⟩:=Zgh (m:=Z8 l r') hr.symm
   have hz:∀ x ∈ l.zip r',Xl x.1 dn = true ∧ Xl x.2 dn = true:=fun x hx => ⟨hsl _ (List.of_mem_zip hx).1,hsr _ (List.of_mem_zip hx).2⟩
   generalize Z8 l r' = m at hmd la lb ⊢
   have hA:∀ y ∈ WT m l r',∃ a b,y = apA m a b ∧ Xl a dn = true ∧ Xl b dn = true:=by
    intro y hy
    obtain ⟨x,hx,rfl⟩:=List.mem_map.1 hy
    exact ⟨_,_,rfl,(hz x hx).1,(hz x hx).2⟩
   have hB:∀ y ∈ WU m l r',∃ a b,y = apB m a b ∧ Xl a dn = true ∧ Xl b dn = true:=by
    intro y hy
    obtain ⟨x,hx,rfl⟩:=List.mem_map.1 hy
    exact ⟨_,_,rfl,(hz x hx).1,(hz x hx).2⟩
   have hdn:1 ≤ dn:=by omega
   have eN:((dn:Int) + 1).toNat = dn + 1:=by omega
   rcases hmd with rfl | rfl | rfl | rfl
   ·refine ⟨rfl,.inr rfl,fun i h1 h2 => ?_⟩
    obtain rfl | rfl:i = 0 ∨ i = 1:=by simp at h1; omega
    ·exact ⟨la,.inl rfl,fun y hy => by obtain ⟨a,b,rfl,ha,hb⟩:=hA y hy; simpa [apA,Qe] using ha⟩
    ·exact ⟨by simpa [hr] using lb,.inl rfl,fun y hy => by obtain ⟨a,b,rfl,ha,hb⟩:=hB y hy; simpa [apB,Qe] using hb⟩
   ·refine ⟨rfl,.inr rfl,fun i h1 h2 => ?_⟩
    obtain rfl | rfl:i = 0 ∨ i = 1:=by simp at h1; omega
    ·exact ⟨la,.inl rfl,fun y hy => by obtain ⟨a,b,rfl,ha,hb⟩:=hA y hy; simpa [apA,Qe] using ha⟩
    ·exact ⟨by simpa [hr] using lb,.inr rfl,fun y hy => by obtain ⟨a,b,rfl,ha,hb⟩:=hB y hy; simpa [apB,Qe,eN] using (ZlR hdn ha hb).1⟩
   ·refine ⟨rfl,.inr rfl,fun i h1 h2 => ?_⟩
    obtain rfl | rfl:i = 0 ∨ i = 1:=by simp at h1; omega
    ·exact ⟨la,.inr rfl,fun y hy => by obtain ⟨a,b,rfl,ha,hb⟩:=hA y hy; simpa [apA,Qe,eN] using (ZlR hdn ha hb).1⟩
    ·exact ⟨by simpa [hr] using lb,.inl rfl,fun y hy => by obtain ⟨a,b,rfl,ha,hb⟩:=hB y hy; simpa [apB,Qe] using hb⟩
   ·refine ⟨rfl,.inr rfl,fun i h1 h2 => ?_⟩
    obtain rfl | rfl:i = 0 ∨ i = 1:=by simp at h1; omega
    ·exact ⟨la,.inl rfl,fun y hy => by obtain ⟨a,b,rfl,ha,hb⟩:=hA y hy; simpa [apA,Qe] using (ZlR hdn ha hb).2⟩
    ·exact ⟨by simpa [hr] using lb,.inr rfl,fun y hy => by obtain ⟨a,b,rfl,ha,hb⟩:=hB y hy; simpa [apB,Qe,eN] using (ZlR hdn ha hb).1⟩
  ·rcases hmd with h | h | h | h
   ·exact ⟨1,by simp [YX,h],.inr ⟨rfl,by omega⟩⟩
   ·exact ⟨8,by simp [YX,h],.inr ⟨rfl,by omega⟩⟩
   ·exact ⟨9,by simp [YX,h],.inr ⟨rfl,by omega⟩⟩
   ·exact ⟨10,by simp [YX,h],.inr ⟨rfl,by omega⟩⟩
 | _ :: _ :: _ :: _,hc,_,_ => simp at hc; omega
theorem Zgj:∀ (i n:Nat),(XZ n i).length = i
 | 0,_ => rfl
 | i + 1,n => by simp [XZ,Zgj i]
theorem Zzm:∀ (i n:Nat),∀ x ∈ XZ n i,x < 256
 | 0,_,x,h => by simp [XZ] at h
 | i + 1,n,x,h => by
  rcases List.mem_append.1 h with h | h
  ·exact Zzm i _ x h
  ·simp at h; omega
theorem Zyo (n:Nat):1 ≤ Zbt n ∧ Zbt n ≤ 7:=by
 unfold Zbt
 repeat' split
 all_goals omega
theorem ZI2 {k m:Nat} (hm:m < 64):Zd7 k m < 256:=by
 unfold Zd7
 exact Nat.or_lt_two_pow (n:=8) (Nat.mod_lt _ (by omega)) (by omega)
theorem ZtW (n:Nat):1 ≤ (Qy n).length ∧ (Qy n).length ≤ 7:=by
 unfold Qy
 have:=Zyo n
 split
 ·simp
 ·simp only [List.length_cons,Zgj]; omega
theorem Zvw {n:Nat} (h:n < 2 ^ 36) (h2:128 ≤ n):2 ≤ Zbt n ∧ n < 2 ^ Yf (Zbt n):=by
 obtain ⟨r2,r3,r4,r5,r6,r7⟩:=Zs8
 unfold Zbt
 rw [if_neg (by omega)]
 repeat' split
 all_goals simp only [r2,r3,r4,r5,r6,r7]
 all_goals omega
theorem Zzj {n:Nat} (h:n < 2 ^ 36):∀ x ∈ Qy n,x < 256:=by
 intro x hx
 unfold Qy at hx
 split at hx
 ·simp at hx; omega
 ·rcases List.mem_cons.1 hx with rfl | hx
  ·obtain ⟨h1,h2⟩:=Zvw h (by omega)
   exact ZI2 (ZiJ h1 (Zyo n).2 h2)
  ·exact Zzm _ _ x hx
theorem ZhC:∀ l:List Nat,(l.flatMap fun x => Zb x 8).length = 8 * l.length
 | [] => rfl
 | a :: l => by rw [List.flatMap_cons,Wa,Zk,ZhC l,List.length_cons]; omega
theorem ZbW (mode num n:Nat):(Qr mode num n).length = 32 + 8 * (Qy num).length + 8 * (QI n - 5):=by
 unfold Qr
 simp only [Wa,Zk,ZhC]
 omega
theorem ZfT (n:Nat):QI n = 6 ∨ QI n = 7:=by unfold QI; split <;> omega
theorem ZJh {l:List Nat} {i:Nat} (h:i < (Q9 l).length):(Q9 l)[i] = ((l[i]'(by simpa [Q9] using h):Nat):Int):=by simp [Q9]
theorem ZhH (l:List Nat):(Q9 l).length = l.length:=by simp [Q9]
end Go.Sh
namespace Go.Sh
open Go Go.Proofs
theorem ZpT {n d:Nat} {ls:List (List Int)} {ds:List Int} (h:LayOk n d ls ds) (hn:1 ≤ n) (hn2:n ≤ 512) (hd1:4 ≤ d) (hd2:d ≤ 24):(Qh ls ds).length ≤ 30000:=by
 have one:∀ (i:Nat) (h1:i < ls.length) (h2:i < ds.length),(Wn ls[i] ds[i].toNat).length ≤ 13000:=by
  intro i h1 h2
  obtain ⟨a,b,c⟩:=h.all i h1 h2
  have hw:=Zdm (d:=ds[i].toNat) (by omega) c
  have:=ZBD (s:=ls[i]) (by omega) (by omega) hw
  have hm:ls[i].length * ds[i].toNat ≤ 512 * 25:=Nat.mul_le_mul (by omega) (by omega)
  omega
 unfold Qh
 have hl:=h.len
 rcases h.two with h2 | h2
 ·match ls,ds,h2,hl,one with
  | [a],[x],_,_,one =>
   have:=one 0 (by simp) (by simp)
   simp at this ⊢
   omega
 ·match ls,ds,h2,hl,one with
  | [a,b],[x,y],_,_,one =>
   have h1:=one 0 (by simp) (by simp)
   have h2:=one 1 (by simp) (by simp)
   simp at h1 h2 ⊢
   omega
theorem Zz5 (k:Nat) (hk:100000 < k) {n d:Nat} {ls:List (List Int)} {ds:List Int} (h:LayOk n d ls ds) (hn:1 ≤ n) (hn2:n ≤ 512) (hd1:4 ≤ d) (hd2:d ≤ 24) (bs:List Bool) (hb:bs.length ≤ 200) :
  Ziz k (Int.ofNat ds.length,(0:Int),ds,ls,(bs.length:Int),ZM bs) = some ((ZM (Yn (bs ++ Qh ls ds)),0,()),()):=by
 have hdl:ds.length ≤ 2:=by have:=h.len; have:=h.two; omega
 have hall:(bs ++ Qh ls ds).length ≤ 30200:=by have:=ZpT h hn hn2 hd1 hd2; rw [Wa]; omega
 have hpart:∀ i,(bs ++ ((ls.zip ds).take i).flatMap (fun x => Wn x.1 x.2.toNat)).length ≤ 30200:=by
  intro i
  refine Nat.le_trans ?_ hall
  unfold Qh
  conv => rhs; rw [← List.take_append_drop i (ls.zip ds),List.flatMap_append]
  simp only [Wa]
  omega
 have hzl:(ls.zip ds).length = ds.length:=by rw [List.length_zip]; have:=h.len; omega
 have hend:∀ L,ZcA k L (Int.ofNat ds.length,Int.ofNat ds.length,ds,ls,(((bs ++ Qh ls ds).length:Nat):Int),ZM (bs ++ Qh ls ds)) = some ((ZM (Yn (bs ++ Qh ls ds)),0,()),()):=by
  intro L
  generalize bs ++ Qh ls ds = B at hall
  simp only [ZcA]
  rw [Zj (QW _)]
  have hp:Zai B.length < 8:=by unfold Zai; omega
  have hpl:(XU B).length ≤ 30210:=by unfold XU; rw [Wa,List.length_replicate]; omega
  refine (Zm (ZNk k B (by omega)) _).trans ?_
  refine (Zm (ZkS k (XU B) (by omega)) _).trans ?_
  have hb16:=Kv (XU B)
  have hpk:(ZM (XU B)).length ≤ 4000:=by rw [Qf]; omega
  refine (Zm (ZAx k (ZM (XU B)) hb16 (by omega) (by omega)) _).trans ?_
  refine (Zm (QS k (XU B) (Zcj (ZM (XU B))) 16 (by omega) (by omega) (Zzo hb16) (by omega)) _).trans ?_
  have hcl:(Yn B).length ≤ 30300:=by unfold Yn; rw [Wa,Zk]; omega
  refine (Zm (ZkS k (Yn B) (by omega)) _).trans ?_
  rfl
 have:=Zw (A:=List Bool) (R:=(List Int × Int × Unit) × Unit) (step:=fun L2 => ZcA k L2)
  (fun i a => (Int.ofNat ds.length,Int.ofNat i,ds,ls,(a.length:Int),ZM a)) (ls.zip ds)
  (fun l' a => some ((ZM (Yn (a ++ l'.flatMap fun x => Wn x.1 x.2.toNat)),0,()),()))
  (fun i a => a = bs ++ ((ls.zip ds).take i).flatMap (fun x => Wn x.1 x.2.toNat))
  (fun L a ha => by
   rw [List.take_length] at ha
   have:=hend L
   unfold Qh at this
   rw [← ha] at this
   rw [hzl,List.flatMap_nil,List.append_nil]
   exact this)
  (fun L i hi a ha hL => by
   have h1:i < ls.length:=by have:=h.len; omega
   have h2:i < ds.length:=by omega
   obtain ⟨o1,o2,o3⟩:=h.all i h1 h2
   have hal:a.length ≤ 30200:=by rw [ha]; exact hpart i
   simp only [ZcA]
   rw [Zc (K7 h2),Zc (XW h2),Zc (XW h1),ZK h1,ZK h2]
   have hds:ds[i] = ((ds[i].toNat:Nat):Int):=by omega
   have hsc:ZhM ls[i] ((ds[i].toNat:Nat):Int) = 0:=ZnZ.2 ⟨by omega,o3⟩
   have e:=ZNj k (by omega) hsc a (by omega)
   rw [← hds] at e
   refine (Zm e _).trans ?_
   have hzi:(ls.zip ds)[i] = (ls[i],ds[i]):=by rw [List.getElem_zip]
   have hnext:a ++ Wn ls[i] ds[i].toNat = bs ++ ((ls.zip ds).take (i + 1)).flatMap (fun x => Wn x.1 x.2.toNat):=by
    rw [ha,List.take_add_one,List.getElem?_eq_getElem hi,hzi,List.flatMap_append]
    simp
   have:=hL (a ++ Wn ls[i] ds[i].toNat) hnext
   show L (Int.ofNat ds.length,IntKind.i64.wrap (Int.ofNat i + 1),ds,ls,(((a ++ Wn ls[i] ds[i].toNat).length:Nat):Int),ZM (a ++ Wn ls[i] ds[i].toNat)) = _
   rw [Qk h2 (by omega),this,hzi,List.flatMap_cons,List.append_assoc])
  k 0 bs (by simp) (by omega) (Nat.zero_le _)
 rw [List.drop_zero] at this
 exact this
theorem Zz4 (k:Nat) (hk:100000 < k) {c d r:Int} {mode num n dn:Nat} (hnum:num < 2 ^ 31) (hd:d = (dn:Int)) {ls:List (List Int)} (hc:c = 1 ∧ mode = 0 ∨ c = 2) (hn:1 ≤ n) (hn2:n ≤ 512) (hd1:4 ≤ dn) (hd2:dn ≤ 24)
  (h:LayOk n dn ls (Qe c d (mode:Int))) (bs:List Bool) (hb:bs = Zb 16382 14 ++ (Zb (QI n) 6 ++ (Zb mode 8 ++ Zb 0 4))) :
  ZmC k (Int.ofNat (Q9 (Qy num)).length,(0:Int),Q9 (Qy num),(n:Int),((QI n:Nat):Int),(mode:Int),ls,(bs.length:Int),ZM bs,c,d,r) =
   some ((ZM (Yn (Qs mode num n ++ Qh ls (Qe c d (mode:Int)))),0,()),()):=by
 have hbl:bs.length = 32:=by rw [hb]; simp only [Wa,Zk]
 have hcl:=ZtW num
 have hlt:=Zzj (n:=num) (by omega)
 have hkn:=ZfT n
 have:=Zw (A:=List Bool) (R:=(List Int × Int × Unit) × Unit) (step:=fun L1 => KV k (Ziz k) L1)
  (fun i a => (Int.ofNat (Q9 (Qy num)).length,Int.ofNat i,Q9 (Qy num),(n:Int),((QI n:Nat):Int),(mode:Int),ls,(a.length:Int),ZM a,c,d,r)) (Qy num)
  (fun l' a => KV k (Ziz k) (fun _ => none) (Int.ofNat (Qy num).length,Int.ofNat (Qy num).length,Q9 (Qy num),(n:Int),((QI n:Nat):Int),(mode:Int),ls,(((a ++ l'.flatMap fun x => Zb x 8).length:Nat):Int),ZM (a ++ l'.flatMap fun x => Zb x 8),c,d,r))
  (fun i a => a.length ≤ 32 + 8 * i)
  (fun L a ha => by
   rw [ZhH]
   simp only [KV]
   rw [Zj (QW _),Zj (QW _)]
   simp)
  (fun L i hi a ha hL => by
   have hi2:i < (Q9 (Qy num)).length:=by rw [ZhH]; exact hi
   have key:KV k (Ziz k) L (Int.ofNat (Q9 (Qy num)).length,Int.ofNat i,Q9 (Qy num),(n:Int),((QI n:Nat):Int),(mode:Int),ls,(a.length:Int),ZM a,c,d,r) =
     L (Int.ofNat (Q9 (Qy num)).length,Int.ofNat (i + 1),Q9 (Qy num),(n:Int),((QI n:Nat):Int),(mode:Int),ls,(((a ++ Zb (Qy num)[i] 8).length:Nat):Int),ZM (a ++ Zb (Qy num)[i] 8),c,d,r):=by
    simp only [KV]
    rw [Zc (K7 hi2),Zc (XW hi2),ZK hi2,ZJh hi2]
    have hx:=hlt _ (List.getElem_mem hi)
    have hil:=ZhH (Qy num)
    rw [Qi (by omega)]
    refine (Zm (QS k a (Qy num)[i] 8 (by omega) (by omega) (by omega) (by omega)) _).trans ?_
    rw [Qk hi2 (by omega)]
   rw [key,hL _ (by rw [Wa,Zk]; omega),List.flatMap_cons,List.append_assoc])
  k 0 bs (by omega) (by omega) (Nat.zero_le _)
 rw [List.drop_zero] at this
 refine Eq.trans this ?_
 have hpre:bs ++ (Qy num).flatMap (fun x => Zb x 8) ++ Zb (n - 1) (8 * (QI n - 5)) = Qr mode num n:=by
  rw [hb]
  unfold Qr
  simp only [List.append_assoc]
 have hprel:=ZbW mode num n
 have hB:(bs ++ (Qy num).flatMap (fun x => Zb x 8)).length ≤ 100:=by rw [Wa,ZhC]; omega
 generalize bs ++ (Qy num).flatMap (fun x => Zb x 8) = B at hpre hB
 simp only [KV]
 rw [Zj (QW _)]
 have e1:IntKind.i64.wrap ((n:Int) - 1) = ((n - 1:Nat):Int):=by rw [Qi (by omega)]; omega
 have e2:IntKind.i64.wrap ((8:Int) * IntKind.i64.wrap (IntKind.i64.wrap (((QI n:Nat):Int) - (6:Int)) + (1:Int))) = ((8 * (QI n - 5):Nat):Int):=by
  rcases hkn with h | h <;> rw [h] <;> rfl
 have hw:n - 1 < 2 ^ (8 * (QI n - 5)):=by
  unfold QI
  split
  ·show n - 1 < 2 ^ 16; omega
  ·show n - 1 < 2 ^ 8; omega
 rw [e1,e2]
 refine (Zm (QS k B (n - 1) (8 * (QI n - 5)) (by omega) (by omega) hw (by omega)) _).trans ?_
 rw [hpre]
 refine (Zm (ZkS k (Qr mode num n) (by omega)) _).trans ?_
 have hb8:=Kv (Qr mode num n)
 refine (Zm (ZAt k (ZM (Qr mode num n)) hb8 (by rw [Qf]; omega) (by rw [Qf]; omega)) _).trans ?_
 refine (Zm (QS k (Qr mode num n) (ZhO (ZM (Qr mode num n))) 8 (by omega) (by omega) (ZE6 hb8) (by omega)) _).trans ?_
 refine (Zm (ZAu k (c:=c) (d:=d) (r:=r) (m:=(mode:Int)) (by omega) (by omega)) _).trans ?_
 exact Zz5 k hk h hn hn2 hd1 hd2 (Qs mode num n) (by unfold Qs; rw [Wa,Zk]; omega)
theorem ZLn (k:Nat) (hk:100000 < k) (c d r n:Int) (ch:List (List Int)):Zun k ((c,d,r,()),(n,ch,()),()) = some (((Y8 c d r n ch).1,(Y8 c d r n ch).2,()),()):=by
 show ZjG k (ZmC k) _ = _
 simp only [ZjG]
 rw [ZAn k c d r n ch (by omega)]
 simp only [Z1]
 unfold Y8
 rw [ZI]
 by_cases h:Ym c d r n ch = 0
 ·rw [Zj (by simpa using h),if_pos h]
  obtain ⟨hs,hn,hc,hlen,hsg⟩:=ZaO h
  obtain ⟨hlay,⟨mode,hm,hmc⟩,hn0⟩:=ZEm h
  have hch:ch.length = 1 ∨ (∃ L R,ch = [L,R] ∧ L.length = R.length ∧ L.length ≤ 8192 ∧ (∀ x ∈ L,Qm x) ∧ ∀ x ∈ R,Qm x):=by
   match ch,hc,hlen,hsg with
   | [],hc,_,_ => simp at hc; omega
   | [_],_,_,_ => exact .inl rfl
   | [l,r'],_,hlen,hsg =>
    refine .inr ⟨l,r',rfl,?_,?_,?_,?_⟩
    ·have:=(hlen r' (by simp)).1; simpa using this.symm
    ·have:=(hlen l (by simp)).2.2; omega
    ·exact fun x hx => Zb2 (by omega) (hsg l (by simp) x hx)
    ·exact fun x hx => Zb2 (by omega) (hsg r' (by simp) x hx)
   | _ :: _ :: _ :: _,hc,_,_ => simp at hc; omega
  refine (Zm (ZNd k n ch (by omega) hch) _).trans ?_
  rw [show ((0:Int) != 0) = false from rfl]
  simp only [cond_false]
  have hbig:∃ l0,(YX ch).1.getD 0 [] = l0 ∧ l0.length = (ch.headD []).length ∧ 0 < (YX ch).1.length:=by
   have:=hlay.two
   match hh:(YX ch).1,this with
   | [],h => simp at h
   | l :: ls,_ => rw [hh] at hn0; exact ⟨l,rfl,hn0,by simp⟩
  obtain ⟨l0,hl0,hl0n,hpos⟩:=hbig
  rw [Zc (by simp only [Qz]; omega),hl0,hl0n]
  have hn1:1 ≤ (ch.headD []).length ∧ (ch.headD []).length ≤ 512:=by
   obtain ⟨a,b,c⟩:=hlay.all 0 hpos (by rw [← hlay.len]; exact hpos)
   have:0 < ch.length:=by omega
   match ch,this with
   | l :: _,_ => exact (hlen l (by simp)).2
  rw [hm] at hlay ⊢
  obtain ⟨num,hnum⟩:=Int.eq_ofNat_of_zero_le hn.1
  obtain ⟨dn,hdn⟩:=Int.eq_ofNat_of_zero_le (show 0 ≤ d by omega)
  subst hnum
  rw [Xm,Xm]
  have hdt:d.toNat = dn:=by omega
  rw [hdt] at hlay
  have hmode:mode < 2 ^ 8:=by omega
  have e14:(16382:Int) = ((16382:Nat):Int):=rfl
  generalize hN:(ch.headD []).length = N at hn1 hlay
  have l1:(([]:List Bool) ++ Zb 16382 14).length = 14:=by rw [Wa,Zk]; rfl
  have fin:∀ kd:Nat,kd = QI N → ((ZnK k ()).bind fun y_1 => (ZP k ((y_1.1.1,y_1.1.2.1,()),16382,14,())).bind fun y_2 => (ZP k ((y_2.2.1.1,y_2.2.1.2.1,()),(kd:Int),6,())).bind fun y_3 => (ZP k ((y_3.2.1.1,y_3.2.1.2.1,()),(mode:Int),8,())).bind fun y_4 => (ZP k ((y_4.2.1.1,y_4.2.1.2.1,()),0,4,())).bind fun y_5 => (Zr2 k ((num:Int),())).bind fun y_6 => bif y_6.1.2.1 != (0:Int) then some (([],y_6.1.2.1,()),()) else ZmC k (Int.ofNat (List.length y_6.1.1),(0:Int),y_6.1.1,(N:Int),(kd:Int),(mode:Int),(YX ch).1,y_5.2.1.2.1,y_5.2.1.1,c,d,r)) =
    some ((ZM (Yn (Qs mode num N ++ Qh (YX ch).1 (Qe c d (mode:Int)))),0,()),()):=by
   rintro kd rfl
   have hkn:=ZfT N
   refine (Zm (ZAq k) _).trans ?_
   refine (Zm (QS k [] 16382 14 (by omega) (by omega) (by omega) (by simp)) _).trans ?_
   refine (Zm (QS k ([] ++ Zb 16382 14) (QI N) 6 (by omega) (by omega) (by omega) (by omega)) _).trans ?_
   have l2:([] ++ Zb 16382 14 ++ Zb (QI N) 6).length = 20:=by rw [Wa,l1,Zk]
   refine (Zm (QS k ([] ++ Zb 16382 14 ++ Zb (QI N) 6) mode 8 (by omega) (by omega) hmode (by omega)) _).trans ?_
   have l3:([] ++ Zb 16382 14 ++ Zb (QI N) 6 ++ Zb mode 8).length = 28:=by rw [Wa,l2,Zk]
   refine (Zm (QS k ([] ++ Zb 16382 14 ++ Zb (QI N) 6 ++ Zb mode 8) 0 4 (by omega) (by omega) (by omega) (by omega)) _).trans ?_
   refine (Zm (ZNi k (by omega) (n:=num) (by omega)) _).trans ?_
   exact Zz4 k hk (by omega) hdn (hmc.elim (fun h => .inl ⟨h.2,h.1⟩) (fun h => .inr h.1)) hn1.1 hn1.2 (by omega) (by omega) hlay _ (by simp only [List.nil_append,List.append_assoc])
  by_cases h256:256 < N
  ·rw [Zc (by simp only [Qz]; omega)]
   exact fin 7 (by unfold QI; rw [if_pos h256])
  ·rw [Zj (by simp only [Qz]; omega)]
   exact fin 6 (by unfold QI; rw [if_neg h256])
 ·rw [Zc h,if_neg h]
end Go.Sh
namespace Go.Sh
open Go Go.Proofs
def byB (l:List Nat):List Bool:=l.flatMap fun x => Zb x 8
theorem W5 (l:List Nat):(byB l).length = 8 * l.length:=by
 unfold byB
 rw [ZfN (B:=8) fun x _ => Zk x 8]; omega
theorem ZCq (a b:List Nat):byB (a ++ b) = byB a ++ byB b:=by simp [byB]
theorem Xb {k:Nat} {bs:List Bool} {n w:Nat} (hk:64 < k) (hw:w ≤ 32) (hn:n < 2 ^ w) (hb:bs.length + w < 4294967296) {α:Type} (K:Int × (List Int × Int × Unit) × Unit → Option α) :
  (ZP k (KA bs,(n:Int),(w:Int),())).bind K = K (0,KA (bs ++ Zb n w),()):=by
 rw [QS k bs n w hk hw hn hb]; rfl
section prog
variable {k:Nat}
theorem ZdX (hk:100 ≤ k) (bs:List Bool) (s:ByteArray) (hs:s.size < k) (hb:bs.length + 8 * s.size < 4000000000):KG k (KA bs,s,()) = some ((),KA (bs ++ byB (Zh5 s)),()):=by
 have hl:=Yw s
 have key:=Zw (A:=List Bool) (step:=fun L1 => Zbc k L1) (fun i a => (Int.ofNat s.size,Int.ofNat i,s,(a.length:Int),ZM a)) s.data.toList
  (fun rest a => some ((),KA (a ++ byB (rest.map UInt8.toNat)),())) (fun i a => a.length = bs.length + 8 * i)
  (fun L a _ => by
   simp only [Zbc]
   rw [hl,Zj (QW _)]
   simp [byB,KA])
  (fun L i hi a hI hL => by
   rw [hl] at hi
   simp only [Zbc]
   rw [Zc (K7 hi),Zc (XW hi),ZK (by omega)]
   have h256:=(s.data.toList[i]'(by omega)).toNat_lt
   rw [show IntKind.i64.wrap (Int.ofNat (s.data.toList[i]'(by omega)).toNat) = (((s.data.toList[i]'(by omega)).toNat:Nat):Int) from Qi (by simp only [Qz]; omega)]
   refine Eq.trans (Xb (k:=k) (bs:=a) (w:=8) (by omega) (by omega) h256 (by omega) _) ?_
   rw [Qk hi (by omega)]
   refine Eq.trans (hL _ (by rw [Wa,Zk,hI]; omega)) ?_
   simp [byB])
  k 0 bs (by simp) (by omega) (by omega)
 rw [List.drop_zero] at key
 exact key
theorem ZiF (hk:100 ≤ k) (bs:List Bool) {a b n:Nat} (ha:a < 2) (hb:b < 128) (hn:n < 16777216) (hl:bs.length < 4000000000):Zas k (KA bs,(a:Int),(b:Int),(n:Int),()) = some ((),KA (bs ++ (Zb a 1 ++ Zb b 7 ++ Zb n 24)),()):=by
 show ZdY k _ = _
 simp only [ZdY]
 refine Eq.trans (Xb (k:=k) (bs:=bs) (w:=1) (by omega) (by omega) ha (by omega) _) ?_
 refine Eq.trans (Xb (k:=k) (bs:=bs ++ Zb a 1) (w:=7) (by omega) (by omega) hb (by rw [Wa,Zk]; omega) _) ?_
 refine Eq.trans (Xb (k:=k) (bs:=bs ++ Zb a 1 ++ Zb b 7) (w:=24) (by omega) (by omega) hn (by simp only [Wa,Zk]; omega) _) ?_
 simp [KA]
theorem ZTD {n i:Nat} (hn:n < 4294967296) (hi:i < 4):IntKind.i64.wrap (Int.ofNat (BitVec.ofInt 64 (Int.fdiv (n:Int) ((2:Int) ^ min (((8 * i:Nat):Int)).toNat 64)) &&& BitVec.ofInt 64 (255:Int)).toNat) = ((n / 2 ^ (8 * i) % 256:Nat):Int):=by
 have e1:min (((8 * i:Nat):Int)).toNat 64 = 8 * i:=by omega
 have hd:n / 2 ^ (8 * i) ≤ n:=Nat.div_le_self _ _
 have e:(n / 2 ^ (8 * i)) &&& 255 = n / 2 ^ (8 * i) % 256:=Nat.and_two_pow_sub_one_eq_mod _ 8
 rw [e1,show ((2:Int) ^ (8 * i)) = ((2 ^ (8 * i):Nat):Int) by simp,ZAW,BitVec.toNat_and,ZWA (by omega),show (BitVec.ofInt 64 (255:Int)).toNat = 255 from rfl,e]
 rw [show Int.ofNat (n / 2 ^ (8 * i) % 256) = ((n / 2 ^ (8 * i) % 256:Nat):Int) from rfl,ZJf (by omega)]
theorem ZOl (N i:Nat):byB (leN N (i + 1)) = byB (leN N i) ++ Zb (N / 2 ^ (8 * i) % 256) 8:=by
 rw [ZBc,ZCq]; simp [byB]
theorem ZFy (hk:100 ≤ k) (bs:List Bool) {N:Nat} (hN:N < 4294967296) (hl:bs.length < 4000000000):∀ (n i fuel:Nat),i + n = 4 → n < fuel →
  Zn (fun L1 => Zbf k L1) fuel (((8 * i:Nat):Int),(N:Int),(((bs ++ byB (leN N i)).length:Nat):Int),ZM (bs ++ byB (leN N i))) = some ((),KA (bs ++ byB (leN N 4)),())
 | 0,i,fuel + 1,h1,h2 => by
  obtain rfl:i = 4:=by omega
  rw [Zg]
  simp only [Zbf]
  rw [Zj (by omega)]
 | n + 1,i,fuel + 1,h1,h2 => by
  rw [Zg]
  simp only [Zbf]
  rw [Zc (by omega),Zc (by omega)]
  simp only [ZTD hN (show i < 4 by omega)]
  refine Eq.trans (Xb (k:=k) (bs:=bs ++ byB (leN N i)) (w:=8) (by omega) (by omega) (Nat.mod_lt _ (by omega)) (by rw [Wa,W5,YY]; omega) _) ?_
  rw [show IntKind.i64.wrap (((8 * i:Nat):Int) + 8) = ((8 * (i + 1):Nat):Int) by rw [Qi (by omega)]; omega,List.append_assoc,← ZOl]
  exact ZFy hk bs hN hl n (i + 1) fuel (by omega) (by omega)
 | 0,_,0,_,h2 => absurd h2 (Nat.lt_irrefl _)
 | n + 1,_,0,_,h2 => absurd h2 (Nat.not_lt_zero _)
theorem ZiG (hk:100 ≤ k) (bs:List Bool) {N:Nat} (hN:N < 4294967296) (hl:bs.length < 4000000000):Zd1 k (KA bs,(N:Int),()) = some ((),KA (bs ++ byB (leN N 4)),()):=by
 have:=ZFy hk bs hN hl 4 0 k rfl (by omega)
 rw [show leN N 0 = [] from rfl,show byB [] = [] from rfl,List.append_nil] at this
 exact this
def ZBi:List Nat → Nat
 | [] => 0
 | x :: l => l.foldl min x
def ZBh:List Nat → Nat
 | [] => 0
 | x :: l => l.foldl max x
theorem ZDN {l:List Nat} (h:l ≠ []) (hk:l.length < k) (hl:l.length < 4294967296):ZkC k (ZD l,()) = some ((ZBi l:Int),()):=by
 match l,h with
 | x :: l,_ =>
  show ZdZ k (ZkD k) _ = _
  simp only [ZdZ]
  rw [ZZ,Zj (by simp only [Qz,List.length_cons]; omega),Zc (by simp only [Qz,List.length_cons]; omega)]
  have hc:(ZD (x :: l)).length = l.length + 1:=by rw [ZZ]; rfl
  have key:=QG (A:=Nat) (step:=fun L1 => Zbd k L1) (fun i a => (Int.ofNat i,ZD (x :: l),(a:Int))) (x :: l) (fun rest a => some (((rest.foldl min a:Nat):Int),()))
   (fun L a => by
    simp only [Zbd]
    rw [hc,show (x :: l).length = l.length + 1 from rfl,Zj (QW _)]
    rfl)
   (fun L i hi a hL => by
    simp only [Zbd]
    rw [ZZ,Zc (K7 hi),Zc (XW hi)]
    have e:(ZD (x :: l)).getD (Int.ofNat i).toNat 0 = (((x :: l)[i]:Nat):Int):=by
     rw [show (Int.ofNat i).toNat = i from rfl,Q5,Q3 hi]
    rw [e,Qk hi (by omega)]
    have e2:(if (((x :: l)[i]:Nat):Int) < (a:Int) then (((x :: l)[i]:Nat):Int) else (a:Int)) = ((min a (x :: l)[i]:Nat):Int):=by
     split <;> omega
    rw [e2]
    exact hL _) k 1 x (by simp at hk ⊢; omega) (by simp)
  exact key
theorem ZDP {l:List Nat} (h:l ≠ []) (hk:l.length < k) (hl:l.length < 4294967296):ZkE k (ZD l,()) = some ((ZBh l:Int),()):=by
 match l,h with
 | x :: l,_ =>
  show Zd0 k (ZkF k) _ = _
  simp only [Zd0]
  rw [ZZ,Zj (by simp only [Qz,List.length_cons]; omega),Zc (by simp only [Qz,List.length_cons]; omega)]
  have hc:(ZD (x :: l)).length = l.length + 1:=by rw [ZZ]; rfl
  have key:=QG (A:=Nat) (step:=fun L1 => Zbe k L1) (fun i a => (Int.ofNat i,ZD (x :: l),(a:Int))) (x :: l) (fun rest a => some (((rest.foldl max a:Nat):Int),()))
   (fun L a => by
    simp only [Zbe]
    rw [hc,show (x :: l).length = l.length + 1 from rfl,Zj (QW _)]
    rfl)
   (fun L i hi a hL => by
    simp only [Zbe]
    rw [ZZ,Zc (K7 hi),Zc (XW hi)]
    have e:(ZD (x :: l)).getD (Int.ofNat i).toNat 0 = (((x :: l)[i]:Nat):Int):=by
     rw [show (Int.ofNat i).toNat = i from rfl,Q5,Q3 hi]
    rw [e,Qk hi (by omega)]
    have e2:(if (a:Int) < (((x :: l)[i]:Nat):Int) then (((x :: l)[i]:Nat):Int) else (a:Int)) = ((max a (x :: l)[i]:Nat):Int):=by
     split <;> omega
    rw [e2]
    exact hL _) k 1 x (by simp at hk ⊢; omega) (by simp)
  exact key
end prog
end Go.Sh
namespace Go.Sh
open Go Go.Proofs
def ZiM:List Nat:=[102,76,97,67]
def Zn2:List Nat:=[115,104,101,108,108,97,99]
def ZbU (a b n:Nat):List Bool:=Zb a 1 ++ Zb b 7 ++ Zb n 24
def Zne (size n i at_:Nat):List Bool:=Zb 0 32 ++ Zb (i * size) 32 ++ Zb 0 32 ++ Zb at_ 32 ++ Zb (min size (n - i * size)) 16
def ZBI (size n:Nat):Nat → Nat → List Nat → List Bool
 | _,_,[] => []
 | i,at_,x :: l => Zne size n i at_ ++ ZBI size n (i + 1) (at_ + x) l
def ZBK (tags:List ByteArray):List Bool:=tags.flatMap fun t => byB (leN t.size 4) ++ byB (Zh5 t)
def ZGH (tags:List ByteArray):Nat:=(tags.map fun t => 4 + t.size).sum
def ZGk (c d r size n small great:Nat):List Bool:=byB ZiM ++ ZbU 0 0 34 ++ Zb size 16 ++ Zb size 16 ++ Zb small 24 ++ Zb great 24 ++ Zb r 20 ++ Zb (c - 1) 3 ++ Zb (d - 1) 5 ++ Zb 0 4 ++ Zb n 32
def ZaQ (tags:List ByteArray):List Bool:=ZbU 1 4 (15 + ZGH tags) ++ byB (leN 7 4) ++ byB Zn2 ++ byB (leN tags.length 4) ++ ZBK tags
def Zi5 (size n:Nat) (lens:List Nat):List Bool:=if 1 < lens.length then ZbU 0 3 (18 * lens.length) ++ ZBI size n 0 0 lens else []
noncomputable def ZyR (d:Nat) (ch:List (List Int)):List Nat:=ZEr (Zib (nbD d) ch (ch.getD 0 []).length)
noncomputable def Zij (d r:Nat) (tags:List ByteArray) (ch:List (List Int)) (size:Nat) (lens:List Nat):List Bool :=
 ZGk ch.length d r size (ch.getD 0 []).length (ZBi lens) (ZBh lens) ++ byB (ZyR d ch) ++ Zi5 size (ch.getD 0 []).length lens ++ ZaQ tags
theorem YI (a b n:Nat):(ZbU a b n).length = 32:=by simp [ZbU,Zk]
theorem ZsU (size n i a:Nat):(Zne size n i a).length = 144:=by simp [Zne,Zk]
theorem ZV3 (s:S4):ZaM (ZOD s):=by
 intro x hx
 simp only [ZOD,le4,List.mem_append,List.mem_cons,List.not_mem_nil,or_false] at hx
 omega
theorem Zf9 (d:Nat) (ch:List (List Int)):(ZyR d ch).length = 16:=by simp [ZyR,ZEr,ZOD,le4]
theorem Zlw:∀ (l:List Nat) (a:Nat),l.foldl min a ≤ a
 | [],a => Nat.le_refl a
 | x :: l,a => Nat.le_trans (Zlw l (min a x)) (Nat.min_le_left a x)
theorem ZSt {l:List Nat} {B:Nat} (hB:0 < B) (h:∀ x ∈ l,x < B):ZBi l < B:=by
 match l,h with
 | [],_ => exact hB
 | x :: l,h => exact Nat.lt_of_le_of_lt (Zlw l x) (h x (List.mem_cons_self ..))
theorem Zlv {B:Nat}:∀ (l:List Nat) (a:Nat),a < B → (∀ x ∈ l,x < B) → l.foldl max a < B
 | [],a,h,_ => h
 | x :: l,a,h,h2 => Zlv l (max a x) (by have:=h2 x (List.mem_cons_self ..); omega) fun y hy => h2 y (List.mem_cons_of_mem _ hy)
theorem ZSo {l:List Nat} {B:Nat} (hB:0 < B) (h:∀ x ∈ l,x < B):ZBh l < B:=by
 match l,h with
 | [],_ => exact hB
 | x :: l,h => exact Zlv l x (h x (List.mem_cons_self ..)) fun y hy => h y (List.mem_cons_of_mem _ hy)
section prog
variable {k:Nat} {c d r:Int} {tags:List ByteArray} {ch:List (List Int)}
def Tg (tags:List ByteArray):Prop:=tags.length ≤ 8 ∧ ∀ t ∈ tags,t.size ≤ 12
theorem ZRw (hk:100 ≤ k) (hT:Tg tags) (bs:List Bool) (hb:bs.length < 1000000000):Zfi k (Int.ofNat tags.length,(0:Int),tags,(bs.length:Int),ZM bs) = some (ZM (bs ++ ZBK tags),()):=by
 have key:=Zw (A:=List Bool) (step:=fun L3 => Za9 k L3) (fun i a => (Int.ofNat tags.length,Int.ofNat i,tags,(a.length:Int),ZM a)) tags
  (fun rest a => some (ZM (a ++ ZBK rest),())) (fun i a => a.length ≤ bs.length + 200 * i)
  (fun L a hI => by
   simp only [Za9]
   rw [Zj (QW _)]
   refine Eq.trans (congrArg (fun x => Option.bind x _) (ZkS k a (by have:=hT.1; omega))) ?_
   simp [ZBK])
  (fun L i hi a hI hL => by
   have ht:=hT.2 _ (List.getElem_mem hi)
   have ht8:=hT.1
   simp only [Za9]
   rw [Zc (K7 hi),Zc (XW hi),ZK hi]
   refine Eq.trans (congrArg (fun x => Option.bind x _) (ZiG hk a (N:=tags[i].size) (by omega) (by omega))) ?_
   simp only [Z1]
   refine Eq.trans (congrArg (fun x => Option.bind x _) (ZdX hk (a ++ byB (leN tags[i].size 4)) tags[i] (by omega) (by rw [Wa,W5,YY]; omega))) ?_
   simp only [Z1]
   rw [Qk hi (by omega)]
   refine Eq.trans (hL _ (by simp only [Wa,W5,YY,Zm6]; omega)) ?_
   simp only [ZBK,List.flatMap_cons,List.append_assoc])
  k 0 bs (by simp) (by have:=hT.1; omega) (by omega)
 rw [List.drop_zero] at key
 exact key
theorem ZFr (hk:100 ≤ k) (hT:Tg tags) (bs:List Bool) (hb:bs.length < 900000000):YQ k (Int.ofNat tags.length,(0:Int),tags,(15:Int),(bs.length:Int),ZM bs,c,d,r,tags,ch) = some (ZM (bs ++ ZaQ tags),()):=by
 have h8:=hT.1
 have key:=Zw (A:=Nat) (step:=fun L2 => Za8 k (Zfi k) L2) (fun i a => (Int.ofNat tags.length,Int.ofNat i,tags,(a:Int),(bs.length:Int),ZM bs,c,d,r,tags,ch)) tags
  (fun rest a => some (ZM (bs ++ (ZbU 1 4 (a + ZGH rest) ++ byB (leN 7 4) ++ byB Zn2 ++ byB (leN tags.length 4) ++ ZBK tags)),())) (fun i a => a ≤ 15 + 16 * i)
  (fun L a hI => by
   simp only [Za8]
   rw [Zj (QW _)]
   refine Eq.trans (congrArg (fun x => Option.bind x _) (ZiF hk bs (a:=1) (b:=4) (n:=a) (by omega) (by omega) (by omega) (by omega))) ?_
   simp only [Z1]
   refine Eq.trans (congrArg (fun x => Option.bind x _) (ZiG hk (bs ++ ZbU 1 4 a) (N:=7) (by omega) (by rw [Wa,YI]; omega))) ?_
   simp only [Z1]
   have hv:(ByteArray.mk #[115,104,101,108,108,97,99]).size = 7:=rfl
   have hn:Zh5 (ByteArray.mk #[115,104,101,108,108,97,99]) = Zn2:=rfl
   refine Eq.trans (congrArg (fun x => Option.bind x _) (ZdX hk (bs ++ ZbU 1 4 a ++ byB (leN 7 4)) (ByteArray.mk #[115,104,101,108,108,97,99]) (by rw [hv]; omega) (by simp only [Wa,YI,W5,YY,hv]; omega))) ?_
   rw [hn]
   simp only [Z1]
   refine Eq.trans (congrArg (fun x => Option.bind x _) (ZiG hk (bs ++ ZbU 1 4 a ++ byB (leN 7 4) ++ byB Zn2) (N:=tags.length) (by omega) (by simp only [Wa,YI,W5,YY,Zn2,List.length_cons,List.length_nil]; omega))) ?_
   simp only [Z1]
   refine Eq.trans (ZRw hk hT (bs ++ ZbU 1 4 a ++ byB (leN 7 4) ++ byB Zn2 ++ byB (leN tags.length 4)) (by simp only [Wa,YI,W5,YY,Zn2,List.length_cons,List.length_nil]; omega)) ?_
   simp [ZGH,List.append_assoc])
  (fun L i hi a hI hL => by
   have ht:=hT.2 _ (List.getElem_mem hi)
   simp only [Za8]
   rw [Zc (K7 hi),Zc (XW hi),ZK hi,Qk hi (by omega)]
   have e:IntKind.i64.wrap ((a:Int) + IntKind.i64.wrap ((4:Int) + Int.ofNat tags[i].size)) = ((a + (4 + tags[i].size):Nat):Int):=by
    simp only [Qz]
    rw [Qi (n:=(4:Int) + (tags[i].size:Int)) (by omega),Qi (by omega)]; omega
   rw [e]
   refine Eq.trans (hL _ (by omega)) ?_
   simp only [ZGH,List.map_cons,List.sum_cons,Nat.add_assoc])
  k 0 15 (by omega) (by omega) (by omega)
 rw [List.drop_zero] at key
 exact key
theorem ZRv (hk:1000 ≤ k) (hT:Tg tags) {size n:Nat} (hs:16 ≤ size ∧ size ≤ 512) (hn:(ch.getD 0 []).length = n) (hn4:n ≤ 4096) {lens:List Nat} (hl:lens.length ≤ 300) (hB:∀ x ∈ lens,x < 65536) (hi:∀ i,i < lens.length → i * size ≤ n) (bs:List Bool) (hb:bs.length < 100000000) :
  Zfh k (Int.ofNat lens.length,(0:Int),ZD lens,(size:Int),(0:Int),(bs.length:Int),ZM bs,c,d,r,tags,ch) = some (ZM (bs ++ ZBI size n 0 0 lens ++ ZaQ tags),()):=by
 have key:=Zw (A:=List Bool × Nat) (step:=fun L1 => Za7 k (YQ k) L1) (fun i a => (Int.ofNat lens.length,Int.ofNat i,ZD lens,(size:Int),(a.2:Int),(a.1.length:Int),ZM a.1,c,d,r,tags,ch)) lens
  (fun rest a => some (ZM (a.1 ++ ZBI size n (lens.length - rest.length) a.2 rest ++ ZaQ tags),())) (fun i a => a.1.length ≤ bs.length + 144 * i ∧ a.2 ≤ 65536 * i)
  (fun L a hI => by
   simp only [Za7]
   rw [Zj (QW _)]
   refine Eq.trans (ZFr (by omega) hT a.1 (by omega)) ?_
   simp [ZBI])
  (fun L i hlt a hI hL => by
   obtain ⟨B,at_⟩:=a
   simp only at hI hL ⊢
   have hx:=hB _ (List.getElem_mem hlt)
   have hin:=hi i hlt
   have him:i * size < 4294967296:=by omega
   simp only [Za7]
   rw [ZZ,Zc (K7 hlt),Zc (XW hlt)]
   refine Eq.trans (Xb (k:=k) (bs:=B) (n:=0) (w:=32) (by omega) (by omega) (by omega) (by omega) _) ?_
   have e1:IntKind.i64.wrap (Int.ofNat i * (size:Int)) = ((i * size:Nat):Int):=by
    rw [show Int.ofNat i * (size:Int) = ((i * size:Nat):Int) by simp,ZJf (by omega)]
   rw [e1]
   refine Eq.trans (Xb (k:=k) (bs:=B ++ Zb 0 32) (w:=32) (by omega) (by omega) him (by simp only [Wa,Zk]; omega) _) ?_
   refine Eq.trans (Xb (k:=k) (bs:=B ++ Zb 0 32 ++ Zb (i * size) 32) (n:=0) (w:=32) (by omega) (by omega) (by omega) (by simp only [Wa,Zk]; omega) _) ?_
   refine Eq.trans (Xb (k:=k) (bs:=B ++ Zb 0 32 ++ Zb (i * size) 32 ++ Zb 0 32) (n:=at_) (w:=32) (by omega) (by omega) (by omega) (by simp only [Wa,Zk]; omega) _) ?_
   rw [Yp,hn]
   simp only [Z1]
   have e2:(if IntKind.i64.wrap (Int.ofNat n - ((i * size:Nat):Int)) < (size:Int) then IntKind.i64.wrap (Int.ofNat n - ((i * size:Nat):Int)) else (size:Int)) = ((min size (n - i * size):Nat):Int):=by
    simp only [Qz]
    generalize i * size = q at *
    rw [Qi (by omega)]
    split <;> omega
   rw [e2]
   refine Eq.trans (Xb (k:=k) (bs:=B ++ Zb 0 32 ++ Zb (i * size) 32 ++ Zb 0 32 ++ Zb at_ 32) (w:=16) (by omega) (by omega) (by omega) (by simp only [Wa,Zk]; omega) _) ?_
   have e3:(ZD lens).getD (Int.ofNat i).toNat 0 = ((lens[i]:Nat):Int):=by
    rw [show (Int.ofNat i).toNat = i from rfl,Q5,Q3 hlt]
   have e4:IntKind.i64.wrap ((at_:Int) + ((lens[i]:Nat):Int)) = ((at_ + lens[i]:Nat):Int):=by rw [Qi (by omega)]; omega
   rw [e3,e4,Qk hlt (by omega)]
   refine Eq.trans (hL (B ++ Zne size n i at_,at_ + lens[i]) ⟨by rw [Wa,ZsU]; omega,by simp only; omega⟩ |> fun h => by
    simp only [Zne,← List.append_assoc] at h ⊢
    exact h) ?_
   have e5:lens.length - (lens[i] :: lens.drop (i + 1)).length = i:=by rw [List.length_cons,List.length_drop]; omega
   have e6:lens.length - (lens.drop (i + 1)).length = i + 1:=by rw [List.length_drop]; omega
   simp only [e5,e6,ZBI,Zne,List.append_assoc])
  k 0 (bs,0) ⟨by simp,by simp⟩ (by omega) (by omega)
 rw [List.drop_zero] at key
 simp only [Nat.sub_self] at key
 exact key
end prog
end Go.Sh
namespace Go.Sh
open Go Go.Proofs
theorem ZBJ (size n:Nat):∀ (l:List Nat) (i a:Nat),(ZBI size n i a l).length = 144 * l.length
 | [],_,_ => rfl
 | x :: l,i,a => by simp only [ZBI,Wa,ZsU,ZBJ size n l,List.length_cons]; omega
theorem Good0.tg {tags:List ByteArray} (h:tags.all Zns = true) (h8:tags.length ≤ 8):Tg tags :=
 ⟨h8,fun t ht => by
  have:=List.all_eq_true.1 h t ht
  unfold Zns at this
  simp only [Bool.and_eq_true] at this
  exact Nat.le_of_ble_eq_true this.2.1⟩
structure Lens (size n:Nat) (lens:List Nat):Prop where
 sz:16 ≤ size ∧ size ≤ 512
 len:lens.length ≤ 300
 small:∀ x ∈ lens,x < 65536
 in_:∀ i,i < lens.length → i * size ≤ n
theorem ZTs {k:Nat} (hk:1000 ≤ k) {size small great r c1 d1:Nat} (hs:size < 65536) (h1:small < 16777216) (h2:great < 16777216) (h3:r < 1048576) (h4:c1 < 8) (h5:d1 < 32) (B:List Bool) (hB:B.length ≤ 1000) {α:Type} (K:Int × (List Int × Int × Unit) × Unit → Option α) :
  ((ZP k (KA B,(size:Int),16,())).bind fun y => (ZP k ((y.2.1.1,y.2.1.2.1,()),(size:Int),16,())).bind fun y => (ZP k ((y.2.1.1,y.2.1.2.1,()),(small:Int),24,())).bind fun y => (ZP k ((y.2.1.1,y.2.1.2.1,()),(great:Int),24,())).bind fun y => (ZP k ((y.2.1.1,y.2.1.2.1,()),(r:Int),20,())).bind fun y => (ZP k ((y.2.1.1,y.2.1.2.1,()),(c1:Int),3,())).bind fun y => (ZP k ((y.2.1.1,y.2.1.2.1,()),(d1:Int),5,())).bind fun y => (ZP k ((y.2.1.1,y.2.1.2.1,()),0,4,())).bind K) =
   K (0,KA (B ++ Zb size 16 ++ Zb size 16 ++ Zb small 24 ++ Zb great 24 ++ Zb r 20 ++ Zb c1 3 ++ Zb d1 5 ++ Zb 0 4),()):=by
 refine Eq.trans (Xb (k:=k) (bs:=B) (w:=16) (by omega) (by omega) hs (by omega) _) ?_
 refine Eq.trans (Xb (k:=k) (bs:=B ++ Zb size 16) (w:=16) (by omega) (by omega) hs (by simp only [Wa,Zk]; omega) _) ?_
 refine Eq.trans (Xb (k:=k) (bs:=B ++ Zb size 16 ++ Zb size 16) (w:=24) (by omega) (by omega) h1 (by simp only [Wa,Zk]; omega) _) ?_
 refine Eq.trans (Xb (k:=k) (bs:=B ++ Zb size 16 ++ Zb size 16 ++ Zb small 24) (w:=24) (by omega) (by omega) h2 (by simp only [Wa,Zk]; omega) _) ?_
 refine Eq.trans (Xb (k:=k) (bs:=B ++ Zb size 16 ++ Zb size 16 ++ Zb small 24 ++ Zb great 24) (w:=20) (by omega) (by omega) h3 (by simp only [Wa,Zk]; omega) _) ?_
 refine Eq.trans (Xb (k:=k) (bs:=B ++ Zb size 16 ++ Zb size 16 ++ Zb small 24 ++ Zb great 24 ++ Zb r 20) (w:=3) (by omega) (by omega) h4 (by simp only [Wa,Zk]; omega) _) ?_
 refine Eq.trans (Xb (k:=k) (bs:=B ++ Zb size 16 ++ Zb size 16 ++ Zb small 24 ++ Zb great 24 ++ Zb r 20 ++ Zb c1 3) (w:=5) (by omega) (by omega) h5 (by simp only [Wa,Zk]; omega) _) ?_
 exact Xb (k:=k) (bs:=B ++ Zb size 16 ++ Zb size 16 ++ Zb small 24 ++ Zb great 24 ++ Zb r 20 ++ Zb c1 3 ++ Zb d1 5) (n:=0) (w:=4) (by omega) (by omega) (by omega) (by simp only [Wa,Zk]; omega) K
theorem ZDB {k:Nat} (hk:16777216 ≤ k) {d r:Nat} {tags:List ByteArray} {ch:List (List Int)} (h0:chk (ch.length:Int) (d:Int) (r:Int) tags ch = 0) (hS:Small tags ch) {size:Nat} {lens:List Nat} (hL:Lens size (ch.getD 0 []).length lens) :
  Zhw k ((((ch.length:Int),(d:Int),(r:Int),()),tags,ch,()),(size:Int),ZD lens,()) = some (ZM (Zij d r tags ch size lens),()):=by
 obtain ⟨hg,hshape,-,htv,ht8⟩:=ZaP h0
 have hT:=Good0.tg htv ht8
 have hsh:=of_decide_eq_true hshape
 have hs:=hL.sz
 have hn4:=hg.n4
 generalize hn:(ch.getD 0 []).length = n at *
 have hmin:ZBi lens < 65536:=ZSt (by omega) hL.small
 have hmax:ZBh lens < 65536:=ZSo (by omega) hL.small
 show ZdT k _ _ _ = _
 simp only [ZdT]
 refine Eq.trans (congrArg (fun x => Option.bind x _) (ZAq k)) ?_
 simp only [Z1]
 have hmg:Zh5 (ByteArray.mk #[102,76,97,67]) = ZiM:=rfl
 refine Eq.trans (congrArg (fun x => Option.bind x _) (ZdX (by omega) [] (ByteArray.mk #[102,76,97,67]) (by rw [show (ByteArray.mk #[102,76,97,67]).size = 4 from rfl]; omega) (by rw [show (ByteArray.mk #[102,76,97,67]).size = 4 from rfl]; simp))) ?_
 rw [hmg,List.nil_append]
 simp only [Z1]
 refine Eq.trans (congrArg (fun x => Option.bind x _) (ZiF (by omega) (byB ZiM) (a:=0) (b:=0) (n:=34) (by omega) (by omega) (by omega) (by rw [W5]; simp [ZiM]))) ?_
 simp only [Z1]
 rw [show (Zb 0 1 ++ Zb 0 7 ++ Zb 34 24) = ZbU 0 0 34 from rfl]
 have hA:(byB ZiM ++ ZbU 0 0 34).length = 64:=by rw [Wa,W5,YI]; rfl
 generalize hAe:byB ZiM ++ ZbU 0 0 34 = A at hA
 have e1:IntKind.i64.wrap ((ch.length:Int) - 1) = ((ch.length - 1:Nat):Int):=by rw [Qi (by omega)]; omega
 have e2:IntKind.i64.wrap ((d:Int) - 1) = ((d - 1:Nat):Int):=by rw [Qi (by omega)]; omega
 have e3:IntKind.i64.wrap ((18:Int) * Int.ofNat (ZD lens).length) = ((18 * lens.length:Nat):Int):=by
  have:=hL.len
  rw [ZZ,Qi (by simp only [Qz]; omega)]; simp
 rw [ZZ] at e3
 have nl:=hL.len
 have tail:∀ (C:List Bool),C.length ≤ 1000 →
   ((ZP k (KA C,(n:Int),32,())).bind fun y => (ZdD k ((((ch.length:Int),(d:Int),(r:Int),()),tags,ch,()),())).bind fun y_4 => (KG k ((y.2.1.1,y.2.1.2.1,()),y_4.1.1,())).bind fun y => bif decide ((1:Int) < Int.ofNat lens.length) then (Zas k ((y.2.1.1,y.2.1.2.1,()),0,3,IntKind.i64.wrap ((18:Int) * Int.ofNat lens.length),())).bind fun y => Zfh k (Int.ofNat lens.length,(0:Int),ZD lens,(size:Int),(0:Int),y.2.1.2.1,y.2.1.1,(ch.length:Int),(d:Int),(r:Int),tags,ch) else YQ k (Int.ofNat tags.length,(0:Int),tags,(15:Int),y.2.1.2.1,y.2.1.1,(ch.length:Int),(d:Int),(r:Int),tags,ch)) =
    some (ZM (C ++ Zb n 32 ++ byB (ZyR d ch) ++ Zi5 size n lens ++ ZaQ tags),()):=by
  intro C hC
  refine Eq.trans (Xb (k:=k) (bs:=C) (w:=32) (by omega) (by omega) (by omega) (by omega) _) ?_
  rw [ZDd hk hS,if_pos h0]
  simp only [Z1]
  have hst:(Zh5 (ZBC (ZEr (Zib (nbD d) ch (ch.getD 0 []).length)))) = ZyR d ch:=ZEt (ZV3 _)
  have hsz:(ZBC (ZEr (Zib (nbD d) ch (ch.getD 0 []).length))).size = 16:=by rw [← Zm6,hst,Zf9]
  refine Eq.trans (congrArg (fun x => Option.bind x _) (ZdX (by omega) (C ++ Zb n 32) (ZBC (ZEr (Zib (nbD d) ch (ch.getD 0 []).length))) (by omega) (by simp only [Wa,Zk]; omega))) ?_
  simp only [Z1]
  rw [hst,e3]
  by_cases h1:1 < lens.length
  ·rw [Zc (by simp only [Qz]; omega)]
   refine Eq.trans (congrArg (fun x => Option.bind x _) (ZiF (by omega) (C ++ Zb n 32 ++ byB (ZyR d ch)) (a:=0) (b:=3) (n:=18 * lens.length) (by omega) (by omega) (by omega) (by simp only [Wa,Zk,W5,Zf9]; omega))) ?_
   simp only [Z1]
   refine Eq.trans (ZRv (by omega) hT hs hn hn4 nl hL.small hL.in_ (C ++ Zb n 32 ++ byB (ZyR d ch) ++ (Zb 0 1 ++ Zb 3 7 ++ Zb (18 * lens.length) 24)) (by simp only [Wa,Zk,W5,Zf9]; omega)) ?_
   simp only [Zi5,if_pos h1,ZbU,List.append_assoc]
  ·rw [Zj (by simp only [Qz]; omega)]
   refine Eq.trans (ZFr (by omega) hT (C ++ Zb n 32 ++ byB (ZyR d ch)) (by simp only [Wa,Zk,W5,Zf9]; omega)) ?_
   simp only [Zi5,if_neg h1,List.append_nil]
 have fin:A ++ Zb size 16 ++ Zb size 16 ++ Zb (ZBi lens) 24 ++ Zb (ZBh lens) 24 ++ Zb r 20 ++ Zb (ch.length - 1) 3 ++ Zb (d - 1) 5 ++ Zb 0 4 ++ Zb n 32 ++ byB (ZyR d ch) ++ Zi5 size n lens ++ ZaQ tags = Zij d r tags ch size lens:=by
  unfold Zij ZGk
  rw [hn,hAe]
 have hC:(A ++ Zb size 16 ++ Zb size 16 ++ Zb (ZBi lens) 24 ++ Zb (ZBh lens) 24 ++ Zb r 20 ++ Zb (ch.length - 1) 3 ++ Zb (d - 1) 5 ++ Zb 0 4).length ≤ 1000:=by
  simp only [Wa,Zk,hA]; omega
 rw [ZZ,e1,e2]
 by_cases hl0:0 < lens.length
 ·have hne:lens ≠ []:=by intro h; rw [h] at hl0; simp at hl0
  rw [Zc (by simp only [Qz]; omega),ZDN hne (by omega) (by omega)]
  simp only [Z1]
  rw [ZDP hne (by omega) (by omega)]
  simp only [Z1]
  refine Eq.trans (ZTs (by omega) (by omega) (by omega) (by omega) (by omega) (by omega) (by omega) A (by omega) _) ?_
  rw [Yp,hn]
  simp only [Z1]
  refine Eq.trans (tail _ hC) ?_
  rw [fin]
 ·have hne:lens = []:=List.length_eq_zero_iff.1 (by omega)
  rw [Zj (by simp only [Qz]; omega)]
  have hm0:ZBi lens = 0:=by rw [hne]; rfl
  have hx0:ZBh lens = 0:=by rw [hne]; rfl
  rw [hm0,hx0] at fin hC
  refine Eq.trans (ZTs (small:=0) (great:=0) (by omega) (by omega) (by omega) (by omega) (by omega) (by omega) (by omega) A (by omega) _) ?_
  rw [Yp,hn]
  simp only [Z1]
  refine Eq.trans (tail _ hC) ?_
  rw [fin]
end Go.Sh
namespace Go.Sh
open Go Go.Proofs
def Qo (b:List Int):List Bool:=b.flatMap fun x => Zb x.toNat 8
theorem Qw:∀ b:List Int,(Qo b).length = 8 * b.length
 | [] => rfl
 | a :: b => by
  have:=Qw b
  unfold Qo at this ⊢
  rw [List.flatMap_cons,Wa,Zk,this,List.length_cons]; omega
theorem ZpH (a:Int) (b:List Int):Qo (a :: b) = Zb a.toNat 8 ++ Qo b:=by unfold Qo; rw [List.flatMap_cons]
theorem Zwe (a b:List Int):Qo (a ++ b) = Qo a ++ Qo b:=by unfold Qo; rw [List.flatMap_append]
theorem ZpI:∀ (b:List Int) (i:Nat),(Qo b).drop (8 * i) = Qo (b.drop i)
 | b,0 => rfl
 | [],i + 1 => by simp [Qo]
 | a :: b,i + 1 => by
  rw [List.drop_succ_cons,ZpH,List.drop_append,Zk,List.drop_eq_nil_of_le (by rw [Zk]; omega),List.nil_append,show 8 * (i + 1) - 8 = 8 * i by omega]
  exact ZpI b i
theorem ZpK (n:Nat):∀ (w i:Nat) (h:i < (Zb n w).length),(Zb n w)[i] = n.testBit (w - 1 - i)
 | w + 1,0,_ => by simp [Zb]
 | w + 1,i + 1,h => by
  simp only [Zb,List.getElem_cons_succ]
  rw [ZpK n w i (by simpa [Zb] using h)]
  congr 1
  omega
theorem Zl8 {b:List Int} {i:Nat} (h:i < 8 * b.length):(Qo b)[i]'(by rw [Qw]; exact h) = (b[i / 8]'(by omega)).toNat.testBit (7 - i % 8):=by
 have h1:i / 8 < b.length:=by omega
 have h2:(Qo b)[i]'(by rw [Qw]; exact h) = (Qo (b.drop (i / 8)))[i % 8]'(by rw [Qw,List.length_drop]; omega):=by
  simp only [← ZpI,List.getElem_drop]
  congr 1
  omega
 rw [h2]
 have h3:b.drop (i / 8) = b[i / 8] :: b.drop (i / 8 + 1):=List.drop_eq_getElem_cons h1
 simp only [h3,ZpH]
 rw [List.getElem_append_left (by rw [Zk]; omega),ZpK]
def ZV (b:List Int) (r:List Bool):Nat:=8 * b.length - r.length
abbrev KK (b:List Int) (r:List Bool):List Int × Int × Unit:=(b,((ZV b r:Nat):Int),())
def Zo (b:List Int) (r:List Bool):Prop:=r <:+ Qo b
theorem Zo.len {b:List Int} {r:List Bool} (h:Zo b r):r.length ≤ 8 * b.length:=by
 have:=h.length_le
 rwa [Qw] at this
theorem Zo.eq {b:List Int} {r:List Bool} (h:Zo b r):r = (Qo b).drop (ZV b r):=by
 have:=List.suffix_iff_eq_drop.1 h
 unfold ZV
 rwa [Qw] at this
theorem Zo.drop {b:List Int} {r:List Bool} (h:Zo b r) (i:Nat):Zo b (r.drop i):=(List.drop_suffix i r).trans h
theorem Zo.get {b:List Int} {r:List Bool} (h:Zo b r) {i:Nat} (hi:i < r.length):(Qo b)[ZV b r + i]'(by have:=h.len; rw [Qw]; unfold ZV; omega) = r[i]:=by
 have:=h.eq
 have h2:r[i] = ((Qo b).drop (ZV b r))[i]'(by rw [← this]; exact hi):=by congr 1
 rw [h2,List.getElem_drop]
theorem ZhJ {b:List Int} {r:List Bool} (h:Zo b r) {i:Nat} (hi:i ≤ r.length):ZV b (r.drop i) = ZV b r + i:=by
 have:=h.len
 unfold ZV
 rw [List.length_drop]
 omega
theorem ZBs (b:List Int):Zo b (Qo b):=List.suffix_refl _
theorem ZWz (v:Fin 256) (r:Fin 8):IntKind.i64.wrap (Int.ofNat (BitVec.ofInt 64 (IntKind.i64.wrap (Int.fdiv (v.val:Int) ((2:Int) ^ min (7 - r.val) 8))) &&& BitVec.ofInt 64 1).toNat) = if v.val.testBit (7 - r.val) then 1 else 0:=by
 revert v r
 decide +kernel
theorem Zsm (k:Nat) {b:List Int} (hb:ZW b = true) (hn:b.length < 536870912) (at_:Int) {i:Nat} (hi:i < 8 * b.length) :
  Zsl k ((b,at_,()),(i:Int),()) = some (if (Qo b)[i]'(by rw [Qw]; exact hi) then 1 else 0,(b,at_,()),()):=by
 show Zls k _ = _
 simp only [Zls]
 rw [ZvY,ZTy,Qi (n:=((i / 8:Nat):Int)) (by omega)]
 have h1:i / 8 < b.length:=by omega
 rw [Zc (by simp only [Qz]; omega)]
 have e1:IntKind.i64.wrap ((7:Int) - ((i % 8:Nat):Int)) = ((7 - i % 8:Nat):Int):=by rw [Qi (by omega)]; omega
 rw [e1,Zc (by omega),Zl8 hi]
 obtain ⟨x,hx,hxe⟩:=ZaN hb h1
 have hg:b.getD (((i / 8:Nat):Int)).toNat 0 = (x:Int):=by rw [Xm,Q3 h1,hxe]
 rw [hg,hxe,Xm,Xm]
 have:=ZWz ⟨x,hx⟩ ⟨i % 8,Nat.mod_lt _ (by omega)⟩
 simp only at this
 rw [this]
def Xu (l:List Bool):Nat:=l.foldl (fun a b => 2 * a + b.toNat) 0
theorem Zbv:∀ (l:List Bool) (a:Nat),l.foldl (fun a b => 2 * a + b.toNat) a = a * 2 ^ l.length + Xu l
 | [],a => by simp [Xu]
 | x :: l,a => by
  unfold Xu
  rw [List.foldl_cons,List.foldl_cons,Zbv l (2 * a + x.toNat),Zbv l (2 * 0 + x.toNat),List.length_cons,Nat.pow_succ]
  rw [Nat.add_mul,Nat.mul_zero,Nat.zero_add,Nat.mul_comm 2 a,Nat.mul_assoc a 2,Nat.mul_comm 2 (2 ^ _)]
  omega
theorem Zl7:∀ (l:List Bool),Xu l < 2 ^ l.length
 | [] => by simp [Xu]
 | x :: l => by
  have:=Zl7 l
  unfold Xu
  rw [List.foldl_cons,Zbv,List.length_cons,Nat.pow_succ]
  cases x <;> simp <;> omega
theorem Ztx (l m:List Bool):Xu (l ++ m) = Xu l * 2 ^ m.length + Xu m:=by
 unfold Xu
 rw [List.foldl_append,Zbv]
 rfl
theorem Zb4 (n:Nat):∀ w,Xu (Zb n w) = n % 2 ^ w
 | 0 => by simp [Zb,Xu,Nat.mod_one]
 | w + 1 => by
  have:=Zb4 n w
  rw [show Zb n (w + 1) = [n.testBit w] ++ Zb n w from rfl,Ztx,Zk,this,Nat.mod_pow_succ,Nat.testBit_eq_decide_div_mod_eq]
  have h2:n / 2 ^ w % 2 < 2:=Nat.mod_lt _ (by omega)
  generalize n / 2 ^ w % 2 = m at h2
  match m,h2 with
  | 0,_ => simp [Xu]
  | 1,_ => simp [Xu]; omega
def ZT (w:Nat) (r:List Bool):Nat × Int × List Bool:=if w ≤ r.length then (Xu (r.take w),0,r.drop w) else (0,10,r)
theorem Qg {b:List Int} {r:List Bool} (h:Zo b r) (w:Nat):Zo b (ZT w r).2.2:=by
 unfold ZT
 split
 ·exact h.drop w
 ·exact h
theorem ZhG (w:Nat) (r:List Bool):(ZT w r).1 < 2 ^ w:=by
 unfold ZT
 split
 ·rename_i h
  have:=Zl7 (r.take w)
  rwa [List.length_take,Nat.min_eq_left h] at this
 ·exact Nat.pow_pos (by omega)
theorem ZHF (k:Nat) {b:List Int} (hb:ZW b = true) (hn:b.length < 536870912):∀ (w m i v:Nat) (r:List Bool),Zo b r → w ≤ r.length → w < m → i + w ≤ 32 → v < 2 ^ i →
  Zn (fun L1 => Zcs k L1) m (((i + w:Nat):Int),(i:Int),(v:Int),b,((ZV b r:Nat):Int)) = some (((((r.take w).foldl (fun a b => 2 * a + b.toNat) v:Nat):Int),0,()),KK b (r.drop w),()):=by
 intro w
 induction w with
 | zero =>
  intro m i v r hr hw hm hi hv
  obtain ⟨m,rfl⟩:=ZC hm
  rw [Zg]
  simp only [Zcs]
  rw [Zj (by omega)]
  simp
 | succ w ih =>
  intro m i v r hr hw hm hi hv
  obtain ⟨m,rfl⟩:=ZC (show 0 < m by omega)
  rw [Zg]
  simp only [Zcs]
  have hl:=hr.len
  have hp:ZV b r < 8 * b.length:=by unfold ZV; omega
  rw [Zc (by omega),Zsm k hb hn _ hp]
  simp only [Z1]
  have hg:=hr.get (i:=0) (by omega)
  simp only [Nat.add_zero] at hg
  rw [hg]
  have hv2:v < 2 ^ 32:=Nat.lt_of_lt_of_le hv (Nat.pow_le_pow_right (by omega) (by omega))
  have hcons:r = r[0] :: r.drop 1:=by
   have:=List.drop_eq_getElem_cons (l:=r) (i:=0) (by omega)
   rwa [List.drop_zero] at this
  have e1:IntKind.i64.wrap (Int.ofNat (BitVec.ofInt 64 (IntKind.i64.wrap ((v:Int) * 2)) ||| BitVec.ofInt 64 (if r[0] = true then 1 else 0)).toNat) = ((2 * v + r[0].toNat:Nat):Int):=by
   have h1:IntKind.i64.wrap ((v:Int) * 2) = ((v * 2:Nat):Int):=by rw [Qi (by omega)]; omega
   have h2:(if r[0] = true then (1:Int) else 0) = ((r[0].toNat:Nat):Int):=by cases r[0] <;> rfl
   have hb1:r[0].toNat < 2 ^ 1:=by cases r[0] <;> decide
   rw [h1,h2,orN (by omega) (by omega)]
   have:=Nat.shiftLeft_add_eq_or_of_lt hb1 v
   rw [Nat.shiftLeft_eq] at this
   rw [show v * 2 = v * 2 ^ 1 from rfl,← this,Qi (by omega)]
   omega
  rw [e1]
  have e2:IntKind.i64.wrap ((i:Int) + 1) = ((i + 1:Nat):Int):=by rw [Qi (by omega)]; rfl
  have e3:IntKind.i64.wrap (((ZV b r:Nat):Int) + 1) = ((ZV b (r.drop 1):Nat):Int):=by
   rw [ZhJ hr (by omega),Qi (by omega)]; rfl
  rw [e2,e3]
  have hp2:2 * v + r[0].toNat < 2 ^ (i + 1):=by
   rw [Nat.pow_succ]
   cases r[0] <;> simp <;> omega
  have:=ih m (i + 1) (2 * v + r[0].toNat) (r.drop 1) (hr.drop 1) (by rw [List.length_drop]; omega) (by omega) (by omega) hp2
  rw [show i + 1 + w = i + (w + 1) by omega] at this
  rw [this]
  have e4:(r.drop 1).drop w = r.drop (w + 1):=by rw [List.drop_drop]; congr 1; omega
  have e5:r.take (w + 1) = r[0] :: (r.drop 1).take w:=by
   conv => lhs; rw [hcons]
   rfl
  rw [e4,e5,List.foldl_cons]
theorem YE (k:Nat) {b:List Int} (hb:ZW b = true) (hn:b.length < 536870912) {r:List Bool} (hr:Zo b r) {w:Nat} (hw:w ≤ 32) (hk:100 < k) :
  XT k (KK b r,(w:Int),()) = some (((((ZT w r).1:Nat):Int),(ZT w r).2.1,()),KK b (ZT w r).2.2,()):=by
 show ZgG k (Zoz k) _ = _
 simp only [ZgG]
 rw [Zsf k w hw]
 simp only [Z1,cond_false]
 have hl:=hr.len
 have e1:ZqE k ((b,((ZV b r:Nat):Int),()),()) = some ((r.length:Int),(b,((ZV b r:Nat):Int),()),()):=by
  show Zg7 k _ = _
  simp only [Zg7]
  have:IntKind.i64.wrap (IntKind.i64.wrap ((8:Int) * Int.ofNat b.length) - ((ZV b r:Nat):Int)) = (r.length:Int):=by
   unfold ZV
   simp only [Qz]
   rw [Qi (n:=(8:Int) * (b.length:Int)) (by omega),Qi (by omega)]
   omega
  rw [this]
 rw [e1]
 simp only [Z1]
 unfold ZT
 by_cases h:w ≤ r.length
 ·rw [Zj (by omega),if_pos h]
  have:=ZHF k hb hn w k 0 0 r hr h (by omega) (by omega) (by simp)
  rw [Nat.zero_add] at this
  exact this
 ·rw [Zc (by omega),if_neg h]
  rfl
def ZSK (w v:Nat):Int:=if 0 < w ∧ 2 ^ (w - 1) ≤ v then (v:Int) - 2 ^ w else v
def WO (w:Nat) (r:List Bool):Int × Int × List Bool:=if w ≤ r.length then (ZSK w (Xu (r.take w)),0,r.drop w) else (0,10,r)
theorem Zd9 {b:List Int} {r:List Bool} (h:Zo b r) (w:Nat):Zo b (WO w r).2.2:=by
 unfold WO
 split
 ·exact h.drop w
 ·exact h
theorem Zuw (k:Nat) {b:List Int} (hb:ZW b = true) (hn:b.length < 536870912) {r:List Bool} (hr:Zo b r) {w:Nat} (hw:w ≤ 32) (hk:100 < k) :
  ZmJ k (KK b r,(w:Int),()) = some (((WO w r).1,(WO w r).2.1,()),KK b (WO w r).2.2,()):=by
 show Zg8 k _ = _
 simp only [Zg8]
 rw [YE k hb hn hr hw hk]
 simp only [Z1]
 unfold ZT WO
 by_cases h:w ≤ r.length
 ·rw [if_pos h,if_pos h]
  simp only
  rw [show ((0:Int) == 0) = true from rfl]
  simp only [cond_true]
  have hlt:=Zl7 (r.take w)
  rw [List.length_take,Nat.min_eq_left h] at hlt
  generalize Xu (r.take w) = v at hlt
  unfold ZSK
  by_cases h0:0 < w
  ·have e1:IntKind.i64.wrap ((w:Int) - 1) = ((w - 1:Nat):Int):=by rw [Qi (by omega)]; omega
   rw [Zc (by omega),e1,Zc (by omega),Xm,Nat.min_eq_left (by omega),ZfH,ZL]
   have hpw:2 ^ w = 2 * 2 ^ (w - 1):=by rw [show w = (w - 1) + 1 by omega,Nat.pow_succ,Nat.add_sub_cancel]; omega
   have hq:v / 2 ^ (w - 1) = if 2 ^ (w - 1) ≤ v then 1 else 0:=by
    split
    ·rename_i hle
     rw [Nat.div_eq_iff (Nat.pow_pos (by omega))]
     omega
    ·rename_i hle
     exact Nat.div_eq_of_lt (by omega)
   rw [hq]
   have h32:2 ^ w ≤ 2 ^ 32:=Nat.pow_le_pow_right (by omega) hw
   by_cases hle:2 ^ (w - 1) ≤ v
   ·rw [if_pos hle,Zc (show ((1:Nat):Int) = 1 from rfl),if_pos ⟨h0,hle⟩,Zc (by omega),Nat.min_eq_left (by omega:((w:Int)).toNat ≤ 64),Xm,Int.one_mul,WC]
    generalize 2 ^ w = Q at h32 hlt ⊢
    rw [Qi (n:=(Q:Int)) (by omega),Qi (by omega)]
   ·rw [if_neg hle,Zj (by omega),if_neg (by omega)]
  ·rw [Zj (by omega),if_neg (by omega)]
 ·rw [if_neg h,if_neg h]
  rfl
end Go.Sh
namespace Go.Sh
open Go Go.Proofs
def Zgb:Nat → List Bool → Option (Nat × List Bool)
 | _,[] => none
 | n,true :: r => some (n,r)
 | n,false :: r => Zgb (n + 1) r
def unS (r:List Bool):Nat × Int × List Bool:=match Zgb 0 r with
 | some (n,r') => (n,0,r')
 | none => (0,10,r)
theorem Zen:∀ (r:List Bool) (n m:Nat) (r':List Bool),Zgb n r = some (m,r') → r' <:+ r ∧ m + 1 + r'.length = n + r.length
 | true :: r,n,m,r',h => by
  simp only [Zgb,Option.some.injEq,Prod.mk.injEq] at h
  obtain ⟨rfl,rfl⟩:=h
  exact ⟨List.suffix_cons _ _,by simp; omega⟩
 | false :: r,n,m,r',h => by
  obtain ⟨h1,h2⟩:=Zen r (n + 1) m r' h
  exact ⟨h1.trans (List.suffix_cons _ _),by simp; omega⟩
theorem Zdl {b:List Int} {r:List Bool} (h:Zo b r):Zo b (unS r).2.2:=by
 unfold unS
 split
 ·rename_i n r' hu
  exact (Zen r 0 n r' hu).1.trans h
 ·exact h
theorem ZO9 {r:List Bool}:(unS r).1 ≤ r.length:=by
 unfold unS
 split
 ·rename_i n r' hu
  have:=(Zen r 0 n r' hu).2
  simp only
  omega
 ·exact Nat.zero_le _
theorem ZHL (k:Nat) {b:List Int} (hb:ZW b = true) (hn:b.length < 536870912) {r0:List Bool} (hr0:Zo b r0):∀ (r:List Bool) (m n:Nat),Zo b r → r.length < m → n + r.length = r0.length →
  Zn (fun L1 => Zcv k L1) m (((ZV b r:Nat):Int),b,((ZV b r0:Nat):Int)) = some (((match Zgb n r with | some (n,r') => (n:Int) | none => 0),(match Zgb n r with | some (n,r') => 0 | none => 10),()),KK b (match Zgb n r with | some (n,r') => r' | none => r0),()):=by
 intro r
 induction r with
 | nil =>
  intro m n hr hm hl
  obtain ⟨m,rfl⟩:=ZC hm
  rw [Zg]
  simp only [Zcv]
  have e1:IntKind.i64.wrap ((8:Int) * Int.ofNat b.length) = ((8 * b.length:Nat):Int):=by simp only [Qz]; rw [Qi (by omega)]; omega
  rw [e1,Zj (by unfold ZV; simp)]
  rfl
 | cons x r ih =>
  intro m n hr hm hl
  obtain ⟨m,rfl⟩:=ZC (show 0 < m by omega)
  rw [Zg]
  simp only [Zcv]
  have e1:IntKind.i64.wrap ((8:Int) * Int.ofNat b.length) = ((8 * b.length:Nat):Int):=by simp only [Qz]; rw [Qi (by omega)]; omega
  have hlen:=hr.len
  have hlen0:=hr0.len
  simp only [List.length_cons] at hlen hl hm
  have hp:ZV b (x :: r) < 8 * b.length:=by unfold ZV; simp only [List.length_cons]; omega
  rw [e1,Zc (by omega),Zsm k hb hn _ hp]
  simp only [Z1]
  have hg:=hr.get (i:=0) (by simp)
  simp only [Nat.add_zero,List.getElem_cons_zero] at hg
  rw [hg]
  have e2:IntKind.i64.wrap (((ZV b (x :: r):Nat):Int) + 1) = ((ZV b r:Nat):Int):=by
   have:=ZhJ hr (i:=1) (by simp)
   rw [List.drop_one,List.tail_cons] at this
   rw [this,Qi (by omega)]; rfl
  have hr':Zo b r:=by have:=hr.drop 1; rwa [List.drop_one,List.tail_cons] at this
  rw [e2,ZL]
  cases x with
  | true =>
   rw [if_pos rfl,Zc rfl]
   have e3:IntKind.i64.wrap (((ZV b (true :: r):Nat):Int) - ((ZV b r0:Nat):Int)) = (n:Int):=by
    unfold ZV at hp ⊢
    simp only [List.length_cons] at hp ⊢
    rw [Qi (by omega)]
    omega
   rw [e3]
   rfl
  | false =>
   rw [if_neg (by simp),Zj (by omega)]
   exact ih m (n + 1) hr' (by omega) (by omega)
theorem Zuk (k:Nat) {b:List Int} (hb:ZW b = true) (hn:b.length < 536870912) {r:List Bool} (hr:Zo b r) (hk:8 * b.length < k) :
  Ziy k (KK b r,()) = some (((((unS r).1:Nat):Int),(unS r).2.1,()),KK b (unS r).2.2,()):=by
 show ZgL k (ZoE k) _ = _
 simp only [ZgL]
 have hl:=hr.len
 refine (ZHL k hb hn hr r k 0 hr (by omega) (by omega)).trans ?_
 unfold unS
 cases Zgb 0 r with
 | none => rfl
 | some x => rfl
def alS (r:List Bool):Int × List Bool:=if (r.take (r.length % 8)).all (fun x => !x) then (0,r.drop (r.length % 8)) else (2,r)
theorem ZJY {b:List Int} {r:List Bool} (h:Zo b r):Zo b (alS r).2:=by
 unfold alS
 split
 ·exact h.drop _
 ·exact h
theorem up8 {n:Nat} (h:n < 4294967296):IntKind.i64.wrap (Int.ofNat (BitVec.ofInt 64 (IntKind.i64.wrap ((n:Int) + 7)) &&& ~~~BitVec.ofInt 64 7).toNat) = (((n + 7) / 8 * 8:Nat):Int):=by
 rw [Qi (n:=(n:Int) + 7) (by omega),show (n:Int) + 7 = ((n + 7:Nat):Int) from rfl]
 have e:(BitVec.ofInt 64 ((n + 7:Nat):Int) &&& ~~~BitVec.ofInt 64 7).toNat = (n + 7) / 8 * 8:=by
  have h1:BitVec.ofInt 64 ((n + 7:Nat):Int) &&& ~~~BitVec.ofInt 64 7 = ((BitVec.ofNat 64 (n + 7)) >>> 3) <<< 3:=by
   rw [BitVec.ofInt_natCast,show ~~~BitVec.ofInt 64 7 = BitVec.ofNat 64 18446744073709551608 from by decide]
   apply BitVec.eq_of_getLsbD_eq
   intro i hi
   simp only [BitVec.getLsbD_and,BitVec.getLsbD_shiftLeft,BitVec.getLsbD_ushiftRight]
   have hm:=(by decide +kernel:∀ j:Fin 64,(BitVec.ofNat 64 18446744073709551608).getLsbD j.val = decide (3 ≤ j.val)) ⟨i,hi⟩
   simp only at hm
   rw [hm]
   by_cases h3:3 ≤ i
   ·rw [Xe h3,Bool.and_true,show 3 + (i - 3) = i by omega]
    simp [hi]
    omega
   ·rw [Wp h3,Bool.and_false]
    simp
    omega
  rw [h1,BitVec.toNat_shiftLeft,BitVec.toNat_ushiftRight,BitVec.toNat_ofNat,Nat.shiftRight_eq_div_pow,Nat.shiftLeft_eq,Nat.mod_eq_of_lt (by omega),Nat.mod_eq_of_lt (by omega)]
 rw [e,Qi (by simp only [Qz]; omega)]
 rfl
theorem ZNq (k:Nat) {b:List Int} (hb:ZW b = true) (hn:b.length < 536870912) {r0:List Bool}:∀ (p m:Nat) (r:List Bool),Zo b r → p ≤ r.length → p < m →
  Zn (fun L1 => Zft k L1) m (((ZV b r:Nat):Int),((ZV b r + p:Nat):Int),b,((ZV b r0:Nat):Int)) = some (if (r.take p).all (fun x => !x) then (0,KK b (r.drop p),()) else (2,KK b r0,())):=by
 intro p
 induction p with
 | zero =>
  intro m r hr hp hm
  obtain ⟨m,rfl⟩:=ZC hm
  rw [Zg]
  simp only [Zft]
  rw [Zj (by omega)]
  simp
 | succ p ih =>
  intro m r hr hp hm
  obtain ⟨m,rfl⟩:=ZC (show 0 < m by omega)
  rw [Zg]
  simp only [Zft]
  have hlen:=hr.len
  have hpos:ZV b r < 8 * b.length:=by unfold ZV; omega
  rw [Zc (by omega),Zsm k hb hn _ hpos]
  simp only [Z1]
  have hg:=hr.get (i:=0) (by omega)
  simp only [Nat.add_zero] at hg
  rw [hg,ZL]
  have hcons:r = r[0] :: r.drop 1:=by
   have:=List.drop_eq_getElem_cons (l:=r) (i:=0) (by omega)
   rwa [List.drop_zero] at this
  have e5:r.take (p + 1) = r[0] :: (r.drop 1).take p:=by
   conv => lhs; rw [hcons]
   rfl
  rw [e5,List.all_cons]
  cases hx:r[0] with
  | true =>
   rw [if_pos rfl,Zc rfl]
   simp
  | false =>
   rw [if_neg (by simp),Zj (by omega)]
   have e3:IntKind.i64.wrap (((ZV b r:Nat):Int) + 1) = ((ZV b (r.drop 1):Nat):Int):=by
    rw [ZhJ hr (by omega),Qi (by omega)]; rfl
   have e4:ZV b r + (p + 1) = ZV b (r.drop 1) + p:=by rw [ZhJ hr (by omega)]; omega
   rw [e3,e4,ih m (r.drop 1) (hr.drop 1) (by rw [List.length_drop]; omega) (by omega)]
   have e6:(r.drop 1).drop p = r.drop (p + 1):=by rw [List.drop_drop]; congr 1; omega
   rw [e6]
   simp only [Bool.not_false,Bool.true_and]
theorem ZNr (k:Nat) {b:List Int} (hb:ZW b = true) (hn:b.length < 536870912) {r:List Bool} (hr:Zo b r) (hk:10 < k) :
  ZAC k (KK b r,()) = some ((alS r).1,KK b (alS r).2,()):=by
 show ZkZ k (ZxF k) _ = _
 simp only [ZkZ]
 have hlen:=hr.len
 have hp:ZV b r ≤ 8 * b.length:=by unfold ZV; omega
 rw [up8 (by omega)]
 have e:(ZV b r + 7) / 8 * 8 = ZV b r + r.length % 8:=by unfold ZV; omega
 rw [e]
 refine (ZNq k hb hn (r.length % 8) k r hr (Nat.mod_le _ _) (by omega)).trans ?_
 unfold alS
 split <;> rfl
def ZlZ (f:Nat):Int:=if f % 2 = 1 then -((f:Int) + 1) / 2 else (f:Int) / 2
theorem ZIo (k:Nat) {f:Nat} (h:f < 4294967296):ZqP k ((f:Int),()) = some ((ZlZ f,0,()),()):=by
 show Zhj k _ = _
 simp only [Zhj]
 rw [Zj (by omega),Zj (by omega),show (1:Int) = ((1:Nat):Int) from rfl,ZGN (by omega) (by omega),Nat.and_one_is_mod,Qi (n:=((f % 2:Nat):Int)) (by omega)]
 have hd:((f:Nat):Int).fdiv 2 = ((f / 2:Nat):Int):=by rw [Int.fdiv_eq_ediv_of_nonneg _ (by omega)]; rfl
 rw [hd]
 unfold ZlZ
 by_cases h1:f % 2 = 1
 ·rw [if_pos h1,h1,show IntKind.i64.wrap ((0:Int) - ((1:Nat):Int)) = -1 from rfl,show BitVec.ofInt 64 (-1) = BitVec.allOnes 64 from by decide,BitVec.xor_allOnes,BitVec.toNat_not,Zze (by omega)]
  have e2:IntKind.i64.wrap (Int.ofNat (2 ^ 64 - 1 - f / 2)) = -((f:Int) + 1) / 2:=by
   simp only [Qz]
   rw [IntKind.wrap_i64]
   omega
  rw [e2]
 ·rw [if_neg h1,show f % 2 = 0 by omega,show IntKind.i64.wrap ((0:Int) - ((0:Nat):Int)) = 0 from rfl,show BitVec.ofInt 64 0 = 0#64 from rfl,BitVec.xor_zero,Zze (by omega)]
  rw [Qi (by simp only [Qz]; omega)]
  rfl
theorem ZBT {n:Int} (h:ZN n):ZlZ (Z2 n) = n:=by
 unfold ZN at h
 unfold ZlZ Z2
 by_cases hn:n < 0
 ·rw [if_pos hn,if_pos (by omega)]; omega
 ·rw [if_neg hn,if_neg (by omega)]; omega
def Zbu (kk:Nat) (r:List Bool):Int × Int × List Bool :=
 if (unS r).2.1 ≠ 0 then (0,(unS r).2.1,(unS r).2.2)
 else if (ZT kk (unS r).2.2).2.1 ≠ 0 then (0,(ZT kk (unS r).2.2).2.1,(ZT kk (unS r).2.2).2.2)
 else if 4294967295 ≤ (unS r).1 * 2 ^ kk + (ZT kk (unS r).2.2).1 then (0,12,(ZT kk (unS r).2.2).2.2)
 else (ZlZ ((unS r).1 * 2 ^ kk + (ZT kk (unS r).2.2).1),0,(ZT kk (unS r).2.2).2.2)
theorem ZvD {b:List Int} {r:List Bool} (h:Zo b r) (kk:Nat):Zo b (Zbu kk r).2.2:=by
 unfold Zbu
 split
 ·exact Zdl h
 ·split
  ·exact Qg (Zdl h) kk
  ·split
   ·exact Qg (Zdl h) kk
   ·exact Qg (Zdl h) kk
theorem ZWd {q d kk:Nat} (hq:q < 4294967296) (hk:kk ≤ 30) (hd:d < 2 ^ kk):IntKind.i64.wrap (Int.ofNat (BitVec.ofInt 64 (IntKind.i64.wrap ((q:Int) * (2:Int) ^ min ((kk:Int)).toNat 64)) ||| BitVec.ofInt 64 (d:Int)).toNat) = ((q * 2 ^ kk + d:Nat):Int):=by
 have h1:2 ^ kk ≤ 2 ^ 30:=Nat.pow_le_pow_right (by omega) hk
 have h2:q * 2 ^ kk ≤ 4294967295 * 1073741824:=Nat.mul_le_mul (by omega) (by omega)
 rw [Xm,Nat.min_eq_left (by omega),WC,← Int.natCast_mul]
 have h3:=Nat.shiftLeft_add_eq_or_of_lt hd q
 rw [Nat.shiftLeft_eq] at h3
 rw [Qi (n:=((q * 2 ^ kk:Nat):Int)) (by generalize q * 2 ^ kk = X at h2; omega),orN (by generalize q * 2 ^ kk = X at h2; omega) (by omega),← h3]
 generalize q * 2 ^ kk = X at h2 ⊢
 rw [Qi (by omega)]
theorem ZIm (k:Nat) {b:List Int} (hb:ZW b = true) (hn:b.length < 268435456) {r:List Bool} (hr:Zo b r) {kk:Nat} (hkk:kk ≤ 30) (hk:8 * b.length + 100 < k) :
  ZqL k (KK b r,(kk:Int),()) = some (((Zbu kk r).1,(Zbu kk r).2.1,()),KK b (Zbu kk r).2.2,()):=by
 show Zhg k _ = _
 simp only [Zhg]
 rw [Zuk k hb (by omega) hr (by omega)]
 simp only [Z1]
 unfold Zbu
 have hu:=ZO9 (r:=r)
 have hl:=hr.len
 rw [ZI]
 by_cases h1:(unS r).2.1 = 0
 ·rw [Zj (by simpa using h1),if_neg (by simpa using h1),YE k hb (by omega) (Zdl hr) (by omega) (by omega)]
  simp only [Z1]
  rw [ZI]
  by_cases h2:(ZT kk (unS r).2.2).2.1 = 0
  ·rw [Zj (by simpa using h2),if_neg (by simpa using h2),Zc (by omega),ZWd (by omega) hkk (ZhG kk _)]
   by_cases h3:4294967295 ≤ (unS r).1 * 2 ^ kk + (ZT kk (unS r).2.2).1
   ·rw [Zc (by omega),if_pos h3]
   ·rw [Zj (by omega),if_neg h3,ZIo k (by omega)]
    rfl
  ·rw [Zc h2,if_pos h2]
 ·rw [Zc h1,if_pos h1]
end Go.Sh
namespace Go.Sh
open Go Go.Proofs
abbrev ZEW:=List Bool → Int × Int × List Bool
def Ya (one:ZEW):Nat → List Bool → List Int → List Int × Int × List Bool
 | 0,r,acc => (acc,0,r)
 | n + 1,r,acc => if (one r).2.1 ≠ 0 then ([],(one r).2.1,(one r).2.2) else Ya one n (one r).2.2 (acc ++ [(one r).1])
theorem ZiL {b:List Int} {one:ZEW} (h1:∀ r,Zo b r → Zo b (one r).2.2):∀ (n:Nat) (r:List Bool) (acc:List Int),Zo b r → Zo b (Ya one n r acc).2.2
 | 0,r,acc,h => h
 | n + 1,r,acc,h => by
  unfold Ya
  split
  ·exact h1 r h
  ·exact ZiL h1 n _ _ (h1 r h)
theorem Zm4 {one:ZEW}:∀ (n:Nat) (r:List Bool) (acc:List Int),(Ya one n r acc).1.length ≤ acc.length + n
 | 0,r,acc => Nat.le_refl _
 | n + 1,r,acc => by
  unfold Ya
  split
  ·simp
  ·have:=Zm4 (one:=one) n (one r).2.2 (acc ++ [(one r).1])
   rw [Wa,List.length_singleton] at this
   omega
theorem ZQN (k:Nat) (L2:Int × Int × List Int × Int × Int × List Int → Option ((List Int × Int × Unit) × (List Int × Int × Unit) × Unit)) {b:List Int} (hb:ZW b = true) (hn:b.length < 268435456) (hk:8 * b.length + 100 < k) {w:Nat} (hw:w ≤ 32) :
  ∀ (d m i:Nat) (r:List Bool) (acc:List Int),Zo b r → d < m → i + d ≤ 4096 → acc.length ≤ i →
  Zn (fun L1 => ZcE k L1) m (((i + d:Nat):Int),(i:Int),b,((ZV b r:Nat):Int),(w:Int),acc) = some (((Ya (WO w) d r acc).1,(Ya (WO w) d r acc).2.1,()),KK b (Ya (WO w) d r acc).2.2,()):=by
 intro d
 induction d with
 | zero =>
  intro m i r acc hr hm hi ha
  obtain ⟨m,rfl⟩:=ZC hm
  rw [Zg]
  simp only [ZcE]
  rw [Zj (by omega)]
  rfl
 | succ d ih =>
  intro m i r acc hr hm hi ha
  obtain ⟨m,rfl⟩:=ZC (show 0 < m by omega)
  rw [Zg]
  simp only [ZcE]
  have e:ZqM k (((b,((ZV b r:Nat):Int),()),()),((w:Int),()),()) = some (((WO w r).1,(WO w r).2.1,()),((KK b (WO w r).2.2),()),((w:Int),()),()):=by
   show Zhh k _ = _
   simp only [Zhh]
   rw [Zuw k hb (by omega) hr hw (by omega)]
   rfl
  rw [Zc (by omega),e]
  simp only [Z1]
  unfold Ya
  rw [ZI]
  by_cases h:(WO w r).2.1 = 0
  ·rw [Zj (by simpa using h),Zc (by simp only [List.length_singleton]; omega),if_neg (by simpa using h)]
   have e2:IntKind.i64.wrap ((i:Int) + 1) = ((i + 1:Nat):Int):=by rw [Qi (by omega)]; rfl
   rw [e2]
   have:=ih m (i + 1) (WO w r).2.2 (acc ++ [(WO w r).1]) (Zd9 hr w) (by omega) (by omega) (by simp; omega)
   rw [show i + 1 + d = i + (d + 1) by omega] at this
   exact this
  ·rw [Zc h,if_pos h]
theorem ZLC (k:Nat) {b:List Int} (hb:ZW b = true) (hn:b.length < 268435456) (hk:8 * b.length + 100 < k) {w:Nat} (hw:w ≤ 30) :
  ∀ (d m i:Nat) (r:List Bool) (acc:List Int),Zo b r → d < m → i + d ≤ 4096 → acc.length ≤ i →
  Zn (fun L2 => ZcF k L2) m (((i + d:Nat):Int),(i:Int),b,((ZV b r:Nat):Int),(w:Int),acc) = some (((Ya (Zbu w) d r acc).1,(Ya (Zbu w) d r acc).2.1,()),KK b (Ya (Zbu w) d r acc).2.2,()):=by
 intro d
 induction d with
 | zero =>
  intro m i r acc hr hm hi ha
  obtain ⟨m,rfl⟩:=ZC hm
  rw [Zg]
  simp only [ZcF]
  rw [Zj (by omega)]
  rfl
 | succ d ih =>
  intro m i r acc hr hm hi ha
  obtain ⟨m,rfl⟩:=ZC (show 0 < m by omega)
  rw [Zg]
  simp only [ZcF]
  have e:ZqJ k (((b,((ZV b r:Nat):Int),()),()),((w:Int),()),()) = some (((Zbu w r).1,(Zbu w r).2.1,()),((KK b (Zbu w r).2.2),()),((w:Int),()),()):=by
   show Zhf k _ = _
   simp only [Zhf]
   rw [ZIm k hb (by omega) hr hw (by omega)]
   rfl
  rw [Zc (by omega),e]
  simp only [Z1]
  unfold Ya
  rw [ZI]
  by_cases h:(Zbu w r).2.1 = 0
  ·rw [Zj (by simpa using h),Zc (by simp only [List.length_singleton]; omega),if_neg (by simpa using h)]
   have e2:IntKind.i64.wrap ((i:Int) + 1) = ((i + 1:Nat):Int):=by rw [Qi (by omega)]; rfl
   rw [e2]
   have:=ih m (i + 1) (Zbu w r).2.2 (acc ++ [(Zbu w r).1]) (ZvD hr w) (by omega) (by omega) (by simp; omega)
   rw [show i + 1 + d = i + (d + 1) by omega] at this
   exact this
  ·rw [Zc h,if_pos h]
def Yd (m count : Nat) (r : List Bool) : List Int × Int × List Bool :=
  if (ZT (4 + m) r).2.1 ≠ 0 then ([], (ZT (4 + m) r).2.1, (ZT (4 + m) r).2.2)
  else if (ZT (4 + m) r).1 = Xr m then
    (if (ZT 5 (ZT (4 + m) r).2.2).2.1 ≠ 0 then ([], (ZT 5 (ZT (4 + m) r).2.2).2.1, (ZT 5 (ZT (4 + m) r).2.2).2.2)
     else Ya (WO (ZT 5 (ZT (4 + m) r).2.2).1) count (ZT 5 (ZT (4 + m) r).2.2).2.2 [])
  else Ya (Zbu (ZT (4 + m) r).1) count (ZT (4 + m) r).2.2 []
theorem ZiS {b:List Int} {r:List Bool} (h:Zo b r) (m count:Nat):Zo b (Yd m count r).2.2:=by
 unfold Yd
 split
 ·exact Qg h _
 ·split
  ·split
   ·exact Qg (Qg h _) _
   ·exact ZiL (fun r h => Zd9 h _) _ _ _ (Qg (Qg h _) _)
  ·exact ZiL (fun r h => ZvD h _) _ _ _ (Qg h _)
theorem ZvG (m count:Nat) (r:List Bool):(Yd m count r).1.length ≤ count:=by
 unfold Yd
 split
 ·simp
 ·split
  ·split
   ·simp
   ·have:=Zm4 (one:=WO (ZT 5 (ZT (4 + m) r).2.2).1) count (ZT 5 (ZT (4 + m) r).2.2).2.2 []
    simpa using this
  ·have:=Zm4 (one:=Zbu (ZT (4 + m) r).1) count (ZT (4 + m) r).2.2 []
   simpa using this
theorem ZIj (k:Nat) {b:List Int} (hb:ZW b = true) (hn:b.length < 268435456) {r:List Bool} (hr:Zo b r) (hk:8 * b.length + 5000 < k) {m count:Nat} (hm:m = 0 ∨ m = 1) (hc:count ≤ 4096) :
  ZiC k (KK b r,(m:Int),(count:Int),()) = some (((Yd m count r).1,(Yd m count r).2.1,()),KK b (Yd m count r).2.2,()):=by
 show Zg9 k (ZoY k) (ZjK k) _ = _
 simp only [Zg9]
 have hmi:(m:Int) = 0 ∨ (m:Int) = 1:=by omega
 rw [ZTA,Zmr k hmi]
 simp only [Z1]
 have e4:(4:Int) + (m:Int) = ((4 + m:Nat):Int):=rfl
 rw [e4,YE k hb (by omega) hr (by omega) (by omega)]
 simp only [Z1]
 unfold Yd
 have hlt:=ZhG (4 + m) r
 rw [ZI]
 by_cases h1:(ZT (4 + m) r).2.1 = 0
 ·rw [Zj (by simpa using h1),if_neg (by simpa using h1),ZGL,Zcq k hmi]
  simp only [Z1]
  rw [ZL]
  by_cases h2:(ZT (4 + m) r).1 = Xr m
  ·rw [Zc (by omega),if_pos h2,show (5:Int) = ((5:Nat):Int) from rfl,YE k hb (by omega) (Qg hr _) (by omega) (by omega)]
   simp only [Z1]
   rw [ZI]
   by_cases h3:(ZT 5 (ZT (4 + m) r).2.2).2.1 = 0
   ·rw [Zj (by simpa using h3),if_neg (by simpa using h3)]
    have hlt5:=ZhG 5 (ZT (4 + m) r).2.2
    have:=ZQN k (ZjK k) hb hn (by omega) (w:=(ZT 5 (ZT (4 + m) r).2.2).1) (by omega) count k 0 (ZT 5 (ZT (4 + m) r).2.2).2.2 [] (Qg (Qg hr _) _) (by omega) (by omega) (by simp)
    rw [Nat.zero_add] at this
    exact this
   ·rw [Zc h3,if_pos h3]
  ·rw [Zj (by omega),if_neg h2]
   have h30:(ZT (4 + m) r).1 ≤ 30:=by
    rcases hm with rfl | rfl
    ·have:(ZT (4 + 0) r).1 < 16:=hlt
     omega
    ·have h32:(ZT (4 + 1) r).1 < 32:=hlt
     have:Xr (1:Nat) = 31:=rfl
     omega
   have:=ZLC k hb hn (by omega) h30 count k 0 (ZT (4 + m) r).2.2 [] (Qg hr _) (by omega) (by omega) (by simp)
   rw [Nat.zero_add] at this
   exact this
 ·rw [Zc h1,if_pos h1]
def Wl (m n o p:Nat):Nat → Nat → List Bool → List Int → List Int × Int × List Bool
 | 0,_,r,acc => (acc,0,r)
 | d + 1,i,r,acc => if (Yd m (n / 2 ^ p - if i = 0 then o else 0) r).2.1 ≠ 0 then ([],(Yd m (n / 2 ^ p - if i = 0 then o else 0) r).2.1,(Yd m (n / 2 ^ p - if i = 0 then o else 0) r).2.2)
  else Wl m n o p d (i + 1) (Yd m (n / 2 ^ p - if i = 0 then o else 0) r).2.2 (acc ++ (Yd m (n / 2 ^ p - if i = 0 then o else 0) r).1)
theorem Zjc {b:List Int} {m n o p:Nat}:∀ (d i:Nat) (r:List Bool) (acc:List Int),Zo b r → Zo b (Wl m n o p d i r acc).2.2
 | 0,_,r,acc,h => h
 | d + 1,i,r,acc,h => by
  unfold Wl
  generalize (n / 2 ^ p - if i = 0 then o else 0) = cnt
  split
  ·exact ZiS h _ _
  ·exact Zjc d (i + 1) _ _ (ZiS h _ _)
theorem ZHR (k:Nat) {b:List Int} (hb:ZW b = true) (hn:b.length < 268435456) (hk:8 * b.length + 5000 < k) {m n o p:Nat} (hm:m = 0 ∨ m = 1) (hnn:n ≤ 512) (hp:p ≤ 15) (ho:o ≤ n / 2 ^ p) :
  ∀ (d j i:Nat) (r:List Bool) (acc:List Int),Zo b r → d < j → i + d ≤ 32768 → acc.length ≤ i * 512 →
  Zn (fun L1 => ZaE k L1) j (((i + d:Nat):Int),(i:Int),(n:Int),(p:Int),(o:Int),(m:Int),b,((ZV b r:Nat):Int),acc) = some (((Wl m n o p d i r acc).1,(Wl m n o p d i r acc).2.1,()),KK b (Wl m n o p d i r acc).2.2,()):=by
 intro d
 have hdiv:n / 2 ^ p ≤ n:=Nat.div_le_self _ _
 induction d with
 | zero =>
  intro j i r acc hr hj hi ha
  obtain ⟨j,rfl⟩:=ZC hj
  rw [Zg]
  simp only [ZaE]
  rw [Zj (by omega)]
  rfl
 | succ d ih =>
  intro j i r acc hr hj hi ha
  obtain ⟨j,rfl⟩:=ZC (show 0 < j by omega)
  rw [Zg]
  simp only [ZaE,Xm,Nat.min_eq_left (show p ≤ 64 by omega),ZfH]
  have e2:IntKind.i64.wrap ((i:Int) + 1) = ((i + 1:Nat):Int):=by rw [Qi (by omega)]; rfl
  have e3:IntKind.i64.wrap (((n / 2 ^ p:Nat):Int) - (o:Int)) = ((n / 2 ^ p - o:Nat):Int):=by generalize n / 2 ^ p = q at hdiv ho ⊢; rw [Qi (by omega)]; omega
  have fin:∀ cnt:Nat,cnt = (n / 2 ^ p - if i = 0 then o else 0) → ((ZiC k ((b,((ZV b r:Nat):Int),()),(m:Int),(cnt:Int),())).bind fun y => bif y.1.2.1 != (0:Int) then some (([],y.1.2.1,()),(y.2.1.1,y.2.1.2.1,()),()) else bif decide (acc.length + List.length y.1.1 < (2147483648:Nat)) then Zn (fun L1 => ZaE k L1) j (((i + (d + 1):Nat):Int),IntKind.i64.wrap ((i:Int) + 1),(n:Int),(p:Int),(o:Int),(m:Int),y.2.1.1,y.2.1.2.1,acc ++ y.1.1) else none) =
    some (((Wl m n o p (d + 1) i r acc).1,(Wl m n o p (d + 1) i r acc).2.1,()),KK b (Wl m n o p (d + 1) i r acc).2.2,()):=by
   intro cnt hcnt
   have hcl:cnt ≤ 512:=by omega
   refine (Zm (ZIj k hb hn hr hk hm (by omega)) _).trans ?_
   simp only
   unfold Wl
   rw [← hcnt,ZI]
   have hlen:=ZvG m cnt r
   by_cases h:(Yd m cnt r).2.1 = 0
   ·rw [Zj (by simpa using h),Zc (by omega),if_neg (by simpa using h),e2]
    have:=ih j (i + 1) (Yd m cnt r).2.2 (acc ++ (Yd m cnt r).1) (ZiS hr _ _) (by omega) (by omega) (by rw [Wa]; omega)
    rw [show i + 1 + d = i + (d + 1) by omega] at this
    exact this
   ·rw [Zc h,if_pos h]
  rw [Zc (by omega),Zc (by omega),ZL]
  by_cases h0:i = 0
  ·rw [Zc (by omega),e3]
   exact fin _ (by rw [if_pos h0])
  ·rw [Zj (by omega)]
   exact fin _ (by rw [if_neg h0,Nat.sub_zero])
def Y4 (n o:Nat) (r:List Bool):List Int × Int × List Bool :=
 if Zb5 n o = false then ([],1,r)
 else if (ZT 2 r).2.1 ≠ 0 then ([],(ZT 2 r).2.1,(ZT 2 r).2.2)
 else if 1 < (ZT 2 r).1 then ([],2,(ZT 2 r).2.2)
 else if (ZT 4 (ZT 2 r).2.2).2.1 ≠ 0 then ([],(ZT 4 (ZT 2 r).2.2).2.1,(ZT 4 (ZT 2 r).2.2).2.2)
 else if ZeB n o (ZT 4 (ZT 2 r).2.2).1 = false then ([],2,(ZT 4 (ZT 2 r).2.2).2.2)
 else Wl (ZT 2 r).1 n o (ZT 4 (ZT 2 r).2.2).1 (2 ^ (ZT 4 (ZT 2 r).2.2).1) 0 (ZT 4 (ZT 2 r).2.2).2.2 []
theorem Zs7 {b:List Int} {r:List Bool} (h:Zo b r) (n o:Nat):Zo b (Y4 n o r).2.2:=by
 unfold Y4
 repeat' split
 all_goals first | exact h | exact Qg h _ | exact Qg (Qg h _) _ | exact Zjc _ _ _ _ (Qg (Qg h _) _)
theorem ZHS (k:Nat) {b:List Int} (hb:ZW b = true) (hn:b.length < 268435456) {r:List Bool} (hr:Zo b r) (hk:8 * b.length + 50000 < k) (n o:Nat) :
  Zb8 k (KK b r,(n:Int),(o:Int),()) = some (((Y4 n o r).1,(Y4 n o r).2.1,()),KK b (Y4 n o r).2.2,()):=by
 show ZgP k (ZoK k) _ = _
 simp only [ZgP]
 rw [Zur]
 simp only [Z1]
 unfold Y4
 cases hbl:Zb5 n o with
 | false => rfl
 | true =>
  have hbb:=of_decide_eq_true hbl
  simp only [Bool.not_true,cond_false,Bool.true_eq_false,if_false]
  have g2:XT k (KK b r,2,()) = _:=YE k hb (by omega) hr (w:=2) (by omega) (by omega)
  rw [g2]
  simp only [Z1]
  rw [ZI]
  have hlt2:=ZhG 2 r
  by_cases h1:(ZT 2 r).2.1 = 0
  ·rw [Zj (by simpa using h1),if_neg (by simpa using h1)]
   by_cases h2:1 < (ZT 2 r).1
   ·rw [Zc (by omega),if_pos h2]
   ·have g4:XT k (KK b (ZT 2 r).2.2,4,()) = _:=YE k hb (by omega) (Qg hr _) (w:=4) (by omega) (by omega)
    rw [Zj (by omega),if_neg h2,g4]
    simp only [Z1]
    rw [ZI]
    have hlt4:=ZhG 4 (ZT 2 r).2.2
    by_cases h3:(ZT 4 (ZT 2 r).2.2).2.1 = 0
    ·rw [Zj (by simpa using h3),if_neg (by simpa using h3),Zut k (by omega) (by omega)]
     simp only [Z1]
     cases hf:ZeB n o (ZT 4 (ZT 2 r).2.2).1 with
     | false => rfl
     | true =>
      simp only [Bool.not_true,cond_false,Bool.true_eq_false,if_false]
      have hfit:=hf
      unfold ZeB at hfit
      simp only [Bool.and_eq_true,decide_eq_true_eq] at hfit
      rw [Zc (by omega),Zpq (by omega)]
      have h15:2 ^ (ZT 4 (ZT 2 r).2.2).1 ≤ 2 ^ 15:=Nat.pow_le_pow_right (by omega) (by omega)
      have:=ZHR k hb hn (by omega) (m:=(ZT 2 r).1) (n:=n) (o:=o) (p:=(ZT 4 (ZT 2 r).2.2).1) (by omega) (by omega) (by omega) hfit.2 (2 ^ (ZT 4 (ZT 2 r).2.2).1) k 0 (ZT 4 (ZT 2 r).2.2).2.2 [] (Qg (Qg hr _) _) (by omega) (by omega) (by simp)
      rw [Nat.zero_add] at this
      exact this
    ·rw [Zc h3,if_pos h3]
  ·rw [Zc h1,if_pos h1]
theorem ZXB:∀ n:Fin 513,Zhd 0 (1,(n.val:Int),()) = some ((0,(n.val:Int),()),()):=by decide +kernel
theorem ZLA (k:Nat) {n:Nat} (hn:n ≤ 512):ZqF k (1,(n:Int),()) = some ((0,(n:Int),()),()):=by
 have:=ZXB ⟨n,by omega⟩
 simp only at this
 show (Zhd 0 (1,(n:Int),())).bind _ = _
 rw [this]
 rfl
theorem ZHN (k:Nat) (x:Int) {n:Nat} (hn:n ≤ 512):∀ (d m i:Nat),i + d = n → d < m → 1 ≤ i →
  Zn (fun L1 => ZgN k L1) m ((i:Int),List.replicate i x ++ List.replicate d 0) = some (List.replicate n x,()):=by
 intro d
 induction d using Nat.strongRecOn with
 | ind d ih =>
  intro m i hi hm h1
  obtain ⟨m,rfl⟩:=ZC (show 0 < m by omega)
  rw [Zg]
  simp only [ZgN]
  have hlen:(List.replicate i x ++ List.replicate d (0:Int)).length = n:=by simp; omega
  rw [hlen]
  by_cases h0:d = 0
  ·subst h0
   rw [Zj (by simp only [Qz]; omega)]
   obtain rfl:i = n:=by omega
   simp
  ·rw [Zc (by simp only [Qz]; omega),Zc (by simp only [Qz]; omega),Zc (by simp only [Qz]; omega)]
   simp only [Xm,show (Int.ofNat n).toNat = n from rfl]
   rw [Zc (by omega),Zc (by omega),List.drop_zero]
   have ht:(List.replicate i x ++ List.replicate d (0:Int)).take i = List.replicate i x:=by
    rw [List.take_append_of_le_length (by simp)]
    simp
   rw [ht,List.length_replicate]
   have e1:IntKind.i64.wrap ((i:Int) + Int.ofNat (min i (n - i))) = ((i + min i (n - i):Nat):Int):=by simp only [Qz]; rw [Qi (by omega)]; omega
   have e2:List.replicate i x ++ List.take (n - i) (List.replicate i x) ++ List.drop (i + min i (n - i)) (List.replicate i x ++ List.replicate d (0:Int)) = List.replicate (i + min i (n - i)) x ++ List.replicate (d - min i (n - i)) 0:=by
    rw [List.take_replicate,List.replicate_append_replicate,List.drop_append]
    simp
    omega
   rw [e1,e2]
   exact ih (d - min i (n - i)) (by omega) m _ (by omega) (by omega) (by omega)
theorem ZHO (k:Nat) (x:Int) {n:Nat} (h1:1 ≤ n) (hn:n ≤ 512) (hk:1000 < k):Zqk k ([x],(n:Int),()) = some (List.replicate n x,()):=by
 show ZgM k (ZoG k) _ = _
 simp only [ZgM]
 have e1:IntKind.u64.wrap (Int.ofNat [x].length) = 1:=rfl
 have e2:IntKind.u64.wrap (n:Int) = (n:Int):=by rw [IntKind.wrap_u64]; omega
 rw [Zj (by omega),e1,e2,ZLA k hn]
 simp only [Z1]
 have e3:IntKind.i64.wrap (n:Int) = (n:Int):=by rw [Qi (by omega)]
 rw [Zj (by omega),Zj (by omega),e3,Zc (by omega)]
 simp only [Xm,List.length_replicate,List.length_singleton,Nat.sub_zero,List.take_zero,List.nil_append,Nat.zero_add]
 rw [Nat.min_eq_left h1,List.take_of_length_le (by simp; omega),List.drop_replicate]
 exact ZHN k x hn (n - 1) k 1 (by omega) (by omega) (by omega)
end Go.Sh
namespace Go.Sh
open Go Go.Proofs
def ZlN (c:List Int) (sh:Int):List Int → List Int → List Int × Int
 | [],out => (out,0)
 | x :: xs,out => if Qv (x + Zev c sh out) = true then ([],12) else ZlN c sh xs (out ++ [x + Zev c sh out])
def Zab (c:List Int) (sh:Int) (warm res:List Int):List Int × Int :=
 if Zbj c sh = false then ([],2) else if warm.length ≠ c.length then ([],1) else if warm.any Qv = true then ([],12) else if res.any Qv = true then ([],12) else ZlN c sh res warm
theorem ZvN {c:List Int} {sh:Int}:∀ (xs out:List Int),(ZlN c sh xs out).1.length ≤ out.length + xs.length
 | [],out => Nat.le_refl _
 | x :: xs,out => by
  unfold ZlN
  split
  ·simp
  ·have:=ZvN (c:=c) (sh:=sh) xs (out ++ [x + Zev c sh out])
   rw [Wa,List.length_singleton] at this
   rw [List.length_cons]
   omega
theorem ZBX {x:Int} (h:Qv x = false):ZN x:=by
 unfold Qv at h
 rw [decide_eq_false_iff_not] at h
 unfold ZN
 omega
theorem ZHU (k:Nat) {c warm res:List Int} {sh:Int} (hk:1000 < k) (hc:c.length ≤ 8192) (hw:warm.length ≤ 900) (hr:res.length ≤ 900) :
  Zb9 k ((c,sh,()),warm,res,()) = some (((Zab c sh warm res).1,(Zab c sh warm res).2,()),()):=by
 show ZgQ k (ZoM k) _ = _
 simp only [ZgQ]
 rw [Zux k c sh (by omega)]
 simp only [Z1]
 unfold Zab
 cases hm:Zbj c sh with
 | false => rfl
 | true =>
  simp only [if_true,Bool.true_eq_false,if_false]
  rw [show ((0:Int) != 0) = false from rfl]
  simp only [cond_false]
  rw [ZI]
  by_cases hl:warm.length = c.length
  ·rw [Zj (by simp [hl]),if_neg (by simpa using hl),ZbC k warm (by omega) (by omega)]
   simp only [Z1]
   cases hw1:warm.any Qv with
   | true => rfl
   | false =>
    simp only [cond_false,Bool.false_eq_true,if_false]
    rw [ZbC k res (by omega) (by omega)]
    simp only [Z1]
    cases hr1:res.any Qv with
    | true => rfl
    | false =>
     simp only [cond_false,Bool.false_eq_true,if_false]
     have ecl:ZmG k (warm,()) = some (warm,()):=by show YN _ = _; unfold YN; rw [Zc (by simp only; omega)]
     rw [ecl]
     simp only [Z1]
     obtain ⟨h8,hsh,hco⟩:=ZfV hm
     have:=Zw (A:=List Int) (R:=(List Int × Int × Unit) × Unit) (step:=fun L1 => Zcy k L1)
      (fun i out => (Int.ofNat res.length,Int.ofNat i,res,c,sh,out)) res
      (fun l' out => some (((ZlN c sh l' out).1,(ZlN c sh l' out).2,()),()))
      (fun i out => c.length ≤ out.length ∧ out.length = warm.length + i ∧ ∀ x ∈ out,ZN x)
      (fun L out _ => by simp only [Zcy]; rw [Zj (QW _)]; rfl)
      (fun L i hi out ho hL => by
       simp only [Zcy]
       rw [Zc (K7 hi),Zc (XW hi),Zuy k (by omega) h8 ho.1 (by omega) hsh hco ho.2.2,ZK hi]
       simp only [Z1]
       have hx:=Kt hr1 res[i] (List.getElem_mem hi)
       have hp:=ZnY (sh:=sh) hco ho.2.2 h8
       unfold ZN at hx
       rw [Qi (n:=res[i] + Zev c sh out) (by omega),ZmE]
       simp only [Z1]
       unfold ZlN
       cases hwi:Qv (res[i] + Zev c sh out) with
       | true => rfl
       | false =>
        simp only [cond_false,Bool.false_eq_true,if_false]
        rw [Zc (by simp only [List.length_singleton]; omega),Qk hi (by omega)]
        exact hL _ ⟨by simp; omega,by simp; omega,fun x hx => by
         rcases List.mem_append.1 hx with h | h
         ·exact ho.2.2 x h
         ·rw [List.mem_singleton.1 h]; exact ZBX hwi⟩)
      k 0 warm ⟨by omega,by omega,Kt hw1⟩ (by omega) (Nat.zero_le _)
     rw [List.drop_zero] at this
     exact this
  ·rw [Zc (by simp only [Qz]; omega),if_pos hl]
abbrev IS:=List Bool × Int
def gI (w:Nat) (s:IS):Nat × IS:=if s.2 = 0 then ((ZT w s.1).1,(ZT w s.1).2.2,(ZT w s.1).2.1) else (0,s)
def mI (ok:Bool) (s:IS) (code:Int):IS:=if s.2 = 0 ∧ ok = false then (s.1,code) else s
theorem QJ {b:List Int} {s:IS} (h:Zo b s.1) (w:Nat):Zo b (gI w s).2.1:=by
 unfold gI
 split
 ·exact Qg h w
 ·exact h
theorem QE {b:List Int} {s:IS} (h:Zo b s.1) (ok:Bool) (code:Int):Zo b (mI ok s code).1:=by
 unfold mI
 split
 ·exact h
 ·exact h
theorem ZXe (w:Nat) (s:IS):(gI w s).1 < 2 ^ w:=by
 unfold gI
 split
 ·exact ZhG w _
 ·exact Nat.pow_pos (by omega)
theorem Zcu (k:Nat) {b:List Int} (hb:ZW b = true) (hn:b.length < 268435456) (hk:100 < k) {s:IS} (hs:Zo b s.1) {w:Nat} (hw:w ≤ 32) :
  YO k ((KK b s.1,s.2,()),(w:Int),()) = some ((((gI w s).1:Nat):Int),(KK b (gI w s).2.1,(gI w s).2.2,()),()):=by
 show ZgJ k _ = _
 simp only [ZgJ]
 unfold gI
 rw [ZL]
 by_cases h:s.2 = 0
 ·rw [Zc h,if_pos h,YE k hb (by omega) hs hw hk]
  rfl
 ·rw [Zj h,if_neg h]
  rfl
theorem YF (k:Nat) {b:List Int} {s:IS} (ok:Bool):W7 k ((KK b s.1,s.2,()),ok,()) = some ((),(KK b (mI ok s 2).1,(mI ok s 2).2,()),()):=by
 show ZgI k _ = _
 simp only [ZgI]
 unfold mI
 rw [ZL]
 by_cases h:s.2 = 0
 ·rw [Zc h]
  cases ok with
  | false => rw [if_pos ⟨h,rfl⟩]; rfl
  | true => rw [if_neg (by simp)]; rfl
 ·rw [Zj h,if_neg (fun hh => h hh.1)]
def Zc6 (n:Nat):Bool:=n = 0 ∨ n = 1 ∨ 8 ≤ n ∧ n ≤ 12 ∨ 32 ≤ n ∧ n ≤ 39
theorem ZHJ (k n:Nat):Zqj k ((n:Int),()) = some (Zc6 n,()):=by
 show ZgK k _ = _
 simp only [ZgK]
 unfold Zc6
 rw [ZL,ZL]
 by_cases h0:n = 0
 ·rw [Zc (by omega),Xe (by omega)]
 ·rw [Zj (by omega)]
  by_cases h1:n = 1
  ·rw [Zc (by omega),Xe (by omega)]
  ·rw [Zj (by omega)]
   by_cases h8:8 ≤ n
   ·rw [Zc (by omega)]
    by_cases h12:n ≤ 12
    ·rw [Zc (by omega),Xe (by omega)]
    ·rw [Zj (by omega)]
     by_cases h31:31 < n
     ·rw [Zc (by omega)]
      by_cases h39:n ≤ 39
      ·rw [Xe (by omega),Xe (by omega)]
      ·rw [Wp (by omega),Wp (by omega)]
     ·rw [Zj (by omega),Wp (by omega)]
   ·rw [Zj (by omega),Zj (by omega),Wp (by omega)]
def XM (w:Nat):Nat → IS → List Int → List Int × IS
 | 0,s,acc => (acc,s)
 | n + 1,s,acc => if s.2 = 0 then XM w n ((WO w s.1).2.2,(WO w s.1).2.1) (acc ++ [(WO w s.1).1]) else XM w n s (acc ++ [0])
theorem XN {b:List Int} {w:Nat}:∀ (n:Nat) (s:IS) (acc:List Int),Zo b s.1 → Zo b (XM w n s acc).2.1
 | 0,s,acc,h => h
 | n + 1,s,acc,h => by
  unfold XM
  split
  ·exact XN n _ _ (Zd9 h w)
  ·exact XN n _ _ h
theorem K6 {w:Nat}:∀ (n:Nat) (s:IS) (acc:List Int),(XM w n s acc).1.length = acc.length + n
 | 0,s,acc => rfl
 | n + 1,s,acc => by
  unfold XM
  split
  ·rw [K6 n,Wa,List.length_singleton]; omega
  ·rw [K6 n,Wa,List.length_singleton]; omega
theorem Zcx (k:Nat) {b:List Int} (hb:ZW b = true) (hn:b.length < 268435456) (hk:1000 < k) {s:IS} (hs:Zo b s.1) {w n:Nat} (hw:w ≤ 32) (hnn:n ≤ 512) :
  ZaT k ((KK b s.1,s.2,()),(n:Int),(w:Int),()) = some ((XM w n s []).1,(KK b (XM w n s []).2.1,(XM w n s []).2.2,()),()):=by
 show ZgO k (ZoI k) _ = _
 simp only [ZgO]
 suffices H:∀ (d m i:Nat) (s:IS) (acc:List Int),Zo b s.1 → d < m → i + d ≤ 512 → acc.length = i →
   Zn (fun L1 => Zcw k L1) m (((i + d:Nat):Int),(i:Int),(w:Int),s.2,b,((ZV b s.1:Nat):Int),acc) = some ((XM w d s acc).1,(KK b (XM w d s acc).2.1,(XM w d s acc).2.2,()),()) by
  have:=H n k 0 s [] hs (by omega) (by omega) rfl
  rw [Nat.zero_add] at this
  exact this
 intro d
 induction d with
 | zero =>
  intro m i s acc hs hm hi ha
  obtain ⟨m,rfl⟩:=ZC hm
  rw [Zg]
  simp only [Zcw]
  rw [Zj (by omega)]
  rfl
 | succ d ih =>
  intro m i s acc hs hm hi ha
  obtain ⟨m,rfl⟩:=ZC (show 0 < m by omega)
  rw [Zg]
  simp only [Zcw]
  have e2:IntKind.i64.wrap ((i:Int) + 1) = ((i + 1:Nat):Int):=by rw [Qi (by omega)]; rfl
  rw [Zc (by omega),ZL]
  unfold XM
  by_cases h:s.2 = 0
  ·rw [Zc h,if_pos h,Zuw k hb (by omega) hs hw (by omega)]
   simp only [Z1]
   rw [Zc (by simp only [List.length_singleton]; omega),e2]
   have:=ih m (i + 1) ((WO w s.1).2.2,(WO w s.1).2.1) (acc ++ [(WO w s.1).1]) (Zd9 hs w) (by omega) (by omega) (by simp; omega)
   rw [show i + 1 + d = i + (d + 1) by omega] at this
   exact this
  ·rw [Zj h,if_neg h,Zc (by omega),e2]
   have:=ih m (i + 1) s (acc ++ [0]) hs (by omega) (by omega) (by simp; omega)
   rw [show i + 1 + d = i + (d + 1) by omega] at this
   exact this
def Zbq (s:IS):IS:=mI ((gI 1 s).1 == 0) (gI 1 s).2 2
def YK (s:IS):Nat × IS:=((gI 6 s).1,mI (Zc6 (gI 6 s).1) (gI 6 s).2 2)
def Zdh (kind depth:Nat) (s:IS):Nat × Nat × IS :=
 if (gI 1 s).1 = 1 ∧ (gI 1 s).2.2 = 0 then (kind,(unS (gI 1 s).2.1).1 + 1,mI (decide ((unS (gI 1 s).2.1).1 + 1 < depth)) ((unS (gI 1 s).2.1).2.2,(unS (gI 1 s).2.1).2.1) 2)
 else (kind,0,mI (decide (0 < depth)) (gI 1 s).2 2)
def ZU (depth:Nat) (s:IS):Nat × Nat × IS:=Zdh (YK (Zbq s)).1 depth (YK (Zbq s)).2
theorem Wt (a b:Nat):((a:Int) == (b:Int)) = (a == b):=by
 rw [Bool.eq_iff_iff,beq_iff_eq,beq_iff_eq]
 omega
theorem ZEN {b:List Int} {s:IS} (h:Zo b s.1) (kind d:Nat):Zo b (Zdh kind d s).2.2.1:=by
 unfold Zdh
 split
 ·exact QE (s:=(_,_)) (Zdl (QJ h _)) _ _
 ·exact QE (QJ h _) _ _
theorem Ztf {b:List Int} {s:IS} (h:Zo b s.1):Zo b (Zbq s).1:=QE (QJ h _) _ _
theorem Ztg {b:List Int} {s:IS} (h:Zo b s.1):Zo b (YK s).2.1:=QE (QJ h _) _ _
theorem ZlV {b:List Int} {s:IS} (h:Zo b s.1) (d:Nat):Zo b (ZU d s).2.2.1:=ZEN (Ztg (Ztf h)) _ _
theorem ZN0 (k:Nat) {b:List Int} (hb:ZW b = true) (hn:b.length < 268435456) (hk:8 * b.length + 1000 < k) {s:IS} (hs:Zo b s.1) (d:Nat) :
  ZAQ k ((KK b s.1,s.2,()),(d:Int),()) = some (((((ZU d s).1:Nat):Int),(((ZU d s).2.1:Nat):Int),()),(KK b (ZU d s).2.2.1,(ZU d s).2.2.2,()),()):=by
 show Zlp k _ = _
 simp only [Zlp]
 refine (Zm (Zcu k hb hn (by omega) hs (w:=1) (by omega)) _).trans ?_
 refine (Zm (YF k (s:=(gI 1 s).2) _) _).trans ?_
 rw [show ((((gI 1 s).1:Nat):Int) == (0:Int)) = ((gI 1 s).1 == 0) from Wt _ 0]
 have r2:=Ztf hs
 unfold ZU
 change ((YO k ((KK b (Zbq s).1,(Zbq s).2,()),6,())).bind _) = _
 generalize Zbq s = s1 at r2 ⊢
 refine (Zm (Zcu k hb hn (by omega) r2 (w:=6) (by omega)) _).trans ?_
 refine (Zm (ZHJ k (gI 6 s1).1) _).trans ?_
 refine (Zm (YF k (s:=(gI 6 s1).2) _) _).trans ?_
 have r4:=Ztg r2
 change ((YO k ((KK b (YK s1).2.1,(YK s1).2.2,()),1,())).bind fun y_3 => bif y_3.1 == (1:Int) then bif y_3.2.1.2.1 == (0:Int) then (Ziy k ((y_3.2.1.1.1,y_3.2.1.1.2.1,()),())).bind fun y_4 => (W7 k (((y_4.2.1.1,y_4.2.1.2.1,()),y_4.1.2.1,()),decide (IntKind.i64.wrap (y_4.1.1 + (1:Int)) < d),())).bind fun y_5 => some (((((YK s1).1:Nat):Int),IntKind.i64.wrap (y_4.1.1 + (1:Int)),()),((y_5.2.1.1.1,y_5.2.1.1.2.1,()),y_5.2.1.2.1,()),())
  else (W7 k (((y_3.2.1.1.1,y_3.2.1.1.2.1,()),y_3.2.1.2.1,()),decide ((0:Int) < d),())).bind fun y_4 => some (((((YK s1).1:Nat):Int),0,()),((y_4.2.1.1.1,y_4.2.1.1.2.1,()),y_4.2.1.2.1,()),())
  else (W7 k (((y_3.2.1.1.1,y_3.2.1.1.2.1,()),y_3.2.1.2.1,()),decide ((0:Int) < d),())).bind fun y_4 => some (((((YK s1).1:Nat):Int),0,()),((y_4.2.1.1.1,y_4.2.1.1.2.1,()),y_4.2.1.2.1,()),())) = _
 generalize (YK s1).1 = kind
 generalize (YK s1).2 = s2 at r4 ⊢
 unfold Zdh
 have r5:=QJ r4 1
 refine (Zm (Zcu k hb hn (by omega) r4 (w:=1) (by omega)) _).trans ?_
 simp only
 rw [show ((((gI 1 s2).1:Nat):Int) == (1:Int)) = ((gI 1 s2).1 == 1) from Wt _ 1]
 have fin0:((W7 k ((KK b (gI 1 s2).2.1,(gI 1 s2).2.2,()),decide ((0:Int) < (d:Int)),())).bind fun y_4 => some ((((kind:Nat):Int),0,()),((y_4.2.1.1.1,y_4.2.1.1.2.1,()),y_4.2.1.2.1,()),())) =
   some ((((kind:Nat):Int),(((0:Nat):Int)),()),(KK b (mI (decide (0 < d)) (gI 1 s2).2 2).1,(mI (decide (0 < d)) (gI 1 s2).2 2).2,()),()):=by
  refine (Zm (YF k (s:=(gI 1 s2).2) _) _).trans ?_
  have:decide ((0:Int) < (d:Int)) = decide (0 < d):=by
   by_cases h:0 < d
   ·rw [Xe h,Xe (by omega)]
   ·rw [Wp h,Wp (by omega)]
  rw [this]
  rfl
 by_cases h1:(gI 1 s2).1 = 1
 ·rw [show ((gI 1 s2).1 == 1) = true from by simp [h1]]
  simp only [cond_true]
  rw [ZL]
  by_cases h2:(gI 1 s2).2.2 = 0
  ·rw [Zc h2,if_pos ⟨h1,h2⟩]
   refine (Zm (Zuk k hb (by omega) r5 (by omega)) _).trans ?_
   have hu:=ZO9 (r:=(gI 1 s2).2.1)
   have hl:=r5.len
   have e1:IntKind.i64.wrap ((((unS (gI 1 s2).2.1).1:Nat):Int) + 1) = (((unS (gI 1 s2).2.1).1 + 1:Nat):Int):=by rw [Qi (by omega)]; rfl
   simp only
   rw [e1]
   refine (Zm (YF k (b:=b) (s:=((unS (gI 1 s2).2.1).2.2,(unS (gI 1 s2).2.1).2.1)) _) _).trans ?_
   have:decide ((((unS (gI 1 s2).2.1).1 + 1:Nat):Int) < (d:Int)) = decide ((unS (gI 1 s2).2.1).1 + 1 < d):=by
    by_cases h:(unS (gI 1 s2).2.1).1 + 1 < d
    ·rw [Xe h,Xe (by omega)]
    ·rw [Wp h,Wp (by omega)]
   rw [this]
  ·rw [Zj h2,if_neg (fun h => h2 h.2)]
   exact fin0
 ·rw [show ((gI 1 s2).1 == 1) = false from by simp [h1]]
  simp only [cond_false]
  rw [if_neg (fun h => h1 h.1)]
  exact fin0
end Go.Sh
namespace Go.Sh
open Go Go.Proofs
def Zci (coefs:List Int) (sh:Int) (c n:Nat) (warm:List Int) (s:IS):List Int × IS :=
 if (Y4 n c s.1).2.1 ≠ 0 then ([],((Y4 n c s.1).2.2,(Y4 n c s.1).2.1))
 else ((Zab coefs sh warm (Y4 n c s.1).1).1,((Y4 n c s.1).2.2,(Zab coefs sh warm (Y4 n c s.1).1).2))
def Zaj (s:IS):IS:=mI ((gI 4 s).1 == 11) (gI 4 s).2 2
def Wo (s:IS):Nat × IS:=((gI 5 s).1,mI (decide ((gI 5 s).1 ≤ 15)) (gI 5 s).2 2)
def Zeq (c n:Nat) (warm:List Int) (sh:Nat) (x:List Int × IS):List Int × IS :=
 if x.2.2 ≠ 0 then ([],x.2) else Zci x.1 sh c n warm x.2
def Zbw (num:Bool) (c n:Nat) (w:List Int × IS):List Int × IS :=
 if num = true then Zeq c n w.1 (Wo (Zaj w.2)).1 (XM 12 c (Wo (Zaj w.2)).2 [])
 else if w.2.2 ≠ 0 then ([],w.2) else Zci (Xz (min 4 c)) 0 c n w.1 w.2
def ZhV (num:Bool) (c n depth:Nat) (s:IS):List Int × IS :=
 if (mI (decide (c ≤ n)) s 2).2 ≠ 0 then ([],mI (decide (c ≤ n)) s 2) else Zbw num c n (XM depth c (mI (decide (c ≤ n)) s 2) [])
def WV (kind n depth:Nat) (s:IS):List Int × IS :=
 if kind = 0 then (List.replicate n ((XM depth 1 s []).1.headD 0),(XM depth 1 s []).2)
 else if kind = 1 then XM depth n s []
 else if 31 < kind then ZhV true (kind - 31) n depth s else ZhV false (kind - 8) n depth s
theorem Znw {m n o p:Nat}:∀ (d i:Nat) (r:List Bool) (acc:List Int),(Wl m n o p d i r acc).1.length ≤ acc.length + d * (n / 2 ^ p)
 | 0,_,r,acc => by simp [Wl]
 | d + 1,i,r,acc => by
  unfold Wl
  have hle:(n / 2 ^ p - if i = 0 then o else 0) ≤ n / 2 ^ p:=Nat.sub_le _ _
  generalize (n / 2 ^ p - if i = 0 then o else 0) = cnt at hle ⊢
  have h1:=ZvG m cnt r
  rw [Nat.add_mul,Nat.one_mul]
  split
  ·simp
  ·have:=Znw (m:=m) (n:=n) (o:=o) (p:=p) d (i + 1) (Yd m cnt r).2.2 (acc ++ (Yd m cnt r).1)
   rw [Wa] at this
   omega
theorem ZvO {n o:Nat} (r:List Bool):(Y4 n o r).1.length ≤ n:=by
 unfold Y4
 repeat' split
 all_goals try simp
 rename_i hf
 have hf:ZeB n o (ZT 4 (ZT 2 r).2.2).1 = true:=by simpa using hf
 unfold ZeB at hf
 simp only [Bool.and_eq_true,decide_eq_true_eq] at hf
 have:=Znw (m:=(ZT 2 r).1) (n:=n) (o:=o) (p:=(ZT 4 (ZT 2 r).2.2).1) (2 ^ (ZT 4 (ZT 2 r).2.2).1) 0 (ZT 4 (ZT 2 r).2.2).2.2 []
 rw [List.length_nil,Nat.zero_add] at this
 refine Nat.le_trans this ?_
 rw [Nat.mul_comm]
 exact Nat.div_mul_le_self _ _
theorem ZbQ {ok:Bool} {s:IS} {code:Int} (hc:code ≠ 0):(mI ok s code).2 = 0 ↔ s.2 = 0 ∧ ok = true:=by
 unfold mI
 split
 ·rename_i h
  exact ⟨fun e => absurd e hc,fun e => by rw [h.2] at e; exact absurd e.2 (by simp)⟩
 ·rename_i h
  constructor
  ·intro e
   refine ⟨e,?_⟩
   cases ok with
   | true => rfl
   | false => exact absurd ⟨e,rfl⟩ h
  ·exact fun e => e.1
theorem ZlW {d:Nat} {s:IS} (h:(ZU d s).2.2.2 = 0):(ZU d s).2.1 < d ∧ Zc6 (ZU d s).1 = true:=by
 unfold ZU at h ⊢
 have hk:(YK (Zbq s)).2.2 = 0 → Zc6 (YK (Zbq s)).1 = true:=fun h => ((ZbQ (by decide)).1 h).2
 generalize (YK (Zbq s)).1 = kind at h hk ⊢
 generalize (YK (Zbq s)).2 = s2 at h hk ⊢
 have g0:(gI 1 s2).2.2 = 0 → s2.2 = 0:=by
  unfold gI
  split
  ·rename_i h; exact fun _ => h
  ·exact fun e => e
 unfold Zdh at h ⊢
 split
 ·rename_i hc
  rw [if_pos hc] at h
  have:=(ZbQ (by decide)).1 h
  exact ⟨of_decide_eq_true this.2,hk (g0 hc.2)⟩
 ·rename_i hc
  rw [if_neg hc] at h
  have:=(ZbQ (by decide)).1 h
  exact ⟨of_decide_eq_true this.2,hk (g0 this.1)⟩
theorem ZpN {b:List Int} {coefs warm:List Int} {sh:Int} {c n:Nat} {s:IS} (h:Zo b s.1):Zo b (Zci coefs sh c n warm s).2.1:=by
 unfold Zci
 split
 ·exact Zs7 h _ _
 ·exact Zs7 h _ _
theorem ZtT {coefs warm:List Int} {sh:Int} {c n:Nat} {s:IS}:(Zci coefs sh c n warm s).1.length ≤ warm.length + n:=by
 unfold Zci
 split
 ·simp
 ·have h1:=ZvO (n:=n) (o:=c) s.1
  simp only
  unfold Zab
  repeat' split
  all_goals try simp
  have:=ZvN (c:=coefs) (sh:=sh) (Y4 n c s.1).1 warm
  omega
theorem ZpX {b:List Int} {s:IS} (h:Zo b s.1):Zo b (Zaj s).1:=QE (QJ h _) _ _
theorem ZpY {b:List Int} {s:IS} (h:Zo b s.1):Zo b (Wo s).2.1:=QE (QJ h _) _ _
theorem ZCm {b:List Int} {c n:Nat} {warm:List Int} {sh:Nat} {x:List Int × IS} (h:Zo b x.2.1):Zo b (Zeq c n warm sh x).2.1:=by
 unfold Zeq
 split
 ·exact h
 ·exact ZpN h
theorem ZCn {b:List Int} {num:Bool} {c n:Nat} {w:List Int × IS} (h:Zo b w.2.1):Zo b (Zbw num c n w).2.1:=by
 unfold Zbw
 split
 ·exact ZCm (XN _ _ _ (ZpY (ZpX h)))
 ·split
  ·exact h
  ·exact ZpN h
theorem ZpM {b:List Int} {num:Bool} {c n d:Nat} {s:IS} (h:Zo b s.1):Zo b (ZhV num c n d s).2.1:=by
 unfold ZhV
 split
 ·exact QE h _ _
 ·exact ZCn (XN _ _ _ (QE h _ _))
theorem ZCl {b:List Int} {kind n d:Nat} {s:IS} (h:Zo b s.1):Zo b (WV kind n d s).2.1:=by
 unfold WV
 split
 ·exact XN _ _ _ h
 ·split
  ·exact XN _ _ _ h
  ·split
   ·exact ZpM h
   ·exact ZpM h
theorem ZtR {num:Bool} {c n d:Nat} {s:IS} (hc:c ≤ 8):(ZhV num c n d s).1.length ≤ 8 + n:=by
 unfold ZhV
 split
 ·simp
 ·have hl:=K6 (w:=d) c (mI (decide (c ≤ n)) s 2) []
  generalize XM d c (mI (decide (c ≤ n)) s 2) [] = w at hl
  simp only [List.length_nil,Nat.zero_add] at hl
  unfold Zbw Zeq
  repeat' split
  all_goals try simp
  ·have:=ZtT (coefs:=(XM 12 c (Wo (Zaj w.2)).2 []).1) (warm:=w.1) (sh:=((Wo (Zaj w.2)).1:Nat)) (c:=c) (n:=n) (s:=(XM 12 c (Wo (Zaj w.2)).2 []).2)
   omega
  ·have:=ZtT (coefs:=Xz (min 4 c)) (warm:=w.1) (sh:=0) (c:=c) (n:=n) (s:=w.2)
   omega
theorem ZtQ {kind n d:Nat} {s:IS} (hk:Zc6 kind = true):(WV kind n d s).1.length ≤ 8 + n:=by
 have hk:=of_decide_eq_true hk
 unfold WV
 split
 ·simp
 ·split
  ·rw [K6]; simp
  ·split
   ·exact ZtR (by omega)
   ·exact ZtR (by omega)
abbrev BT:=List Int × ((List Int × Int × Unit) × Int × Unit) × Unit
theorem ZTm (k:Nat) {b:List Int} (hb:ZW b = true) (hn:b.length < 268435456) (hk:8 * b.length + 50000 < k) {s:IS} (hs:Zo b s.1) {coefs warm:List Int} (hco:coefs.length ≤ 8192) (hw:warm.length ≤ 8) {sh:Int} {n c:Nat} (hnn:n ≤ 512) :
  ((Zb8 k (KK b s.1,(n:Int),(c:Int),())).bind fun y_2 => bif y_2.1.2.1 != (0:Int) then some (([],((y_2.2.1.1,y_2.2.1.2.1,()),y_2.1.2.1,()),()):BT) else (Zb9 k ((coefs,sh,()),warm,y_2.1.1,())).bind fun y => some (y.1.1,((y_2.2.1.1,y_2.2.1.2.1,()),y.1.2.1,()),())) =
   some ((Zci coefs sh c n warm s).1,(KK b (Zci coefs sh c n warm s).2.1,(Zci coefs sh c n warm s).2.2,()),()):=by
 refine (Zm (ZHS k hb hn hs hk n c) _).trans ?_
 unfold Zci
 simp only
 rw [ZI]
 by_cases h:(Y4 n c s.1).2.1 = 0
 ·rw [Zj (by simpa using h),if_neg (by simpa using h)]
  have hl:=ZvO (n:=n) (o:=c) s.1
  exact Zm (ZHU k (by omega) hco (by omega) (by omega)) _
 ·rw [Zc h,if_pos h]
theorem ZN1 (k:Nat) {b:List Int} (hb:ZW b = true) (hn:b.length < 268435456) (hk:8 * b.length + 50000 < k) {s:IS} (hs:Zo b s.1) {kind n d:Nat} (hkd:Zc6 kind = true) (h1:1 ≤ n) (hnn:n ≤ 512) (hd:d ≤ 32) :
  ZAR k ((KK b s.1,s.2,()),(kind:Int),(n:Int),(d:Int),()) = some ((WV kind n d s).1,(KK b (WV kind n d s).2.1,(WV kind n d s).2.2,()),()):=by
 show Zlq k _ = _
 simp only [Zlq]
 have hkd:=of_decide_eq_true hkd
 unfold WV
 rw [ZL,ZL]
 by_cases h0:kind = 0
 ·rw [Zc (by omega),if_pos h0]
  refine (Zm (Zcx k hb hn (by omega) hs (w:=d) (n:=1) hd (by omega)) _).trans ?_
  have hl:=K6 (w:=d) 1 s []
  generalize XM d 1 s [] = w at hl
  obtain ⟨w1,w2⟩:=w
  match w1,hl with
  | [x],_ =>
   refine (Zm (ZHO k x h1 hnn (by omega)) _).trans ?_
   rfl
 ·rw [Zj (by omega),if_neg h0]
  by_cases hk1:kind = 1
  ·rw [Zc (by omega),if_pos hk1]
   exact Zm (Zcx k hb hn (by omega) hs (w:=d) (n:=n) hd hnn) _
  ·rw [Zj (by omega),if_neg hk1]
   by_cases h31:31 < kind
   ·simp only [Zc (show (31:Int) < (kind:Int) by omega)]
    rw [if_pos h31]
    have ec:IntKind.i64.wrap ((kind:Int) - 31) = ((kind - 31:Nat):Int):=by rw [Qi (by omega)]; omega
    simp only [ec]
    have hc8:kind - 31 ≤ 8:=by omega
    generalize kind - 31 = c at hc8
    have edn:decide ((c:Int) ≤ (n:Int)) = decide (c ≤ n):=by
     by_cases h:c ≤ n
     ·rw [Xe h,Xe (by omega)]
     ·rw [Wp h,Wp (by omega)]
    rw [edn]
    refine (Zm (YF k (s:=s) _) _).trans ?_
    unfold ZhV
    have r1:=QE hs (decide (c ≤ n)) 2
    generalize mI (decide (c ≤ n)) s 2 = s1 at r1 ⊢
    simp only
    rw [ZI]
    by_cases he:s1.2 = 0
    ·rw [Zj (by simpa using he),if_neg (show ¬ s1.2 ≠ 0 by simpa using he)]
     refine (Zm (Zcx k hb hn (by omega) r1 (w:=d) (n:=c) hd (by omega)) _).trans ?_
     have r2:=XN (w:=d) c s1 [] r1
     have hl:=K6 (w:=d) c s1 []
     generalize XM d c s1 [] = w at r2 hl ⊢
     simp only [List.length_nil,Nat.zero_add] at hl
     have e4:(if (4:Int) < (c:Int) then (4:Int) else (c:Int)) = ((min 4 c:Nat):Int):=by split <;> omega
     simp only
     rw [e4]
     refine (Zm (Zml k (min 4 c) (by omega) (by omega)) _).trans ?_
     unfold Zbw
     rw [if_pos rfl]
     refine (Zm (Zcu k hb hn (by omega) r2 (w:=4) (by omega)) _).trans ?_
     refine (Zm (YF k (s:=(gI 4 w.2).2) _) _).trans ?_
     rw [show ((((gI 4 w.2).1:Nat):Int) == (11:Int)) = ((gI 4 w.2).1 == 11) from Wt _ 11]
     have r3:=ZpX r2
     change ((YO k ((KK b (Zaj w.2).1,(Zaj w.2).2,()),5,())).bind _) = _
     generalize Zaj w.2 = s3 at r3 ⊢
     refine (Zm (Zcu k hb hn (by omega) r3 (w:=5) (by omega)) _).trans ?_
     refine (Zm (YF k (s:=(gI 5 s3).2) _) _).trans ?_
     have e15:decide ((((gI 5 s3).1:Nat):Int) ≤ 15) = decide ((gI 5 s3).1 ≤ 15):=by
      by_cases h:(gI 5 s3).1 ≤ 15
      ·rw [Xe h,Xe (by omega)]
      ·rw [Wp h,Wp (by omega)]
     rw [e15]
     have r4:=ZpY r3
     change ((ZaT k ((KK b (Wo s3).2.1,(Wo s3).2.2,()),(c:Int),12,())).bind fun y_6 => bif y_6.2.1.2.1 != (0:Int) then some (([],((y_6.2.1.1.1,y_6.2.1.1.2.1,()),y_6.2.1.2.1,()),()):BT) else (Zb8 k ((y_6.2.1.1.1,y_6.2.1.1.2.1,()),(n:Int),(c:Int),())).bind fun y_7 => bif y_7.1.2.1 != (0:Int) then some ([],((y_7.2.1.1,y_7.2.1.2.1,()),y_7.1.2.1,()),()) else (Zb9 k ((y_6.1,(((Wo s3).1:Nat):Int),()),w.1,y_7.1.1,())).bind fun y => some (y.1.1,((y_7.2.1.1,y_7.2.1.2.1,()),y.1.2.1,()),())) = _
     generalize (Wo s3).1 = sh
     generalize (Wo s3).2 = s4 at r4 ⊢
     refine (Zm (Zcx k hb hn (by omega) r4 (w:=12) (n:=c) (by omega) (by omega)) _).trans ?_
     have r5:=XN (w:=12) c s4 [] r4
     have hl5:=K6 (w:=12) c s4 []
     generalize XM 12 c s4 [] = x at r5 hl5 ⊢
     simp only [List.length_nil,Nat.zero_add] at hl5
     unfold Zeq
     simp only
     rw [ZI]
     by_cases hx:x.2.2 = 0
     ·rw [Zj (by simpa using hx),if_neg (by simpa using hx)]
      exact ZTm k hb hn hk r5 (by omega) (by omega) hnn
     ·rw [Zc hx,if_pos hx]
    ·rw [Zc he,if_pos he]
   ·simp only [Zj (show ¬ (31:Int) < (kind:Int) by omega)]
    rw [if_neg h31]
    have ec:IntKind.i64.wrap ((kind:Int) - 8) = ((kind - 8:Nat):Int):=by rw [Qi (by omega)]; omega
    simp only [ec]
    have hc8:kind - 8 ≤ 4:=by omega
    generalize kind - 8 = c at hc8
    have edn:decide ((c:Int) ≤ (n:Int)) = decide (c ≤ n):=by
     by_cases h:c ≤ n
     ·rw [Xe h,Xe (by omega)]
     ·rw [Wp h,Wp (by omega)]
    rw [edn]
    refine (Zm (YF k (s:=s) _) _).trans ?_
    unfold ZhV
    have r1:=QE hs (decide (c ≤ n)) 2
    generalize mI (decide (c ≤ n)) s 2 = s1 at r1 ⊢
    simp only
    rw [ZI]
    by_cases he:s1.2 = 0
    ·rw [Zj (by simpa using he),if_neg (show ¬ s1.2 ≠ 0 by simpa using he)]
     refine (Zm (Zcx k hb hn (by omega) r1 (w:=d) (n:=c) hd (by omega)) _).trans ?_
     have r2:=XN (w:=d) c s1 [] r1
     have hl:=K6 (w:=d) c s1 []
     generalize XM d c s1 [] = w at r2 hl ⊢
     simp only [List.length_nil,Nat.zero_add] at hl
     have e4:(if (4:Int) < (c:Int) then (4:Int) else (c:Int)) = ((min 4 c:Nat):Int):=by split <;> omega
     simp only
     rw [e4]
     refine (Zm (Zml k (min 4 c) (by omega) (by omega)) _).trans ?_
     unfold Zbw
     rw [if_neg (by simp)]
     simp only
     rw [ZI]
     by_cases hx:w.2.2 = 0
     ·rw [Zj (by simpa using hx),if_neg (by simpa using hx)]
      exact ZTm k hb hn hk r2 (by rw [Zso _ (by omega)]; omega) (by omega) hnn
     ·rw [Zc hx,if_pos hx]
    ·rw [Zc he,if_pos he]
def QT (n d:Nat) (r:List Bool):List Int × Int × List Bool :=
 if ¬ (1 ≤ n ∧ n ≤ 512 ∧ 4 ≤ d ∧ d ≤ 25) then ([],1,r)
 else if (ZU d (r,0)).2.2.2 ≠ 0 then ([],(ZU d (r,0)).2.2.2,(ZU d (r,0)).2.2.1)
 else if (WV (ZU d (r,0)).1 n (d - (ZU d (r,0)).2.1) (ZU d (r,0)).2.2).2.2 ≠ 0 then ([],(WV (ZU d (r,0)).1 n (d - (ZU d (r,0)).2.1) (ZU d (r,0)).2.2).2.2,(WV (ZU d (r,0)).1 n (d - (ZU d (r,0)).2.1) (ZU d (r,0)).2.2).2.1)
 else if (WV (ZU d (r,0)).1 n (d - (ZU d (r,0)).2.1) (ZU d (r,0)).2.2).1.all (Xl · (d - (ZU d (r,0)).2.1)) = true then
  ((WV (ZU d (r,0)).1 n (d - (ZU d (r,0)).2.1) (ZU d (r,0)).2.2).1.map (fun x => x * 2 ^ (ZU d (r,0)).2.1),0,(WV (ZU d (r,0)).1 n (d - (ZU d (r,0)).2.1) (ZU d (r,0)).2.2).2.1)
 else ([],12,(WV (ZU d (r,0)).1 n (d - (ZU d (r,0)).2.1) (ZU d (r,0)).2.2).2.1)
theorem ZtN {b:List Int} {r:List Bool} (h:Zo b r) (n d:Nat):Zo b (QT n d r).2.2:=by
 unfold QT
 have h1:=ZlV (s:=(r,0)) h d
 repeat' split
 all_goals first | exact h | exact h1 | exact ZCl h1
theorem ZGE {x:Int} {d k:Nat} (hk:k < d) (hd:d ≤ 32) (h:Xl x (d - k) = true):Xl (x * 2 ^ k) d = true ∧ -9223372036854775808 ≤ x * 2 ^ k ∧ x * 2 ^ k ≤ 9223372036854775807:=by
 unfold Xl at h ⊢
 rw [if_neg (by omega),decide_eq_true_eq] at h
 rw [if_neg (by omega),decide_eq_true_eq]
 have hp:(0:Int) < 2 ^ k:=Int.pow_pos (by omega)
 have e:(2:Int) ^ (d - 1) = 2 ^ (d - k - 1) * 2 ^ k:=by rw [← Int.pow_add]; congr 1; omega
 have h1 : -(2 ^ (d - 1):Int) ≤ x * 2 ^ k:=by rw [e,← Int.neg_mul]; exact Int.mul_le_mul_of_nonneg_right h.1 (by omega)
 have h2:x * 2 ^ k < 2 ^ (d - 1):=by rw [e]; exact Int.mul_lt_mul_of_pos_right h.2 hp
 refine ⟨⟨h1,h2⟩,?_⟩
 rw [WC (d - 1)] at h1 h2
 have:2 ^ (d - 1) ≤ 2 ^ 31:=Nat.pow_le_pow_right (by omega) (by omega)
 generalize 2 ^ (d - 1) = Q at h1 h2 this
 omega
theorem ZNo (k:Nat) {b:List Int} (hb:ZW b = true) (hn:b.length < 268435456) (hk:8 * b.length + 50000 < k) {r:List Bool} (hr:Zo b r) (n d:Nat) :
  ZAB k (KK b r,(n:Int),(d:Int),()) = some (((QT n d r).1,(QT n d r).2.1,()),KK b (QT n d r).2.2,()):=by
 show ZkY k (ZxD k) _ = _
 simp only [ZkY]
 rw [ZAP]
 simp only [Z1]
 unfold QT
 by_cases h:1 ≤ n ∧ n ≤ 512 ∧ 4 ≤ d ∧ d ≤ 25
 ·rw [if_neg (by simpa using h),Xe (by omega)]
  simp only [Bool.not_true,cond_false]
  refine (Zm (ZN0 k hb hn (by omega) (s:=(r,0)) hr d) _).trans ?_
  have hz:=ZlW (d:=d) (s:=(r,0))
  have r1:=ZlV (s:=(r,0)) hr d
  generalize ZU d (r,0) = hd at hz r1 ⊢
  obtain ⟨kind,kk,s1⟩:=hd
  simp only at hz r1 ⊢
  rw [ZI]
  by_cases he:s1.2 = 0
  ·rw [Zj (by simpa using he),if_neg (by simpa using he)]
   obtain ⟨hkd,hkind⟩:=hz he
   have e1:IntKind.i64.wrap ((d:Int) - (kk:Int)) = ((d - kk:Nat):Int):=by rw [Qi (by omega)]; omega
   rw [e1]
   refine (Zm (ZN1 k hb hn hk r1 hkind h.1 h.2.1 (d:=d - kk) (by omega)) _).trans ?_
   have hl:=ZtQ (kind:=kind) (n:=n) (d:=d - kk) (s:=s1) hkind
   generalize WV kind n (d - kk) s1 = y at hl ⊢
   simp only
   rw [ZI]
   by_cases hy:y.2.2 = 0
   ·rw [Zj (by simpa using hy),if_neg (by simpa using hy)]
    have:=Zw (A:=List Int) (R:=(List Int × Int × Unit) × (List Int × Int × Unit) × Unit) (step:=fun L1 => Zfs k L1)
     (fun i out => (Int.ofNat y.1.length,Int.ofNat i,y.1,(d:Int),(kk:Int),b,((ZV b y.2.1:Nat):Int),out)) y.1
     (fun l' out => some (if l'.all (Xl · (d - kk)) = true then ((out ++ l'.map (fun x => x * 2 ^ kk),0,()),KK b y.2.1,()) else (([],12,()),KK b y.2.1,())))
     (fun i out => out.length = i)
     (fun L out _ => by simp only [Zfs]; rw [Zj (QW _)]; simp)
     (fun L i hi out ho hL => by
      simp only [Zfs]
      rw [Zc (K7 hi),Zc (XW hi),ZK hi,e1,ZAS k _ (by omega) (by omega)]
      simp only [Z1]
      rw [List.all_cons]
      cases hs:Xl y.1[i] (d - kk) with
      | false => simp
      | true =>
       simp only [Bool.not_true,cond_false,Bool.true_and]
       have hsh:=(ZGE hkd (by omega) hs).2
       rw [Zc (by omega),Xm,Nat.min_eq_left (by omega),Qi hsh,Zc (by simp only [List.length_singleton]; omega),Qk hi (by omega),hL _ (by simp; omega)]
       simp only [List.map_cons,List.append_assoc,List.singleton_append])
     k 0 [] rfl (by omega) (Nat.zero_le _)
    rw [List.drop_zero] at this
    refine Eq.trans this ?_
    split <;> simp
   ·rw [Zc hy,if_pos hy]
  ·rw [Zc he,if_pos he]
 ·rw [if_pos h,Wp (by omega)]
  rfl
end Go.Sh
namespace Go.Sh
open Go Go.Proofs
def Ku (x:Nat):Nat:=if x < 128 then 0 else if x < 192 then 1 else if x < 224 then 2 else if x < 240 then 3 else if x < 248 then 4 else if x < 252 then 5 else if x < 254 then 6 else if x < 255 then 7 else 8
theorem ZOB:∀ x:Fin 256,ZmI 0 (IntKind.u8.wrap (Int.ofNat (BitVec.ofInt 8 255 ^^^ BitVec.ofInt 8 (x.val:Int)).toNat),()) = some (((Ku x.val:Nat):Int),()):=by decide +kernel
theorem ZIg (k:Nat) {x:Nat} (h:x < 256):ZmI k (IntKind.u8.wrap (Int.ofNat (BitVec.ofInt 8 255 ^^^ BitVec.ofInt 8 (x:Int)).toNat),()) = some (((Ku x:Nat):Int),()):=ZOB ⟨x,h⟩
theorem ZGt (x:Nat):Ku x ≤ 8:=by
 unfold Ku
 repeat' split
 all_goals omega
theorem ZOp:∀ (x:Fin 256) (k:Fin 8),IntKind.i64.wrap (Int.ofNat (BitVec.ofInt 64 (IntKind.i64.wrap (x.val:Int)) &&& BitVec.ofInt 64 (Int.fdiv (127:Int) ((2:Int) ^ min k.val 64))).toNat) = ((x.val % 2 ^ (7 - k.val):Nat):Int):=by decide +kernel
def cgL:Nat → List Int → Nat → Nat → Option (Nat × Nat)
 | 0,_,a,g => some (a,g)
 | n + 1,[],a,g => cgL n [] (a * 64) (g * 64 + 63)
 | n + 1,x :: xs,a,g => if x.toNat / 64 = 2 then cgL n xs (a * 64 + x.toNat % 64) (g * 64 + x.toNat % 64) else none
def ZeC (b:List Int):Nat × Nat × Int:=match b with
 | [] => (0,0,10)
 | x :: xs => if Ku x.toNat = 0 then (x.toNat,1,0) else if Ku x.toNat = 1 then (0,0,2) else if 7 < Ku x.toNat then (0,0,2)
  else match cgL (Ku x.toNat - 1) xs (x.toNat % 2 ^ (7 - Ku x.toNat)) (x.toNat % 2 ^ (7 - Ku x.toNat)) with
   | none => (0,0,2)
   | some (a,g) => if g < 2 ^ Yf (Ku x.toNat - 1) then (0,0,2) else if xs.length + 1 < Ku x.toNat then (0,0,10) else (a,Ku x.toNat,0)
theorem ZSB {a m:Nat} (ha:a < 1125899906842624) (hm:m < 64):IntKind.i64.wrap (Int.ofNat (BitVec.ofInt 64 (IntKind.i64.wrap ((a:Int) * 64)) ||| BitVec.ofInt 64 (m:Int)).toNat) = ((a * 64 + m:Nat):Int):=by
 have h1:IntKind.i64.wrap ((a:Int) * 64) = ((a * 64:Nat):Int):=by rw [Qi (by omega)]; omega
 rw [h1,orN (by omega) (by omega)]
 have:=Nat.shiftLeft_add_eq_or_of_lt (i:=6) (show m < 2 ^ 6 from hm) a
 rw [Nat.shiftLeft_eq] at this
 rw [show a * 64 = a * 2 ^ 6 from rfl,← this,Qi (by omega)]
theorem ZWx {x:Nat} (hx:x < 256):IntKind.i64.wrap (Int.ofNat (BitVec.ofInt 64 (IntKind.i64.wrap (x:Int)) &&& BitVec.ofInt 64 63).toNat) = ((x % 64:Nat):Int):=by
 rw [Qi (n:=(x:Int)) (by omega),show (63:Int) = ((63:Nat):Int) from rfl,ZGN (by omega) (by omega),show (63:Nat) = 2 ^ 6 - 1 from rfl,Nat.and_two_pow_sub_one_eq_mod,Qi (by omega)]
theorem ZHH (k:Nat) {b:List Int} (hb:ZW b = true) {kk:Nat} (h2:2 ≤ kk) (h7:kk ≤ 7):∀ (d m i a g:Nat),i + d = kk → 1 ≤ i → d < m → a < 2 ^ (6 * i + 6) → g < 2 ^ (6 * i + 6) →
  Zn (fun L1 => Zct k L1) m ((i:Int),(kk:Int),b,(a:Int),(g:Int)) = some (match cgL d (b.drop i) a g with
   | none => (0,0,2,())
   | some (a,g) => if g < 2 ^ Yf (kk - 1) then (0,0,2,()) else if b.length < kk then (0,0,10,()) else ((a:Int),(kk:Int),0,()),()):=by
 intro d
 induction d with
 | zero =>
  intro m i a g hi h1 hm ha hg
  obtain ⟨m,rfl⟩:=ZC hm
  rw [Zg]
  simp only [Zct]
  have e1:IntKind.i64.wrap ((kk:Int) - 1) = ((kk - 1:Nat):Int):=by rw [Qi (by omega)]; omega
  rw [Zj (by omega),e1,Zsh k (kk - 1) (by omega)]
  simp only [Z1,cgL]
  have hr:Yf (kk - 1) ≤ 31:=by unfold Yf; split <;> omega
  rw [Zc (by omega),Zpq hr]
  by_cases hlt:g < 2 ^ Yf (kk - 1)
  ·rw [Zc (by omega),if_pos hlt]
  ·rw [Zj (by omega),if_neg hlt]
   by_cases hl:b.length < kk
   ·rw [Zc (by simp only [Qz]; omega),if_pos hl]
   ·rw [Zj (by simp only [Qz]; omega),if_neg hl]
 | succ d ih =>
  intro m i a g hi h1 hm ha hg
  obtain ⟨m,rfl⟩:=ZC (show 0 < m by omega)
  rw [Zg]
  simp only [Zct]
  have hpow:2 ^ (6 * i + 6) ≤ 2 ^ 42:=Nat.pow_le_pow_right (by omega) (by omega)
  have hnext:2 ^ (6 * (i + 1) + 6) = 64 * 2 ^ (6 * i + 6):=by rw [show 6 * (i + 1) + 6 = (6 * i + 6) + 6 by omega,Nat.pow_add]; omega
  have e2:IntKind.i64.wrap ((i:Int) + 1) = ((i + 1:Nat):Int):=by rw [Qi (by omega)]; rfl
  rw [Zc (by omega)]
  by_cases hlt:i < b.length
  ·obtain ⟨x,hx,hxe⟩:=ZaN hb hlt
   rw [Zc (by simp only [Qz]; omega),Zc (by simp only [Qz]; omega),Xm,Q3 hlt,hxe,List.drop_eq_getElem_cons hlt,hxe]
   have hd:((x:Nat):Int).fdiv 64 = ((x / 64:Nat):Int):=by rw [Int.fdiv_eq_ediv_of_nonneg _ (by omega)]; rfl
   rw [hd,ZI]
   simp only [cgL,Xm]
   by_cases h64:x / 64 = 2
   ·rw [Zj (by omega),if_pos h64,Zc (by simp only [Qz]; omega),ZWx hx,ZSB (by omega) (by omega),ZSB (by omega) (by omega),e2]
    exact ih m (i + 1) _ _ (by omega) (by omega) (by omega) (by omega) (by omega)
   ·rw [Zc (by omega),if_neg h64]
  ·rw [Zj (by simp only [Qz]; omega),show (0:Int) = ((0:Nat):Int) from rfl,show (63:Int) = ((63:Nat):Int) from rfl,ZSB (by omega) (by omega),ZSB (by omega) (by omega),e2]
   have hd0:b.drop i = []:=List.drop_eq_nil_of_le (by omega)
   have hd1:b.drop (i + 1) = []:=List.drop_eq_nil_of_le (by omega)
   have:=ih m (i + 1) (a * 64 + 0) (g * 64 + 63) (by omega) (by omega) (by omega) (by omega) (by omega)
   rw [hd1] at this
   rw [hd0]
   exact this
theorem ZHI (k:Nat) {b:List Int} (hb:ZW b = true) (hk:20 < k):Zqi k (b,()) = some (((((ZeC b).1:Nat):Int),(((ZeC b).2.1:Nat):Int),(ZeC b).2.2,()),()):=by
 show ZgH k (ZoB k) _ = _
 simp only [ZgH]
 match b,hb with
 | [],_ => rfl
 | x :: xs,hb =>
  obtain ⟨y,hy,hye⟩:=ZaN hb (i:=0) (by simp)
  simp only [List.getElem_cons_zero] at hye
  subst hye
  rw [show (Int.ofNat ((y:Int) :: xs).length == (0:Int)) = false from by rw [ZL,Wp]; simp only [Qz,List.length_cons]; omega]
  simp only [cond_false]
  have hpos:(0:Int) ≤ 0 ∧ (0:Int) < Int.ofNat ((y:Int) :: xs).length:=by simp only [Qz,List.length_cons]; omega
  rw [Zc hpos,show ((y:Int) :: xs).getD 0 0 = (y:Int) from rfl,ZIg k hy]
  simp only [Z1]
  unfold ZeC
  simp only [Xm]
  have h8:=ZGt y
  rw [ZL]
  by_cases h0:Ku y = 0
  ·rw [Zc (by omega),Zc hpos,if_pos h0,Qi (by omega)]
   rfl
  ·rw [Zj (by omega),if_neg h0,ZL]
   by_cases h1:Ku y = 1
   ·rw [Zc (by omega),if_pos h1]
    rfl
   ·rw [Zj (by omega),if_neg h1]
    by_cases h7:7 < Ku y
    ·rw [Zc (by omega),if_pos h7]
     rfl
    ·rw [Zj (by omega),if_neg h7,Zc hpos,Zc (by omega),Zc hpos,Zc (by omega)]
     have hm:=ZOp ⟨y,hy⟩ ⟨Ku y,by omega⟩
     simp only at hm
     rw [hm]
     have hlt:y % 2 ^ (7 - Ku y) < 2 ^ (6 * 1 + 6):=Nat.lt_of_le_of_lt (Nat.mod_le _ _) (by omega)
     refine (ZHH k hb (kk:=Ku y) (by omega) (by omega) (Ku y - 1) k 1 _ _ (by omega) (by omega) (by omega) hlt hlt).trans ?_
     rw [show ((y:Int) :: xs).drop 1 = xs from rfl]
     cases cgL (Ku y - 1) xs (y % 2 ^ (7 - Ku y)) (y % 2 ^ (7 - Ku y)) with
     | none => rfl
     | some ag =>
      obtain ⟨a,g⟩:=ag
      simp only [List.length_cons]
      by_cases hg:g < 2 ^ Yf (Ku y - 1)
      ·rw [if_pos hg,if_pos hg]; rfl
      ·rw [if_neg hg,if_neg hg]
       by_cases hl:xs.length + 1 < Ku y
       ·rw [if_pos hl,if_pos hl]; rfl
       ·rw [if_neg hl,if_neg hl]
def tgL (m x y:Int):Int:=if m = 9 then x + y else if m = 10 then (2 * x + y % 2 + y) / 2 else x
def tgR (m x y:Int):Int:=if m = 8 then x - y else if m = 10 then (2 * x + y % 2 - y) / 2 else y
theorem ZV2 {x y:Int} (hx:Qx x) (hy:Qx y):IntKind.i64.wrap (Int.ofNat (BitVec.ofInt 64 (IntKind.i64.wrap (x * 2)) ||| BitVec.ofInt 64 (IntKind.i64.wrap (Int.ofNat (BitVec.ofInt 64 y &&& BitVec.ofInt 64 1).toNat))).toNat) = 2 * x + y % 2:=by
 unfold Qx at hx hy
 have e1:IntKind.i64.wrap (Int.ofNat (BitVec.ofInt 64 y &&& BitVec.ofInt 64 1).toNat) = (((y % 2).toNat:Nat):Int):=by
  rw [BitVec.toNat_and,K9,show (BitVec.ofInt 64 1).toNat = 1 from rfl,Nat.and_one_is_mod]
  have:Zax y % 2 = (y % 2).toNat:=by unfold Zax; omega
  rw [this,Qi (by simp only [Qz]; omega)]
  rfl
 rw [e1,Qi (n:=x * 2) (by omega),BitVec.toNat_or,K9,K9]
 have e2:Zax (((y % 2).toNat:Nat):Int) = (y % 2).toNat:=by unfold Zax; omega
 obtain ⟨q,hq⟩:∃ q,Zax (x * 2) = q * 2:=⟨Zax (x * 2) / 2,by unfold Zax; omega⟩
 have hb:(y % 2).toNat < 2 ^ 1:=by omega
 have:=Nat.shiftLeft_add_eq_or_of_lt hb q
 rw [Nat.shiftLeft_eq] at this
 rw [e2,hq,show q * 2 = q * 2 ^ 1 from rfl,← this]
 have h3:q * 2 = Zax (x * 2):=hq.symm
 unfold Zax at h3
 rw [IntKind.wrap_i64]
 simp only [Qz]
 omega
def ZhT (m:Int) (A B:List Int):List Int:=(A.zip B).map fun x => tgL m x.1 x.2
def ZhU (m:Int) (A B:List Int):List Int:=(A.zip B).map fun x => tgR m x.1 x.2
def YU (x:Int):Bool:=decide (-16777216 ≤ x ∧ x ≤ 16777216)
theorem ZR1 (k:Nat) {L R:List Int} (hk:L.length < k) (h:L.length = R.length) (hn:L.length ≤ 8192) :
  Zr9 k (L,R,()) = some (if (L.zip R).all (fun x => YU x.1 && YU x.2) = true then (ZfS L R,0,()) else ([],12,()),()):=by
 show ZcZ k (Zsa k) _ = _
 simp only [ZcZ]
 rw [show (Int.ofNat L.length != Int.ofNat R.length) = false from by rw [h]; simp]
 simp only [cond_false]
 rw [Zj (by simp only [Qz]; omega)]
 have:=Zw (A:=List (Nat × Nat)) (step:=fun L1 => K1 k L1) (fun i acc => (Int.ofNat L.length,Int.ofNat i,L,R,acc)) (L.zip R)
  (fun l acc => some (if l.all (fun x => YU x.1 && YU x.2) = true then (acc ++ l.map (fun x => (FloatKind.f64.nearest x.1,FloatKind.f64.nearest x.2)),0,()) else ([],12,()),())) (fun i acc => acc.length = i)
  (fun L1 acc ha => by
   simp only [K1]
   rw [List.length_zip,← h,Nat.min_self,Zj (QW _)]
   simp)
  (fun L1 i hi acc ha hL1 => by
   have hi2:i < L.length:=by simp at hi; omega
   have hi3:i < R.length:=by omega
   simp only [K1]
   rw [Zc (K7 hi2),Zc (XW hi2),Zc (XW hi3),ZK hi2,ZK hi3,List.all_cons,List.getElem_zip]
   have hok:∀ x:Int,YU x = true ↔ (¬ x < -16777216 ∧ ¬ 16777216 < x):=by intro x; unfold YU; rw [decide_eq_true_eq]; omega
   by_cases h1:L[i] < -16777216
   ·have:YU L[i] = false:=by rw [Bool.eq_false_iff]; intro hh; exact ((hok _).1 hh).1 h1
    rw [Zc h1,this]; rfl
   ·rw [Zj h1]
    by_cases h2:16777216 < L[i]
    ·have:YU L[i] = false:=by rw [Bool.eq_false_iff]; intro hh; exact ((hok _).1 hh).2 h2
     rw [Zc h2,this]; rfl
    ·have hl:YU L[i] = true:=(hok _).2 ⟨h1,h2⟩
     rw [Zj h2]
     by_cases h3:R[i] < -16777216
     ·have:YU R[i] = false:=by rw [Bool.eq_false_iff]; intro hh; exact ((hok _).1 hh).1 h3
      rw [Zc h3,hl,this]; rfl
     ·rw [Zj h3]
      by_cases h4:16777216 < R[i]
      ·have:YU R[i] = false:=by rw [Bool.eq_false_iff]; intro hh; exact ((hok _).1 hh).2 h4
       rw [Zc h4,hl,this]; rfl
      ·have hr:YU R[i] = true:=(hok _).2 ⟨h3,h4⟩
       rw [Zj h4,Zc (by simp; omega),Qk hi2 (by omega),hL1 _ (by simp [ha]),hl,hr]
       simp only [Bool.true_and,Bool.and_true,List.map_cons,List.append_assoc,List.singleton_append]) k 0 [] rfl (by simp; omega) (Nat.zero_le _)
 exact Eq.trans this (by rw [List.drop_zero]; rfl)
theorem ZO5 {m x y:Int} (hm:Zlz m) (hx:Qx x) (hy:Qx y) : -300000000 ≤ tgL m x y ∧ tgL m x y ≤ 300000000 ∧ -300000000 ≤ tgR m x y ∧ tgR m x y ≤ 300000000:=by
 unfold Qx at hx hy
 unfold tgL tgR
 rcases hm with rfl | rfl | rfl | rfl
 ·simp; omega
 ·simp; omega
 ·simp; omega
 ·simp; omega
def Q4 (m:Int) (A B:List Int):List (Nat × Nat) × Int :=
 if A.length ≠ B.length then ([],1) else if ((ZhT m A B).zip (ZhU m A B)).all (fun x => YU x.1 && YU x.2) = true then (ZfS (ZhT m A B) (ZhU m A B),0) else ([],12)
theorem ZBy {xs:List Int} {g:List Int} {i:Nat} {v:Int} (h:i < xs.length) (hx:∀ j (h:j < i),xs[j]? = g[j]?) (hv:g[i]? = some v):∀ j,j < i + 1 → (xs.set i v)[j]? = g[j]? := by
 intro j hj
 rw [List.getElem?_set]
 split
 ·rename_i e; subst e; rw [hv]; try rw [if_pos h]
 ·exact hx j (by omega)
theorem ZNu (k:Nat) {A B:List Int} {m:Int} (hm:Zlz m) (hn:A.length ≤ 600) (hk:1000 < k) (hA:∀ x ∈ A,Qx x) (hB:∀ x ∈ B,Qx x) :
  Zr6 k (A,B,m,()) = some (((Q4 m A B).1,(Q4 m A B).2,()),()):=by
 show Zk1 k (ZxI k) _ = _
 simp only [Zk1]
 rw [ZAU k hm]
 simp only [Z1,Bool.not_true,cond_false]
 by_cases hl:A.length = B.length
 case neg =>
  rw [ZI,Zc (by simp only [Qz]; omega)]
  unfold Q4
  rw [if_pos hl]
 rw [show (Int.ofNat A.length != Int.ofNat B.length) = false from by rw [hl]; simp]
 simp only [cond_false]
 rw [Zj (by simp only [Qz]; omega),Zc (by simp only [Qz]; omega),Zc (by simp only [Qz]; omega)]
 have hzl:(A.zip B).length = A.length:=by rw [List.length_zip]; omega
 have hLl:(ZhT m A B).length = A.length:=by unfold ZhT; rw [List.length_map,hzl]
 have hRl:(ZhU m A B).length = A.length:=by unfold ZhU; rw [List.length_map,hzl]
 have hgL:∀ (i:Nat) (h:i < A.length),(ZhT m A B)[i]? = some (tgL m A[i] (B[i]'(by omega))):=by
  intro i h
  rw [List.getElem?_eq_getElem (by omega)]
  unfold ZhT
  rw [List.getElem_map,List.getElem_zip]
 have hgR:∀ (i:Nat) (h:i < A.length),(ZhU m A B)[i]? = some (tgR m A[i] (B[i]'(by omega))):=by
  intro i h
  rw [List.getElem?_eq_getElem (by omega)]
  unfold ZhU
  rw [List.getElem_map,List.getElem_zip]
 have:=Zw (A:=List Int × List Int) (R:=(List (Nat × Nat) × Int × Unit) × Unit) (step:=fun L1 => ZcY k L1)
  (fun i a => (Int.ofNat A.length,Int.ofNat i,A,B,m,a.1,a.2)) A
  (fun l' a => some (((Q4 m A B).1,(Q4 m A B).2,()),()))
  (fun i a => a.1.length = A.length ∧ a.2.length = A.length ∧ (∀ j,j < i → a.1[j]? = (ZhT m A B)[j]?) ∧ (∀ j,j < i → a.2[j]? = (ZhU m A B)[j]?))
  (fun L a ha => by
   simp only [ZcY]
   rw [Zj (QW _)]
   have e1:a.1 = ZhT m A B:=by
    apply List.ext_getElem?
    intro j
    by_cases hj:j < A.length
    ·exact ha.2.2.1 j hj
    ·rw [List.getElem?_eq_none (by omega),List.getElem?_eq_none (by omega)]
   have e2:a.2 = ZhU m A B:=by
    apply List.ext_getElem?
    intro j
    by_cases hj:j < A.length
    ·exact ha.2.2.2 j hj
    ·rw [List.getElem?_eq_none (by omega),List.getElem?_eq_none (by omega)]
   rw [e1,e2,ZR1 k (by omega) (by omega) (by omega)]
   simp only [Z1]
   unfold Q4
   rw [if_neg (show ¬ A.length ≠ B.length from fun h => h hl)]
   split <;> rfl)
  (fun L i hi a ha hL => by
   have hi2:i < B.length:=by omega
   have hx:=hA A[i] (List.getElem_mem hi)
   have hy:=hB B[i] (List.getElem_mem hi2)
   have hbd:=ZO5 hm hx hy
   have key:ZcY k L (Int.ofNat A.length,Int.ofNat i,A,B,m,a.1,a.2) = L (Int.ofNat A.length,Int.ofNat (i + 1),A,B,m,a.1.set i (tgL m A[i] B[i]),a.2.set i (tgR m A[i] B[i])):=by
    have hor:=ZV2 hx hy
    unfold Qx at hx hy
    simp only [ZcY]
    rw [Zc (K7 hi),Zc (XW hi),Zc (XW hi2),ZK hi,ZK hi2,Zj (by split <;> omega),Zj (by split <;> omega)]
    have c1:(0:Int) ≤ Int.ofNat i ∧ Int.ofNat i < Int.ofNat a.1.length:=by rw [ha.1]; exact XW hi
    have c2:(0:Int) ≤ Int.ofNat i ∧ Int.ofNat i < Int.ofNat a.2.length:=by rw [ha.2.1]; exact XW hi
    have c3:(Int.ofNat i).toNat < a.1.length:=by rw [ha.1]; simpa using hi
    have c4:(Int.ofNat i).toNat < a.2.length:=by rw [ha.2.1]; simpa using hi
    rw [ZL,ZL,ZL,ZL]
    simp only [Xe c1,Xe c2,Xe c3,Xe c4,cond_true]
    rw [hor,Qk hi (by omega)]
    unfold tgL tgR
    rcases hm with rfl | rfl | rfl | rfl
    ·rfl
    ·rw [Qi (n:=A[i] - B[i]) (by omega)]; rfl
    ·rw [Qi (n:=A[i] + B[i]) (by omega)]; rfl
    ·rw [Qi (n:=2 * A[i] + B[i] % 2 + B[i]) (by omega),Qi (n:=2 * A[i] + B[i] % 2 - B[i]) (by omega),Int.fdiv_eq_ediv_of_nonneg _ (by omega),Int.fdiv_eq_ediv_of_nonneg _ (by omega)]
     rfl
   rw [key]
   exact hL (a.1.set i (tgL m A[i] B[i]),a.2.set i (tgR m A[i] B[i])) ⟨by simp [ha.1],by simp [ha.2.1],ZBy (by omega) ha.2.2.1 (hgL i hi),ZBy (by omega) ha.2.2.2 (hgR i hi)⟩)
  k 0 (List.replicate A.length 0,List.replicate A.length 0) ⟨by simp,by simp,fun j hj => by omega,fun j hj => by omega⟩ (by omega) (Nat.zero_le _)
 exact this
theorem ZNv (k:Nat) {p:List (Nat × Nat)} {L R:List Int} (hp:PP p L R) (hk:p.length + 4 < k) (hn:p.length ≤ 8192):Zr8 k (p,()) = some ((L,R,0,()),()):=by
 show Zk2 k _ = _
 simp only [Zk2]
 rw [Zsd k hp hk hn (.inl rfl)]
 have hlr:L.length = R.length:=by rw [← hp.hl,hp.hr]
 have e1:WT 0 L R = L:=by
  unfold WT
  show (L.zip R).map (fun x => x.1) = L
  exact List.map_fst_zip (by omega)
 have e2:WU 0 L R = R:=by
  unfold WU
  show (L.zip R).map (fun x => x.2) = R
  exact List.map_snd_zip (by omega)
 rw [e1,e2]
 rfl
end Go.Sh
namespace Go.Sh
open Go Go.Proofs
abbrev InT:=List Int × (List Int × Int × Unit) × Int × Unit
abbrev inp (b:List Int) (s:IS):InT:=(b,KK b s.1,s.2,())
theorem X5 (k:Nat) {b:List Int} (hb:ZW b = true) (hn:b.length < 268435456) (hk:100 < k) {s:IS} (hs:Zo b s.1) {w:Nat} (hw:w ≤ 32) :
  Wy k (inp b s,(w:Int),()) = some ((((gI w s).1:Nat):Int),inp b (gI w s).2,()):=by
 show Zlk k _ = _
 simp only [Zlk]
 unfold gI
 rw [ZL]
 by_cases h:s.2 = 0
 ·rw [Zc h,if_pos h,YE k hb (by omega) hs hw hk]
  rfl
 ·rw [Zj h,if_neg h]
  rfl
theorem Wx (k:Nat) {b:List Int} {s:IS} (ok:Bool) (code:Int):Q8 k (inp b s,ok,code,()) = some ((),inp b (mI ok s code),()):=by
 show Zlj k _ = _
 simp only [Zlj]
 unfold mI
 rw [ZL]
 by_cases h:s.2 = 0
 ·rw [Zc h]
  cases ok with
  | false => rw [if_pos ⟨h,rfl⟩]; rfl
  | true => rw [if_neg (by simp)]; rfl
 ·rw [Zj h,if_neg (fun hh => h hh.1)]
def Zeu (c:Int) (m:Nat):Bool:=if c = 1 then m == 0 else m == 1 || (decide (8 ≤ m) && decide (m ≤ 10))
theorem ZNW (k:Nat) (c d r:Int) (m:Nat):Zsj k ((c,d,r,()),(m:Int),()) = some (Zeu c m,()):=by
 show Zll k _ = _
 simp only [Zll]
 unfold Zeu
 rw [ZL,show ((m:Int) == (0:Int)) = (m == 0) from Wt m 0,show ((m:Int) == (1:Int)) = (m == 1) from Wt m 1]
 by_cases h:c = 1
 ·rw [Zc h,if_pos h]
 ·rw [Zj h,if_neg h]
  cases m == 1 with
  | true => rfl
  | false =>
   simp only [cond_false,Bool.false_or]
   by_cases h8:8 ≤ m
   ·rw [Zc (by omega),Xe h8,Bool.true_and]
    by_cases h10:m ≤ 10
    ·rw [Xe h10,Xe (by omega)]
    ·rw [Wp h10,Wp (by omega)]
   ·rw [Zj (by omega),Wp h8,Bool.false_and]
def ZvT:Nat → IS → IS
 | 0,s => s
 | n + 1,s => ZvT n (gI 8 s).2
theorem Ztb {b:List Int}:∀ (n:Nat) (s:IS),Zo b s.1 → Zo b (ZvT n s).1
 | 0,s,h => h
 | n + 1,s,h => Ztb n _ (QJ h 8)
def ZlE (b:List Int) (s:IS):Nat × IS :=
 if s.2 ≠ 0 then (0,s) else ((ZeC (b.drop (ZV b s.1 / 8))).1,mI (decide ((ZeC (b.drop (ZV b s.1 / 8))).1 ≤ 2147483647)) (ZvT (ZeC (b.drop (ZV b s.1 / 8))).2.1 (s.1,(ZeC (b.drop (ZV b s.1 / 8))).2.2)) 2)
theorem ZvB {b:List Int} {s:IS} (h:Zo b s.1):Zo b (ZlE b s).2.1:=by
 unfold ZlE
 split
 ·exact h
 ·exact QE (Ztb (ZeC (b.drop (ZV b s.1 / 8))).2.1 (s.1,(ZeC (b.drop (ZV b s.1 / 8))).2.2) h) _ _
theorem Zzg {b:List Int} (h:ZW b = true) (i:Nat):ZW (b.drop i) = true :=
 List.all_eq_true.2 fun x hx => List.all_eq_true.1 h x (List.mem_of_mem_drop hx)
theorem ZnB {b:List Int} (h:ZW b = true) (i:Nat):ZW (b.take i) = true :=
 List.all_eq_true.2 fun x hx => List.all_eq_true.1 h x (List.mem_of_mem_take hx)
theorem ZJa (b:List Int):(ZeC b).2.1 ≤ 8:=by
 unfold ZeC
 split
 ·simp
 ·rename_i x xs
  have:=ZGt x.toNat
  repeat' split
  all_goals simp
  all_goals omega
theorem ZNZ (k:Nat) {b:List Int} (hb:ZW b = true) (hn:b.length < 268435456) (hk:1000 < k) {s:IS} (hs:Zo b s.1) :
  Zlm k (inp b s,()) = some ((((ZlE b s).1:Nat):Int),inp b (ZlE b s).2,()):=by
 show Zln k (Zya k) _ = _
 simp only [Zln]
 unfold ZlE
 rw [ZI]
 by_cases h:s.2 = 0
 ·rw [Zj (by simpa using h),if_neg (by simpa using h)]
  have e51:K0 k ((b,((ZV b s.1:Nat):Int),()),()) = some (((ZV b s.1:Nat):Int),KK b s.1,()):=rfl
  rw [e51]
  simp only [Z1]
  have hp:ZV b s.1 ≤ 8 * b.length:=by unfold ZV; omega
  rw [ZvY,Qi (n:=((ZV b s.1 / 8:Nat):Int)) (by omega),Zc (by simp only [Qz]; omega),Xm,show (Int.ofNat b.length).toNat = b.length from rfl,List.take_length]
  rw [ZHI k (Zzg hb _) (by omega)]
  simp only [Z1]
  have hu:=ZJa (b.drop (ZV b s.1 / 8))
  generalize ZeC (b.drop (ZV b s.1 / 8)) = c at hu
  have H:∀ (d m i:Nat) (t:IS),Zo b t.1 → d < m → i + d ≤ 8 →
    Zn (fun L1 => ZfF k L1) m (((i + d:Nat):Int),(i:Int),((c.1:Nat):Int),b,t.2,b,((ZV b t.1:Nat):Int)) = some (((c.1:Nat):Int),inp b (mI (decide (c.1 ≤ 2147483647)) (ZvT d t) 2),()):=by
   intro d
   induction d with
   | zero =>
    intro m i t ht hm hi
    obtain ⟨m,rfl⟩:=ZC hm
    rw [Zg]
    simp only [ZfF]
    rw [Zj (by omega)]
    refine (Zm (Wx k (b:=b) (s:=t) _ _) _).trans ?_
    have:decide (((c.1:Nat):Int) ≤ 2147483647) = decide (c.1 ≤ 2147483647):=by
     by_cases h:c.1 ≤ 2147483647
     ·rw [Xe h,Xe (by omega)]
     ·rw [Wp h,Wp (by omega)]
    rw [this]
    rfl
   | succ d ih =>
    intro m i t ht hm hi
    obtain ⟨m,rfl⟩:=ZC (show 0 < m by omega)
    rw [Zg]
    simp only [ZfF]
    rw [Zc (by omega)]
    refine (Zm (X5 k hb hn (by omega) ht (w:=8) (by omega)) _).trans ?_
    have e2:IntKind.i64.wrap ((i:Int) + 1) = ((i + 1:Nat):Int):=by rw [Qi (by omega)]; rfl
    rw [e2]
    have:=ih m (i + 1) (gI 8 t).2 (QJ ht 8) (by omega) (by omega)
    rw [show i + 1 + d = i + (d + 1) by omega] at this
    exact this
  have:=H c.2.1 k 0 (s.1,c.2.2) hs (by omega) (by omega)
  rw [Nat.zero_add] at this
  exact this
 ·rw [Zc h,if_pos h]
  rfl
def ZhS (of:List Int → Nat) (b:List Int) (w:Nat) (s:IS):IS:=if (gI w s).2.2 ≠ 0 then (gI w s).2 else mI ((gI w s).1 == of (b.take (ZV b s.1 / 8))) (gI w s).2 16
theorem ZJF {of:List Int → Nat} {b:List Int} {s:IS} (h:Zo b s.1) (w:Nat):Zo b (ZhS of b w s).1:=by
 unfold ZhS
 split
 ·exact QJ h _
 ·exact QE (QJ h _) _ _
theorem XO (s:IS) (code:Int):mI true s code = s:=by unfold mI; rw [if_neg (by simp)]
theorem ZAD (k:Nat) {b:List Int} (hb:ZW b = true) (hn:b.length < 268435456) (hk:b.length + 1000 < k) {s:IS} (hs:Zo b s.1) {w:Nat} (hw:w ≤ 32) :
  Zh0 k (inp b s,(w:Int),(),()) = some ((),inp b (ZhS ZhO b w s),()):=by
 show Zk0 k _ = _
 simp only [Zk0]
 have e51:K0 k ((b,((ZV b s.1:Nat):Int),()),()) = some (((ZV b s.1:Nat):Int),KK b s.1,()):=rfl
 rw [e51]
 simp only [Z1]
 refine (Zm (X5 k hb hn (by omega) hs hw) _).trans ?_
 unfold ZhS
 simp only
 rw [ZI]
 by_cases h:(gI w s).2.2 = 0
 ·rw [Zj (by simpa using h),if_neg (by simpa using h)]
  have hp:ZV b s.1 ≤ 8 * b.length:=by unfold ZV; omega
  rw [ZvY,Qi (n:=((ZV b s.1 / 8:Nat):Int)) (by omega),Zc (by simp only [Qz]; omega),Xm,List.drop_zero]
  have htl:(b.take (ZV b s.1 / 8)).length ≤ b.length:=by rw [List.length_take]; omega
  refine (Zm (ZAt k (b.take (ZV b s.1 / 8)) (ZnB hb _) (by omega) (by omega)) _).trans ?_
  simp only
  rw [Wt]
  exact Zm (Wx k (b:=b) (s:=(gI w s).2) _ _) _
 ·rw [Zc h,if_pos h]
  refine (Zm (Wx k (b:=b) (s:=(gI w s).2) _ _) _).trans ?_
  rw [XO]
theorem ZCE (k:Nat) {b:List Int} (hb:ZW b = true) (hn:b.length < 268435456) (hk:b.length + 1000 < k) {s:IS} (hs:Zo b s.1) {w:Nat} (hw:w ≤ 32) :
  Zjv k (inp b s,(w:Int),(),()) = some ((),inp b (ZhS Zcj b w s),()):=by
 show Zdu k _ = _
 simp only [Zdu]
 have e51:K0 k ((b,((ZV b s.1:Nat):Int),()),()) = some (((ZV b s.1:Nat):Int),KK b s.1,()):=rfl
 rw [e51]
 simp only [Z1]
 refine (Zm (X5 k hb hn (by omega) hs hw) _).trans ?_
 unfold ZhS
 simp only
 rw [ZI]
 by_cases h:(gI w s).2.2 = 0
 ·rw [Zj (by simpa using h),if_neg (by simpa using h)]
  have hp:ZV b s.1 ≤ 8 * b.length:=by unfold ZV; omega
  rw [ZvY,Qi (n:=((ZV b s.1 / 8:Nat):Int)) (by omega),Zc (by simp only [Qz]; omega),Xm,List.drop_zero]
  have htl:(b.take (ZV b s.1 / 8)).length ≤ b.length:=by rw [List.length_take]; omega
  refine (Zm (ZAx k (b.take (ZV b s.1 / 8)) (ZnB hb _) (by omega) (by omega)) _).trans ?_
  simp only
  rw [Wt]
  exact Zm (Wx k (b:=b) (s:=(gI w s).2) _ _) _
 ·rw [Zc h,if_pos h]
  refine (Zm (Wx k (b:=b) (s:=(gI w s).2) _ _) _).trans ?_
  rw [XO]
def hd1 (s:IS):IS:=mI ((gI 15 s).1 == 32764) (gI 15 s).2 11
def hd2 (s:IS):IS:=mI ((gI 1 s).1 == 0) (gI 1 s).2 2
def hd3 (s:IS):Nat × IS:=((gI 4 s).1,mI ((gI 4 s).1 == 6 || (gI 4 s).1 == 7) (gI 4 s).2 2)
def hd4 (s:IS):IS:=mI ((gI 4 s).1 == 0) (gI 4 s).2 2
def hd5 (c:Int) (s:IS):Nat × IS:=((gI 4 s).1,mI (Zeu c (gI 4 s).1) (gI 4 s).2 2)
def hd6 (kind:Nat) (s:IS):Nat × IS:=if s.2 = 0 then ((gI (8 * (kind - 5)) s).1 + 1,mI (decide ((gI (8 * (kind - 5)) s).1 + 1 ≤ 512)) (gI (8 * (kind - 5)) s).2 1) else (0,s)
abbrev HdT:=Nat × Nat × Nat × IS
def Zyi (b:List Int) (kind mode num:Nat) (s:IS):HdT:=(mode,num,(hd6 kind s).1,ZhS ZhO b 8 (hd6 kind s).2)
def ZOh (b:List Int) (kind mode:Nat) (s:IS):HdT:=Zyi b kind mode (ZlE b s).1 (ZlE b s).2
def ZOg (c:Int) (b:List Int) (kind:Nat) (s:IS):HdT:=ZOh b kind (hd5 c s).1 (hd4 (hd5 c s).2)
def Zyh (c:Int) (b:List Int) (kind:Nat) (s:IS):HdT:=ZOg c b kind (hd4 s)
def ZbN (c:Int) (b:List Int) (s:IS):HdT:=Zyh c b (hd3 (hd2 (hd1 s))).1 (hd3 (hd2 (hd1 s))).2
abbrev ZWs:=(Int × Int × Int × Unit) × InT × Unit
def ZxB (k:Nat) (kind mode num:Int) (w:InT):Option ZWs :=
 bif w.2.2.1 == (0:Int) then (Wy k (w,IntKind.i64.wrap ((8:Int) * IntKind.i64.wrap (IntKind.i64.wrap (kind - (6:Int)) + (1:Int))),())).bind fun y => (Q8 k (y.2.1,decide (IntKind.i64.wrap (y.1 + (1:Int)) ≤ (512:Int)),1,())).bind fun y_10 => (Zh0 k (y_10.2.1,8,(),())).bind fun y_11 => some ((mode,num,IntKind.i64.wrap (y.1 + (1:Int)),()),y_11.2.1,())
 else (Q8 k (w,decide ((0:Int) ≤ (512:Int)),1,())).bind fun y => (Zh0 k (y.2.1,8,(),())).bind fun y => some ((mode,num,0,()),y.2.1,())
def ZxA (k:Nat) (sh:Int × Int × Int × Unit) (kind:Int) (w:InT):Option ZWs :=
 (Wy k (w,4,())).bind fun y_2 => (Q8 k (y_2.2.1,y_2.1 == (0:Int),2,())).bind fun y_3 => (Wy k (y_3.2.1,4,())).bind fun y_4 => (Zsj k (sh,y_4.1,())).bind fun y_5 => (Q8 k (y_4.2.1,y_5.1,2,())).bind fun y_6 => (Wy k (y_6.2.1,4,())).bind fun y_7 => (Q8 k (y_7.2.1,y_7.1 == (0:Int),2,())).bind fun y_8 => (Zlm k (y_8.2.1,())).bind fun y_9 => ZxB k kind y_4.1 y_9.1 y_9.2.1
theorem ZIZ (k:Nat) (w:InT) (sh:Int × Int × Int × Unit):Zvc k (w,sh,()) =
  (Wy k (w,15,())).bind fun y => (Q8 k (y.2.1,y.1 == (32764:Int),11,())).bind fun y => (Wy k (y.2.1,1,())).bind fun y => (Q8 k (y.2.1,y.1 == (0:Int),2,())).bind fun y => (Wy k (y.2.1,4,())).bind fun y =>
   bif y.1 == (6:Int) then (Q8 k (y.2.1,true,2,())).bind fun y_1 => ZxA k sh y.1 y_1.2.1 else (Q8 k (y.2.1,y.1 == (7:Int),2,())).bind fun y_1 => ZxA k sh y.1 y_1.2.1:=rfl
theorem Zyg {w:Nat} {s:IS} (h:(gI w s).2.2 = 0):s.2 = 0:=by
 unfold gI at h
 split at h
 ·rename_i h0; exact h0
 ·exact h
theorem ZvC {b:List Int} {s:IS} (h:(ZlE b s).2.2 = 0):s.2 = 0:=by
 unfold ZlE at h
 split at h
 ·exact h
 ·rename_i h0; simpa using h0
theorem Zst {s:IS} (h:(hd4 s).2 = 0):s.2 = 0:=Zyg ((ZbQ (by decide)).1 h).1
theorem ZA5 {c:Int} {s:IS} (h:(hd5 c s).2.2 = 0):s.2 = 0 ∧ Zeu c (hd5 c s).1 = true:=⟨Zyg ((ZbQ (by decide)).1 h).1,((ZbQ (by decide)).1 h).2⟩
theorem ZOd {s:IS} (h:(hd3 s).2.2 = 0):(hd3 s).1 = 6 ∨ (hd3 s).1 = 7:=by
 have:=((ZbQ (by decide)).1 h).2
 show (gI 4 s).1 = 6 ∨ (gI 4 s).1 = 7
 simpa using this
theorem ZOf {b:List Int} {s:IS} (h:Zo b s.1) (kind:Nat):Zo b (hd6 kind s).2.1:=by
 unfold hd6
 split
 ·exact QE (QJ h _) _ _
 ·exact h
theorem ZAA (k:Nat) {b:List Int} (hb:ZW b = true) (hn:b.length < 268435456) (hk:b.length + 1000 < k) {s:IS} (hs:Zo b s.1) {kind:Nat} (hkind:s.2 = 0 → kind = 6 ∨ kind = 7) (mode num:Nat) :
  ZxB k (kind:Int) (mode:Int) (num:Int) (inp b s) = some (((((Zyi b kind mode num s).1:Nat):Int),(((Zyi b kind mode num s).2.1:Nat):Int),(((Zyi b kind mode num s).2.2.1:Nat):Int),()),inp b (Zyi b kind mode num s).2.2.2,()):=by
 unfold ZxB Zyi hd6
 rw [ZL]
 by_cases h:s.2 = 0
 ·rw [Zc h]
  simp only [if_pos h]
  have e1:IntKind.i64.wrap ((8:Int) * IntKind.i64.wrap (IntKind.i64.wrap ((kind:Int) - (6:Int)) + (1:Int))) = ((8 * (kind - 5):Nat):Int):=by
   rcases hkind h with rfl | rfl <;> rfl
  have hw:8 * (kind - 5) ≤ 32:=by rcases hkind h with rfl | rfl <;> omega
  rw [e1]
  refine (Zm (X5 k hb hn (by omega) hs hw) _).trans ?_
  have hlt:=ZXe (8 * (kind - 5)) s
  have r1:=QJ hs (8 * (kind - 5))
  have h32:2 ^ (8 * (kind - 5)) ≤ 2 ^ 32:=Nat.pow_le_pow_right (by omega) hw
  generalize gI (8 * (kind - 5)) s = x at hlt r1 ⊢
  have e2:IntKind.i64.wrap (((x.1:Nat):Int) + 1) = ((x.1 + 1:Nat):Int):=by rw [Qi (by omega)]; rfl
  have e3:decide (((x.1 + 1:Nat):Int) ≤ 512) = decide (x.1 + 1 ≤ 512):=by
   by_cases h:x.1 + 1 ≤ 512
   ·rw [Xe h,Xe (by omega)]
   ·rw [Wp h,Wp (by omega)]
  simp only
  rw [e2,e3]
  refine (Zm (Wx k (b:=b) (s:=x.2) _ _) _).trans ?_
  refine (Zm (ZAD k hb hn hk (QE r1 _ _) (w:=8) (by omega)) _).trans ?_
  rfl
 ·rw [Zj h]
  simp only [if_neg h]
  refine (Zm (Wx k (b:=b) (s:=s) _ _) _).trans ?_
  rw [show decide ((0:Int) ≤ 512) = true from rfl,XO]
  refine (Zm (ZAD k hb hn hk hs (w:=8) (by omega)) _).trans ?_
  rfl
theorem ZAz (k:Nat) {b:List Int} (hb:ZW b = true) (hn:b.length < 268435456) (hk:b.length + 1000 < k) {s:IS} (hs:Zo b s.1) {kind:Nat} (hkind:s.2 = 0 → kind = 6 ∨ kind = 7) (c d r:Int) :
  ZxA k (c,d,r,()) (kind:Int) (inp b s) = some (((((Zyh c b kind s).1:Nat):Int),(((Zyh c b kind s).2.1:Nat):Int),(((Zyh c b kind s).2.2.1:Nat):Int),()),inp b (Zyh c b kind s).2.2.2,()):=by
 unfold ZxA Zyh
 refine (Zm (X5 k hb hn (by omega) hs (w:=4) (by omega)) _).trans ?_
 refine (Zm (Wx k (b:=b) (s:=(gI 4 s).2) _ _) _).trans ?_
 rw [show ((((gI 4 s).1:Nat):Int) == (0:Int)) = ((gI 4 s).1 == 0) from Wt _ 0]
 have r1:Zo b (hd4 s).1:=QE (QJ hs _) _ _
 have k1:=fun h => hkind (Zst (s:=s) h)
 change ((Wy k (inp b (hd4 s),4,())).bind _) = _
 generalize hd4 s = s1 at r1 k1 ⊢
 unfold ZOg
 refine (Zm (X5 k hb hn (by omega) r1 (w:=4) (by omega)) _).trans ?_
 refine (Zm (ZNW k c d r (gI 4 s1).1) _).trans ?_
 refine (Zm (Wx k (b:=b) (s:=(gI 4 s1).2) _ _) _).trans ?_
 have r2:Zo b (hd5 c s1).2.1:=QE (QJ r1 _) _ _
 have k2:=fun h => k1 (ZA5 (c:=c) (s:=s1) h).1
 change ((Wy k (inp b (hd5 c s1).2,4,())).bind fun y_7 => (Q8 k (y_7.2.1,y_7.1 == (0:Int),2,())).bind fun y_8 => (Zlm k (y_8.2.1,())).bind fun y_9 => ZxB k (kind:Int) (((hd5 c s1).1:Nat):Int) y_9.1 y_9.2.1) = _
 generalize (hd5 c s1).1 = mode
 generalize (hd5 c s1).2 = s2 at r2 k2 ⊢
 refine (Zm (X5 k hb hn (by omega) r2 (w:=4) (by omega)) _).trans ?_
 refine (Zm (Wx k (b:=b) (s:=(gI 4 s2).2) _ _) _).trans ?_
 rw [show ((((gI 4 s2).1:Nat):Int) == (0:Int)) = ((gI 4 s2).1 == 0) from Wt _ 0]
 have r3:Zo b (hd4 s2).1:=QE (QJ r2 _) _ _
 have k3:=fun h => k2 (Zst (s:=s2) h)
 change ((Zlm k (inp b (hd4 s2),())).bind _) = _
 generalize hd4 s2 = s3 at r3 k3 ⊢
 unfold ZOh
 refine (Zm (ZNZ k hb hn (by omega) r3) _).trans ?_
 exact ZAA k hb hn hk (ZvB r3) (fun h => k3 (ZvC h)) mode (ZlE b s3).1
theorem ZNl (k:Nat) {b:List Int} (hb:ZW b = true) (hn:b.length < 268435456) (hk:b.length + 1000 < k) {s:IS} (hs:Zo b s.1) (c d r:Int) :
  Zvc k (inp b s,(c,d,r,()),()) = some (((((ZbN c b s).1:Nat):Int),(((ZbN c b s).2.1:Nat):Int),(((ZbN c b s).2.2.1:Nat):Int),()),inp b (ZbN c b s).2.2.2,()):=by
 rw [ZIZ]
 unfold ZbN
 refine (Zm (X5 k hb hn (by omega) hs (w:=15) (by omega)) _).trans ?_
 refine (Zm (Wx k (b:=b) (s:=(gI 15 s).2) _ _) _).trans ?_
 rw [show ((((gI 15 s).1:Nat):Int) == (32764:Int)) = ((gI 15 s).1 == 32764) from Wt _ 32764]
 have r1:Zo b (hd1 s).1:=QE (QJ hs _) _ _
 change ((Wy k (inp b (hd1 s),1,())).bind _) = _
 generalize hd1 s = s1 at r1 ⊢
 refine (Zm (X5 k hb hn (by omega) r1 (w:=1) (by omega)) _).trans ?_
 refine (Zm (Wx k (b:=b) (s:=(gI 1 s1).2) _ _) _).trans ?_
 rw [show ((((gI 1 s1).1:Nat):Int) == (0:Int)) = ((gI 1 s1).1 == 0) from Wt _ 0]
 have r2:Zo b (hd2 s1).1:=QE (QJ r1 _) _ _
 change ((Wy k (inp b (hd2 s1),4,())).bind _) = _
 generalize hd2 s1 = s2 at r2 ⊢
 refine (Zm (X5 k hb hn (by omega) r2 (w:=4) (by omega)) _).trans ?_
 simp only
 rw [show ((((gI 4 s2).1:Nat):Int) == (6:Int)) = ((gI 4 s2).1 == 6) from Wt _ 6,show ((((gI 4 s2).1:Nat):Int) == (7:Int)) = ((gI 4 s2).1 == 7) from Wt _ 7]
 have r3:Zo b (hd3 s2).2.1:=QE (QJ r2 _) _ _
 have fin:=ZAz k hb hn hk r3 (fun h => ZOd h) c d r
 unfold hd3 at fin ⊢
 cases h6:(gI 4 s2).1 == 6 with
 | true =>
  rw [h6] at fin
  simp only [cond_true]
  refine (Zm (Wx k (b:=b) (s:=(gI 4 s2).2) _ _) _).trans ?_
  exact fin
 | false =>
  rw [h6] at fin
  simp only [cond_false]
  refine (Zm (Wx k (b:=b) (s:=(gI 4 s2).2) _ _) _).trans ?_
  exact fin
end Go.Sh
