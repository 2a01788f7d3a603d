/-
  What the row needs, part 11.
-/
import Derived.Test.YtmeahimfdhdggaaGreatDoorXFrameReads10
import Derived.Lib.ItoaNum
set_option linter.unusedSimpArgs false
set_option linter.unusedVariables false
set_option linter.unusedSectionVars false
namespace Go.Sh
open Go Go.Proofs
def Qp (n:Int):Nat:=if n < 0 then (-2 * n - 1).toNat else (2 * n).toNat
theorem Zza {a:Int} {n:Int} (ha : -1152921504606846976 ≤ a ∧ a ≤ 1152921504606846976) (hn:(a < 0 ↔ n < 0)) (hn' : -1152921504606846976 ≤ n ∧ n ≤ 1152921504606846976) :
  IntKind.i64.wrap (Int.ofNat (BitVec.ofInt 64 a ^^^ BitVec.ofInt 64 (n.fdiv 9223372036854775808)).toNat) = if n < 0 then -a - 1 else a:=by
 by_cases h:n < 0
 ·have e1:n.fdiv 9223372036854775808 = -1:=by rw [Int.fdiv_eq_ediv_of_nonneg _ (by omega)]; omega
  rw [e1,if_pos h,show BitVec.ofInt 64 (-1) = BitVec.allOnes 64 from by decide,BitVec.xor_allOnes,BitVec.toNat_not,BitVec.toNat_ofInt]
  have:((a % ((2 ^ 64:Nat):Int)).toNat) = (a + 18446744073709551616).toNat:=by omega
  rw [this]
  have e2:Int.ofNat (2 ^ 64 - 1 - (a + 18446744073709551616).toNat) = -a - 1:=by simp only [Z8]; omega
  rw [e2,ZT (by omega)]
 ·have e1:n.fdiv 9223372036854775808 = 0:=by rw [Int.fdiv_eq_ediv_of_nonneg _ (by omega)]; omega
  rw [e1,if_neg h,show BitVec.ofInt 64 0 = 0#64 from rfl,BitVec.xor_zero,BitVec.toNat_ofInt]
  have:Int.ofNat ((a % ((2 ^ 64:Nat):Int)).toNat) = a:=by simp only [Z8]; omega
  rw [this,ZT (by omega)]
theorem Zrt (k:Nat) {n:Int} (h:ZV n):Zbj k (n,()) = some ((((Qp n:Nat):Int),0,()),()):=by
 show Zfm k _ = _
 simp only [Zfm]
 unfold ZV at h
 rw [Ze (by omega),Ze (by omega),ZT (n:=n * 2) (by omega),Zza (by omega) (by omega) (by omega)]
 unfold Qp
 congr 3
 split <;> omega
theorem ZpD {n:Int} (h:ZV n):Qp n < 4294967296:=by
 unfold ZV at h
 unfold Qp
 split <;> omega
def Yi (n:Int):Nat:=Lib.bitLen (if n < 0 then (-n - 1).toNat else n.toNat) + 1
theorem ZnE {n:Int} (h:ZV n):Yi n ≤ 32:=by
 unfold ZV at h
 unfold Yi
 have:=Lib.bitLen_le (if n < 0 then (-n - 1).toNat else n.toNat) 31 (by omega) (by split <;> omega)
 omega
theorem ZDe {n:Int} (h:ZV n) {w:Nat} (hw:Yi n ≤ w):W6 n w = true:=by
 unfold Yi at hw
 unfold W6
 unfold ZV at h
 rw [if_neg (by omega),decide_eq_true_eq]
 generalize hm:(if n < 0 then (-n - 1).toNat else n.toNat) = m at hw
 have hm':m < 2 ^ 64:=by rw [← hm]; split <;> omega
 have hlt:m < 2 ^ (w - 1):=by
  by_cases h0:m = 0
  ·rw [h0]; exact Nat.pow_pos (by omega)
  ·have:=(Lib.bitLenAux_bounds 64 m hm' h0).2.2
   exact Nat.lt_of_lt_of_le this (Nat.pow_le_pow_right (by omega) (by unfold Lib.bitLen at hw; omega))
 have hlt':(m:Int) < 2 ^ (w - 1):=by
  have:((2:Int) ^ (w - 1)) = ((2 ^ (w - 1):Nat):Int):=QC _
  rw [this]; exact_mod_cast hlt
 generalize (2:Int) ^ (w - 1) = P at hlt'
 split at hm <;> omega
theorem ZEV (k:Nat) {n:Int} (h:ZV n):ZoM k (n,()) = some (((Yi n:Nat):Int),()):=by
 show Zf7 k _ = _
 simp only [Zf7]
 have hb:=ZnE h
 unfold ZV at h
 rw [Zza (by omega) (by omega) (by omega)]
 have e1:IntKind.u64.wrap (if n < 0 then -n - 1 else n) = (((if n < 0 then (-n - 1).toNat else n.toNat):Nat):Int):=by
  rw [IntKind.wrap_u64]; split <;> omega
 rw [e1]
 have e2:Zt2 k ((((if n < 0 then (-n - 1).toNat else n.toNat):Nat):Int),()) = some (((Lib.bitLen (if n < 0 then (-n - 1).toNat else n.toNat):Nat):Int),()):=by
  show ZJ6 _ = _
  unfold ZJ6
  rw [show (decide ((0:Int) ≤ (((if n < 0 then (-n - 1).toNat else n.toNat):Nat):Int)) && decide ((((if n < 0 then (-n - 1).toNat else n.toNat):Nat):Int) < 18446744073709551616)) = true from by
   rw [Bool.and_eq_true,decide_eq_true_eq,decide_eq_true_eq]; split <;> omega]
  rfl
 rw [e2]
 simp only [Qr]
 unfold Yi at hb ⊢
 rw [ZT (by omega)]
 push_cast
 rfl
theorem ZDW (k:Nat) {m:Int} (h:m = 0 ∨ m = 1):Zan k (m,()) = some (if m = 0 then 15 else 31,()):=by
 rcases h with rfl | rfl <;> rfl
def Xe (m:Int):Nat:=if m = 0 then 15 else 31
theorem ZbK (k:Nat) {m:Int} (h:m = 0 ∨ m = 1):Zan k (m,()) = some (((Xe m:Nat):Int),()):=by
 rw [ZDW k h]; unfold Xe; split <;> rfl
abbrev Prt:=Int × Int × Int × Unit
def QT (l:List Int):Nat:=l.foldl (fun w n => if n = 0 then w else max w (Yi n)) 0
def ZhD:List Nat → Nat
 | [] => 0
 | x :: l => x + ZhD l
def Zc6 (l:List Int) (kk:Nat):Nat:=(kk + 1) * l.length + ZhD (l.map fun n => Qp n / 2 ^ kk)
def Zk0 (l:List Int) (kk:Nat):Bool:=l.any fun n => decide (65536 < Qp n / 2 ^ kk)
def ZgM (l:List Int) (B:Prt × Bool) (kk:Nat):Prt × Bool :=
 if Zk0 l kk = false ∧ (B.2 = false ∨ ((Zc6 l kk:Nat):Int) < B.1.2.2.1) then (((kk:Int),0,((Zc6 l kk:Nat):Int),()),true) else B
def kF (l:List Int):Nat → Nat → Prt × Bool → Prt × Bool
 | 0,_,B => B
 | d + 1,kk,B => kF l d (kk + 1) (ZgM l B kk)
def Q5 (l:List Int) (m:Int):Prt × Bool :=
 let B:=kF l (Xe m) 0 ((0,0,0,()),false)
 if QT l ≤ 31 ∧ (B.2 = false ∨ ((5 + QT l * l.length:Nat):Int) < B.1.2.2.1) then (((Xe m:Nat),((QT l:Nat):Int),((5 + QT l * l.length:Nat):Int),()),true) else B
theorem ZOc {l:List Nat} {b:Nat} (h:∀ x ∈ l,x ≤ b):ZhD l ≤ l.length * b:=by
 induction l with
 | nil => simp [ZhD]
 | cons x l ih =>
  have h1:=h x (List.mem_cons_self ..)
  have h2:=ih fun y hy => h y (List.mem_cons_of_mem _ hy)
  simp only [ZhD,List.length_cons,Nat.add_mul,Nat.one_mul]
  omega
theorem ZhG:∀ (l:List Int) (w:Nat),(∀ x ∈ l,ZV x) → w ≤ 32 → w ≤ l.foldl (fun w n => if n = 0 then w else max w (Yi n)) w ∧ l.foldl (fun w n => if n = 0 then w else max w (Yi n)) w ≤ 32 ∧
   ∀ x ∈ l,x ≠ 0 → Yi x ≤ l.foldl (fun w n => if n = 0 then w else max w (Yi n)) w
 | [],w,_,hw => ⟨Nat.le_refl _,hw,by simp⟩
 | x :: l,w,hl,hw => by
  simp only [List.foldl_cons]
  have hx:=ZnE (hl x (List.mem_cons_self ..))
  have h1:(if x = 0 then w else max w (Yi x)) ≤ 32:=by split <;> omega
  obtain ⟨a,b,c⟩:=ZhG l _ (fun y hy => hl y (List.mem_cons_of_mem _ hy)) h1
  refine ⟨Nat.le_trans (by split <;> omega) a,b,fun y hy hne => ?_⟩
  rcases List.mem_cons.1 hy with rfl | hy
  ·rw [if_neg hne] at a ⊢
   omega
  ·exact c y hy hne
theorem ZFK {l:List Int} (hl:∀ x ∈ l,ZV x):∀ x ∈ l,W6 x (QT l) = true:=by
 intro x hx
 obtain ⟨_,_,h⟩:=ZhG l 0 hl (by omega)
 by_cases h0:x = 0
 ·subst h0
  unfold W6
  split
  ·rfl
  ·rw [decide_eq_true_eq]
   have hp:(0:Int) < 2 ^ (QT l - 1):=Int.pow_pos (by omega)
   omega
 ·exact ZDe (hl x hx) (h x hx h0)
theorem Zsj {n:Int} (h:ZV n) (kk:Nat):Qp n / 2 ^ kk ≤ 4294967295:=by
 have:=ZpD h
 have:=Nat.div_le_self (Qp n) (2 ^ kk)
 omega
theorem ZC6:KJ = Zan:=Zrp
theorem ZSP:Zhd = Zbj:=Zrr
theorem ZAa (k:Nat) (L2:Int × Int × List Int × Bool × Int × Int × List Int × Int × Int × Int × Int × Int × Int → Option (((Int × Int × Int × Unit) × Bool × Unit) × Unit))
  {l:List Int} (hl:∀ x ∈ l,ZV x) (hn:l.length ≤ 512) (hk:l.length < k) {kk:Nat} (hkk:kk ≤ 31) (ok:Bool) (e w m b0 b1 b2 c0 c1 c2:Int) :
  Zii k L2 (Int.ofNat l.length,(0:Int),((kk + 1) * l.length:Nat),(kk:Int),false,ok,(kk:Int),e,l,w,m,l.map fun n => ((Qp n:Nat):Int),b0,b1,b2,c0,c1,c2) =
   L2 (e,((kk + 1:Nat):Int),l,(ZgM l ((b0,b1,b2,()),ok) kk).2,w,m,l.map fun n => ((Qp n:Nat):Int),(ZgM l ((b0,b1,b2,()),ok) kk).1.1,(ZgM l ((b0,b1,b2,()),ok) kk).1.2.1,(ZgM l ((b0,b1,b2,()),ok) kk).1.2.2.1,c0,c1,c2):=by
 have hml:(l.map fun n => ((Qp n:Nat):Int)).length = l.length:=by simp
 have:=ZI (A:=Int × Bool) (R:=((Int × Int × Int × Unit) × Bool × Unit) × Unit) (step:=fun L3 => Zad k L2 L3) (fun i a => (Int.ofNat l.length,Int.ofNat i,a.1,(kk:Int),a.2,ok,(kk:Int),e,l,w,m,l.map (fun n => ((Qp n:Nat):Int)),b0,b1,b2,c0,c1,c2)) l
  (fun l' a => bif !(a.2 || Zk0 l' kk) then bif !ok then L2 (e,((kk + 1:Nat):Int),l,true,w,m,l.map (fun n => ((Qp n:Nat):Int)),(kk:Int),0,a.1 + (ZhD (l'.map fun n => Qp n / 2 ^ kk):Nat),c0,c1,c2)
    else bif decide (a.1 + (ZhD (l'.map fun n => Qp n / 2 ^ kk):Nat) < b2) then L2 (e,((kk + 1:Nat):Int),l,true,w,m,l.map (fun n => ((Qp n:Nat):Int)),(kk:Int),0,a.1 + (ZhD (l'.map fun n => Qp n / 2 ^ kk):Nat),c0,c1,c2)
    else L2 (e,((kk + 1:Nat):Int),l,ok,w,m,l.map (fun n => ((Qp n:Nat):Int)),b0,b1,b2,c0,c1,c2)
   else L2 (e,((kk + 1:Nat):Int),l,ok,w,m,l.map (fun n => ((Qp n:Nat):Int)),b0,b1,b2,c0,c1,c2))
  (fun i a => 0 ≤ a.1 ∧ a.1 ≤ 16384 + (i:Int) * 4294967296)
  (fun L a _ => by
   simp only [Zad]
   rw [Ze (We _),ZT (n:=(kk:Int) + 1) (by omega)]
   simp only [Zk0,List.any_nil,Bool.or_false,List.map_nil,ZhD,Int.natCast_zero,Int.add_zero]
   push_cast
   rfl)
  (fun L i hi a ha hL => by
   simp only [Zad]
   have hx:=hl l[i] (List.getElem_mem hi)
   have hp:=Zsj hx kk
   have hg:(l.map fun n => ((Qp n:Nat):Int)).getD (Int.toNat (Int.ofNat i)) 0 = ((Qp l[i]:Nat):Int):=by
    rw [ZO (by rw [hml]; exact hi)]; simp
   rw [Zb (ltR hi),Zb (by rw [hml]; exact Y2 hi),Zb (by rw [hml]; simpa using hi),Zb (by omega),hg]
   simp only [QZ,Nat.min_eq_left (show kk ≤ 64 by omega),Zas]
   have hfar:Zk0 (l[i] :: l.drop (i + 1)) kk = (decide (65536 < Qp l[i] / 2 ^ kk) || Zk0 (l.drop (i + 1)) kk):=by unfold Zk0; rw [List.any_cons]
   have hsum:a.1 + ((ZhD ((l[i] :: l.drop (i + 1)).map fun n => Qp n / 2 ^ kk):Nat):Int) = a.1 + ((Qp l[i] / 2 ^ kk:Nat):Int) + ((ZhD ((l.drop (i + 1)).map fun n => Qp n / 2 ^ kk):Nat):Int):=by
    simp only [List.map_cons,ZhD]
    generalize Qp l[i] / 2 ^ kk = q
    omega
   generalize Qp l[i] / 2 ^ kk = q at hp hfar hsum ⊢
   have hi5:(i:Int) ≤ 512:=by omega
   rw [ZT (n:=a.1 + ((q:Nat):Int)) (by omega),QL hi (by omega)]
   rw [hfar,hsum]
   cases h4:a.2 with
   | true =>
    simp only [cond_true]
    rw [hL (a.1 + ((q:Nat):Int),true) ⟨by omega,by push_cast; omega⟩]
    simp
   | false =>
    simp only [cond_false]
    rw [Zb (by omega)]
    have hd:decide ((65536:Int) < ((q:Nat):Int)) = decide (65536 < q):=by
     by_cases hh:65536 < q
     ·rw [QS hh,QS (by omega)]
     ·rw [QG hh,QG (by omega)]
    rw [hd,hL (a.1 + ((q:Nat):Int),decide (65536 < q)) ⟨by omega,by push_cast; omega⟩]
    simp) k 0 ((((kk + 1) * l.length:Nat):Int),false) ⟨by omega,by
     have:(kk + 1) * l.length ≤ 32 * 512:=Nat.mul_le_mul (by omega) hn
     show (((kk + 1) * l.length:Nat):Int) ≤ 16384 + ((0:Nat):Int) * 4294967296
     generalize (kk + 1) * l.length = N at this ⊢
     omega⟩ (by omega) (Nat.zero_le _)
 refine Eq.trans this ?_
 rw [List.drop_zero]
 unfold ZgM
 have hsz:(((kk + 1) * l.length:Nat):Int) + ((ZhD (l.map fun n => Qp n / 2 ^ kk):Nat):Int) = ((Zc6 l kk:Nat):Int):=by unfold Zc6; push_cast; rfl
 simp only [Bool.false_or,hsz]
 cases hfb:Zk0 l kk with
 | true => simp
 | false =>
  simp only [Bool.not_false,cond_true,true_and]
  cases ok with
  | false => simp
  | true =>
   simp only [Bool.not_true,cond_false,Bool.true_eq_false,false_or]
   by_cases hlt:((Zc6 l kk:Nat):Int) < b2
   ·rw [Zb hlt,if_pos hlt]
   ·rw [Ze hlt,if_neg hlt]
theorem ZHG (k:Nat) {l:List Int} (hl:∀ x ∈ l,ZV x) (hn:l.length ≤ 512) (hk:l.length < k) {m:Int} (hm:m = 0 ∨ m = 1) (c0 c1 c2:Int) (hw:QT l ≤ 32) :
  ∀ (d kk j:Nat) (B:Prt × Bool),kk + d = Xe m → d < j →
  Zp (fun L2 => Zb1 k (Zii k L2) L2) j (((Xe m:Nat):Int),(kk:Int),l,B.2,((QT l:Nat):Int),m,l.map (fun n => ((Qp n:Nat):Int)),B.1.1,B.1.2.1,B.1.2.2.1,c0,c1,c2) =
   some ((let B:=kF l d kk B; if QT l ≤ 31 ∧ (B.2 = false ∨ ((5 + QT l * l.length:Nat):Int) < B.1.2.2.1) then ((((Xe m:Nat):Int),((QT l:Nat):Int),((5 + QT l * l.length:Nat):Int),()),true,()) else (B.1,B.2,())),()):=by
 have he:Xe m ≤ 31:=by unfold Xe; split <;> omega
 intro d
 induction d with
 | zero =>
  intro kk j B hkk hj
  obtain ⟨j,rfl⟩:=Zk hj
  rw [Zg]
  simp only [Zb1]
  rw [Ze (by omega)]
  have hwl:QT l * l.length ≤ 32 * 512:=Nat.mul_le_mul hw hn
  have e1:IntKind.i64.wrap ((5:Int) + IntKind.i64.wrap (((QT l:Nat):Int) * Int.ofNat l.length)) = ((5 + QT l * l.length:Nat):Int):=by
   have:((QT l:Nat):Int) * Int.ofNat l.length = ((QT l * l.length:Nat):Int):=by simp only [Z8]; push_cast; rfl
   rw [this,ZT (n:=((QT l * l.length:Nat):Int)) (by omega),ZT (by omega)]
   push_cast; rfl
  rw [e1,ZC6,ZbK k hm]
  simp only [Qr]
  rw [show kF l 0 kk B = B from rfl]
  by_cases h31:QT l ≤ 31
  ·rw [Zb (by omega)]
   cases hB:B.2 with
   | false => simp only [Bool.not_false,cond_true]; rw [if_pos ⟨h31,.inl trivial⟩]
   | true =>
    simp only [Bool.not_true,cond_false,Bool.true_eq_false,false_or]
    by_cases hlt:((5 + QT l * l.length:Nat):Int) < B.1.2.2.1
    ·rw [Zb hlt,if_pos ⟨h31,hlt⟩]
    ·rw [Ze hlt,if_neg (fun h => hlt h.2)]
  ·rw [Ze (by omega),if_neg (fun h => h31 h.1)]
 | succ d ih =>
  intro kk j B hkk hj
  obtain ⟨j,rfl⟩:=Zk (show 0 < j by omega)
  rw [Zg]
  simp only [Zb1]
  rw [Zb (by omega)]
  have hkl:(kk + 1) * l.length ≤ 32 * 512:=Nat.mul_le_mul (by omega) hn
  have e1:IntKind.i64.wrap (IntKind.i64.wrap ((kk:Int) + 1) * Int.ofNat l.length) = (((kk + 1) * l.length:Nat):Int):=by
   have h1:IntKind.i64.wrap ((kk:Int) + 1) = ((kk + 1:Nat):Int):=by rw [ZT (by omega)]; push_cast; rfl
   rw [h1]
   have:((kk + 1:Nat):Int) * Int.ofNat l.length = (((kk + 1) * l.length:Nat):Int):=by simp only [Z8]; rw [Int.natCast_mul]
   rw [this,ZT (by omega)]
  rw [e1]
  have e2:Int.ofNat (l.map fun n => ((Qp n:Nat):Int)).length = Int.ofNat l.length:=by simp
  rw [e2,ZAa k _ hl hn hk (by omega)]
  rw [ih (kk + 1) j (ZgM l B kk) (by omega) (by omega)]
  rfl
theorem ZEH (k:Nat) {l:List Int} (hl:∀ x ∈ l,ZV x) (hn:l.length ≤ 512) (hk:l.length + 40 < k) {m:Int} (hm:m = 0 ∨ m = 1) :
  ZoD k (l,m,()) = some (((Q5 l m).1,(Q5 l m).2,()),()):=by
 show ZfV k (Zm2 k) _ = _
 simp only [ZfV]
 rw [Zb (by simp only [Z8]; omega)]
 have hwid:=(ZhG l 0 hl (by omega)).2.1
 have he:Xe m ≤ 31:=by unfold Xe; split <;> omega
 have:=ZI (A:=Nat × List Int) (step:=fun L1 => Zb0 k (Zih k) L1) (fun i a => (Int.ofNat l.length,Int.ofNat i,l,((a.1:Nat):Int),m,l,false,a.2,0,0,0,0,0,0)) l
  (fun l' a => Zih k (((Xe m:Nat):Int),0,l,false,((l'.foldl (fun w n => if n = 0 then w else max w (Yi n)) a.1:Nat):Int),m,a.2.take (l.length - l'.length) ++ l'.map (fun n => ((Qp n:Nat):Int)),0,0,0,0,0,0))
  (fun i a => a.1 ≤ 32 ∧ a.2.length = l.length)
  (fun L a ha => by
   simp only [Zb0]
   rw [Ze (We _),ZC6,ZbK k hm]
   simp only [Qr,List.foldl_nil,List.map_nil,List.append_nil,List.length_nil,Nat.sub_zero]
   rw [List.take_of_length_le (by omega)])
  (fun L i hi a ha hL => by
   simp only [Zb0]
   have hx:=hl l[i] (List.getElem_mem hi)
   have hb:=ZnE hx
   rw [Zb (ltR hi),Zb (Y2 hi),ZO hi,ZSP,Zrt k hx]
   simp only [Qr]
   rw [Zb (by rw [ha.2]; exact Y2 hi),Zb (by rw [ha.2]; simpa using hi),Zo,QL hi (by omega)]
   have hdl:(l.drop (i + 1)).length = l.length - (i + 1):=by simp
   have hset:(a.2.set (Int.ofNat i).toNat ((Qp l[i]:Nat):Int)).take (l.length - (l.drop (i + 1)).length) ++ (l.drop (i + 1)).map (fun n => ((Qp n:Nat):Int)) =
     a.2.take (l.length - (l[i] :: l.drop (i + 1)).length) ++ (l[i] :: l.drop (i + 1)).map (fun n => ((Qp n:Nat):Int)):=by
    rw [hdl,List.length_cons,hdl,show l.length - (l.length - (i + 1)) = i + 1 by omega,show l.length - (l.length - (i + 1) + 1) = i by omega]
    rw [List.map_cons,List.take_add_one,List.take_set_of_le (by simp)]
    have:(a.2.set (Int.ofNat i).toNat ((Qp l[i]:Nat):Int))[i]? = some ((Qp l[i]:Nat):Int):=by
     rw [List.getElem?_set]; simp; omega
    rw [this]
    simp
   have hfold:(l[i] :: l.drop (i + 1)).foldl (fun w n => if n = 0 then w else max w (Yi n)) a.1 = (l.drop (i + 1)).foldl (fun w n => if n = 0 then w else max w (Yi n)) (if l[i] = 0 then a.1 else max a.1 (Yi l[i])):=rfl
   by_cases h0:l[i] = 0
   ·rw [Ze (by simpa using h0)]
    rw [hL (a.1,a.2.set (Int.ofNat i).toNat ((Qp l[i]:Nat):Int)) ⟨ha.1,by simpa using ha.2⟩,hset,hfold,if_pos h0]
   ·rw [Zb h0,ZEV k hx]
    simp only [Qr]
    have e1:(if ((a.1:Nat):Int) < ((Yi l[i]:Nat):Int) then ((Yi l[i]:Nat):Int) else ((a.1:Nat):Int)) = ((max a.1 (Yi l[i]):Nat):Int):=by split <;> omega
    rw [e1,hL (max a.1 (Yi l[i]),a.2.set (Int.ofNat i).toNat ((Qp l[i]:Nat):Int)) ⟨by omega,by simpa using ha.2⟩,hset,hfold,if_neg h0])
  k 0 (0,List.replicate l.length 0) ⟨by omega,by simp⟩ (by omega) (Nat.zero_le _)
 rw [List.drop_zero] at this
 refine Eq.trans this ?_
 have:=ZHG k hl hn (by omega) hm 0 0 0 hwid (Xe m) 0 k ((0,0,0,()),false) (by omega) (by omega)
 rw [Nat.sub_self,List.take_zero,List.nil_append]
 refine Eq.trans this ?_
 unfold Q5
 simp only
 split <;> rfl
end Go.Sh
namespace Go.Sh
open Go Go.Proofs
theorem ZPb:ZcK = Zam:=Zrn
theorem ZUc:ZoC = Zap:=ZrE
theorem Zkq (k:Nat) {m:Int} (h:m = 0 ∨ m = 1):Zam k (m,()) = some (4 + m,()):=by
 rcases h with rfl | rfl <;> rfl
theorem ZEC (k:Nat) (x:Int):ZoB k (x,()) = some (Qi x,()):=by
 show ZfR k _ = _
 simp only [ZfR]
 unfold Qi
 by_cases h:x ≤ -2147483648
 ·rw [Zb h,QS (.inl h)]
 ·rw [Ze h]
  by_cases h2:2147483648 ≤ x
  ·rw [QS h2,QS (.inr h2)]
  ·rw [QG h2,QG (by omega)]
theorem ZwE (k:Nat) (c:List Int) (hk:c.length < k) (hn:c.length < 4294967296):ZdF k (c,(),()) = some (c.any Qi,()):=by
 show ZaS k _ = _
 simp only [ZaS]
 have key:∃ i:Int,ZdS k (c,(),()) = some (i,()) ∧ (0 ≤ i ↔ c.any Qi = true):=by
  have:=XK (A:=Unit) (R:=Int × Unit) (step:=fun L1 => Kn k L1) (fun i _ => (Int.ofNat c.length,Int.ofNat i,c)) c
   (fun l _ => some (if l.any Qi then Int.ofNat (c.length - l.length + (l.takeWhile (fun x => !Qi x)).length) else -1,()))
   (fun L _ => by simp only [Kn]; rw [Ze (We _)]; rfl)
   (fun L i hi _ hL => by
    simp only [Kn]
    rw [Zb (ltR hi),Zb (Y2 hi),ZO hi,ZEC]
    simp only [Qr]
    have hlen:(List.drop (i + 1) c).length = c.length - (i + 1):=by simp
    cases hc:Qi c[i] with
    | false =>
     simp only [cond_false]
     rw [QL hi (by omega),hL ()]
     simp only [List.any_cons,hc,Bool.false_or,List.takeWhile_cons,Bool.not_false,if_true,List.length_cons,hlen]
     split
     ·congr 3; omega
     ·rfl
    | true =>
     simp only [cond_true,List.any_cons,hc,Bool.true_or,if_true,List.takeWhile_cons,Bool.not_true,Bool.false_eq_true,if_false,List.length_cons,hlen,List.length_nil]
     congr 3; omega) k 0 () (by omega) (Nat.zero_le _)
  rw [List.drop_zero] at this
  refine ⟨_,this,?_⟩
  cases c.any Qi <;> simp
 obtain ⟨i,h1,h2⟩:=key
 rw [h1]
 simp only [Qr]
 cases hc:c.any Qi with
 | true => rw [QS (h2.2 hc)]
 | false => rw [QG (fun h => by have:=h2.1 h; rw [hc] at this; cases this)]
def KG (n o:Int):Bool:=decide (1 ≤ n ∧ n ≤ 512 ∧ 0 ≤ o ∧ o ≤ 8 ∧ o ≤ n)
theorem ZrD (k:Nat) (n o:Int):ZkK k (n,o,()) = some (KG n o,()):=by
 show ZfQ k _ = _
 simp only [ZfQ]
 unfold KG
 by_cases h1:1 ≤ n
 ·rw [Zb h1]
  by_cases h2:n ≤ 512
  ·rw [Zb h2]
   by_cases h3:0 ≤ o
   ·rw [Zb h3]
    congr 2
    by_cases h4:o ≤ 8 ∧ o ≤ n
    ·rw [QS (show 1 ≤ n ∧ n ≤ 512 ∧ 0 ≤ o ∧ o ≤ 8 ∧ o ≤ n by omega),QS (by split <;> omega)]
    ·rw [QG (show ¬ (1 ≤ n ∧ n ≤ 512 ∧ 0 ≤ o ∧ o ≤ 8 ∧ o ≤ n) by omega),QG (by split <;> omega)]
   ·rw [Ze h3,QG (by omega)]
  ·rw [Ze h2,QG (by omega)]
 ·rw [Ze h1,QG (by omega)]
def YI (l:List Int) (o:Int):Int:=if o < 0 ∨ 8 < o then 1 else if KG ((l.length:Int) + o) o = false then 1 else if l.any Qi then 12 else 0
theorem Zrk (k:Nat) (l:List Int) (o:Int) (hk:l.length < k) (hn:l.length < 4294967296):Zkm k (l,o,()) = some (YI l o,()):=by
 show Zfh k _ = _
 simp only [Zfh]
 unfold YI
 by_cases h1:o < 0
 ·rw [Zb h1,if_pos (.inl h1)]
 ·rw [Ze h1]
  by_cases h2:8 < o
  ·rw [Zb h2,if_pos (.inr h2)]
  ·rw [Ze h2,if_neg (by omega),ZT (by simp only [Z8]; omega),ZrD]
   simp only [Qr,Z8]
   cases hb:KG ((l.length:Int) + o) o with
   | false => rfl
   | true =>
    simp only [Bool.not_true,cond_false,Bool.true_eq_false,if_false]
    rw [ZwE k l hk hn]
    simp only [Qr]
    cases l.any Qi <;> rfl
theorem ZSw {p:Nat} (hp:p ≤ 31):IntKind.i64.wrap (IntKind.i64.wrap ((1:Int) * (2:Int) ^ min ((p:Int)).toNat 64) - 1) = ((2 ^ p - 1:Nat):Int):=by
 have h1:2 ^ p ≤ 2 ^ 31:=Nat.pow_le_pow_right (by omega) hp
 have h0:0 < 2 ^ p:=Nat.pow_pos (by omega)
 rw [QZ,Nat.min_eq_left (by omega),Int.one_mul,QC]
 rw [ZT (n:=((2 ^ p:Nat):Int)) (by omega),ZT (by omega)]
 omega
theorem K6 {p:Nat} (hp:p ≤ 31):IntKind.i64.wrap ((1:Int) * (2:Int) ^ min ((p:Int)).toNat 64) = ((2 ^ p:Nat):Int):=by
 have h1:2 ^ p ≤ 2 ^ 31:=Nat.pow_le_pow_right (by omega) hp
 rw [QZ,Nat.min_eq_left (by omega),Int.one_mul,QC]
 generalize 2 ^ p = Q at h1 ⊢
 rw [ZT (by omega)]
theorem Zv5 {n p:Nat} (hn:n < 4294967296) (hp:p ≤ 31):IntKind.i64.wrap (Int.ofNat (BitVec.ofInt 64 (n:Int) &&& BitVec.ofInt 64 (IntKind.i64.wrap (IntKind.i64.wrap ((1:Int) * (2:Int) ^ min ((p:Int)).toNat 64) - 1))).toNat) = ((n % 2 ^ p:Nat):Int):=by
 have h1:2 ^ p ≤ 2 ^ 31:=Nat.pow_le_pow_right (by omega) hp
 rw [ZSw hp,Zzj (by omega) (by omega),Nat.and_two_pow_sub_one_eq_mod]
 have:n % 2 ^ p ≤ n:=Nat.mod_le _ _
 rw [ZT (by omega)]
def Zbq (n o p:Nat):Bool:=decide (n % 2 ^ p = 0) && decide (o ≤ n / 2 ^ p)
theorem ZrF (k:Nat) {n o p:Nat} (hn:n < 4294967296) (hp:p ≤ 31):Zap k ((n:Int),(o:Int),(p:Int),()) = some (Zbq n o p,()):=by
 show ZfT k _ = _
 simp only [ZfT]
 rw [Zb (by omega),Zv5 hn hp,Zw,QZ,Nat.min_eq_left (by omega),Zas]
 unfold Zbq
 by_cases h:n % 2 ^ p = 0
 ·rw [Zb (by omega),Zb (by omega),QS h,Bool.true_and]
  congr 2
  by_cases h2:o ≤ n / 2 ^ p
  ·rw [QS h2,QS (by omega)]
  ·rw [QG h2,QG (by omega)]
 ·rw [Ze (by omega),QG h,Bool.false_and]
def XQ (size:Nat):Nat → List Int → List (List Int)
 | 0,_ => []
 | d + 1,r => r.take size :: XQ size d (r.drop size)
def XR (l:List Int) (o p:Nat):List (List Int):=l.take ((l.length + o) / 2 ^ p - o) :: XQ ((l.length + o) / 2 ^ p) (2 ^ p - 1) (l.drop ((l.length + o) / 2 ^ p - o))
theorem ZnP (size:Nat):∀ (d:Nat) (r:List Int),(XQ size d r).length = d
 | 0,_ => rfl
 | d + 1,r => by simp [XQ,ZnP size d]
theorem ZhT (l:List Int) (o p:Nat):(XR l o p).length = 2 ^ p:=by
 have h0:0 < 2 ^ p:=Nat.pow_pos (by omega)
 simp only [XR,List.length_cons,ZnP]
 omega
theorem ZnQ {size:Nat}:∀ {d:Nat} {r c:List Int},c ∈ XQ size d r → ∀ x ∈ c,x ∈ r
 | d + 1,r,c,h,x,hx => by
  rcases List.mem_cons.1 h with rfl | h
  ·exact List.mem_of_mem_take hx
  ·exact List.mem_of_mem_drop (ZnQ h x hx)
theorem ZbD {l:List Int} {o p:Nat} {c:List Int} (h:c ∈ XR l o p):∀ x ∈ c,x ∈ l:=by
 intro x hx
 rcases List.mem_cons.1 h with rfl | h
 ·exact List.mem_of_mem_take hx
 ·exact List.mem_of_mem_drop (ZnQ h x hx)
theorem Zq5 {size:Nat}:∀ {d:Nat} {r c:List Int},c ∈ XQ size d r → c.length ≤ r.length
 | d + 1,r,c,h => by
  rcases List.mem_cons.1 h with rfl | h
  ·rw [List.length_take]; omega
  ·have:=Zq5 h
   rw [List.length_drop] at this
   omega
theorem ZhS {l:List Int} {o p:Nat} {c:List Int} (h:c ∈ XR l o p):c.length ≤ l.length:=by
 rcases List.mem_cons.1 h with rfl | h
 ·rw [List.length_take]; omega
 ·have:=Zq5 h
  rw [List.length_drop] at this
  omega
theorem ZDV (k:Nat) {p size:Nat} (hp:p ≤ 15):∀ (d m:Nat) (r:List Int) (out:List (List Int)),d < m → out.length + d = 2 ^ p → r.length = d * size → r.length < 4294967296 →
  Zp (fun L1 => ZbJ k L1) m ((p:Int),r,(size:Int),out) = some (out ++ XQ size d r,()):=by
 have h15:2 ^ p ≤ 2 ^ 15:=Nat.pow_le_pow_right (by omega) hp
 intro d
 induction d with
 | zero =>
  intro m r out hm ho hr hn
  obtain ⟨m,rfl⟩:=Zk hm
  rw [Zg]
  simp only [ZbJ]
  rw [Zb (by omega),K6 (by omega),Ze (by simp only [Z8]; omega)]
  simp [XQ]
 | succ d ih =>
  intro m r out hm ho hr hn
  obtain ⟨m,rfl⟩:=Zk (show 0 < m by omega)
  rw [Zg]
  simp only [ZbJ]
  have hs:(d + 1) * size = d * size + size:=by rw [Nat.add_mul,Nat.one_mul]
  have hle:size ≤ r.length:=by omega
  rw [Zb (by omega),K6 (by omega),Zb (by simp only [Z8]; omega),Zb (by simp only [Z8]; omega),
   Zb (by simp only [List.length_singleton]; omega),Zb (by simp only [Z8]; omega)]
  rw [QZ,show (Int.ofNat r.length).toNat = r.length from rfl,List.take_length,List.drop_zero]
  rw [ih m (r.drop size) _ (by omega) (by rw [Yq,List.length_singleton]; omega) (by rw [List.length_drop]; omega) (by rw [List.length_drop]; omega)]
  simp [XQ]
theorem Zrm (k:Nat) {l:List Int} {o p:Nat} (hp:p ≤ 15) (hn:l.length + o < 4294967296) (hk:32768 < k) (hf:Zbq (l.length + o) o p = true) :
  Zko k (l,(o:Int),(p:Int),()) = some (XR l o p,()):=by
 show Zfl k (Zmv k) _ = _
 have h15:2 ^ p ≤ 2 ^ 15:=Nat.pow_le_pow_right (by omega) hp
 have h0:0 < 2 ^ p:=Nat.pow_pos (by omega)
 unfold Zbq at hf
 simp only [Bool.and_eq_true,decide_eq_true_eq] at hf
 obtain ⟨hm,ho⟩:=hf
 simp only [Zfl]
 have e1:IntKind.i64.wrap (Int.ofNat l.length + (o:Int)) = ((l.length + o:Nat):Int):=by rw [ZT (by simp only [Z8]; omega)]; rfl
 have hd:(l.length + o) / 2 ^ p ≤ l.length + o:=Nat.div_le_self _ _
 have hmul:2 ^ p * ((l.length + o) / 2 ^ p) = l.length + o:=by have:=Nat.div_add_mod (l.length + o) (2 ^ p); omega
 unfold XR
 rw [e1]
 simp only [QZ,Nat.min_eq_left (show p ≤ 64 by omega),Zas]
 generalize hsz:(l.length + o) / 2 ^ p = size at ho hd hmul
 have e2:IntKind.i64.wrap ((size:Int) - (o:Int)) = ((size - o:Nat):Int):=by rw [ZT (by omega)]; omega
 have hle:size ≤ l.length + o:=hd
 have e3:(2 ^ p - 1) * size = 2 ^ p * size - size:=by rw [Nat.sub_mul,Nat.one_mul]
 rw [e2,Zb (by omega),Zb (by simp only [Z8]; omega),Zb (by simp only [Z8]; omega)]
 rw [QZ,show (Int.ofNat l.length).toNat = l.length from rfl,List.take_length,List.drop_zero]
 have hps:size ≤ 2 ^ p * size:=Nat.le_mul_of_pos_left _ h0
 refine Eq.trans (ZDV k hp (2 ^ p - 1) k _ _ (by omega) (by rw [List.length_singleton]; omega) (by rw [List.length_drop,e3]; omega) (by rw [List.length_drop]; omega)) ?_
 rfl
end Go.Sh
namespace Go.Sh
open Go Go.Proofs
def Zah (c:List Int) (m:Int) (y:Prt):Prop :=
 (∃ kk:Nat,kk < Xe m ∧ Zk0 c kk = false ∧ y = ((kk:Int),0,((Zc6 c kk:Nat):Int),())) ∨
 (QT c ≤ 31 ∧ y = (((Xe m:Nat):Int),((QT c:Nat):Int),((5 + QT c * c.length:Nat):Int),()))
theorem ZO6 {c:List Int} {m:Int}:∀ (d kk:Nat) (B:Prt × Bool),kk + d = Xe m → (B.2 = true → Zah c m B.1) → ((kF c d kk B).2 = true → Zah c m (kF c d kk B).1)
 | 0,_,B,_,hB => hB
 | d + 1,kk,B,hk,hB => by
  refine ZO6 d (kk + 1) _ (by omega) fun h => ?_
  unfold ZgM at h ⊢
  split
  ·rename_i hc
   exact .inl ⟨kk,by omega,hc.1,rfl⟩
  ·rename_i hc
   rw [if_neg hc] at h
   exact hB h
theorem Zdw {c:List Int} {m:Int} (h:(Q5 c m).2 = true):Zah c m (Q5 c m).1:=by
 unfold Q5 at h ⊢
 simp only at h ⊢
 split
 ·rename_i hc
  exact .inr ⟨hc.1,rfl⟩
 ·rename_i hc
  rw [if_neg hc] at h
  exact ZO6 _ _ _ (by omega) (fun h => by cases h) h
theorem ZCJ {c:List Int}:∀ (d kk:Nat) (B:Prt × Bool),B.2 = true → (kF c d kk B).2 = true
 | 0,_,B,hB => hB
 | d + 1,kk,B,hB => by
  refine ZCJ d (kk + 1) _ ?_
  unfold ZgM
  split
  ·rfl
  ·exact hB
theorem ZCK {c:List Int} {j:Nat} (hj:Zk0 c j = false):∀ (d kk:Nat) (B:Prt × Bool),kk ≤ j → j < kk + d → (kF c d kk B).2 = true
 | 0,_,B,h1,h2 => by omega
 | d + 1,kk,B,h1,h2 => by
  by_cases he:kk = j
  ·subst he
   refine ZCJ d _ _ ?_
   unfold ZgM
   split
   ·rfl
   ·rename_i hc
    simp only [hj,true_and,not_or] at hc
    simpa using hc.1
  ·exact ZCK hj d (kk + 1) _ (by omega) (by omega)
theorem ZTZ {c:List Int} (hc:∀ x ∈ c,ZV x):Zk0 c 16 = false:=by
 unfold Zk0
 rw [List.any_eq_false]
 intro x hx
 have h1:=ZpD (hc x hx)
 have:Qp x / 2 ^ 16 < 65536:=by rw [Nat.div_lt_iff_lt_mul (by decide)]; omega
 simp only [decide_eq_true_eq]
 omega
theorem Zzn {c:List Int} (hc:∀ x ∈ c,ZV x):(Q5 c 1).2 = true:=by
 unfold Q5
 simp only
 split
 ·rfl
 ·exact ZCK (ZTZ hc) _ _ _ (by omega) (by decide)
theorem Zah.size {c:List Int} {m:Int} {y:Prt} (h:Zah c m y) (hc:∀ x ∈ c,ZV x) (hn:c.length ≤ 512):0 ≤ y.2.2.1 ∧ y.2.2.1 ≤ 4398046511104:=by
 have he:Xe m ≤ 31:=by unfold Xe; split <;> omega
 rcases h with ⟨kk,hk,_,rfl⟩ | ⟨hw,rfl⟩
 ·simp only
  have h1:(kk + 1) * c.length ≤ 32 * 512:=Nat.mul_le_mul (by omega) hn
  have h2:ZhD (c.map fun n => Qp n / 2 ^ kk) ≤ (c.map fun n => Qp n / 2 ^ kk).length * 4294967295:=ZOc fun x hx => by
   obtain ⟨n,hn,rfl⟩:=List.mem_map.1 hx
   exact Zsj (hc n hn) kk
  rw [List.length_map] at h2
  unfold Zc6
  omega
 ·simp only
  have h1:QT c * c.length ≤ 31 * 512:=Nat.mul_le_mul hw hn
  omega
def QE (m:Int):List (List Int) → List Prt → Int → List Prt × Int × Bool
 | [],ps,sz => (ps,sz,true)
 | c :: cs,ps,sz => if (Q5 c m).2 = true then QE m cs (ps ++ [(Q5 c m).1]) (sz + (4 + m + (Q5 c m).1.2.2.1)) else (ps,sz,false)
theorem Zhu {m:Int} {c:List Int} (cs:List (List Int)) (ps:List Prt) (sz:Int) (h:(Q5 c m).2 = true):QE m (c :: cs) ps sz = QE m cs (ps ++ [(Q5 c m).1]) (sz + (4 + m + (Q5 c m).1.2.2.1)):=by
 show (if (Q5 c m).2 = true then _ else _) = _
 rw [if_pos h]
theorem Zlf {m:Int} {c:List Int} (cs:List (List Int)) (ps:List Prt) (sz:Int) (h:(Q5 c m).2 = false):QE m (c :: cs) ps sz = (ps,sz,false):=by
 show (if (Q5 c m).2 = true then _ else _) = _
 rw [if_neg (by rw [h]; simp)]
abbrev XT:=Int × Int × Int × List Prt
def XP (l:List Int) (o p:Nat) (m:Int) (B:XT):XT :=
 if (QE m (XR l o p) [] 6).2.2 = true ∧ (B.2.2.1 < 0 ∨ (QE m (XR l o p) [] 6).2.1 < B.2.2.1) then (m,(p:Int),(QE m (XR l o p) [] 6).2.1,(QE m (XR l o p) [] 6).1) else B
def ZjT (l:List Int) (o:Nat) (B:XT) (p:Nat):XT:=if Zbq (l.length + o) o p = true then XP l o p 1 (XP l o p 0 B) else B
def X7 (l:List Int) (o:Nat):Nat → Nat → XT → XT
 | 0,_,B => B
 | d + 1,p,B => X7 l o d (p + 1) (ZjT l o B p)
def WW (l:List Int) (o:Nat):XT:=X7 l o 5 0 (0,0,-1,[])
theorem ZzJ (k:Nat) (L1:Int × List Int × Int × Int × Int × Int × List (Int × Int × Int × Unit) × Int × Int × Int → Option ((Int × Int × List (Int × Int × Int × Unit) × Int × Unit) × Unit))
  (L2:Int × Int × List Int × Int × Int × Int × Int × List (Int × Int × Int × Unit) × Int × Int × Int → Option ((Int × Int × List (Int × Int × Int × Unit) × Int × Unit) × Unit))
  {cs:List (List Int)} (hcs:∀ c ∈ cs,(∀ x ∈ c,ZV x) ∧ c.length ≤ 512) (hn:cs.length ≤ 16) (hk:600 < k) {m:Int} (hm:m = 0 ∨ m = 1) (p:Int) (l:List Int) (o:Int) (B:XT) :
  ZaW k L1 L2 (Int.ofNat cs.length,(0:Int),cs,m,p,l,o,true,B.1,B.2.1,B.2.2.1,B.2.2.2,m,p,(6:Int),[],0,0,0) =
   L2 (m + 1,p,l,o,if (QE m cs [] 6).2.2 = true ∧ (B.2.2.1 < 0 ∨ (QE m cs [] 6).2.1 < B.2.2.1) then (m,p,(QE m cs [] 6).2.1,(QE m cs [] 6).1,0,0,0) else (B.1,B.2.1,B.2.2.1,B.2.2.2,0,0,0)):=by
 have hm1:IntKind.i64.wrap (m + 1) = m + 1:=by rcases hm with rfl | rfl <;> rfl
 have:=ZI (A:=Int × List Prt) (R:=(Int × Int × List (Int × Int × Int × Unit) × Int × Unit) × Unit) (step:=fun L3 => Zaa k L1 L2 L3)
  (fun i a => (Int.ofNat cs.length,Int.ofNat i,cs,m,p,l,o,true,B.1,B.2.1,B.2.2.1,B.2.2.2,m,p,a.1,a.2,0,0,0)) cs
  (fun cs' a => L2 (m + 1,p,l,o,if (QE m cs' a.2 a.1).2.2 = true ∧ (B.2.2.1 < 0 ∨ (QE m cs' a.2 a.1).2.1 < B.2.2.1) then (m,p,(QE m cs' a.2 a.1).2.1,(QE m cs' a.2 a.1).1,0,0,0) else (B.1,B.2.1,B.2.2.1,B.2.2.2,0,0,0)))
  (fun i a => 0 ≤ a.1 ∧ a.1 ≤ 6 + (i:Int) * 8796093022208 ∧ a.2.length = i)
  (fun L a _ => by
   simp only [Zaa]
   rw [Ze (We _),hm1]
   simp only [cond_true,QE,true_and]
   by_cases h1:B.2.2.1 < 0
   ·rw [Zb h1,if_pos (.inl h1)]
   ·rw [Ze h1]
    by_cases h2:a.1 < B.2.2.1
    ·rw [Zb h2,if_pos (.inr h2)]
    ·rw [Ze h2,if_neg (by omega)])
  (fun L i hi a ha hL => by
   simp only [Zaa]
   obtain ⟨hc1,hc2⟩:=hcs cs[i] (List.getElem_mem hi)
   rw [Zb (ltR hi),Zb (Y2 hi),ZO hi,ZEH k hc1 hc2 (by omega) hm]
   simp only [Qr]
   cases hb:(Q5 cs[i] m).2 with
   | false =>
    rw [Zlf _ _ _ hb]
    simp only [Bool.not_false,cond_true,cond_false,hm1,Bool.false_eq_true,if_false,false_and]
   | true =>
    rw [Zhu _ _ _ hb]
    simp only [Bool.not_true,cond_false]
    have hs:=(Zdw hb).size hc1 hc2
    have hi16:(i:Int) < 16:=by omega
    have hm01:0 ≤ m ∧ m ≤ 1:=by rcases hm with rfl | rfl <;> omega
    rw [Zb (by simp only [List.length_singleton]; omega),ZPb,Zkq k hm]
    simp only [Qr]
    rw [QL hi (by omega),ZT (n:=4 + m + (Q5 cs[i] m).1.2.2.1) (by omega),ZT (by omega)]
    exact hL (a.1 + (4 + m + (Q5 cs[i] m).1.2.2.1),a.2 ++ [(Q5 cs[i] m).1]) ⟨by omega,by push_cast; omega,by simp; omega⟩)
  k 0 ((6:Int),[]) ⟨by omega,by simp,rfl⟩ (by omega) (Nat.zero_le _)
 rw [List.drop_zero] at this
 exact this
theorem ZDQ (k:Nat) (L1:Int × List Int × Int × Int × Int × Int × List (Int × Int × Int × Unit) × Int × Int × Int → Option ((Int × Int × List (Int × Int × Int × Unit) × Int × Unit) × Unit))
  {l:List Int} (hl:∀ x ∈ l,ZV x) {o p:Nat} (hn:l.length + o ≤ 512) (hp:p ≤ 4) (hk:40000 < k) (hf:Zbq (l.length + o) o p = true) (B:XT) :
  Zh6 k L1 ((0:Int),(p:Int),l,(o:Int),B.1,B.2.1,B.2.2.1,B.2.2.2,0,0,0) =
   L1 (((p + 1:Nat):Int),l,(o:Int),(XP l o p 1 (XP l o p 0 B)).1,(XP l o p 1 (XP l o p 0 B)).2.1,(XP l o p 1 (XP l o p 0 B)).2.2.1,(XP l o p 1 (XP l o p 0 B)).2.2.2,0,0,0):=by
 have hcs:∀ c ∈ XR l o p,(∀ x ∈ c,ZV x) ∧ c.length ≤ 512:=fun c hc => ⟨fun x hx => hl x (ZbD hc x hx),by have:=ZhS hc; omega⟩
 have hlen:(XR l o p).length ≤ 16:=by
  rw [ZhT]
  have:2 ^ p ≤ 2 ^ 4:=Nat.pow_le_pow_right (by omega) hp
  omega
 have hcut:=Zrm k (l:=l) (o:=o) (p:=p) (by omega) (by omega) (by omega) hf
 have one:∀ (j:Nat) (m:Int) (B:XT),m = 0 ∨ m = 1 → Zp (fun L2 => Ym k (ZaW k L1 L2) L1 L2) (j + 1) (m,(p:Int),l,(o:Int),B.1,B.2.1,B.2.2.1,B.2.2.2,0,0,0) =
   Zp (fun L2 => Ym k (ZaW k L1 L2) L1 L2) j (m + 1,(p:Int),l,(o:Int),(XP l o p m B).1,(XP l o p m B).2.1,(XP l o p m B).2.2.1,(XP l o p m B).2.2.2,0,0,0):=by
  intro j m B hm
  rw [Zg]
  simp only [Ym]
  rw [Zb (by rcases hm with rfl | rfl <;> omega),hcut]
  simp only [Qr]
  refine (ZzJ k L1 _ hcs hlen (by omega) hm (p:Int) l (o:Int) B).trans ?_
  unfold XP
  split <;> rfl
 obtain ⟨j,rfl⟩:∃ j,k = j + 3:=⟨k - 3,by omega⟩
 show Zp (fun L2 => Ym (j + 3) (ZaW (j + 3) L1 L2) L1 L2) (j + 3) _ = _
 rw [one (j + 2) 0 B (.inl rfl),show (0:Int) + 1 = 1 from rfl,one (j + 1) 1 _ (.inr rfl),Zg]
 simp only [Ym]
 rw [Ze (by omega),ZT (by omega)]
 rfl
theorem Zrl (k:Nat) {l:List Int} (hl:∀ x ∈ l,ZV x) {o:Nat} (hn:l.length + o ≤ 512) (hk:40000 < k) :
  Zkn k (l,(o:Int),()) = some (((WW l o).1,(WW l o).2.1,(WW l o).2.2.2,(WW l o).2.2.1,()),()):=by
 show Zfj k (Zmt k) _ = _
 simp only [Zfj]
 suffices H:∀ (d p m:Nat) (B:XT),d < m → p + d = 5 → Zp (fun L1 => ZbI k (Zh6 k L1) L1) m ((p:Int),l,(o:Int),B.1,B.2.1,B.2.2.1,B.2.2.2,0,0,0) =
   some (((X7 l o d p B).1,(X7 l o d p B).2.1,(X7 l o d p B).2.2.2,(X7 l o d p B).2.2.1,()),()) from H 5 0 k (0,0,-1,[]) (by omega) rfl
 intro d
 induction d with
 | zero =>
  intro p m B hm hp
  obtain ⟨m,rfl⟩:=Zk hm
  rw [Zg]
  simp only [ZbI]
  rw [Ze (by omega)]
  rfl
 | succ d ih =>
  intro p m B hm hp
  obtain ⟨m,rfl⟩:=Zk (show 0 < m by omega)
  rw [Zg]
  simp only [ZbI]
  have e1:IntKind.i64.wrap (Int.ofNat l.length + (o:Int)) = ((l.length + o:Nat):Int):=by rw [ZT (by simp only [Z8]; omega)]; rfl
  rw [Zb (by omega),e1,ZUc,ZrF k (by omega) (by omega)]
  simp only [Qr]
  have e2:IntKind.i64.wrap ((p:Int) + 1) = ((p + 1:Nat):Int):=by rw [ZT (by omega)]; rfl
  cases hf:Zbq (l.length + o) o p with
  | false =>
   simp only [Bool.not_false,cond_true]
   rw [e2,ih (p + 1) m B (by omega) (by omega)]
   simp only [X7,ZjT,hf,Bool.false_eq_true,if_false]
  | true =>
   simp only [Bool.not_true,cond_false]
   rw [ZDQ k _ hl hn (by omega) hk hf,ih (p + 1) m _ (by omega) (by omega)]
   simp only [X7,ZjT,hf,if_true]
structure RGood (l:List Int) (o:Nat) (R:XT) (p:Nat):Prop where
 hp:R.2.1 = (p:Int)
 p4:p ≤ 4
 fit:Zbq (l.length + o) o p = true
 hm:R.1 = 0 ∨ R.1 = 1
 parts:QE R.1 (XR l o p) [] 6 = (R.2.2.2,R.2.2.1,true)
theorem Zlg {m:Int} (hm:0 ≤ m):∀ (cs:List (List Int)) (ps:List Prt) (sz:Int),(∀ c ∈ cs,(∀ x ∈ c,ZV x) ∧ c.length ≤ 512) → sz ≤ (QE m cs ps sz).2.1
 | [],_,_,_ => Int.le_refl _
 | c :: cs,ps,sz,h => by
  unfold QE
  split
  ·rename_i hb
   have h1:=h c (List.mem_cons_self ..)
   have h2:=(Zdw hb).size h1.1 h1.2
   have:=Zlg hm cs (ps ++ [(Q5 c m).1]) (sz + (4 + m + (Q5 c m).1.2.2.1)) fun c hc => h c (List.mem_cons_of_mem _ hc)
   omega
  ·exact Int.le_refl _
theorem Zp8 {l:List Int} {o p:Nat} {m:Int} {B:XT} (hm:m = 0 ∨ m = 1) (hp:p ≤ 4) (hf:Zbq (l.length + o) o p = true) (hB:B.2.2.1 < 0 ∨ ∃ q,RGood l o B q) :
  (XP l o p m B).2.2.1 < 0 ∨ ∃ q,RGood l o (XP l o p m B) q:=by
 unfold XP
 split
 ·rename_i hc
  right
  refine ⟨p,rfl,hp,hf,hm,?_⟩
  simp only
  rw [← hc.1]
 ·exact hB
theorem ZBj {l:List Int} {o p:Nat} {B:XT} (hp:p ≤ 4) (hB:B.2.2.1 < 0 ∨ ∃ q,RGood l o B q):(ZjT l o B p).2.2.1 < 0 ∨ ∃ q,RGood l o (ZjT l o B p) q:=by
 unfold ZjT
 split
 ·rename_i hf
  exact Zp8 (.inr rfl) hp hf (Zp8 (.inl rfl) hp hf hB)
 ·exact hB
theorem ZhO {l:List Int} {o:Nat}:∀ (d p:Nat) (B:XT),p + d ≤ 5 → (B.2.2.1 < 0 ∨ ∃ q,RGood l o B q) → (X7 l o d p B).2.2.1 < 0 ∨ ∃ q,RGood l o (X7 l o d p B) q
 | 0,_,B,_,hB => hB
 | d + 1,p,B,h,hB => ZhO d (p + 1) _ (by omega) (ZBj (by omega) hB)
theorem Zp9 {l:List Int} {o p:Nat} {m:Int} {B:XT} (hl:∀ x ∈ l,ZV x) (hn:l.length ≤ 512) (hm:0 ≤ m) (hB:0 ≤ B.2.2.1):0 ≤ (XP l o p m B).2.2.1:=by
 unfold XP
 split
 ·have:=Zlg hm (XR l o p) [] 6 fun c hc => ⟨fun x hx => hl x (ZbD hc x hx),by have:=ZhS hc; omega⟩
  simp only
  omega
 ·exact hB
theorem ZnN {l:List Int} {o:Nat} (hl:∀ x ∈ l,ZV x) (hn:l.length ≤ 512):∀ (d p:Nat) (B:XT),0 ≤ B.2.2.1 → 0 ≤ (X7 l o d p B).2.2.1
 | 0,_,B,hB => hB
 | d + 1,p,B,hB => ZnN hl hn d (p + 1) _ (by
  unfold ZjT
  split
  ·exact Zp9 hl hn (by omega) (Zp9 hl hn (by omega) hB)
  ·exact hB)
theorem Zsy {m:Int}:∀ (cs:List (List Int)) (ps:List Prt) (sz:Int),(∀ c ∈ cs,(Q5 c m).2 = true) → (QE m cs ps sz).2.2 = true
 | [],_,_,_ => rfl
 | c :: cs,ps,sz,h => by
  unfold QE
  rw [if_pos (h c (List.mem_cons_self ..))]
  exact Zsy cs _ _ fun c hc => h c (List.mem_cons_of_mem _ hc)
theorem ZcH {l:List Int} {o:Nat} (hl:∀ x ∈ l,ZV x) (hn:l.length + o ≤ 512) (ho:o ≤ l.length + o):0 ≤ (WW l o).2.2.1 ∧ ∃ q,RGood l o (WW l o) q:=by
 have hnn:0 ≤ (WW l o).2.2.1:=by
  show 0 ≤ (X7 l o 4 1 (ZjT l o (0,0,-1,[]) 0)).2.2.1
  refine ZnN hl (by omega) 4 1 _ ?_
  unfold ZjT
  have hf:Zbq (l.length + o) o 0 = true:=by unfold Zbq; simp [Nat.mod_one]
  rw [if_pos hf]
  generalize XP l o 0 0 (0,0,-1,[]) = B
  by_cases hB:0 ≤ B.2.2.1
  ·exact Zp9 hl (by omega) (by omega) hB
  ·unfold XP
   have hok:=Zsy (m:=1) (XR l o 0) [] 6 fun c hc => Zzn fun x hx => hl x (ZbD hc x hx)
   rw [if_pos ⟨hok,.inl (by omega)⟩]
   have:=Zlg (m:=1) (by omega) (XR l o 0) [] 6 fun c hc => ⟨fun x hx => hl x (ZbD hc x hx),by have:=ZhS hc; omega⟩
   simp only
   omega
 refine ⟨hnn,?_⟩
 rcases ZhO (l:=l) (o:=o) 5 0 (0,0,-1,[]) (by omega) (.inl (by show (-1:Int) < 0; omega)) with h | h
 ·exact absurd h (by unfold WW at hnn; omega)
 ·exact h
end Go.Sh
namespace Go.Sh
open Go Go.Proofs
theorem ZEy (k:Nat) {l:List Int} (hl:l.length ≤ 512) {o:Nat} (hk:40000 < k) :
  Zow k (l,(o:Int),()) = some ((if YI l o = 0 then ((WW l o).2.2.1,0,()) else (0,YI l o,())),()):=by
 show ZfN k _ = _
 simp only [ZfN]
 rw [Zrk k l o (by omega) (by omega)]
 simp only [Qr]
 rw [Zo]
 by_cases h:YI l o = 0
 ·rw [Ze (by simpa using h),if_pos h]
  have hc:KG ((l.length:Int) + o) o = true ∧ l.any Qi = false:=by
   unfold YI at h
   split at h
   ·omega
   ·split at h
    ·omega
    ·rename_i hb
     split at h
     ·omega
     ·rename_i hw
      exact ⟨by simpa using hb,by simpa using hw⟩
  have hb:=of_decide_eq_true hc.1
  rw [Zrl k (Yr hc.2) (by omega) hk]
  rfl
 ·rw [Zb h,if_neg h]
theorem ZlV {l:List Int} {o:Nat}:YI l o = 0 ↔ (1 ≤ l.length + o ∧ l.length + o ≤ 512 ∧ o ≤ 8) ∧ l.any Qi = false:=by
 unfold YI
 constructor
 ·intro h
  split at h
  ·omega
  ·split at h
   ·omega
   ·rename_i h1 h2
    split at h
    ·omega
    ·rename_i hw
     have:=of_decide_eq_true (by simpa using h2:KG ((l.length:Int) + o) o = true)
     exact ⟨by omega,by simpa using hw⟩
 ·rintro ⟨h1,h2⟩
  rw [if_neg (by omega),if_neg,if_neg (by simp [h2])]
  unfold KG
  rw [QS (by omega)]
  simp
def Zgl (kk:Nat) (n:Int):List Bool:=(List.replicate (Qp n / 2 ^ kk) false ++ [true]) ++ Zm (Qp n % 2 ^ kk) kk
def Kx (m:Int) (y:Prt) (c:List Int):List Bool:=if y.1 = (Xe m:Int) then c.flatMap (fun n => Yt n y.2.1.toNat) else c.flatMap (Zgl y.1.toNat)
def ZaB (m:Int) (x:List Int × Prt):List Bool:=Zm x.2.1.toNat (4 + m.toNat) ++ ((if x.2.1 = (Xe m:Int) then Zm x.2.2.1.toNat 5 else []) ++ Kx m x.2 x.1)
def ZjH (l:List Int) (o:Nat) (R:XT):List Bool:=(Zm R.1.toNat 2 ++ Zm R.2.1.toNat 4) ++ ((XR l o R.2.1.toNat).zip R.2.2.2).flatMap (ZaB R.1)
def ZeV (l:List Int) (o:Nat):List Bool:=ZjH l o (WW l o)
theorem ZeN (kk:Nat) (n:Int):(Zgl kk n).length = Qp n / 2 ^ kk + 1 + kk:=by
 simp [Zgl,ZE]
 omega
theorem Zyb (k:Nat) (L1:Int × Int × List (List Int) × Int × List Int × Int × Int × List (Int × Int × Int × Unit) × Int → Option (Int × (List Int × Int × Unit) × Unit))
  {c:List Int} (hc:∀ x ∈ c,ZV x) (hn:c.length ≤ 512) (hk:70000 < k) {m:Int} (hm:m = 0 ∨ m = 1) {y:Prt} (hy:Zah c m y) (v3 v4:Int) (v5:List (List Int)) (v12:Int) (v13:List Prt) (v14:Int)
  (hv3:0 ≤ v3 ∧ v3 ≤ 65536) (bs:List Bool) (hb:bs.length ≤ 2147483648) :
  ZkX k L1 (Int.ofNat c.length,(0:Int),c,v3,v4,v5,(bs.length:Int),Qh bs,y.1,y.2.1,y.2.2.1,m,v12,v13,v14) =
   L1 (v4,v3 + 1,v5,((bs ++ Kx m y c).length:Int),Qh (bs ++ Kx m y c),m,v12,v13,v14):=by
 have he:Xe m ≤ 31:=by unfold Xe; split <;> omega
 have hfin:∀ (g:Int → List Bool),(∀ x ∈ c,(g x).length ≤ 70000) →
   (∀ (L:Int × Int × List Int × Int × Int × List (List Int) × Int × List Int × Int × Int × Int × Int × Int × List (Int × Int × Int × Unit) × Int → Option (Int × (List Int × Int × Unit) × Unit)) (i:Nat) (hi:i < c.length) (a:List Bool),a.length ≤ 2147483648 + i * 70000 →
    Kt k L1 L (Int.ofNat c.length,Int.ofNat i,c,v3,v4,v5,(a.length:Int),Qh a,y.1,y.2.1,y.2.2.1,m,v12,v13,v14) =
    L (Int.ofNat c.length,Int.ofNat (i + 1),c,v3,v4,v5,((a ++ g c[i]).length:Int),Qh (a ++ g c[i]),y.1,y.2.1,y.2.2.1,m,v12,v13,v14)) →
   ZkX k L1 (Int.ofNat c.length,(0:Int),c,v3,v4,v5,(bs.length:Int),Qh bs,y.1,y.2.1,y.2.2.1,m,v12,v13,v14) =
   L1 (v4,v3 + 1,v5,((bs ++ c.flatMap g).length:Int),Qh (bs ++ c.flatMap g),m,v12,v13,v14):=by
  intro g hg hstep
  have:=ZI (A:=List Bool) (R:=Int × (List Int × Int × Unit) × Unit) (step:=fun L2 => Kt k L1 L2)
   (fun i a => (Int.ofNat c.length,Int.ofNat i,c,v3,v4,v5,(a.length:Int),Qh a,y.1,y.2.1,y.2.2.1,m,v12,v13,v14)) c
   (fun c' a => L1 (v4,v3 + 1,v5,((a ++ c'.flatMap g).length:Int),Qh (a ++ c'.flatMap g),m,v12,v13,v14))
   (fun i a => a.length ≤ 2147483648 + i * 70000)
   (fun L a _ => by
    simp only [Kt]
    rw [Ze (We _),ZT (by omega)]
    simp)
   (fun L i hi a ha hL => by
    rw [hstep L i hi a ha,hL (a ++ g c[i]) (by
     have:=hg c[i] (List.getElem_mem hi)
     rw [Yq]; omega)]
    rw [List.flatMap_cons,List.append_assoc])
   k 0 bs (by omega) (by omega) (Nat.zero_le _)
  rw [List.drop_zero] at this
  exact this
 unfold Kx
 rcases hy with ⟨kk,hkk,hfar,rfl⟩ | ⟨hw,rfl⟩
 ·simp only
  rw [if_neg (by omega)]
  have hq:∀ x ∈ c,Qp x / 2 ^ kk ≤ 65536:=by
   intro x hx
   unfold Zk0 at hfar
   rw [List.any_eq_false] at hfar
   have:=hfar x hx
   simp only [decide_eq_true_eq] at this
   omega
  rw [QZ]
  refine hfin (Zgl kk) (fun x hx => by have:=hq x hx; rw [ZeN]; omega) ?_
  intro L i hi a ha
  have hx:=hc c[i] (List.getElem_mem hi)
  have hxq:=hq c[i] (List.getElem_mem hi)
  simp only [Kt]
  rw [Zb (ltR hi),Zb (Y2 hi),ZC6,ZbK k hm]
  simp only [Qr]
  rw [Zw,Ze (by omega),ZO hi,ZSP,Zrt k hx]
  simp only [Qr]
  have hf32:=ZpD hx
  rw [Zb (by omega),Zv5 (by omega) (by omega)]
  simp only [QZ,Nat.min_eq_left (show kk ≤ 64 by omega),Zas]
  rw [show ((Qh a,((a.length:Nat):Int),()):List Int × Int × Unit) = wst a from rfl,Zx9 k a _ (by omega) hxq (by omega)]
  simp only [Qr]
  rw [Zb (by omega)]
  have hlen:(a ++ (List.replicate (Qp c[i] / 2 ^ kk) false ++ [true])).length = a.length + (Qp c[i] / 2 ^ kk + 1):=by simp
  rw [QN k (a ++ (List.replicate (Qp c[i] / 2 ^ kk) false ++ [true])) _ kk (by omega) (by omega) (Nat.mod_lt _ (Nat.pow_pos (by omega))) (by rw [hlen]; omega)]
  simp only [Qr]
  rw [QL hi (by omega)]
  unfold Zgl
  simp only [List.append_assoc]
 ·simp only
  rw [if_pos trivial,QZ]
  refine hfin (fun n => Yt n (QT c)) (fun x hx => by simp only [Zgp]; omega) ?_
  intro L i hi a ha
  have hx:=ZFK hc c[i] (List.getElem_mem hi)
  simp only [Kt]
  rw [Zb (ltR hi),Zb (Y2 hi),ZC6,ZbK k hm]
  simp only [Qr]
  rw [Zw,Zb rfl,ZO hi]
  rw [show ((Qh a,((a.length:Nat):Int),()):List Int × Int × Unit) = wst a from rfl,Zrj k a _ (QT c) (by omega) (by omega) hx (by omega)]
  simp only [Qr]
  rw [QL hi (by omega)]
theorem ZyL {c:List Int} (hc:∀ x ∈ c,ZV x) (hn:c.length ≤ 512) {m:Int} {y:Prt} (hy:Zah c m y):(Kx m y c).length ≤ c.length * 70000:=by
 have he:Xe m ≤ 31:=by unfold Xe; split <;> omega
 have key:∀ (g:Int → List Bool) (l:List Int),(∀ x ∈ l,(g x).length ≤ 70000) → (l.flatMap g).length ≤ l.length * 70000:=by
  intro g l
  induction l with
  | nil => intro _; simp
  | cons a l ih =>
   intro h
   have h1:=h a (List.mem_cons_self ..)
   have h2:=ih fun x hx => h x (List.mem_cons_of_mem _ hx)
   rw [List.flatMap_cons,Yq,List.length_cons]
   omega
 unfold Kx
 rcases hy with ⟨kk,hkk,hfar,rfl⟩ | ⟨hw,rfl⟩
 ·simp only
  rw [if_neg (by omega)]
  refine key _ c fun x hx => ?_
  unfold Zk0 at hfar
  rw [List.any_eq_false] at hfar
  have:=hfar x hx
  simp only [decide_eq_true_eq] at this
  rw [ZeN,QZ]
  omega
 ·simp only
  rw [if_pos trivial]
  refine key _ c fun x hx => ?_
  rw [Zgp,QZ]
  omega
def KY (m:Int):List (List Int) → List Prt → Prop
 | [],[] => True
 | c :: cs,y :: ys => Zah c m y ∧ KY m cs ys
 | _,_ => False
theorem ZeP {m:Int}:∀ (cs:List (List Int)) (ps:List Prt) (sz:Int),(QE m cs ps sz).2.2 = true → ∃ ys,(QE m cs ps sz).1 = ps ++ ys ∧ KY m cs ys ∧ ys = cs.map fun c => (Q5 c m).1
 | [],ps,sz,_ => ⟨[],by simp [QE],trivial,rfl⟩
 | c :: cs,ps,sz,h => by
  unfold QE at h ⊢
  split at h
  ·rename_i hb
   rw [if_pos hb]
   obtain ⟨ys,h1,h2,h3⟩:=ZeP cs _ _ h
   refine ⟨(Q5 c m).1 :: ys,by rw [h1]; simp,⟨Zdw hb,h2⟩,by rw [h3]; rfl⟩
  ·cases h
theorem KY.len {m:Int}:∀ {cs:List (List Int)} {ys:List Prt},KY m cs ys → ys.length = cs.length
 | [],[],_ => rfl
 | c :: cs,y :: ys,h => by simp [KY.len h.2]
theorem KY.get {m:Int}:∀ {cs:List (List Int)} {ys:List Prt},KY m cs ys → ∀ (i:Nat) (h1:i < cs.length) (h2:i < ys.length),Zah cs[i] m ys[i]
 | c :: cs,y :: ys,h,0,_,_ => h.1
 | c :: cs,y :: ys,h,i + 1,h1,h2 => by
  simp only [List.getElem_cons_succ]
  exact KY.get h.2 i (by simpa using h1) (by simpa using h2)
theorem RGood.ys {l:List Int} {o p:Nat} {R:XT} (h:RGood l o R p):KY R.1 (XR l o p) R.2.2.2:=by
 obtain ⟨ys,h1,h2,_⟩:=ZeP (m:=R.1) (XR l o p) [] 6 (by rw [h.parts])
 rw [h.parts] at h1
 simp only [List.nil_append] at h1
 rw [h1]; exact h2
theorem ZA8 {c:List Int} {m:Int} (hm:m = 0 ∨ m = 1) {y:Prt} (hy:Zah c m y):∃ a w:Nat,y.1 = (a:Int) ∧ a < 2 ^ (4 + m.toNat) ∧ y.2.1 = (w:Int) ∧ w ≤ 31:=by
 rcases hy with ⟨kk,hkk,hfar,rfl⟩ | ⟨hw,rfl⟩
 ·refine ⟨kk,0,rfl,?_,rfl,by omega⟩
  rcases hm with rfl | rfl
  ·have:Xe 0 = 15:=rfl
   rw [this] at hkk
   show kk < 16
   omega
  ·have:Xe 1 = 31:=rfl
   rw [this] at hkk
   show kk < 32
   omega
 ·refine ⟨Xe m,QT c,rfl,?_,rfl,hw⟩
  rcases hm with rfl | rfl <;> decide
theorem Zyc (k:Nat) {l:List Int} {o:Nat} (hk:70000 < k) (h:YI l o = 0) (bs:List Bool) (hb:bs.length ≤ 1073741824) :
  ZgG k (wst bs,l,(o:Int),()) = some (0,wst (bs ++ ZeV l o),()):=by
 show Zi4 k (ZuW k) _ = _
 have ⟨h1,h2⟩:=ZlV.1 h
 have hl:=Yr h2
 obtain ⟨hsz,q,hg⟩:=ZcH hl (o:=o) (by omega) (by omega)
 simp only [Zi4]
 rw [Zrk k l o (by omega) (by omega),h]
 simp only [Qr]
 rw [show ((0:Int) != 0) = false from rfl]
 simp only [cond_false]
 rw [Zrl k hl (by omega) (by omega)]
 simp only [Qr]
 unfold ZeV ZjH
 generalize WW l o = R at hg hsz
 have hys:=hg.ys
 obtain ⟨m,p,sz,ys⟩:=R
 obtain ⟨hp,p4,hfit,hm,hparts⟩:=hg
 simp only at hp hm hparts hys
 subst hp
 simp only [QZ]
 have hmn:m = ((m.toNat:Nat):Int):=by rcases hm with rfl | rfl <;> rfl
 have hm2:m.toNat < 2 ^ 2:=by rcases hm with rfl | rfl <;> decide
 have e1:=QN k bs m.toNat 2 (by omega) (by omega) hm2 (by omega)
 rw [← hmn] at e1
 rw [show ((Qh bs,((bs.length:Nat):Int),()):List Int × Int × Unit) = wst bs from rfl,show (2:Int) = ((2:Nat):Int) from rfl,e1]
 simp only [Qr]
 have hl1:(bs ++ Zm m.toNat 2).length = bs.length + 2:=by rw [Yq,ZE]
 have e2:=QN k (bs ++ Zm m.toNat 2) q 4 (by omega) (by omega) (by omega) (by rw [hl1]; omega)
 rw [show (4:Int) = ((4:Nat):Int) from rfl,e2]
 simp only [Qr]
 rw [Zrm k (by omega) (by omega) (by omega) hfit]
 simp only [Qr]
 have hcs:∀ c ∈ XR l o q,(∀ x ∈ c,ZV x) ∧ c.length ≤ 512:=fun c hc => ⟨fun x hx => hl x (ZbD hc x hx),by have:=ZhS hc; omega⟩
 have hclen:(XR l o q).length ≤ 16:=by
  rw [ZhT]
  have:2 ^ q ≤ 2 ^ 4:=Nat.pow_le_pow_right (by omega) p4
  omega
 have hyl:=hys.len
 generalize XR l o q = cs at hcs hclen hys hyl
 have hzl:(cs.zip ys).length = cs.length:=by rw [List.length_zip]; omega
 have hl2:(bs ++ Zm m.toNat 2 ++ Zm q 4).length = bs.length + 6:=by rw [Yq,hl1,ZE]
 have:=ZI (A:=List Bool) (R:=Int × (List Int × Int × Unit) × Unit) (step:=fun L1 => Zeo k (ZkX k L1) L1)
  (fun i a => (Int.ofNat cs.length,Int.ofNat i,cs,(a.length:Int),Qh a,m,(q:Int),ys,sz)) (cs.zip ys)
  (fun l' a => some (0,wst (a ++ l'.flatMap (ZaB m)),()))
  (fun i a => a.length ≤ 1073741900 + i * 35900000)
  (fun L a _ => by
   simp only [Zeo]
   rw [hzl,Ze (We _)]
   simp)
  (fun L i hi a ha hL => by
   have hi1:i < cs.length:=by omega
   have hi2:i < ys.length:=by omega
   obtain ⟨hc1,hc2⟩:=hcs cs[i] (List.getElem_mem hi1)
   have hy:=hys.get i hi1 hi2
   have hzi:(cs.zip ys)[i] = (cs[i],ys[i]):=by rw [List.getElem_zip]
   simp only [Zeo]
   rw [Zb (ltR hi1),Zb (Y2 hi1),Zb (Y2 hi2),ZPb,Zkq k hm]
   simp only [Qr]
   rw [ZO hi1,ZO hi2]
   obtain ⟨b,w,hb1,hb2,hw1,hw2⟩:=ZA8 hm hy
   have hll:=ZyL hc1 hc2 hy
   have e4:(4:Int) + m = ((4 + m.toNat:Nat):Int):=by rcases hm with rfl | rfl <;> rfl
   have hm1:m.toNat ≤ 1:=by rcases hm with rfl | rfl <;> decide
   rw [hb1,hw1,e4,show ((Qh a,((a.length:Nat):Int),()):List Int × Int × Unit) = wst a from rfl,QN k a b (4 + m.toNat) (by omega) (by omega) hb2 (by omega)]
   simp only [Qr]
   rw [ZC6,ZbK k hm]
   simp only [Qr]
   have hla:(a ++ Zm b (4 + m.toNat)).length = a.length + (4 + m.toNat):=by rw [Yq,ZE]
   have hI:((i:Nat):Int) ≤ 16:=by omega
   have hout:ZaB m (cs[i],ys[i]) = Zm b (4 + m.toNat) ++ ((if (b:Int) = (Xe m:Int) then Zm w 5 else []) ++ Kx m ys[i] cs[i]):=by
    unfold ZaB
    simp only [hb1,hw1,QZ]
   rw [hzi,List.flatMap_cons,hout,Zw]
   have hnext:Int.ofNat i + 1 = Int.ofNat (i + 1):=rfl
   by_cases hesc:(b:Int) = (Xe m:Int)
   ·rw [Zb hesc,if_pos hesc]
    have h5:w < 2 ^ 5:=by omega
    rw [show ((5:Int)) = ((5:Nat):Int) from rfl,QN k (a ++ Zm b (4 + m.toNat)) w 5 (by omega) (by omega) h5 (by omega)]
    simp only [Qr]
    have hlb:(a ++ Zm b (4 + m.toNat) ++ Zm w 5).length = a.length + (4 + m.toNat) + 5:=by rw [Yq,hla,ZE]
    have:=Zyb k L hc1 hc2 (by omega) hm hy (Int.ofNat i) (Int.ofNat cs.length) cs (q:Int) ys sz (by simp only [Z8]; omega) (a ++ Zm b (4 + m.toNat) ++ Zm w 5) (by omega)
    rw [hb1,hw1] at this
    refine Eq.trans this ?_
    rw [hnext,hL _ (by rw [Yq,hlb]; omega)]
    simp
   ·rw [Ze hesc,if_neg hesc]
    have:=Zyb k L hc1 hc2 (by omega) hm hy (Int.ofNat i) (Int.ofNat cs.length) cs (q:Int) ys sz (by simp only [Z8]; omega) (a ++ Zm b (4 + m.toNat)) (by omega)
    rw [hb1,hw1] at this
    refine Eq.trans this ?_
    rw [hnext,hL _ (by rw [Yq,hla]; omega)]
    simp)
  k 0 (bs ++ Zm m.toNat 2 ++ Zm q 4) (by omega) (by omega) (Nat.zero_le _)
 rw [List.drop_zero] at this
 refine Eq.trans this ?_
 simp
end Go.Sh
namespace Go.Sh
open Go Go.Proofs
theorem Zyg (k:Nat) (n d:Int):Zsa k (n,d,()) = some (decide (1 ≤ n ∧ n ≤ 512 ∧ 4 ≤ d ∧ d ≤ 25),()):=by
 show Zje k _ = _
 simp only [Zje]
 by_cases h1:1 ≤ n
 ·rw [Zb h1]
  by_cases h2:n ≤ 512
  ·rw [Zb h2]
   by_cases h3:4 ≤ d
   ·rw [Zb h3]
    congr 2
    by_cases h4:d ≤ 25
    ·rw [QS h4,QS (by omega)]
    ·rw [QG h4,QG (by omega)]
   ·rw [Ze h3,QG (by omega)]
  ·rw [Ze h2,QG (by omega)]
 ·rw [Ze h1,QG (by omega)]
theorem Zyj (k:Nat) (x:Int) {d:Nat} (h1:1 ≤ d) (h2:d ≤ 64):Zsb k (x,(d:Int),()) = some (W6 x d,()):=by
 show Zjh k _ = _
 simp only [Zjh]
 have e1:IntKind.i64.wrap ((d:Int) - 1) = ((d - 1:Nat):Int):=by rw [ZT (by omega)]; omega
 rw [e1,ZyY x (by omega)]
 simp only [QZ,Nat.min_eq_left (show d - 1 ≤ 64 by omega)]
 rw [Zb (by omega),Zb (by omega)]
 cases x.fdiv (2 ^ (d - 1)) == 0 <;> rfl
theorem ZDE (k:Nat) (x:Int) {d:Nat} (h1:1 ≤ d) (h2:d ≤ 64):Zn6 k (x,((d:Int),()),()) = some (!W6 x d,((d:Int),()),()):=by
 show Ze8 k _ = _
 simp only [Ze8]
 rw [Zyj k x h1 h2]
 rfl
theorem ZwC (k:Nat) (c:List Int) {d:Nat} (h1:1 ≤ d) (h2:d ≤ 64) (hk:c.length < k) (hn:c.length < 4294967296) :
  ZdD k (c,(((d:Int),()),()),()) = some (!c.all (W6 · d),((d:Int),()),()):=by
 show ZaO k _ = _
 simp only [ZaO]
 have key:∃ i:Int,ZdP k (c,(((d:Int),()),()),()) = some (i,((d:Int),()),()) ∧ (0 ≤ i ↔ c.all (W6 · d) = false):=by
  have:=XK (A:=Unit) (R:=Int × (Int × Unit) × Unit) (step:=fun L1 => Kk k L1) (fun i _ => (Int.ofNat c.length,Int.ofNat i,c,(d:Int))) c
   (fun l _ => some (if l.all (W6 · d) then -1 else Int.ofNat (c.length - l.length + (l.takeWhile (fun x => W6 x d)).length),((d:Int),()),()))
   (fun L _ => by simp only [Kk]; rw [Ze (We _)]; rfl)
   (fun L i hi _ hL => by
    simp only [Kk]
    rw [Zb (ltR hi),Zb (Y2 hi),ZO hi,ZDE k _ h1 h2]
    simp only [Qr]
    have hlen:(List.drop (i + 1) c).length = c.length - (i + 1):=by simp
    cases hc:W6 c[i] d with
    | true =>
     simp only [Bool.not_true,cond_false]
     rw [QL hi (by omega),hL ()]
     simp only [List.all_cons,hc,Bool.true_and,List.takeWhile_cons,if_true,List.length_cons,hlen]
     split
     ·rfl
     ·congr 3; omega
    | false =>
     simp only [Bool.not_false,cond_true,List.all_cons,hc,Bool.false_and,Bool.false_eq_true,if_false,List.takeWhile_cons,List.length_cons,hlen,List.length_nil]
     congr 3; omega) k 0 () (by omega) (Nat.zero_le _)
  rw [List.drop_zero] at this
  refine ⟨_,this,?_⟩
  cases c.all (W6 · d) <;> simp
 obtain ⟨i,h1,h2⟩:=key
 rw [h1]
 simp only [Qr]
 cases hc:c.all (W6 · d) with
 | false => rw [QS (h2.2 hc)]; rfl
 | true => rw [QG (fun h => by have:=h2.1 h; rw [hc] at this; cases this)]; rfl
def Zgq (s:List Int) (d:Int):Int:=if 1 ≤ s.length ∧ s.length ≤ 512 ∧ 4 ≤ d ∧ d ≤ 25 then (if s.all (W6 · d.toNat) = true then 0 else 12) else 1
theorem ZJj (k:Nat) (s:List Int) (d:Int) (hk:1000 < k):Zr5 k (s,d,()) = some (Zgq s d,()):=by
 show ZiZ k _ = _
 simp only [ZiZ]
 rw [Zyg]
 simp only [Qr]
 unfold Zgq
 by_cases h:1 ≤ s.length ∧ s.length ≤ 512 ∧ 4 ≤ d ∧ d ≤ 25
 ·rw [if_pos h,QS (by simp only [Z8]; omega)]
  simp only [Bool.not_true,cond_false]
  obtain ⟨e,rfl⟩:=Int.eq_ofNat_of_zero_le (show 0 ≤ d by omega)
  rw [ZwC k s (by omega) (by omega) (by omega) (by omega),QZ]
  simp only [Qr]
  cases s.all (W6 · e) <;> rfl
 ·rw [if_neg h,QG (by simp only [Z8]; omega)]
  rfl
def K5 (x:Int):Nat:=(x % 18446744073709551616).toNat
def Zs2 (s:List Int):Nat:=s.foldl (fun v x => v ||| K5 x) 0
def ZN (s:List Int):Nat:=if Zs2 s = 0 then 0 else Lib.ctz 64 (Zs2 s)
theorem ZCN (x:Int):K5 x < 2 ^ 64:=by unfold K5; omega
theorem KA (x:Int):(BitVec.ofInt 64 x).toNat = K5 x:=by rw [BitVec.toNat_ofInt]; rfl
theorem Zsq {n:Nat} (h:n < 2 ^ 64):K5 (IntKind.i64.wrap (n:Int)) = n:=by
 unfold K5
 rw [IntKind.wrap_i64]
 omega
theorem Zp3:∀ (s:List Int) (v:Nat),v < 2 ^ 64 → s.foldl (fun v x => v ||| K5 x) v < 2 ^ 64
 | [],_,h => h
 | x :: s,v,h => Zp3 s _ (Nat.or_lt_two_pow h (ZCN x))
theorem ZKO (s:List Int):Zs2 s < 2 ^ 64:=Zp3 s 0 (by decide)
theorem ZDG (k:Nat) (s:List Int) (hk:s.length < k) (hn:s.length < 4294967296):Zn7 k (s,()) = some (((ZN s:Nat):Int),()):=by
 show Ze9 k (Zmk k) _ = _
 simp only [Ze9]
 have:=ZI (A:=Nat) (R:=Int × Unit) (step:=fun L1 => ZbH k L1) (fun i v => (Int.ofNat s.length,Int.ofNat i,s,IntKind.i64.wrap (v:Int))) s
  (fun s' v => some ((((if s'.foldl (fun v x => v ||| K5 x) v = 0 then 0 else Lib.ctz 64 (s'.foldl (fun v x => v ||| K5 x) v)):Nat):Int),()))
  (fun i v => v < 2 ^ 64)
  (fun L v hv => by
   simp only [ZbH]
   rw [Ze (We _),Zw,List.foldl_nil]
   by_cases h0:v = 0
   ·subst h0; rfl
   ·have hne:¬ IntKind.i64.wrap (v:Int) = 0:=by
     intro h
     have:=Zsq hv
     rw [h] at this
     exact h0 this.symm
    rw [Ze hne,if_neg h0]
    have hu:IntKind.u64.wrap (IntKind.i64.wrap (v:Int)) = (v:Int):=by
     rw [IntKind.wrap_u64,IntKind.wrap_i64]; omega
    rw [hu]
    show (tzF _).bind _ = _
    unfold tzF
    rw [show (decide ((0:Int) ≤ (v:Int)) && decide ((v:Int) < 18446744073709551616)) = true from by
     rw [Bool.and_eq_true,decide_eq_true_eq,decide_eq_true_eq]; omega]
    rfl)
  (fun L i hi v hv hL => by
   simp only [ZbH]
   rw [Zb (ltR hi),Zb (Y2 hi),ZO hi,BitVec.toNat_or,KA,KA,Zsq hv,QL hi (by omega),List.foldl_cons]
   exact hL (v ||| K5 s[i]) (Nat.or_lt_two_pow hv (ZCN _)))
  k 0 0 (by decide) (by omega) (Nat.zero_le _)
 rw [List.drop_zero] at this
 exact this
theorem ZyP {a b k:Nat} (h:(a ||| b) % 2 ^ k = 0):a % 2 ^ k = 0 ∧ b % 2 ^ k = 0:=by
 rw [Nat.or_mod_two_pow] at h
 have h1:a % 2 ^ k ≤ a % 2 ^ k ||| b % 2 ^ k:=Nat.left_le_or
 have h2:b % 2 ^ k ≤ a % 2 ^ k ||| b % 2 ^ k:=Nat.right_le_or
 omega
theorem ZjD {k:Nat}:∀ (s:List Int) (v:Nat),(s.foldl (fun v x => v ||| K5 x) v) % 2 ^ k = 0 → v % 2 ^ k = 0 ∧ ∀ x ∈ s,K5 x % 2 ^ k = 0
 | [],v,h => ⟨h,by simp⟩
 | x :: s,v,h => by
  obtain ⟨h1,h2⟩:=ZjD s _ h
  obtain ⟨h3,h4⟩:=ZyP h1
  refine ⟨h3,fun y hy => ?_⟩
  rcases List.mem_cons.1 hy with rfl | hy
  ·exact h4
  ·exact h2 y hy
theorem ZNS {x : Int} {k : Nat} (hk : k ≤ 64) (h : K5 x % 2 ^ k = 0) : ((2 : Int) ^ k) ∣ x := by
  have := ZlQ x k 64 hk
  unfold K5 at h
  rw [show (18446744073709551616 : Int) = 2 ^ 64 from rfl, this] at h
  have h0 : 0 ≤ x % 2 ^ k := Int.emod_nonneg _ (by have : (0 : Int) < 2 ^ k := Int.pow_pos (by omega)
                                                   omega)
  exact Int.dvd_of_emod_eq_zero (by omega)
theorem Zy8 {s:List Int} (h:Zs2 s ≠ 0):∃ m,Zs2 s = 2 ^ ZN s * (2 * m + 1) ∧ ZN s < 64:=by
 unfold ZN Lib.ctz
 rw [if_neg h,if_neg h]
 exact Lib.ctzFrom_spec 64 (Zs2 s) (by omega) (ZKO s)
theorem ZqD {s:List Int}:∀ x ∈ s,((2:Int) ^ ZN s) ∣ x:=by
 intro x hx
 by_cases h:Zs2 s = 0
 ·unfold ZN
  rw [if_pos h]
  exact Int.one_dvd _
 ·obtain ⟨m,hm,hlt⟩:=Zy8 h
  have:Zs2 s % 2 ^ ZN s = 0:=by rw [hm]; exact Nat.mul_mod_right _ _
  exact ZNS (by omega) ((ZjD s 0 this).2 x hx)
theorem Zv6:∀ (s:List Int) (v:Nat),v = 0 → (∀ x ∈ s,x = 0) → s.foldl (fun v x => v ||| K5 x) v = 0
 | [],v,h,_ => h
 | x :: s,v,h,hx => by
  refine Zv6 s _ ?_ fun y hy => hx y (List.mem_cons_of_mem _ hy)
  rw [h,hx x (List.mem_cons_self ..)]
  rfl
theorem Zgs {s:List Int} {d:Nat} (hd:1 ≤ d) (hs:∀ x ∈ s,W6 x d = true):ZN s < d:=by
 by_cases h:Zs2 s = 0
 ·unfold ZN
  rw [if_pos h]
  omega
 ·have:∃ x ∈ s,x ≠ 0:=by
   apply Classical.byContradiction
   intro hc
   refine h (Zv6 s 0 rfl fun x hx => ?_)
   apply Classical.byContradiction
   intro hne
   exact hc ⟨x,hx,hne⟩
  obtain ⟨x,hx,hne⟩:=this
  have h1:=hs x hx
  unfold W6 at h1
  rw [if_neg (by omega),decide_eq_true_eq] at h1
  have h2:=Int.natAbs_dvd_natAbs.2 (ZqD x hx)
  rw [Int.natAbs_pow] at h2
  have h3:=Nat.le_of_dvd (by omega) h2
  have h4:x.natAbs ≤ 2 ^ (d - 1):=by
   rw [QC] at h1
   generalize 2 ^ (d - 1) = Q at h1 ⊢
   omega
  have h5:2 ^ ZN s ≤ 2 ^ (d - 1):=Nat.le_trans h3 h4
  have:=(Nat.pow_le_pow_iff_right (by omega:1 < 2)).1 h5
  omega
def Wg (s:List Int):List Int:=s.map fun x => x.fdiv (2 ^ ZN s)
theorem Zcv (s:List Int):(Wg s).length = s.length:=by simp [Wg]
theorem ZJV {x:Int} {k:Nat} (h:((2:Int) ^ k) ∣ x):x.fdiv (2 ^ k) * 2 ^ k = x:=by
 rw [Int.fdiv_eq_ediv_of_nonneg _ (Int.pow_nonneg (by omega))]
 exact Int.ediv_mul_cancel h
theorem ZFF {x:Int} {d k:Nat} (hk:k < d) (h:((2:Int) ^ k) ∣ x) (hx:W6 x d = true):W6 (x.fdiv (2 ^ k)) (d - k) = true:=by
 have he:=ZJV h
 generalize x.fdiv (2 ^ k) = y at he
 unfold W6 at hx ⊢
 rw [if_neg (by omega),decide_eq_true_eq] at hx
 rw [if_neg (by omega),decide_eq_true_eq]
 have hp:(0:Int) < 2 ^ k:=Int.pow_pos (by omega)
 have e:(2:Int) ^ (d - 1) = 2 ^ (d - k - 1) * 2 ^ k:=by rw [← Int.pow_add]; congr 1; omega
 rw [e,← he,← Int.neg_mul] at hx
 exact ⟨Int.le_of_mul_le_mul_right hx.1 hp,Int.lt_of_mul_lt_mul_right hx.2 (by omega)⟩
theorem Zqp {s:List Int} {d:Nat} (hd:1 ≤ d) (hs:∀ x ∈ s,W6 x d = true):∀ x ∈ Wg s,W6 x (d - ZN s) = true:=by
 intro y hy
 obtain ⟨x,hx,rfl⟩:=List.mem_map.1 hy
 exact ZFF (Zgs hd hs) (ZqD x hx) (hs x hx)
theorem ZBh {x:Int} {d:Nat} (hd:d ≤ 31) (h:W6 x d = true):ZV x:=by
 unfold W6 at h
 unfold ZV
 split at h
 ·simp only [decide_eq_true_eq] at h; omega
 ·rw [decide_eq_true_eq,QC] at h
  have:2 ^ (d - 1) ≤ 2 ^ 30:=Nat.pow_le_pow_right (by omega) (by omega)
  generalize 2 ^ (d - 1) = Q at h this
  omega
end Go.Sh
namespace Go.Sh
open Go Go.Proofs
abbrev Xo:=Int × List Int × Int × List Int × Int
def ZpW (s:List Int) (d:Nat) (kind:Int) (c:List Int) (sh head:Int):Option Xo :=
 if (Q4 c sh s).2 = 0 then some (kind,c,sh,(Q4 c sh s).1,head + (c.length:Int) * (d:Int) + (WW (Q4 c sh s).1 c.length).2.2.1) else none
def Q8 (b:Option Xo) (x:Option Xo):Option Xo :=
 match x with
 | none => b
 | some x => match b with
  | none => some x
  | some b => if x.2.2.2.2 < b.2.2.2.2 then some x else some b
abbrev FPl:=Int × Int × Int × List Int × List Int × Int × List Int × Int × Unit
abbrev SPl:=Int × Int × Int × List Int × (List Int × Int × Unit) × List Int × Int × Unit
def Qu (kk d:Int) (s:List Int):Option Xo → FPl
 | none => (0,0,0,[],[],0,[],-1,())
 | some (kind,c,sh,r,sz) => (kind,kk,d,s,c,sh,r,sz,())
abbrev ZSC (kk d:Int) (s:List Int) (x:Xo):SPl:=(x.1,kk,d,s,(x.2.1,x.2.2.1,()),x.2.2.2.1,x.2.2.2.2,())
def nnC (b:Option Xo):Prop := ∀ c,b = some c → 0 ≤ c.2.2.2.2
theorem Zcw {b x:Option Xo} (hb:nnC b) (hx:nnC x):nnC (Q8 b x):=by
 intro c hc
 unfold Q8 at hc
 match x,b,hc with
 | none,b,hc => exact hb c hc
 | some x,none,hc => exact hx c hc
 | some x,some b,hc =>
  simp only at hc
  split at hc
  ·exact hx c hc
  ·exact hb c hc
theorem Zn8 (k:Nat) (kk d:Int) (s:List Int) (x:Xo) (b:Option Xo) (hb:nnC b) :
  Zbi k (ZSC kk d s x,true,Qu kk d s b,()) = some ((),Qu kk d s (Q8 b (some x)),()):=by
 match b with
 | none => rfl
 | some b =>
  have h0:=hb b rfl
  show (bif decide (b.2.2.2.2 < 0) then _ else bif decide (x.2.2.2.2 < b.2.2.2.2) then _ else _) = _
  rw [Ze (by omega)]
  unfold Q8
  simp only
  by_cases h:x.2.2.2.2 < b.2.2.2.2
  ·rw [Zb h,if_pos h]; rfl
  ·rw [Ze h,if_neg h]; rfl
theorem ZhP {l:List Int} {o:Nat} (hl:∀ x ∈ l,ZV x) (hn:l.length + o ≤ 512):0 ≤ (WW l o).2.2.1 ∧ (WW l o).2.2.1 ≤ 281474976710656:=by
 obtain ⟨h1,q,hg⟩:=ZcH hl hn (by omega)
 refine ⟨h1,?_⟩
 have key:∀ (cs:List (List Int)) (ps:List Prt) (sz m:Int),(m = 0 ∨ m = 1) → (∀ c ∈ cs,(∀ x ∈ c,ZV x) ∧ c.length ≤ 512) → (QE m cs ps sz).2.1 ≤ sz + (cs.length:Int) * 8796093022208:=by
  intro cs
  induction cs with
  | nil => intro ps sz m _ _; simp [QE]
  | cons c cs ih =>
   intro ps sz m hm h
   cases hb:(Q5 c m).2 with
   | false => rw [Zlf _ _ _ hb]; simp only [List.length_cons]; omega
   | true =>
    rw [Zhu _ _ _ hb]
    have h1:=h c (List.mem_cons_self ..)
    have h2:=(Zdw hb).size h1.1 h1.2
    have:=ih (ps ++ [(Q5 c m).1]) (sz + (4 + m + (Q5 c m).1.2.2.1)) m hm fun c hc => h c (List.mem_cons_of_mem _ hc)
    simp only [List.length_cons]
    omega
 have:=key (XR l o q) [] 6 _ hg.hm fun c hc => ⟨fun x hx => hl x (ZbD hc x hx),by have:=ZhS hc; omega⟩
 rw [hg.parts,ZhT] at this
 have h16:2 ^ q ≤ 2 ^ 4:=Nat.pow_le_pow_right (by omega) hg.p4
 generalize 2 ^ q = Q at this h16
 simp only at this
 omega
theorem ZlX {c s:List Int} {sh:Int} (h:(Q4 c sh s).2 = 0):(Q4 c sh s).1 = Zc5 c sh s ∧ c.length ≤ s.length ∧ Y5 c sh = true:=by
 unfold Q4 at h ⊢
 split at h
 ·simp at h
 ·split at h
  ·simp at h
  ·split at h
   ·simp at h
   ·split at h
    ·simp at h
    ·rename_i h1 h2 h3 h4
     rw [if_neg h1,if_neg h2,if_neg h3,if_neg h4]
     refine ⟨rfl,by omega,by simpa using h1⟩
theorem Zbv {c s:List Int} {sh:Int} (h:(Q4 c sh s).2 = 0) (h1:1 ≤ s.length) (h2:s.length ≤ 512):(Q4 c sh s).1.length + c.length = s.length ∧ c.length ≤ 8 ∧ YI (Q4 c sh s).1 (c.length:Nat) = 0:=by
 have hz:=ZlX h
 have hlen:(Q4 c sh s).1.length + c.length = s.length:=by rw [hz.1,Zc5,Zqi]; omega
 have h8:=(Za7 hz.2.2).1
 refine ⟨hlen,h8,ZlV.2 ⟨⟨by omega,by omega,h8⟩,?_⟩⟩
 rw [List.any_eq_false]
 intro x hx
 have:=X5 c sh s x hx
 unfold ZV at this
 unfold Qi
 simp only [decide_eq_true_eq]
 omega
def ZSx (p:SPl) (kk d:Int) (s:List Int):Option Xo → SPl × Bool × Unit
 | none => (p,false,())
 | some x => (ZSC kk d s x,true,())
theorem ZDK (k:Nat) (hk:40000 < k) {s:List Int} (h1:1 ≤ s.length) (h2:s.length ≤ 512) {d:Nat} (hd:d ≤ 25) {head:Int} (hh:0 ≤ head ∧ head ≤ 1000) (kind:Int) (c:List Int) (sh a0 a1 a5:Int) (a4 a6:List Int) (a7:Int) :
  Zha k ((a0,a1,(d:Int),s,(a4,a5,()),a6,a7,()),kind,(c,sh,()),head,()) = some (ZSx (a0,a1,(d:Int),s,(a4,a5,()),a6,a7,()) a1 d s (ZpW s d kind c sh head),()):=by
 show Zfc k _ = _
 simp only [Zfc]
 rw [Zrz k c sh s (by omega) (by omega)]
 simp only [Qr]
 rw [Zo]
 unfold ZpW
 by_cases h:(Q4 c sh s).2 = 0
 ·rw [Ze (by simpa using h),if_pos h]
  obtain ⟨hl,h8,hr⟩:=Zbv h h1 h2
  have hc:=ZEy k (l:=(Q4 c sh s).1) (o:=c.length) (by omega) hk
  rw [if_pos hr] at hc
  rw [show Int.ofNat c.length = ((c.length:Nat):Int) from rfl,hc]
  simp only [Qr]
  rw [show ((0:Int) != 0) = false from rfl]
  simp only [cond_false]
  have hsz:=ZhP (X5 c sh s) (o:=c.length) (by omega)
  have hcd:c.length * d ≤ 8 * 25:=Nat.mul_le_mul h8 hd
  have e1:((c.length:Nat):Int) * (d:Int) = ((c.length * d:Nat):Int):=by push_cast; rfl
  rw [e1,ZT (n:=((c.length * d:Nat):Int)) (by omega),ZT (n:=head + ((c.length * d:Nat):Int)) (by omega),ZT (by omega)]
  rfl
 ·rw [Zb h,if_neg h]
  rfl
theorem ZwD (k:Nat) {s:List Int} (h1:1 ≤ s.length) (h2:s.length ≤ 512) (hk:1000 < k) (a0 a1 a2 a5 a7:Int) (a4 a6:List Int) :
  ZdE k (s,((a0,a1,a2,s,a4,a5,a6,a7,()),()),()) = some (!s.all (fun x => decide (x = s.headD 0)),(a0,a1,a2,s,a4,a5,a6,a7,()),()):=by
 show ZaP k _ = _
 simp only [ZaP]
 have hhd:s.getD 0 0 = s.headD 0:=by cases s <;> rfl
 have key:∃ i:Int,ZdQ k (s,((a0,a1,a2,s,a4,a5,a6,a7,()),()),()) = some (i,(a0,a1,a2,s,a4,a5,a6,a7,()),()) ∧ (0 ≤ i ↔ s.all (fun x => decide (x = s.headD 0)) = false):=by
  have:=XK (A:=Unit) (R:=Int × FPl × Unit) (step:=fun L1 => Kl k L1) (fun i _ => (Int.ofNat s.length,Int.ofNat i,s,a0,a1,a2,s,a4,a5,a6,a7)) s
   (fun l _ => some (if l.all (fun x => decide (x = s.headD 0)) then -1 else Int.ofNat (s.length - l.length + (l.takeWhile (fun x => decide (x = s.headD 0))).length),(a0,a1,a2,s,a4,a5,a6,a7,()),()))
   (fun L _ => by simp only [Kl]; rw [Ze (We _)]; rfl)
   (fun L i hi _ hL => by
    simp only [Kl]
    have e:Zn9 k (s[i],(a0,a1,a2,s,a4,a5,a6,a7,()),()) = some (s[i] != s.headD 0,(a0,a1,a2,s,a4,a5,a6,a7,()),()):=by
     show Zfa k _ = _
     simp only [Zfa]
     rw [Zb (by simp only [Z8]; omega),hhd]
    rw [Zb (ltR hi),Zb (Y2 hi),ZO hi,e]
    simp only [Qr]
    have hlen:(List.drop (i + 1) s).length = s.length - (i + 1):=by simp
    rw [Zo]
    by_cases hc:s[i] = s.headD 0
    ·rw [Ze (by simpa using hc),QL hi (by omega),hL ()]
     simp only [List.all_cons,hc,decide_true,Bool.true_and,List.takeWhile_cons,if_true,List.length_cons,hlen]
     split
     ·rfl
     ·congr 3; omega
    ·rw [Zb hc]
     simp only [List.all_cons,hc,decide_false,Bool.false_and,Bool.false_eq_true,if_false,List.takeWhile_cons,List.length_cons,hlen,List.length_nil]
     congr 3; omega) k 0 () (by omega) (Nat.zero_le _)
  rw [List.drop_zero] at this
  refine ⟨_,this,?_⟩
  cases s.all (fun x => decide (x = s.headD 0)) <;> simp
 obtain ⟨i,h1,h2⟩:=key
 rw [h1]
 simp only [Qr]
 cases hc:s.all (fun x => decide (x = s.headD 0)) with
 | false => rw [QS (h2.2 hc)]; rfl
 | true => rw [QG (fun h => by have:=h2.1 h; rw [hc] at this; cases this)]; rfl
def ZeC (s:List Int) (d:Nat):Option Xo:=if s.all (fun x => decide (x = s.headD 0)) = true then some (0,[],0,[],(d:Int)) else none
def ZNI (s:List Int) (d:Nat) (o:Nat):Option Xo:=ZpW s d (8 + (o:Int)) (Yc o) 0 0
def Zdr (s:List Int) (d:Nat) (o:Nat):Option Xo:=if o < s.length then ZpW s d (31 + (o:Int)) (Zc9 s o) 4 (9 + 12 * (o:Int)) else none
def ZKK (s:List Int) (d:Nat):Option Xo:=some (1,[],0,[],(s.length:Int) * (d:Int))
def ZFd (s:List Int) (d:Nat):Nat → Nat → Option Xo → Option Xo
 | 0,_,b => b
 | e + 1,o,b => ZFd s d e (o + 1) (Q8 b (ZNI s d o))
def Zmd (s:List Int) (d:Nat):Option Xo :=
 Q8 (Q8 (Q8 (Q8 (ZFd s d (min 4 s.length + 1) 0 (Q8 none (ZeC s d))) (Zdr s d 2)) (Zdr s d 4)) (Zdr s d 8)) (ZKK s d)
theorem ZCP {s:List Int} {d:Nat} {kind:Int} {c:List Int} {sh head:Int} (h1:1 ≤ s.length) (h2:s.length ≤ 512) (hh:0 ≤ head):nnC (ZpW s d kind c sh head):=by
 intro x hx
 unfold ZpW at hx
 split at hx
 ·rename_i h
  obtain rfl:=(Option.some.inj hx).symm
  obtain ⟨hl,h8,_⟩:=Zbv h h1 h2
  have:=(ZhP (X5 c sh s) (o:=c.length) (by omega)).1
  have e1:((c.length:Nat):Int) * (d:Int) = ((c.length * d:Nat):Int):=by push_cast; rfl
  simp only
  rw [e1]
  omega
 ·cases hx
theorem Zvw:nnC none:=fun _ h => by cases h
theorem ZFc (s:List Int) (d:Nat):nnC (ZeC s d):=by
 intro x hx
 unfold ZeC at hx
 split at hx
 ·obtain rfl:=(Option.some.inj hx).symm
  simp only
  omega
 ·cases hx
theorem ZCE {s:List Int} {d o:Nat} (h1:1 ≤ s.length) (h2:s.length ≤ 512):nnC (ZNI s d o):=ZCP h1 h2 (Int.le_refl _)
theorem Zvs {s:List Int} {d o:Nat} (h1:1 ≤ s.length) (h2:s.length ≤ 512):nnC (Zdr s d o):=by
 unfold Zdr
 split
 ·exact ZCP h1 h2 (by omega)
 ·exact Zvw
theorem ZCF {s:List Int} {d:Nat} (h1:1 ≤ s.length) (h2:s.length ≤ 512):∀ (e o:Nat) (b:Option Xo),nnC b → nnC (ZFd s d e o b)
 | 0,_,b,h => h
 | e + 1,o,b,h => ZCF h1 h2 e (o + 1) _ (Zcw h (ZCE h1 h2))
theorem ZsQ (k:Nat) (hk:40000 < k) {s:List Int} (h1:1 ≤ s.length) (h2:s.length ≤ 512) {d:Nat} (hd:d ≤ 25) {head:Int} (hh:0 ≤ head ∧ head ≤ 1000) (kind:Int) (c:List Int) (sh a0 a1 a5:Int) (a4 a6:List Int) (a7:Int) {b:Option Xo} (hb:nnC b)
  {R:Type} (K:Unit × FPl × Unit → Option R) :
  ((Zha k ((a0,a1,(d:Int),s,(a4,a5,()),a6,a7,()),kind,(c,sh,()),head,())).bind fun y =>
   (Zbi k ((y.1.1.1,y.1.1.2.1,y.1.1.2.2.1,y.1.1.2.2.2.1,(y.1.1.2.2.2.2.1.1,y.1.1.2.2.2.2.1.2.1,()),y.1.1.2.2.2.2.2.1,y.1.1.2.2.2.2.2.2.1,()),y.1.2.1,((Qu a1 d s b).1,(Qu a1 d s b).2.1,(Qu a1 d s b).2.2.1,(Qu a1 d s b).2.2.2.1,(Qu a1 d s b).2.2.2.2.1,(Qu a1 d s b).2.2.2.2.2.1,(Qu a1 d s b).2.2.2.2.2.2.1,(Qu a1 d s b).2.2.2.2.2.2.2.1,()),())).bind K) =
  K ((),Qu a1 d s (Q8 b (ZpW s d kind c sh head)),()):=by
 rw [ZDK k hk h1 h2 hd hh]
 simp only [Qr]
 cases hm:ZpW s d kind c sh head with
 | none => rfl
 | some x =>
  have:=Zn8 k a1 d s x b hb
  exact (congrArg (fun z => z.bind K) this).trans rfl
end Go.Sh
namespace Go.Sh
open Go Go.Proofs
theorem Zc {α β:Type} {x:Option α} {a:α} (h:x = some a) (K:α → Option β):x.bind K = K a:=by rw [h]; rfl
theorem ZNp (k:Nat) (hk:40000 < k) {s:List Int} (h1:1 ≤ s.length) (h2:s.length ≤ 512) {d:Nat} (hd:d ≤ 25) (kk:Int) :
  ∀ (e o j:Nat) (b:Option Xo),e < j → o + e ≤ 5 → nnC b →
  Zp (fun L2 => Zej k (ZkU k) L2) j (((o + e:Nat):Int),(o:Int),Int.ofNat s.length,(Qu kk d s b).1,(Qu kk d s b).2.1,(Qu kk d s b).2.2.1,(Qu kk d s b).2.2.2.1,(Qu kk d s b).2.2.2.2.1,(Qu kk d s b).2.2.2.2.2.1,(Qu kk d s b).2.2.2.2.2.2.1,(Qu kk d s b).2.2.2.2.2.2.2.1,
    0,kk,(d:Int),s,[],0,[],0,0,kk,(d:Int),0,(d:Int),s,0,0,0,0,0) =
   (fun b => ZkU k ((0:Int),(2:Int),(4:Int),(8:Int),Int.ofNat s.length,0,kk,(d:Int),s,[],0,[],0,(Qu kk d s b).1,(Qu kk d s b).2.1,(Qu kk d s b).2.2.1,(Qu kk d s b).2.2.2.1,(Qu kk d s b).2.2.2.2.1,(Qu kk d s b).2.2.2.2.2.1,(Qu kk d s b).2.2.2.2.2.2.1,(Qu kk d s b).2.2.2.2.2.2.2.1,
    0,kk,(d:Int),0,(d:Int),s,0,0,0,0,0)) (ZFd s d e o b):=by
 intro e
 induction e with
 | zero =>
  intro o j b hj ho hb
  obtain ⟨j,rfl⟩:=Zk hj
  rw [Zg]
  simp only [Zej]
  rw [Ze (by omega)]
  rfl
 | succ e ih =>
  intro o j b hj ho hb
  obtain ⟨j,rfl⟩:=Zk (show 0 < j by omega)
  rw [Zg]
  simp only [Zej]
  rw [Zb (by omega),Zkk k o (by omega) (by omega)]
  simp only [Qr]
  have e1:IntKind.i64.wrap ((8:Int) + (o:Int)) = 8 + (o:Int):=by rw [ZT (by omega)]
  have e2:IntKind.i64.wrap ((o:Int) + 1) = ((o + 1:Nat):Int):=by rw [ZT (by omega)]; rfl
  rw [e1,e2]
  refine (ZsQ k hk h1 h2 hd (show (0:Int) ≤ 0 ∧ (0:Int) ≤ 1000 by omega) (8 + (o:Int)) (Yc o) 0 0 kk 0 [] [] 0 hb _).trans ?_
  have:=ih (o + 1) j (Q8 b (ZNI s d o)) (by omega) (by omega) (Zcw hb (ZCE h1 h2))
  rw [show o + 1 + e = o + (e + 1) by omega] at this
  exact this
theorem ZNq (k:Nat) (hk:40000 < k) {s:List Int} (h1:1 ≤ s.length) (h2:s.length ≤ 512) (hs:∀ x ∈ s,ZV x) {d:Nat} (hd:d ≤ 25) (kk:Int) (b:Option Xo) (hb:nnC b) :
  ZkU k ((0:Int),(2:Int),(4:Int),(8:Int),Int.ofNat s.length,0,kk,(d:Int),s,[],0,[],0,(Qu kk d s b).1,(Qu kk d s b).2.1,(Qu kk d s b).2.2.1,(Qu kk d s b).2.2.2.1,(Qu kk d s b).2.2.2.2.1,(Qu kk d s b).2.2.2.2.2.1,(Qu kk d s b).2.2.2.2.2.2.1,(Qu kk d s b).2.2.2.2.2.2.2.1,
    0,kk,(d:Int),0,(d:Int),s,0,0,0,0,0) =
   (fun b => some (((Qu kk d s b).1,(Qu kk d s b).2.1,(Qu kk d s b).2.2.1,(Qu kk d s b).2.2.2.1,((Qu kk d s b).2.2.2.2.1,(Qu kk d s b).2.2.2.2.2.1,()),(Qu kk d s b).2.2.2.2.2.2.1,(Qu kk d s b).2.2.2.2.2.2.2.1,()),()))
    (Q8 (Q8 (Q8 (Q8 b (Zdr s d 2)) (Zdr s d 4)) (Zdr s d 8)) (ZKK s d)):=by
 have one:∀ (j i o:Nat) (b:Option Xo),(i = 0 ∧ o = 2 ∨ i = 1 ∧ o = 4 ∨ i = 2 ∧ o = 8) → nnC b →
   Zp (fun L3 => Zce k L3) (j + 1) ((i:Int),(2:Int),(4:Int),(8:Int),Int.ofNat s.length,0,kk,(d:Int),s,[],0,[],0,(Qu kk d s b).1,(Qu kk d s b).2.1,(Qu kk d s b).2.2.1,(Qu kk d s b).2.2.2.1,(Qu kk d s b).2.2.2.2.1,(Qu kk d s b).2.2.2.2.2.1,(Qu kk d s b).2.2.2.2.2.2.1,(Qu kk d s b).2.2.2.2.2.2.2.1,
    0,kk,(d:Int),0,(d:Int),s,0,0,0,0,0) =
   (fun b => Zp (fun L3 => Zce k L3) j (((i + 1:Nat):Int),(2:Int),(4:Int),(8:Int),Int.ofNat s.length,0,kk,(d:Int),s,[],0,[],0,(Qu kk d s b).1,(Qu kk d s b).2.1,(Qu kk d s b).2.2.1,(Qu kk d s b).2.2.2.1,(Qu kk d s b).2.2.2.2.1,(Qu kk d s b).2.2.2.2.2.1,(Qu kk d s b).2.2.2.2.2.2.1,(Qu kk d s b).2.2.2.2.2.2.2.1,
    0,kk,(d:Int),0,(d:Int),s,0,0,0,0,0)) (Q8 b (Zdr s d o)):=by
  intro j i o b hio hb
  rw [Zg]
  simp only [Zce]
  have ho:o = 2 ∨ o = 4 ∨ o = 8:=by omega
  have hg:[(2:Int),4,8].getD ((i:Int)).toNat 0 = (o:Int):=by
   rcases hio with ⟨rfl,rfl⟩ | ⟨rfl,rfl⟩ | ⟨rfl,rfl⟩ <;> rfl
  have e2:IntKind.i64.wrap ((i:Int) + 1) = ((i + 1:Nat):Int):=by rw [ZT (by omega)]; rfl
  rw [Zb (by omega),Zb (by omega),hg,e2]
  unfold Zdr
  by_cases hlt:o < s.length
  ·rw [Zb (by simp only [Z8]; omega),if_pos hlt,ZDP k s o ho (by omega) hs (by omega) (by omega)]
   simp only [Qr]
   have e1:IntKind.i64.wrap ((31:Int) + (o:Int)) = 31 + (o:Int):=by rw [ZT (by omega)]
   have e3:IntKind.i64.wrap ((9:Int) + IntKind.i64.wrap ((12:Int) * (o:Int))) = 9 + 12 * (o:Int):=by rw [ZT (n:=12 * (o:Int)) (by omega),ZT (by omega)]
   rw [e1,e3]
   exact ZsQ k hk h1 h2 hd (show (0:Int) ≤ 9 + 12 * (o:Int) ∧ 9 + 12 * (o:Int) ≤ 1000 by omega) (31 + (o:Int)) (Zc9 s o) 4 0 kk 0 [] [] 0 hb _
  ·rw [Ze (by simp only [Z8]; omega),if_neg hlt]
   rfl
 obtain ⟨j,rfl⟩:∃ j,k = j + 4:=⟨k - 4,by omega⟩
 have nn1:=Zcw hb (Zvs (o:=2) (d:=d) h1 h2)
 have nn2:=Zcw nn1 (Zvs (o:=4) (d:=d) h1 h2)
 have nn3:=Zcw nn2 (Zvs (o:=8) (d:=d) h1 h2)
 refine (one (j + 3) 0 2 b (by omega) hb).trans ((one (j + 2) 1 4 _ (by omega) nn1).trans ((one (j + 1) 2 8 _ (by omega) nn2).trans ?_))
 generalize Q8 (Q8 (Q8 b (Zdr s d 2)) (Zdr s d 4)) (Zdr s d 8) = b3 at nn3
 simp only
 rw [Zg]
 simp only [Zce]
 rw [Ze (by omega)]
 have hmul:s.length * d ≤ 512 * 25:=Nat.mul_le_mul h2 hd
 have e1:IntKind.i64.wrap (Int.ofNat s.length * (d:Int)) = (s.length:Int) * (d:Int):=by
  have:Int.ofNat s.length * (d:Int) = ((s.length * d:Nat):Int):=by simp only [Z8]; push_cast; rfl
  rw [this,ZT (by omega)]; push_cast; rfl
 rw [e1]
 have:=Zn8 (j + 4) kk d s (1,[],0,[],(s.length:Int) * (d:Int)) b3 nn3
 exact Zc this _
theorem ZJn (k:Nat) (hk:40000 < k) {s:List Int} (h1:1 ≤ s.length) (h2:s.length ≤ 512) {d:Nat} (hd1:1 ≤ d) (hd:d ≤ 25) (hs:∀ x ∈ s,W6 x d = true) :
  Zr6 k (s,(d:Int),()) = (fun b => some (((Qu (ZN s:Nat) ((d - ZN s:Nat):Int) (Wg s) b).1,(Qu (ZN s:Nat) ((d - ZN s:Nat):Int) (Wg s) b).2.1,(Qu (ZN s:Nat) ((d - ZN s:Nat):Int) (Wg s) b).2.2.1,(Qu (ZN s:Nat) ((d - ZN s:Nat):Int) (Wg s) b).2.2.2.1,((Qu (ZN s:Nat) ((d - ZN s:Nat):Int) (Wg s) b).2.2.2.2.1,(Qu (ZN s:Nat) ((d - ZN s:Nat):Int) (Wg s) b).2.2.2.2.2.1,()),(Qu (ZN s:Nat) ((d - ZN s:Nat):Int) (Wg s) b).2.2.2.2.2.2.1,(Qu (ZN s:Nat) ((d - ZN s:Nat):Int) (Wg s) b).2.2.2.2.2.2.2.1,()),()))
   (Zmd (Wg s) (d - ZN s)):=by
 show Zi0 k (ZuQ k) _ = _
 simp only [Zi0]
 rw [ZDG k s (by omega) (by omega)]
 simp only [Qr]
 have hw:=Zgs hd1 hs
 have hsg:=Zqp hd1 hs
 have hsl:=Zcv s
 have e1:IntKind.i64.wrap ((d:Int) - ((ZN s:Nat):Int)) = ((d - ZN s:Nat):Int):=by rw [ZT (by omega)]; omega
 rw [e1]
 generalize hkk:ZN s = kk at hw hsg
 generalize hdd:d - kk = dd at hsg
 have:=ZI (A:=List Int) (R:=SPl × Unit) (step:=fun L1 => Ks k (ZkT k) L1)
  (fun i a => (Int.ofNat s.length,Int.ofNat i,s,(kk:Int),(0:Int),(kk:Int),(dd:Int),(0:Int),(0:Int),a,(0:Int),(0:Int),(0:Int),(0:Int),(0:Int))) s
  (fun s' a => Ks k (ZkT k) (fun _ => none) (Int.ofNat s.length,Int.ofNat s.length,s,(kk:Int),(0:Int),(kk:Int),(dd:Int),(0:Int),(0:Int),a ++ s'.map (fun x => x.fdiv (2 ^ kk)),(0:Int),(0:Int),(0:Int),(0:Int),(0:Int)))
  (fun i a => a.length = i)
  (fun L a _ => by
   simp only [Ks]
   rw [Ze (We _),Ze (We _)]
   simp)
  (fun L i hi a ha hL => by
   have key:Ks k (ZkT k) L (Int.ofNat s.length,Int.ofNat i,s,(kk:Int),(0:Int),(kk:Int),(dd:Int),(0:Int),(0:Int),a,(0:Int),(0:Int),(0:Int),(0:Int),(0:Int)) =
     L (Int.ofNat s.length,Int.ofNat (i + 1),s,(kk:Int),(0:Int),(kk:Int),(dd:Int),(0:Int),(0:Int),a ++ [s[i].fdiv (2 ^ kk)],(0:Int),(0:Int),(0:Int),(0:Int),(0:Int)):=by
    simp only [Ks]
    rw [Zb (ltR hi),Zb (Y2 hi),Zb (by omega),Zb (by simp only [List.length_singleton]; omega),ZO hi,QZ,Nat.min_eq_left (by omega),QL hi (by omega)]
   rw [key,hL _ (by simp; omega),List.map_cons,List.append_assoc]
   rfl)
  k 0 [] rfl (by omega) (Nat.zero_le _)
 rw [List.drop_zero,List.nil_append] at this
 refine Eq.trans this ?_
 have hsh:s.map (fun x => x.fdiv (2 ^ kk)) = Wg s:=by unfold Wg; rw [hkk]
 rw [hsh]
 generalize Wg s = t at hsg hsl
 simp only [Ks]
 rw [Ze (We _),ZwD k (by omega) (by omega) (by omega)]
 simp only [Qr,Bool.not_not]
 have nar:∀ x ∈ t,ZV x:=fun x hx => ZBh (by omega) (hsg x hx)
 have hfirst:Zbi k (((0:Int),(kk:Int),(dd:Int),t,([],0,()),[],(dd:Int),()),t.all (fun x => decide (x = t.headD 0)),(0,0,0,[],[],0,[],(-1:Int),()),()) = some ((),Qu kk dd t (Q8 none (ZeC t dd)),()):=by
  unfold ZeC
  cases t.all (fun x => decide (x = t.headD 0)) with
  | false => rfl
  | true => exact Zn8 k kk dd t (0,[],0,[],(dd:Int)) none Zvw
 rw [hfirst]
 simp only [Qr]
 have e4:IntKind.i64.wrap ((if Int.ofNat t.length < (4:Int) then Int.ofNat t.length else (4:Int)) + (1:Int)) = ((0 + (min 4 t.length + 1):Nat):Int):=by
  have:(if Int.ofNat t.length < (4:Int) then Int.ofNat t.length else (4:Int)) = ((min 4 t.length:Nat):Int):=by
   simp only [Z8]; split <;> omega
  rw [this,ZT (by omega)]
  omega
 rw [e4]
 have nn0:nnC (Q8 none (ZeC t dd)):=Zcw Zvw (ZFc t dd)
 refine (ZNp k hk (by omega) (by omega) (show dd ≤ 25 by omega) kk (min 4 t.length + 1) 0 k _ (by omega) (by omega) nn0).trans ?_
 exact ZNq k hk (by omega) (by omega) nar (by omega) kk _ (ZCF (by omega) (by omega) _ _ _ nn0)
end Go.Sh
namespace Go.Sh
open Go Go.Proofs
theorem WM (w:Nat):∀ c:List Int,(c.flatMap fun n => Yt n w).length = w * c.length
 | [] => rfl
 | a :: c => by rw [List.flatMap_cons,Yq,Zgp,WM w c,List.length_cons,Nat.mul_add,Nat.mul_one]; omega
theorem Zjs (kk:Nat):∀ c:List Int,(c.flatMap (Zgl kk)).length = Zc6 c kk
 | [] => rfl
 | a :: c => by
  rw [List.flatMap_cons,Yq,ZeN,Zjs kk c]
  unfold Zc6
  simp only [List.length_cons,List.map_cons,ZhD,Nat.mul_add,Nat.mul_one]
  omega
theorem ZvC {c:List Int} {m:Int} (hm:m = 0 ∨ m = 1) {y:Prt} (hy:Zah c m y):((ZaB m (c,y)).length:Int) = 4 + m + y.2.2.1:=by
 have hmn:((m.toNat:Nat):Int) = m:=by rcases hm with rfl | rfl <;> rfl
 unfold ZaB Kx
 rcases hy with ⟨kk,hkk,hfar,rfl⟩ | ⟨hw,rfl⟩
 ·simp only
  rw [if_neg (by omega),if_neg (by omega)]
  simp only [Yq,ZE,List.length_nil,QZ,Zjs]
  omega
 ·simp only
  rw [if_pos trivial,if_pos trivial]
  simp only [Yq,ZE,QZ,WM]
  omega
theorem Zsz {m:Int} (hm:m = 0 ∨ m = 1):∀ (cs:List (List Int)) (ps:List Prt) (sz:Int),(QE m cs ps sz).2.2 = true →
  ((((cs.zip (cs.map fun c => (Q5 c m).1)).flatMap (ZaB m)).length:Nat):Int) = (QE m cs ps sz).2.1 - sz
 | [],ps,sz,_ => by simp [QE]
 | c :: cs,ps,sz,h => by
  cases hb:(Q5 c m).2 with
  | false => rw [Zlf _ _ _ hb] at h; cases h
  | true =>
   rw [Zhu _ _ _ hb] at h ⊢
   have h1:=ZvC hm (Zdw hb)
   have h2:=Zsz hm cs _ _ h
   simp only [List.map_cons,List.zip_cons_cons,List.flatMap_cons,Yq]
   omega
theorem RGood.map {l:List Int} {o p:Nat} {R:XT} (h:RGood l o R p):R.2.2.2 = (XR l o p).map fun c => (Q5 c R.1).1:=by
 obtain ⟨ys,h1,h2,h3⟩:=ZeP (m:=R.1) (XR l o p) [] 6 (by rw [h.parts])
 rw [h.parts] at h1
 simp only [List.nil_append] at h1
 rw [h1,h3]
theorem RGood.len {l:List Int} {o p:Nat} {R:XT} (h:RGood l o R p):((ZjH l o R).length:Int) = R.2.2.1:=by
 have h1:=Zsz h.hm (XR l o p) [] 6 (by rw [h.parts])
 rw [h.parts,← h.map] at h1
 unfold ZjH
 rw [h.hp,QZ]
 simp only [Yq,ZE]
 simp only at h1
 omega
theorem ZvJ {l:List Int} {o:Nat} (hl:∀ x ∈ l,ZV x) (hn:l.length + o ≤ 512):((ZeV l o).length:Int) = (WW l o).2.2.1:=by
 obtain ⟨_,q,hg⟩:=ZcH hl hn (by omega)
 exact hg.len
def ZgU (s:List Int) (d:Nat) (x:Xo):Prop :=
 (x = (0,[],0,[],(d:Int)) ∧ s.all (fun x => decide (x = s.headD 0)) = true) ∨ x = (1,[],0,[],(s.length:Int) * (d:Int)) ∨
 (∃ o,o ≤ 4 ∧ o ≤ s.length ∧ ZNI s d o = some x) ∨ (∃ o,(o = 2 ∨ o = 4 ∨ o = 8) ∧ o < s.length ∧ ZpW s d (31 + (o:Int)) (Zc9 s o) 4 (9 + 12 * (o:Int)) = some x)
def Zq2 (s:List Int) (d:Nat) (b:Option Xo):Prop := ∀ x,b = some x → ZgU s d x
theorem Zy2 {b x:Option Xo} {y:Xo} (h:Q8 b x = some y):b = some y ∨ x = some y:=by
 unfold Q8 at h
 match x,b,h with
 | none,b,h => exact .inl h
 | some x,none,h => exact .inr h
 | some x,some b,h =>
  simp only at h
  split at h
  ·exact .inr h
  ·exact .inl h
theorem Zcx {s:List Int} {d:Nat} {b x:Option Xo} (hb:Zq2 s d b) (hx:Zq2 s d x):Zq2 s d (Q8 b x):=fun y hy => by
 rcases Zy2 hy with h | h
 ·exact hb y h
 ·exact hx y h
theorem ZKD {b x:Option Xo}:(∀ y,b = some y → ∃ z,Q8 b x = some z ∧ z.2.2.2.2 ≤ y.2.2.2.2) ∧ (∀ y,x = some y → ∃ z,Q8 b x = some z ∧ z.2.2.2.2 ≤ y.2.2.2.2):=by
 unfold Q8
 match x,b with
 | none,b => exact ⟨fun y hy => ⟨y,hy,Int.le_refl _⟩,fun y hy => by cases hy⟩
 | some x,none => exact ⟨fun y hy => (by cases hy),fun y hy => ⟨y,hy,Int.le_refl _⟩⟩
 | some x,some b =>
  simp only
  split
  ·exact ⟨fun y hy => by cases hy; exact ⟨x,rfl,by omega⟩,fun y hy => by cases hy; exact ⟨x,rfl,Int.le_refl _⟩⟩
  ·exact ⟨fun y hy => by cases hy; exact ⟨b,rfl,Int.le_refl _⟩,fun y hy => by cases hy; exact ⟨b,rfl,by omega⟩⟩
theorem ZCG {s:List Int} {d:Nat}:∀ (e o:Nat) (b:Option Xo),o + e ≤ min 4 s.length + 1 → Zq2 s d b → Zq2 s d (ZFd s d e o b)
 | 0,_,b,_,h => h
 | e + 1,o,b,he,h => ZCG e (o + 1) _ (by omega) (Zcx h fun x hx => .inr (.inr (.inl ⟨o,by omega,by omega,hx⟩)))
theorem Zvt {s:List Int} {d o:Nat} (ho:o = 2 ∨ o = 4 ∨ o = 8):Zq2 s d (Zdr s d o):=by
 intro x hx
 unfold Zdr at hx
 split at hx
 ·exact .inr (.inr (.inr ⟨o,ho,by omega,hx⟩))
 ·cases hx
theorem Zzy (s:List Int) (d:Nat):∃ x,Zmd s d = some x ∧ ZgU s d x ∧ x.2.2.2.2 ≤ (s.length:Int) * (d:Int):=by
 obtain ⟨z,h1,h2⟩:=(ZKD (b:=Q8 (Q8 (Q8 (ZFd s d (min 4 s.length + 1) 0 (Q8 none (ZeC s d))) (Zdr s d 2)) (Zdr s d 4)) (Zdr s d 8)) (x:=ZKK s d)).2 _ rfl
 refine ⟨z,h1,?_,h2⟩
 refine Zcx (Zcx (Zcx (Zcx (ZCG _ _ _ (by omega) (Zcx (fun x hx => by cases hx) ?_)) (Zvt (.inl rfl))) (Zvt (.inr (.inl rfl)))) (Zvt (.inr (.inr rfl)))) ?_ z h1
 ·intro x hx
  unfold ZeC at hx
  split at hx
  ·rename_i h
   exact .inl ⟨(Option.some.inj hx).symm,h⟩
  ·cases hx
 ·intro x hx
  exact .inr (.inl (Option.some.inj hx).symm)
def Zak (s:List Int) (d:Nat) (x:Xo):List Bool :=
 if x.1 = 0 then (s.take 1).flatMap (fun n => Yt n d) else if x.1 = 1 then s.flatMap (fun n => Yt n d)
 else (s.take x.2.1.length).flatMap (fun n => Yt n d) ++ ((if 31 < x.1 then Zm 11 4 ++ (Zm x.2.2.1.toNat 5 ++ x.2.1.flatMap (fun n => Yt n 12)) else []) ++ ZeV x.2.2.2.1 x.2.1.length)
def Zcg (kind:Int) (kk:Nat):List Bool:=Zm kind.toNat 7 ++ (if 0 < kk then [true] ++ (List.replicate (kk - 1) false ++ [true]) else [false])
def WJ (s:List Int) (d:Nat):List Bool:=match Zmd (Wg s) (d - ZN s) with
 | none => []
 | some x => Zcg x.1 (ZN s) ++ Zak (Wg s) (d - ZN s) x
theorem Zvn (kind:Int) (kk:Nat):(Zcg kind kk).length = 8 + kk:=by
 unfold Zcg
 rw [Yq,ZE]
 split
 ·simp; omega
 ·simp; omega
theorem Zaf {s:List Int} {d:Nat} {kind:Int} {c:List Int} {sh head:Int} {x:Xo} (h1:1 ≤ s.length) (h2:s.length ≤ 512) (h:ZpW s d kind c sh head = some x) :
  x.1 = kind ∧ x.2.1 = c ∧ x.2.2.1 = sh ∧ x.2.2.2.1 = Zc5 c sh s ∧ x.2.2.2.2 = head + (c.length:Int) * (d:Int) + ((ZeV (Zc5 c sh s) c.length).length:Int) ∧ YI (Zc5 c sh s) (c.length:Nat) = 0 ∧ c.length ≤ s.length ∧ c.length ≤ 8 ∧ Y5 c sh = true ∧
   (Q4 c sh s).2 = 0:=by
 unfold ZpW at h
 split at h
 ·rename_i hz
  obtain rfl:=(Option.some.inj h).symm
  obtain ⟨hl,h8,hr⟩:=Zbv hz h1 h2
  obtain ⟨e1,e2,e3⟩:=ZlX hz
  have:=ZvJ (X5 c sh s) (o:=c.length) (by omega)
  rw [e1] at hr this ⊢
  exact ⟨rfl,rfl,rfl,rfl,by simp only; omega,hr,e2,h8,e3,hz⟩
 ·cases h
theorem X6 (s:List Int) (d j:Nat) (h:j ≤ s.length):((s.take j).flatMap (fun n => Yt n d)).length = d * j:=by
 rw [WM,List.length_take,Nat.min_eq_left h]
theorem ZpA (o:Nat) (h:o ≤ 4):(Yc o).length = o:=by
 obtain rfl | rfl | rfl | rfl | rfl:o = 0 ∨ o = 1 ∨ o = 2 ∨ o = 3 ∨ o = 4:=by omega
 all_goals rfl
theorem Zs8 {s:List Int} {d:Nat} {x:Xo} (h1:1 ≤ s.length) (h2:s.length ≤ 512) (h:ZgU s d x):((Zak s d x).length:Int) = x.2.2.2.2:=by
 unfold Zak
 rcases h with ⟨rfl,_⟩ | rfl | ⟨o,ho,hos,hx⟩ | ⟨o,ho,hos,hx⟩
 ·simp only
  rw [if_pos trivial,X6 _ _ _ h1]
  omega
 ·simp only
  rw [if_neg (by omega),if_pos trivial,WM]
  push_cast
  rw [Int.mul_comm]
 ·obtain ⟨e1,e2,e3,e4,e5,e6,e7,e8,e9,_⟩:=Zaf h1 h2 hx
  rw [e1,e2,e3,e4,e5,if_neg (by omega),if_neg (by omega),if_neg (by omega)]
  simp only [Yq,List.length_nil,X6 _ _ _ e7]
  push_cast
  rw [Int.mul_comm (d:Int)]
  omega
 ·obtain ⟨e1,e2,e3,e4,e5,e6,e7,e8,e9,_⟩:=Zaf h1 h2 hx
  have hsl:=(Zqo s o ho).1
  rw [e1,e2,e3,e4,e5,if_neg (by omega),if_neg (by omega),if_pos (by omega)]
  simp only [Yq,X6 _ _ _ e7,ZE,WM]
  rw [hsl]
  push_cast
  rw [Int.mul_comm (d:Int)]
  omega
theorem ZjU (s:List Int) (d:Nat) (h1:1 ≤ s.length) (h2:s.length ≤ 512):∃ x,Zmd (Wg s) (d - ZN s) = some x ∧ ZgU (Wg s) (d - ZN s) x ∧ WJ s d = Zcg x.1 (ZN s) ++ Zak (Wg s) (d - ZN s) x ∧
  ((WJ s d).length:Int) = 8 + (ZN s:Int) + x.2.2.2.2 ∧ x.2.2.2.2 ≤ (s.length:Int) * ((d - ZN s:Nat):Int):=by
 obtain ⟨x,h3,h4,h5⟩:=Zzy (Wg s) (d - ZN s)
 have hb:=Zs8 (by rw [Zcv]; exact h1) (by rw [Zcv]; exact h2) h4
 rw [Zcv] at h5
 have e:WJ s d = Zcg x.1 (ZN s) ++ Zak (Wg s) (d - ZN s) x:=by unfold WJ; rw [h3]
 refine ⟨x,h3,h4,e,?_,h5⟩
 rw [e,Yq,Zvn]
 omega
theorem Zy1 {s:List Int} {d:Nat} (h1:1 ≤ s.length) (h2:s.length ≤ 512) (hw:ZN s < d):(WJ s d).length ≤ 8 + s.length * d:=by
 obtain ⟨x,_,_,_,h4,h5⟩:=ZjU s d h1 h2
 have e:(s.length:Int) * ((d - ZN s:Nat):Int) = ((s.length * d - s.length * ZN s:Nat):Int):=by
  rw [← Nat.mul_sub]; push_cast; rfl
 have h6:ZN s ≤ s.length * ZN s:=Nat.le_mul_of_pos_left _ h1
 have h7:s.length * ZN s ≤ s.length * d:=Nat.mul_le_mul_left _ (by omega)
 omega
end Go.Sh
namespace Go.Sh
open Go Go.Proofs
theorem Zen (k:Nat) {l:List Int} {w:Nat} (hk:10000 < k) (hl:l.length ≤ 8192) (hw:w ≤ 32) (hs:∀ x ∈ l,W6 x w = true) (bs:List Bool) (hb:bs.length ≤ 2147483648) :
  KT k (wst bs,l,(w:Int),()) = some ((),wst (bs ++ l.flatMap (fun n => Yt n w)),()):=by
 show Zi2 k (ZuU k) _ = _
 simp only [Zi2]
 have:=ZI (A:=List Bool) (R:=Unit × (List Int × Int × Unit) × Unit) (step:=fun L1 => Zem k L1)
  (fun i a => (Int.ofNat l.length,Int.ofNat i,l,(w:Int),(a.length:Int),Qh a)) l
  (fun l' a => some ((),wst (a ++ l'.flatMap (fun n => Yt n w)),()))
  (fun i a => a.length ≤ 2147483648 + i * 32)
  (fun L a _ => by
   simp only [Zem]
   rw [Ze (We _)]
   simp)
  (fun L i hi a ha hL => by
   simp only [Zem]
   rw [Zb (ltR hi),Zb (Y2 hi),ZO hi]
   rw [show ((Qh a,((a.length:Nat):Int),()):List Int × Int × Unit) = wst a from rfl,Zrj k a _ w (by omega) hw (hs _ (List.getElem_mem hi)) (by omega)]
   simp only [Qr]
   rw [QL hi (by omega),hL (a ++ Yt l[i] w) (by rw [Yq,Zgp]; omega),List.flatMap_cons,List.append_assoc])
  k 0 bs (by omega) (by omega) (Nat.zero_le _)
 rw [List.drop_zero] at this
 exact this
noncomputable def Zix (k:Nat) (p:SPl) (w:List Int × Int × Unit):Option (Int × (List Int × Int × Unit) × Unit) :=
 bif p.1 == (0:Int) then bif decide ((0:Int) ≤ (0:Int) ∧ (0:Int) ≤ (1:Int) ∧ (1:Int) ≤ Int.ofNat (List.length p.2.2.2.1)) then (KT k (w,List.drop (0:Nat) (List.take (1:Nat) p.2.2.2.1),p.2.2.1,())).bind fun y => some (0,(y.2.1.1,y.2.1.2.1,()),()) else none
 else bif p.1 == (1:Int) then (KT k (w,p.2.2.2.1,p.2.2.1,())).bind fun y => some (0,(y.2.1.1,y.2.1.2.1,()),())
 else bif decide ((0:Int) ≤ (0:Int) ∧ (0:Int) ≤ Int.ofNat (List.length p.2.2.2.2.1.1) ∧ Int.ofNat (List.length p.2.2.2.2.1.1) ≤ Int.ofNat (List.length p.2.2.2.1)) then
  (KT k (w,List.drop (0:Nat) (List.take (Int.ofNat (List.length p.2.2.2.2.1.1)).toNat p.2.2.2.1),p.2.2.1,())).bind fun y_4 =>
   bif decide ((31:Int) < p.1) then (QM k ((y_4.2.1.1,y_4.2.1.2.1,()),11,4,())).bind fun y_5 => (QM k ((y_5.2.1.1,y_5.2.1.2.1,()),p.2.2.2.2.1.2.1,5,())).bind fun y_6 => (KT k ((y_6.2.1.1,y_6.2.1.2.1,()),p.2.2.2.2.1.1,12,())).bind fun y_7 => (ZgG k ((y_7.2.1.1,y_7.2.1.2.1,()),p.2.2.2.2.2.1,Int.ofNat (List.length p.2.2.2.2.1.1),())).bind fun y => some (y.1,(y.2.1.1,y.2.1.2.1,()),())
   else (ZgG k ((y_4.2.1.1,y_4.2.1.2.1,()),p.2.2.2.2.2.1,Int.ofNat (List.length p.2.2.2.2.1.1),())).bind fun y => some (y.1,(y.2.1.1,y.2.1.2.1,()),())
 else none
theorem ZE3 (k:Nat) (w:List Int × Int × Unit) (s:List Int) (d:Int):ZrX k (w,s,d,()) =
  (Zr5 k (s,d,())).bind fun y => bif y.1 != (0:Int) then some (y.1,w,()) else (Zr6 k (s,d,())).bind fun y => (QM k (w,y.1.1,7,())).bind fun y_1 =>
   bif decide ((0:Int) < y.1.2.1) then (QM k ((y_1.2.1.1,y_1.2.1.2.1,()),1,1,())).bind fun y_2 => (ZlL k ((y_2.2.1.1,y_2.2.1.2.1,()),IntKind.i64.wrap (y.1.2.1 - (1:Int)),())).bind fun y_3 => Zix k y.1 (y_3.2.1.1,y_3.2.1.2.1,())
   else (QM k ((y_1.2.1.1,y_1.2.1.2.1,()),0,1,())).bind fun y_2 => Zix k y.1 (y_2.2.1.1,y_2.2.1.2.1,()):=rfl
theorem ZgD (k:Nat) (hk:70000 < k) {s:List Int} (h1:1 ≤ s.length) (h2:s.length ≤ 512) {d:Nat} (hd1:1 ≤ d) (hd:d ≤ 25) (hs:∀ x ∈ s,W6 x d = true) {x:Xo} (hx:ZgU s d x) (kk:Int) (bs:List Bool) (hb:bs.length ≤ 1000000000) :
  Zix k (ZSC kk d s x) (wst bs) = some (0,wst (bs ++ Zak s d x),()):=by
 unfold Zix Zak
 rcases hx with ⟨rfl,_⟩ | rfl | ⟨o,ho,hos,hx⟩ | ⟨o,ho,hos,hx⟩
 ·simp only
  rw [Zw,Zb rfl,Zb (by simp only [Z8]; omega),if_pos trivial,List.drop_zero]
  rw [Zen k (by omega) (by rw [List.length_take]; omega) (by omega) (fun y hy => hs y (List.mem_of_mem_take hy)) bs (by omega)]
  rfl
 ·simp only
  rw [Zw,Ze (by omega),Zw,Zb rfl,if_neg (by omega),if_pos trivial]
  rw [Zen k (by omega) (by omega) (by omega) hs bs (by omega)]
  rfl
 ·obtain ⟨e1,e2,e3,e4,e5,e6,e7,e8,e9,_⟩:=Zaf h1 h2 hx
  obtain ⟨kind,c,sh,r,sz⟩:=x
  simp only at e1 e2 e3 e4 e5
  subst e1; subst e2; subst e3; subst e4
  simp only
  rw [Zw,Ze (by omega),Zw,Ze (by omega),Zb (by simp only [Z8]; omega),if_neg (by omega),if_neg (by omega),if_neg (by omega),List.drop_zero]
  rw [show (Int.ofNat (Yc o).length).toNat = (Yc o).length from rfl]
  rw [Zen k (by omega) (by rw [List.length_take]; omega) (by omega) (fun y hy => hs y (List.mem_of_mem_take hy)) bs (by omega)]
  simp only [Qr]
  rw [Ze (by omega),show Int.ofNat (Yc o).length = ((Yc o).length:Nat) from rfl]
  have hlen:=X6 s d (Yc o).length e7
  have hmul:d * (Yc o).length ≤ 25 * 8:=Nat.mul_le_mul hd e8
  refine (Zc (Zyc k (by omega) e6 (bs ++ (s.take (Yc o).length).flatMap (fun n => Yt n d)) (by rw [Yq]; omega)) _).trans ?_
  simp only [List.nil_append,List.append_assoc]
 ·obtain ⟨e1,e2,e3,e4,e5,e6,e7,e8,e9,_⟩:=Zaf h1 h2 hx
  obtain ⟨hsl,hsr⟩:=Zqo s o ho
  obtain ⟨kind,c,sh,r,sz⟩:=x
  simp only at e1 e2 e3 e4 e5
  subst e1; subst e2; subst e3; subst e4
  simp only
  rw [Zw,Ze (by omega),Zw,Ze (by omega),Zb (by simp only [Z8]; omega),if_neg (by omega),if_neg (by omega),if_pos (by omega),List.drop_zero]
  generalize Zc9 s o = c at hsl hsr e6 e7 e8 e9
  rw [show (Int.ofNat c.length).toNat = c.length from rfl]
  rw [Zen k (by omega) (by rw [List.length_take]; omega) (by omega) (fun y hy => hs y (List.mem_of_mem_take hy)) bs (by omega)]
  simp only [Qr]
  rw [Zb (by omega),show Int.ofNat c.length = (c.length:Nat) from rfl]
  have hlen:=X6 s d c.length e7
  have hmul:d * c.length ≤ 25 * 8:=Nat.mul_le_mul hd e8
  generalize hW:(s.take c.length).flatMap (fun n => Yt n d) = W at hlen
  have l1:(bs ++ W).length = bs.length + d * c.length:=by rw [Yq,hlen]
  refine (Zc (QN k (bs ++ W) 11 4 (by omega) (by omega) (by omega) (by omega)) _).trans ?_
  have l2:(bs ++ W ++ Zm 11 4).length = bs.length + d * c.length + 4:=by rw [Yq,l1,ZE]
  refine (Zc (QN k (bs ++ W ++ Zm 11 4) 4 5 (by omega) (by omega) (by omega) (by omega)) _).trans ?_
  have l3:(bs ++ W ++ Zm 11 4 ++ Zm 4 5).length = bs.length + d * c.length + 9:=by rw [Yq,l2,ZE]
  refine (Zc (Zen k (l:=c) (w:=12) (by omega) (by omega) (by omega) (fun y hy => by
   have:=hsr y hy
   unfold W6
   rw [if_neg (by omega),decide_eq_true_eq]
   omega) (bs ++ W ++ Zm 11 4 ++ Zm 4 5) (by omega)) _).trans ?_
  have l4:(bs ++ W ++ Zm 11 4 ++ Zm 4 5 ++ c.flatMap (fun n => Yt n 12)).length = bs.length + d * c.length + 9 + 12 * c.length:=by rw [Yq,l3,WM]
  refine (Zc (Zyc k (by omega) e6 (bs ++ W ++ Zm 11 4 ++ Zm 4 5 ++ c.flatMap (fun n => Yt n 12)) (by omega)) _).trans ?_
  show some _ = some _
  simp only [List.append_assoc]
  rfl
theorem ZgU.kind {s:List Int} {d:Nat} {x:Xo} (h1:1 ≤ s.length) (h2:s.length ≤ 512) (h:ZgU s d x):∃ n:Nat,x.1 = (n:Int) ∧ n < 2 ^ 7:=by
 rcases h with ⟨rfl,_⟩ | rfl | ⟨o,ho,hos,hx⟩ | ⟨o,ho,hos,hx⟩
 ·exact ⟨0,rfl,by omega⟩
 ·exact ⟨1,rfl,by omega⟩
 ·exact ⟨8 + o,by rw [(Zaf h1 h2 hx).1]; omega,by omega⟩
 ·exact ⟨31 + o,by rw [(Zaf h1 h2 hx).1]; omega,by omega⟩
theorem ZlY {s:List Int} {d:Nat}:Zgq s (d:Int) = 0 ↔ (1 ≤ s.length ∧ s.length ≤ 512 ∧ 4 ≤ d ∧ d ≤ 25) ∧ ∀ x ∈ s,W6 x d = true:=by
 unfold Zgq
 rw [QZ]
 constructor
 ·intro h
  split at h
  ·split at h
   ·rename_i h1 h2
    exact ⟨by omega,List.all_eq_true.1 h2⟩
   ·omega
  ·omega
 ·rintro ⟨h1,h2⟩
  rw [if_pos (by omega),if_pos (List.all_eq_true.2 h2)]
theorem ZIv (k:Nat) (hk:70000 < k) {s:List Int} {d:Nat} (h:Zgq s (d:Int) = 0) (bs:List Bool) (hb:bs.length ≤ 900000000) :
  ZrX k (wst bs,s,(d:Int),()) = some (0,wst (bs ++ WJ s d),()):=by
 obtain ⟨⟨h1,h2,h3,h4⟩,hs⟩:=ZlY.1 h
 rw [ZE3,ZJj k s d (by omega),h]
 simp only [Qr]
 rw [show ((0:Int) != 0) = false from rfl]
 simp only [cond_false]
 rw [ZJn k (by omega) h1 h2 (by omega) h4 hs]
 obtain ⟨x,hx,hok,hsub,hlen,_⟩:=ZjU s d h1 h2
 rw [hx,hsub]
 have hw:=Zgs (by omega) hs
 have hsg:=Zqp (by omega) hs
 have hsl:=Zcv s
 generalize ZN s = kk at hw hsg hok ⊢
 generalize Wg s = t at hsg hsl hok ⊢
 generalize hdd:d - kk = dd at hsg hok ⊢
 obtain ⟨kn,hk1,hk2⟩:=hok.kind (by omega) (by omega)
 show (QM k (wst bs,x.1,7,())).bind _ = _
 unfold Zcg
 rw [hk1,QZ]
 refine (Zc (QN k bs kn 7 (by omega) (by omega) hk2 (by omega)) _).trans ?_
 have l1:(bs ++ Zm kn 7).length = bs.length + 7:=by rw [Yq,ZE]
 show (bif decide ((0:Int) < (kk:Int)) then _ else _) = _
 by_cases h0:0 < kk
 ·rw [Zb (by omega),if_pos h0]
  refine (Zc (QN k (bs ++ Zm kn 7) 1 1 (by omega) (by omega) (by omega) (by omega)) _).trans ?_
  have l2:(bs ++ Zm kn 7 ++ Zm 1 1).length = bs.length + 8:=by rw [Yq,l1,ZE]
  show (ZlL k (wst (bs ++ Zm kn 7 ++ Zm 1 1),IntKind.i64.wrap ((kk:Int) - 1),())).bind _ = _
  have e1:IntKind.i64.wrap ((kk:Int) - 1) = ((kk - 1:Nat):Int):=by rw [ZT (by omega)]; omega
  rw [e1]
  refine (Zc (Zx9 k (bs ++ Zm kn 7 ++ Zm 1 1) (kk - 1) (by omega) (by omega) (by omega)) _).trans ?_
  have l3:(bs ++ Zm kn 7 ++ Zm 1 1 ++ (List.replicate (kk - 1) false ++ [true])).length = bs.length + 8 + kk:=by
   rw [Yq,l2]; simp; omega
  have:=ZgD k hk (by omega) (by omega) (d:=dd) (by omega) (by omega) hsg hok (kk:Int) (bs ++ Zm kn 7 ++ Zm 1 1 ++ (List.replicate (kk - 1) false ++ [true])) (by omega)
  refine Eq.trans this ?_
  rw [show Zm 1 1 = [true] from rfl]
  simp only [List.append_assoc]
 ·rw [Ze (by omega),if_neg h0]
  refine (Zc (QN k (bs ++ Zm kn 7) 0 1 (by omega) (by omega) (by omega) (by omega)) _).trans ?_
  have l2:(bs ++ Zm kn 7 ++ Zm 0 1).length = bs.length + 8:=by rw [Yq,l1,ZE]
  have:=ZgD k hk (by omega) (by omega) (d:=dd) (by omega) (by omega) hsg hok (kk:Int) (bs ++ Zm kn 7 ++ Zm 0 1) (by omega)
  refine Eq.trans this ?_
  rw [show Zm 0 1 = [false] from rfl]
  simp only [List.append_assoc]
end Go.Sh
namespace Go.Sh
open Go Go.Proofs
def WQ (n:Nat):Nat:=if 256 < n then 7 else 6
def YG (mode num n:Nat):List Bool :=
 Zm 16382 14 ++ (Zm (WQ n) 6 ++ (Zm mode 8 ++ (Zm 0 4 ++ ((Q6 num).flatMap (fun x => Zm x 8) ++ Zm (n - 1) (8 * (WQ n - 5))))))
def YC (mode num n:Nat):List Bool:=YG mode num n ++ Zm (Zj9 (Qh (YG mode num n))) 8
def WK (ls:List (List Int)) (ds:List Int):List Bool:=(ls.zip ds).flatMap fun x => WJ x.1 x.2.toNat
def Y6 (bs:List Bool):List Bool:=bs ++ List.replicate (Zcn bs.length) false
def KI (bs:List Bool):List Bool:=Y6 bs ++ Zm (YQ (Qh (Y6 bs))) 16
def ZqF (c d r n:Int) (ch:List (List Int)):List Int × Int :=
 if Ya c d r n ch = 0 then (Qh (KI (YC (Zbt ch).2.toNat n.toNat (ch.headD []).length ++ WK (Zbt ch).1 (Qj c d (Zbt ch).2))),0) else ([],Ya c d r n ch)
theorem Zg1 {c d r n:Int} {ch:List (List Int)} (h:Ya c d r n ch = 0):(1 ≤ c ∧ c ≤ 2 ∧ 4 ≤ d ∧ d ≤ 24 ∧ 1 ≤ r ∧ r ≤ 655350) ∧ (0 ≤ n ∧ n ≤ 2147483647) ∧ (ch.length:Int) = c ∧
  (∀ l ∈ ch,l.length = (ch.headD []).length ∧ 1 ≤ l.length ∧ l.length ≤ 512) ∧ (∀ l ∈ ch,∀ x ∈ l,W6 x d.toNat = true):=by
 unfold Ya at h
 split at h
 ·omega
 ·rename_i h1
  split at h
  ·omega
  ·rename_i h2
   split at h
   ·omega
   ·rename_i h3
    split at h
    ·omega
    ·rename_i h4
     refine ⟨of_decide_eq_true (by simpa [KN] using h1),by omega,by omega,?_,?_⟩
     ·intro l hl
      have h3:ch.all (KM (ch.headD []).length) = true:=by simpa using h3
      have:=of_decide_eq_true (List.all_eq_true.1 h3 l hl)
      exact ⟨this.1,by omega,by omega⟩
     ·intro l hl x hx
      have h4:ch.all (fun l => l.all fun x => W6 x d.toNat) = true:=by simpa using h4
      exact List.all_eq_true.1 (List.all_eq_true.1 h4 l hl) x hx
theorem ZlZ {x:Int} {d:Nat} (hd:d ≤ 24) (h:W6 x d = true):Z6 x:=by
 unfold W6 at h
 unfold Z6
 split at h
 ·simp only [decide_eq_true_eq] at h; omega
 ·rw [decide_eq_true_eq,QC] at h
  have:2 ^ (d - 1) ≤ 2 ^ 23:=Nat.pow_le_pow_right (by omega) (by omega)
  generalize 2 ^ (d - 1) = Q at h this
  omega
theorem ZjP {l r:Int} {d:Nat} (h1:1 ≤ d) (hl:W6 l d = true) (hr:W6 r d = true):W6 (l - r) (d + 1) = true ∧ W6 ((l + r) / 2) d = true:=by
 unfold W6 at hl hr ⊢
 rw [if_neg (by omega),decide_eq_true_eq] at hl hr
 rw [if_neg (by omega),decide_eq_true_eq,if_neg (by omega),decide_eq_true_eq]
 have e:(2:Int) ^ (d + 1 - 1) = 2 * 2 ^ (d - 1):=by
  rw [show d + 1 - 1 = (d - 1) + 1 by omega,Int.pow_succ,Int.mul_comm]
 rw [e]
 generalize (2:Int) ^ (d - 1) = Q at hl hr ⊢
 omega
structure LayOk (n d:Nat) (ls:List (List Int)) (ds:List Int):Prop where
 len:ls.length = ds.length
 two:ls.length = 1 ∨ ls.length = 2
 all:∀ (i:Nat) (h1:i < ls.length) (h2:i < ds.length),ls[i].length = n ∧ (ds[i] = (d:Int) ∨ ds[i] = (d:Int) + 1) ∧ ∀ x ∈ ls[i],W6 x ds[i].toNat = true
theorem ZSu {c d r n:Int} {ch:List (List Int)} (h:Ya c d r n ch = 0):LayOk (ch.headD []).length d.toNat (Zbt ch).1 (Qj c d (Zbt ch).2) ∧ (∃ m:Nat,(Zbt ch).2 = (m:Int) ∧ (m = 0 ∧ c = 1 ∨ c = 2 ∧ (m = 1 ∨ m = 8 ∨ m = 9 ∨ m = 10))) ∧ ((Zbt ch).1.headD []).length = (ch.headD []).length:=by
 obtain ⟨hs,hn,hc,hlen,hsg⟩:=Zg1 h
 obtain ⟨dn,rfl⟩:=Int.eq_ofNat_of_zero_le (show 0 ≤ d by omega)
 simp only [QZ] at hsg ⊢
 match ch,hc,hlen,hsg with
 | [],hc,_,_ => simp at hc; omega
 | [l],hc,hlen,hsg =>
  have hc:c = 1:=by simp at hc; omega
  subst hc
  refine ⟨⟨rfl,.inl rfl,?_⟩,⟨0,rfl,.inl ⟨rfl,rfl⟩⟩,rfl⟩
  intro i h1 h2
  obtain rfl:i = 0:=by simp [Zbt] at h1; omega
  exact ⟨rfl,.inl rfl,hsg l (by simp)⟩
 | [l,r'],hc,hlen,hsg =>
  have hc:c = 2:=by simp at hc; omega
  subst hc
  have hr:=(hlen r' (by simp)).1
  simp only [List.headD_cons] at hr
  have hsl:=hsg l (by simp)
  have hsr:=hsg r' (by simp)
  have hmd:=ZnO l r'
  show LayOk _ _ [KE (QX l r') l r',KF (QX l r') l r'] (Qj 2 dn (if QX l r' = 0 then 1 else QX l r')) ∧ _ ∧ _
  refine ⟨?_,?_,(Zj4 hr.symm).1⟩
  ·have e:Qj 2 (dn:Int) (if QX l r' = 0 then 1 else QX l r') = Qj 2 dn (QX l r'):=by
    rcases hmd with h | h | h | h <;> rw [h] <;> rfl
   rw [e]
   obtain ⟨la,lb⟩:=Zj4 (m:=QX l r') hr.symm
   have hz:∀ x ∈ l.zip r',W6 x.1 dn = true ∧ W6 x.2 dn = true:=fun x hx => ⟨hsl _ (List.of_mem_zip hx).1,hsr _ (List.of_mem_zip hx).2⟩
   generalize QX l r' = m at hmd la lb ⊢
   have hA:∀ y ∈ KE m l r',∃ a b,y = apA m a b ∧ W6 a dn = true ∧ W6 b dn = true:=by
    intro y hy
    obtain ⟨x,hx,rfl⟩:=List.mem_map.1 hy
    exact ⟨_,_,rfl,(hz x hx).1,(hz x hx).2⟩
   have hB:∀ y ∈ KF m l r',∃ a b,y = apB m a b ∧ W6 a dn = true ∧ W6 b dn = true:=by
    intro y hy
    obtain ⟨x,hx,rfl⟩:=List.mem_map.1 hy
    exact ⟨_,_,rfl,(hz x hx).1,(hz x hx).2⟩
   have hdn:1 ≤ dn:=by omega
   have eN:((dn:Int) + 1).toNat = dn + 1:=by omega
   rcases hmd with rfl | rfl | rfl | rfl
   ·refine ⟨rfl,.inr rfl,fun i h1 h2 => ?_⟩
    obtain rfl | rfl:i = 0 ∨ i = 1:=by simp at h1; omega
    ·exact ⟨la,.inl rfl,fun y hy => by obtain ⟨a,b,rfl,ha,hb⟩:=hA y hy; simpa [apA,Qj] using ha⟩
    ·exact ⟨by simpa [hr] using lb,.inl rfl,fun y hy => by obtain ⟨a,b,rfl,ha,hb⟩:=hB y hy; simpa [apB,Qj] using hb⟩
   ·refine ⟨rfl,.inr rfl,fun i h1 h2 => ?_⟩
    obtain rfl | rfl:i = 0 ∨ i = 1:=by simp at h1; omega
    ·exact ⟨la,.inl rfl,fun y hy => by obtain ⟨a,b,rfl,ha,hb⟩:=hA y hy; simpa [apA,Qj] using ha⟩
    ·exact ⟨by simpa [hr] using lb,.inr rfl,fun y hy => by obtain ⟨a,b,rfl,ha,hb⟩:=hB y hy; simpa [apB,Qj,eN] using (ZjP hdn ha hb).1⟩
   ·refine ⟨rfl,.inr rfl,fun i h1 h2 => ?_⟩
    obtain rfl | rfl:i = 0 ∨ i = 1:=by simp at h1; omega
    ·exact ⟨la,.inr rfl,fun y hy => by obtain ⟨a,b,rfl,ha,hb⟩:=hA y hy; simpa [apA,Qj,eN] using (ZjP hdn ha hb).1⟩
    ·exact ⟨by simpa [hr] using lb,.inl rfl,fun y hy => by obtain ⟨a,b,rfl,ha,hb⟩:=hB y hy; simpa [apB,Qj] using hb⟩
   ·refine ⟨rfl,.inr rfl,fun i h1 h2 => ?_⟩
    obtain rfl | rfl:i = 0 ∨ i = 1:=by simp at h1; omega
    ·exact ⟨la,.inl rfl,fun y hy => by obtain ⟨a,b,rfl,ha,hb⟩:=hA y hy; simpa [apA,Qj] using (ZjP hdn ha hb).2⟩
    ·exact ⟨by simpa [hr] using lb,.inr rfl,fun y hy => by obtain ⟨a,b,rfl,ha,hb⟩:=hB y hy; simpa [apB,Qj,eN] using (ZjP hdn ha hb).1⟩
  ·rcases hmd with h | h | h | h
   ·exact ⟨1,by simp [Zbt,h],.inr ⟨rfl,by omega⟩⟩
   ·exact ⟨8,by simp [Zbt,h],.inr ⟨rfl,by omega⟩⟩
   ·exact ⟨9,by simp [Zbt,h],.inr ⟨rfl,by omega⟩⟩
   ·exact ⟨10,by simp [Zbt,h],.inr ⟨rfl,by omega⟩⟩
 | _ :: _ :: _ :: _,hc,_,_ => simp at hc; omega
theorem Zq7:∀ (i n:Nat),(ZlB n i).length = i
 | 0,_ => rfl
 | i + 1,n => by simp [ZlB,Zq7 i]
theorem Zwp:∀ (i n:Nat),∀ x ∈ ZlB n i,x < 256
 | 0,_,x,h => by simp [ZlB] at h
 | i + 1,n,x,h => by
  rcases List.mem_append.1 h with h | h
  ·exact Zwp i _ x h
  ·simp at h; omega
theorem ZCL (n:Nat):1 ≤ Zgw n ∧ Zgw n ≤ 7:=by
 unfold Zgw
 repeat' split
 all_goals omega
theorem ZFb {k m:Nat} (hm:m < 64):Zpy k m < 256:=by
 unfold Zpy
 exact Nat.or_lt_two_pow (n:=8) (Nat.mod_lt _ (by omega)) (by omega)
theorem ZDk (n:Nat):1 ≤ (Q6 n).length ∧ (Q6 n).length ≤ 7:=by
 unfold Q6
 have:=ZCL n
 split
 ·simp
 ·simp only [List.length_cons,Zq7]; omega
theorem ZFo {n:Nat} (h:n < 2 ^ 36) (h2:128 ≤ n):2 ≤ Zgw n ∧ n < 2 ^ WE (Zgw n):=by
 obtain ⟨r2,r3,r4,r5,r6,r7⟩:=Zqm
 unfold Zgw
 rw [if_neg (by omega)]
 repeat' split
 all_goals simp only [r2,r3,r4,r5,r6,r7]
 all_goals omega
theorem ZGc {n:Nat} (h:n < 2 ^ 36):∀ x ∈ Q6 n,x < 256:=by
 intro x hx
 unfold Q6 at hx
 split at hx
 ·simp at hx; omega
 ·rcases List.mem_cons.1 hx with rfl | hx
  ·obtain ⟨h1,h2⟩:=ZFo h (by omega)
   exact ZFb (ZpL h1 (ZCL n).2 h2)
  ·exact Zwp _ _ x hx
theorem Zk1:∀ l:List Nat,(l.flatMap fun x => Zm x 8).length = 8 * l.length
 | [] => rfl
 | a :: l => by rw [List.flatMap_cons,Yq,ZE,Zk1 l,List.length_cons]; omega
theorem ZlU (mode num n:Nat):(YG mode num n).length = 32 + 8 * (Q6 num).length + 8 * (WQ n - 5):=by
 unfold YG
 simp only [Yq,ZE,Zk1]
 omega
theorem ZyJ (n:Nat):WQ n = 6 ∨ WQ n = 7:=by unfold WQ; split <;> omega
theorem ZFm {l:List Nat} {i:Nat} (h:i < (X0 l).length):(X0 l)[i] = ((l[i]'(by simpa [X0] using h):Nat):Int):=by simp [X0]
theorem Zk4 (l:List Nat):(X0 l).length = l.length:=by simp [X0]
end Go.Sh
namespace Go.Sh
open Go Go.Proofs
theorem Zzx {n d:Nat} {ls:List (List Int)} {ds:List Int} (h:LayOk n d ls ds) (hn:1 ≤ n) (hn2:n ≤ 512) (hd1:4 ≤ d) (hd2:d ≤ 24):(WK ls ds).length ≤ 30000:=by
 have one:∀ (i:Nat) (h1:i < ls.length) (h2:i < ds.length),(WJ ls[i] ds[i].toNat).length ≤ 13000:=by
  intro i h1 h2
  obtain ⟨a,b,c⟩:=h.all i h1 h2
  have hw:=Zgs (d:=ds[i].toNat) (by omega) c
  have:=Zy1 (s:=ls[i]) (by omega) (by omega) hw
  have hm:ls[i].length * ds[i].toNat ≤ 512 * 25:=Nat.mul_le_mul (by omega) (by omega)
  omega
 unfold WK
 have hl:=h.len
 rcases h.two with h2 | h2
 ·match ls,ds,h2,hl,one with
  | [a],[x],_,_,one =>
   have:=one 0 (by simp) (by simp)
   simp at this ⊢
   omega
 ·match ls,ds,h2,hl,one with
  | [a,b],[x,y],_,_,one =>
   have h1:=one 0 (by simp) (by simp)
   have h2:=one 1 (by simp) (by simp)
   simp at h1 h2 ⊢
   omega
theorem Zxj (k:Nat) (hk:100000 < k) {n d:Nat} {ls:List (List Int)} {ds:List Int} (h:LayOk n d ls ds) (hn:1 ≤ n) (hn2:n ≤ 512) (hd1:4 ≤ d) (hd2:d ≤ 24) (bs:List Bool) (hb:bs.length ≤ 200) :
  Zhf k (Int.ofNat ds.length,(0:Int),ds,ls,(bs.length:Int),Qh bs) = some ((Qh (KI (bs ++ WK ls ds)),0,()),()):=by
 have hdl:ds.length ≤ 2:=by have:=h.len; have:=h.two; omega
 have hall:(bs ++ WK ls ds).length ≤ 30200:=by have:=Zzx h hn hn2 hd1 hd2; rw [Yq]; omega
 have hpart:∀ i,(bs ++ ((ls.zip ds).take i).flatMap (fun x => WJ x.1 x.2.toNat)).length ≤ 30200:=by
  intro i
  refine Nat.le_trans ?_ hall
  unfold WK
  conv => rhs; rw [← List.take_append_drop i (ls.zip ds),List.flatMap_append]
  simp only [Yq]
  omega
 have hzl:(ls.zip ds).length = ds.length:=by rw [List.length_zip]; have:=h.len; omega
 have hend:∀ L,ZbY k L (Int.ofNat ds.length,Int.ofNat ds.length,ds,ls,(((bs ++ WK ls ds).length:Nat):Int),Qh (bs ++ WK ls ds)) = some ((Qh (KI (bs ++ WK ls ds)),0,()),()):=by
  intro L
  generalize bs ++ WK ls ds = B at hall
  simp only [ZbY]
  rw [Ze (We _)]
  have hp:Zcn B.length < 8:=by unfold Zcn; omega
  have hpl:(Y6 B).length ≤ 30210:=by unfold Y6; rw [Yq,List.length_replicate]; omega
  refine (Zc (ZIw k B (by omega)) _).trans ?_
  refine (Zc (Zo3 k (Y6 B) (by omega)) _).trans ?_
  have hb16:=Zht (Y6 B)
  have hpk:(Qh (Y6 B)).length ≤ 4000:=by rw [X4]; omega
  refine (Zc (ZxR k (Qh (Y6 B)) hb16 (by omega) (by omega)) _).trans ?_
  refine (Zc (QN k (Y6 B) (YQ (Qh (Y6 B))) 16 (by omega) (by omega) (Zwr hb16) (by omega)) _).trans ?_
  have hcl:(KI B).length ≤ 30300:=by unfold KI; rw [Yq,ZE]; omega
  refine (Zc (Zo3 k (KI B) (by omega)) _).trans ?_
  rfl
 have:=ZI (A:=List Bool) (R:=(List Int × Int × Unit) × Unit) (step:=fun L2 => ZbY k L2)
  (fun i a => (Int.ofNat ds.length,Int.ofNat i,ds,ls,(a.length:Int),Qh a)) (ls.zip ds)
  (fun l' a => some ((Qh (KI (a ++ l'.flatMap fun x => WJ x.1 x.2.toNat)),0,()),()))
  (fun i a => a = bs ++ ((ls.zip ds).take i).flatMap (fun x => WJ x.1 x.2.toNat))
  (fun L a ha => by
   rw [List.take_length] at ha
   have:=hend L
   unfold WK at this
   rw [← ha] at this
   rw [hzl,List.flatMap_nil,List.append_nil]
   exact this)
  (fun L i hi a ha hL => by
   have h1:i < ls.length:=by have:=h.len; omega
   have h2:i < ds.length:=by omega
   obtain ⟨o1,o2,o3⟩:=h.all i h1 h2
   have hal:a.length ≤ 30200:=by rw [ha]; exact hpart i
   simp only [ZbY]
   rw [Zb (ltR h2),Zb (Y2 h2),Zb (Y2 h1),ZO h1,ZO h2]
   have hds:ds[i] = ((ds[i].toNat:Nat):Int):=by omega
   have hsc:Zgq ls[i] ((ds[i].toNat:Nat):Int) = 0:=ZlY.2 ⟨by omega,o3⟩
   have e:=ZIv k (by omega) hsc a (by omega)
   rw [← hds] at e
   refine (Zc e _).trans ?_
   have hzi:(ls.zip ds)[i] = (ls[i],ds[i]):=by rw [List.getElem_zip]
   have hnext:a ++ WJ ls[i] ds[i].toNat = bs ++ ((ls.zip ds).take (i + 1)).flatMap (fun x => WJ x.1 x.2.toNat):=by
    rw [ha,List.take_add_one,List.getElem?_eq_getElem hi,hzi,List.flatMap_append]
    simp
   have:=hL (a ++ WJ ls[i] ds[i].toNat) hnext
   show L (Int.ofNat ds.length,IntKind.i64.wrap (Int.ofNat i + 1),ds,ls,(((a ++ WJ ls[i] ds[i].toNat).length:Nat):Int),Qh (a ++ WJ ls[i] ds[i].toNat)) = _
   rw [QL h2 (by omega),this,hzi,List.flatMap_cons,List.append_assoc])
  k 0 bs (by simp) (by omega) (Nat.zero_le _)
 rw [List.drop_zero] at this
 exact this
theorem Zxi (k:Nat) (hk:100000 < k) {c d r:Int} {mode num n dn:Nat} (hnum:num < 2 ^ 31) (hd:d = (dn:Int)) {ls:List (List Int)} (hc:c = 1 ∧ mode = 0 ∨ c = 2) (hn:1 ≤ n) (hn2:n ≤ 512) (hd1:4 ≤ dn) (hd2:dn ≤ 24)
  (h:LayOk n dn ls (Qj c d (mode:Int))) (bs:List Bool) (hb:bs = Zm 16382 14 ++ (Zm (WQ n) 6 ++ (Zm mode 8 ++ Zm 0 4))) :
  ZkG k (Int.ofNat (X0 (Q6 num)).length,(0:Int),X0 (Q6 num),(n:Int),((WQ n:Nat):Int),(mode:Int),ls,(bs.length:Int),Qh bs,c,d,r) =
   some ((Qh (KI (YC mode num n ++ WK ls (Qj c d (mode:Int)))),0,()),()):=by
 have hbl:bs.length = 32:=by rw [hb]; simp only [Yq,ZE]
 have hcl:=ZDk num
 have hlt:=ZGc (n:=num) (by omega)
 have hkn:=ZyJ n
 have:=ZI (A:=List Bool) (R:=(List Int × Int × Unit) × Unit) (step:=fun L1 => Kp k (Zhf k) L1)
  (fun i a => (Int.ofNat (X0 (Q6 num)).length,Int.ofNat i,X0 (Q6 num),(n:Int),((WQ n:Nat):Int),(mode:Int),ls,(a.length:Int),Qh a,c,d,r)) (Q6 num)
  (fun l' a => Kp k (Zhf k) (fun _ => none) (Int.ofNat (Q6 num).length,Int.ofNat (Q6 num).length,X0 (Q6 num),(n:Int),((WQ n:Nat):Int),(mode:Int),ls,(((a ++ l'.flatMap fun x => Zm x 8).length:Nat):Int),Qh (a ++ l'.flatMap fun x => Zm x 8),c,d,r))
  (fun i a => a.length ≤ 32 + 8 * i)
  (fun L a ha => by
   rw [Zk4]
   simp only [Kp]
   rw [Ze (We _),Ze (We _)]
   simp)
  (fun L i hi a ha hL => by
   have hi2:i < (X0 (Q6 num)).length:=by rw [Zk4]; exact hi
   have key:Kp k (Zhf k) L (Int.ofNat (X0 (Q6 num)).length,Int.ofNat i,X0 (Q6 num),(n:Int),((WQ n:Nat):Int),(mode:Int),ls,(a.length:Int),Qh a,c,d,r) =
     L (Int.ofNat (X0 (Q6 num)).length,Int.ofNat (i + 1),X0 (Q6 num),(n:Int),((WQ n:Nat):Int),(mode:Int),ls,(((a ++ Zm (Q6 num)[i] 8).length:Nat):Int),Qh (a ++ Zm (Q6 num)[i] 8),c,d,r):=by
    simp only [Kp]
    rw [Zb (ltR hi2),Zb (Y2 hi2),ZO hi2,ZFm hi2]
    have hx:=hlt _ (List.getElem_mem hi)
    have hil:=Zk4 (Q6 num)
    rw [ZT (by omega)]
    refine (Zc (QN k a (Q6 num)[i] 8 (by omega) (by omega) (by omega) (by omega)) _).trans ?_
    rw [QL hi2 (by omega)]
   rw [key,hL _ (by rw [Yq,ZE]; omega),List.flatMap_cons,List.append_assoc])
  k 0 bs (by omega) (by omega) (Nat.zero_le _)
 rw [List.drop_zero] at this
 refine Eq.trans this ?_
 have hpre:bs ++ (Q6 num).flatMap (fun x => Zm x 8) ++ Zm (n - 1) (8 * (WQ n - 5)) = YG mode num n:=by
  rw [hb]
  unfold YG
  simp only [List.append_assoc]
 have hprel:=ZlU mode num n
 have hB:(bs ++ (Q6 num).flatMap (fun x => Zm x 8)).length ≤ 100:=by rw [Yq,Zk1]; omega
 generalize bs ++ (Q6 num).flatMap (fun x => Zm x 8) = B at hpre hB
 simp only [Kp]
 rw [Ze (We _)]
 have e1:IntKind.i64.wrap ((n:Int) - 1) = ((n - 1:Nat):Int):=by rw [ZT (by omega)]; omega
 have e2:IntKind.i64.wrap ((8:Int) * IntKind.i64.wrap (IntKind.i64.wrap (((WQ n:Nat):Int) - (6:Int)) + (1:Int))) = ((8 * (WQ n - 5):Nat):Int):=by
  rcases hkn with h | h <;> rw [h] <;> rfl
 have hw:n - 1 < 2 ^ (8 * (WQ n - 5)):=by
  unfold WQ
  split
  ·show n - 1 < 2 ^ 16; omega
  ·show n - 1 < 2 ^ 8; omega
 rw [e1,e2]
 refine (Zc (QN k B (n - 1) (8 * (WQ n - 5)) (by omega) (by omega) hw (by omega)) _).trans ?_
 rw [hpre]
 refine (Zc (Zo3 k (YG mode num n) (by omega)) _).trans ?_
 have hb8:=Zht (YG mode num n)
 refine (Zc (ZxN k (Qh (YG mode num n)) hb8 (by rw [X4]; omega) (by rw [X4]; omega)) _).trans ?_
 refine (Zc (QN k (YG mode num n) (Zj9 (Qh (YG mode num n))) 8 (by omega) (by omega) (ZKU hb8) (by omega)) _).trans ?_
 refine (Zc (ZxO k (c:=c) (d:=d) (r:=r) (m:=(mode:Int)) (by omega) (by omega)) _).trans ?_
 exact Zxj k hk h hn hn2 hd1 hd2 (YC mode num n) (by unfold YC; rw [Yq,ZE]; omega)
theorem ZHx (k:Nat) (hk:100000 < k) (c d r n:Int) (ch:List (List Int)):Zxh k ((c,d,r,()),(n,ch,()),()) = some (((ZqF c d r n ch).1,(ZqF c d r n ch).2,()),()):=by
 show Zig k (ZkG k) _ = _
 simp only [Zig]
 rw [ZxI k c d r n ch (by omega)]
 simp only [Qr]
 unfold ZqF
 rw [Zo]
 by_cases h:Ya c d r n ch = 0
 ·rw [Ze (by simpa using h),if_pos h]
  obtain ⟨hs,hn,hc,hlen,hsg⟩:=Zg1 h
  obtain ⟨hlay,⟨mode,hm,hmc⟩,hn0⟩:=ZSu h
  have hch:ch.length = 1 ∨ (∃ L R,ch = [L,R] ∧ L.length = R.length ∧ L.length ≤ 8192 ∧ (∀ x ∈ L,Z6 x) ∧ ∀ x ∈ R,Z6 x):=by
   match ch,hc,hlen,hsg with
   | [],hc,_,_ => simp at hc; omega
   | [_],_,_,_ => exact .inl rfl
   | [l,r'],_,hlen,hsg =>
    refine .inr ⟨l,r',rfl,?_,?_,?_,?_⟩
    ·have:=(hlen r' (by simp)).1; simpa using this.symm
    ·have:=(hlen l (by simp)).2.2; omega
    ·exact fun x hx => ZlZ (by omega) (hsg l (by simp) x hx)
    ·exact fun x hx => ZlZ (by omega) (hsg r' (by simp) x hx)
   | _ :: _ :: _ :: _,hc,_,_ => simp at hc; omega
  refine (Zc (ZIo k n ch (by omega) hch) _).trans ?_
  rw [show ((0:Int) != 0) = false from rfl]
  simp only [cond_false]
  have hbig:∃ l0,(Zbt ch).1.getD 0 [] = l0 ∧ l0.length = (ch.headD []).length ∧ 0 < (Zbt ch).1.length:=by
   have:=hlay.two
   match hh:(Zbt ch).1,this with
   | [],h => simp at h
   | l :: ls,_ => rw [hh] at hn0; exact ⟨l,rfl,hn0,by simp⟩
  obtain ⟨l0,hl0,hl0n,hpos⟩:=hbig
  rw [Zb (by simp only [Z8]; omega),hl0,hl0n]
  have hn1:1 ≤ (ch.headD []).length ∧ (ch.headD []).length ≤ 512:=by
   obtain ⟨a,b,c⟩:=hlay.all 0 hpos (by rw [← hlay.len]; exact hpos)
   have:0 < ch.length:=by omega
   match ch,this with
   | l :: _,_ => exact (hlen l (by simp)).2
  rw [hm] at hlay ⊢
  obtain ⟨num,hnum⟩:=Int.eq_ofNat_of_zero_le hn.1
  obtain ⟨dn,hdn⟩:=Int.eq_ofNat_of_zero_le (show 0 ≤ d by omega)
  subst hnum
  rw [QZ,QZ]
  have hdt:d.toNat = dn:=by omega
  rw [hdt] at hlay
  have hmode:mode < 2 ^ 8:=by omega
  have e14:(16382:Int) = ((16382:Nat):Int):=rfl
  generalize hN:(ch.headD []).length = N at hn1 hlay
  have l1:(([]:List Bool) ++ Zm 16382 14).length = 14:=by rw [Yq,ZE]; rfl
  have fin:∀ kd:Nat,kd = WQ N → ((ZoY k ()).bind fun y_1 => (QM k ((y_1.1.1,y_1.1.2.1,()),16382,14,())).bind fun y_2 => (QM k ((y_2.2.1.1,y_2.2.1.2.1,()),(kd:Int),6,())).bind fun y_3 => (QM k ((y_3.2.1.1,y_3.2.1.2.1,()),(mode:Int),8,())).bind fun y_4 => (QM k ((y_4.2.1.1,y_4.2.1.2.1,()),0,4,())).bind fun y_5 => (ZoZ k ((num:Int),())).bind fun y_6 => bif y_6.1.2.1 != (0:Int) then some (([],y_6.1.2.1,()),()) else ZkG k (Int.ofNat (List.length y_6.1.1),(0:Int),y_6.1.1,(N:Int),(kd:Int),(mode:Int),(Zbt ch).1,y_5.2.1.2.1,y_5.2.1.1,c,d,r)) =
    some ((Qh (KI (YC mode num N ++ WK (Zbt ch).1 (Qj c d (mode:Int)))),0,()),()):=by
   rintro kd rfl
   have hkn:=ZyJ N
   refine (Zc (ZIp k) _).trans ?_
   refine (Zc (QN k [] 16382 14 (by omega) (by omega) (by omega) (by simp)) _).trans ?_
   refine (Zc (QN k ([] ++ Zm 16382 14) (WQ N) 6 (by omega) (by omega) (by omega) (by omega)) _).trans ?_
   have l2:([] ++ Zm 16382 14 ++ Zm (WQ N) 6).length = 20:=by rw [Yq,l1,ZE]
   refine (Zc (QN k ([] ++ Zm 16382 14 ++ Zm (WQ N) 6) mode 8 (by omega) (by omega) hmode (by omega)) _).trans ?_
   have l3:([] ++ Zm 16382 14 ++ Zm (WQ N) 6 ++ Zm mode 8).length = 28:=by rw [Yq,l2,ZE]
   refine (Zc (QN k ([] ++ Zm 16382 14 ++ Zm (WQ N) 6 ++ Zm mode 8) 0 4 (by omega) (by omega) (by omega) (by omega)) _).trans ?_
   refine (Zc (ZIu k (by omega) (n:=num) (by omega)) _).trans ?_
   exact Zxi k hk (by omega) hdn (hmc.elim (fun h => .inl ⟨h.2,h.1⟩) (fun h => .inr h.1)) hn1.1 hn1.2 (by omega) (by omega) hlay _ (by simp only [List.nil_append,List.append_assoc])
  by_cases h256:256 < N
  ·rw [Zb (by simp only [Z8]; omega)]
   exact fin 7 (by unfold WQ; rw [if_pos h256])
  ·rw [Ze (by simp only [Z8]; omega)]
   exact fin 6 (by unfold WQ; rw [if_neg h256])
 ·rw [Zb h,if_neg h]
end Go.Sh
namespace Go.Sh
open Go Go.Proofs
def Qe (b:List Int):List Bool:=b.flatMap fun x => Zm x.toNat 8
theorem Q9:∀ b:List Int,(Qe b).length = 8 * b.length
 | [] => rfl
 | a :: b => by
  have:=Q9 b
  unfold Qe at this ⊢
  rw [List.flatMap_cons,Yq,ZE,this,List.length_cons]; omega
theorem ZgY (a:Int) (b:List Int):Qe (a :: b) = Zm a.toNat 8 ++ Qe b:=by unfold Qe; rw [List.flatMap_cons]
theorem ZnD:∀ (b:List Int) (i:Nat),(Qe b).drop (8 * i) = Qe (b.drop i)
 | b,0 => rfl
 | [],i + 1 => by simp [Qe]
 | a :: b,i + 1 => by
  rw [List.drop_succ_cons,ZgY,List.drop_append,ZE,List.drop_eq_nil_of_le (by rw [ZE]; omega),List.nil_append,show 8 * (i + 1) - 8 = 8 * i by omega]
  exact ZnD b i
theorem ZnF (n:Nat):∀ (w i:Nat) (h:i < (Zm n w).length),(Zm n w)[i] = n.testBit (w - 1 - i)
 | w + 1,0,_ => by simp [Zm]
 | w + 1,i + 1,h => by
  simp only [Zm,List.getElem_cons_succ]
  rw [ZnF n w i (by simpa [Zm] using h)]
  congr 1
  omega
theorem ZDd {b:List Int} {i:Nat} (h:i < 8 * b.length):(Qe b)[i]'(by rw [Q9]; exact h) = (b[i / 8]'(by omega)).toNat.testBit (7 - i % 8):=by
 have h1:i / 8 < b.length:=by omega
 have h2:(Qe b)[i]'(by rw [Q9]; exact h) = (Qe (b.drop (i / 8)))[i % 8]'(by rw [Q9,List.length_drop]; omega):=by
  simp only [← ZnD,List.getElem_drop]
  congr 1
  omega
 rw [h2]
 have h3:b.drop (i / 8) = b[i / 8] :: b.drop (i / 8 + 1):=List.drop_eq_getElem_cons h1
 simp only [h3,ZgY]
 rw [List.getElem_append_left (by rw [ZE]; omega),ZnF]
def Zz (b:List Int) (r:List Bool):Nat:=8 * b.length - r.length
abbrev Kf (b:List Int) (r:List Bool):List Int × Int × Unit:=(b,((Zz b r:Nat):Int),())
def Zj (b:List Int) (r:List Bool):Prop:=r <:+ Qe b
theorem Zj.len {b:List Int} {r:List Bool} (h:Zj b r):r.length ≤ 8 * b.length:=by
 have:=h.length_le
 rwa [Q9] at this
theorem Zj.eq {b:List Int} {r:List Bool} (h:Zj b r):r = (Qe b).drop (Zz b r):=by
 have:=List.suffix_iff_eq_drop.1 h
 unfold Zz
 rwa [Q9] at this
theorem Zj.drop {b:List Int} {r:List Bool} (h:Zj b r) (i:Nat):Zj b (r.drop i):=(List.drop_suffix i r).trans h
theorem Zj.get {b:List Int} {r:List Bool} (h:Zj b r) {i:Nat} (hi:i < r.length):(Qe b)[Zz b r + i]'(by have:=h.len; rw [Q9]; unfold Zz; omega) = r[i]:=by
 have:=h.eq
 have h2:r[i] = ((Qe b).drop (Zz b r))[i]'(by rw [← this]; exact hi):=by congr 1
 rw [h2,List.getElem_drop]
theorem QY {b:List Int} {r:List Bool} (h:Zj b r) {i:Nat} (hi:i ≤ r.length):Zz b (r.drop i) = Zz b r + i:=by
 have:=h.len
 unfold Zz
 rw [List.length_drop]
 omega
theorem ZjL (b:List Int):Zj b (Qe b):=List.suffix_refl _
theorem ZST (v:Fin 256) (r:Fin 8):IntKind.i64.wrap (Int.ofNat (BitVec.ofInt 64 (IntKind.i64.wrap (Int.fdiv (v.val:Int) ((2:Int) ^ min (7 - r.val) 8))) &&& BitVec.ofInt 64 1).toNat) = if v.val.testBit (7 - r.val) then 1 else 0:=by
 revert v r
 decide +kernel
theorem Zpt (k:Nat) {b:List Int} (hb:ZP b = true) (hn:b.length < 536870912) (at_:Int) {i:Nat} (hi:i < 8 * b.length) :
  Zps k ((b,at_,()),(i:Int),()) = some (if (Qe b)[i]'(by rw [Q9]; exact hi) then 1 else 0,(b,at_,()),()):=by
 show Zji k _ = _
 simp only [Zji]
 rw [ZsP,ZPa,ZT (n:=((i / 8:Nat):Int)) (by omega)]
 have h1:i / 8 < b.length:=by omega
 rw [Zb (by simp only [Z8]; omega)]
 have e1:IntKind.i64.wrap ((7:Int) - ((i % 8:Nat):Int)) = ((7 - i % 8:Nat):Int):=by rw [ZT (by omega)]; omega
 rw [e1,Zb (by omega),ZDd hi]
 obtain ⟨x,hx,hxe⟩:=WV hb h1
 have hg:b.getD (((i / 8:Nat):Int)).toNat 0 = (x:Int):=by rw [QZ,Wt h1,hxe]
 rw [hg,hxe,QZ,QZ]
 have:=ZST ⟨x,hx⟩ ⟨i % 8,Nat.mod_lt _ (by omega)⟩
 simp only at this
 rw [this]
def Qv (l:List Bool):Nat:=l.foldl (fun a b => 2 * a + b.toNat) 0
theorem ZaI:∀ (l:List Bool) (a:Nat),l.foldl (fun a b => 2 * a + b.toNat) a = a * 2 ^ l.length + Qv l
 | [],a => by simp [Qv]
 | x :: l,a => by
  unfold Qv
  rw [List.foldl_cons,List.foldl_cons,ZaI l (2 * a + x.toNat),ZaI l (2 * 0 + x.toNat),List.length_cons,Nat.pow_succ]
  rw [Nat.add_mul,Nat.mul_zero,Nat.zero_add,Nat.mul_comm 2 a,Nat.mul_assoc a 2,Nat.mul_comm 2 (2 ^ _)]
  omega
theorem ZbA:∀ (l:List Bool),Qv l < 2 ^ l.length
 | [] => by simp [Qv]
 | x :: l => by
  have:=ZbA l
  unfold Qv
  rw [List.foldl_cons,ZaI,List.length_cons,Nat.pow_succ]
  cases x <;> simp <;> omega
theorem XU (l m:List Bool):Qv (l ++ m) = Qv l * 2 ^ m.length + Qv m:=by
 unfold Qv
 rw [List.foldl_append,ZaI]
 rfl
theorem Zbg (n:Nat):∀ w,Qv (Zm n w) = n % 2 ^ w
 | 0 => by simp [Zm,Qv,Nat.mod_one]
 | w + 1 => by
  have:=Zbg n w
  rw [show Zm n (w + 1) = [n.testBit w] ++ Zm n w from rfl,XU,ZE,this,Nat.mod_pow_succ,Nat.testBit_eq_decide_div_mod_eq]
  have h2:n / 2 ^ w % 2 < 2:=Nat.mod_lt _ (by omega)
  generalize n / 2 ^ w % 2 = m at h2
  match m,h2 with
  | 0,_ => simp [Qv]
  | 1,_ => simp [Qv]; omega
def Zr (w:Nat) (r:List Bool):Nat × Int × List Bool:=if w ≤ r.length then (Qv (r.take w),0,r.drop w) else (0,10,r)
theorem ZJ {b:List Int} {r:List Bool} (h:Zj b r) (w:Nat):Zj b (Zr w r).2.2:=by
 unfold Zr
 split
 ·exact h.drop w
 ·exact h
theorem WI (w:Nat) (r:List Bool):(Zr w r).1 < 2 ^ w:=by
 unfold Zr
 split
 ·rename_i h
  have:=ZbA (r.take w)
  rwa [List.length_take,Nat.min_eq_left h] at this
 ·exact Nat.pow_pos (by omega)
theorem ZDZ (k:Nat) {b:List Int} (hb:ZP b = true) (hn:b.length < 536870912):∀ (w m i v:Nat) (r:List Bool),Zj b r → w ≤ r.length → w < m → i + w ≤ 32 → v < 2 ^ i →
  Zp (fun L1 => ZbN k L1) m (((i + w:Nat):Int),(i:Int),(v:Int),b,((Zz b r:Nat):Int)) = some (((((r.take w).foldl (fun a b => 2 * a + b.toNat) v:Nat):Int),0,()),Kf b (r.drop w),()):=by
 intro w
 induction w with
 | zero =>
  intro m i v r hr hw hm hi hv
  obtain ⟨m,rfl⟩:=Zk hm
  rw [Zg]
  simp only [ZbN]
  rw [Ze (by omega)]
  simp
 | succ w ih =>
  intro m i v r hr hw hm hi hv
  obtain ⟨m,rfl⟩:=Zk (show 0 < m by omega)
  rw [Zg]
  simp only [ZbN]
  have hl:=hr.len
  have hp:Zz b r < 8 * b.length:=by unfold Zz; omega
  rw [Zb (by omega),Zpt k hb hn _ hp]
  simp only [Qr]
  have hg:=hr.get (i:=0) (by omega)
  simp only [Nat.add_zero] at hg
  rw [hg]
  have hv2:v < 2 ^ 32:=Nat.lt_of_lt_of_le hv (Nat.pow_le_pow_right (by omega) (by omega))
  have hcons:r = r[0] :: r.drop 1:=by
   have:=List.drop_eq_getElem_cons (l:=r) (i:=0) (by omega)
   rwa [List.drop_zero] at this
  have e1:IntKind.i64.wrap (Int.ofNat (BitVec.ofInt 64 (IntKind.i64.wrap ((v:Int) * 2)) ||| BitVec.ofInt 64 (if r[0] = true then 1 else 0)).toNat) = ((2 * v + r[0].toNat:Nat):Int):=by
   have h1:IntKind.i64.wrap ((v:Int) * 2) = ((v * 2:Nat):Int):=by rw [ZT (by omega)]; omega
   have h2:(if r[0] = true then (1:Int) else 0) = ((r[0].toNat:Nat):Int):=by cases r[0] <;> rfl
   have hb1:r[0].toNat < 2 ^ 1:=by cases r[0] <;> decide
   rw [h1,h2,orN (by omega) (by omega)]
   have:=Nat.shiftLeft_add_eq_or_of_lt hb1 v
   rw [Nat.shiftLeft_eq] at this
   rw [show v * 2 = v * 2 ^ 1 from rfl,← this,ZT (by omega)]
   omega
  rw [e1]
  have e2:IntKind.i64.wrap ((i:Int) + 1) = ((i + 1:Nat):Int):=by rw [ZT (by omega)]; rfl
  have e3:IntKind.i64.wrap (((Zz b r:Nat):Int) + 1) = ((Zz b (r.drop 1):Nat):Int):=by
   rw [QY hr (by omega),ZT (by omega)]; rfl
  rw [e2,e3]
  have hp2:2 * v + r[0].toNat < 2 ^ (i + 1):=by
   rw [Nat.pow_succ]
   cases r[0] <;> simp <;> omega
  have:=ih m (i + 1) (2 * v + r[0].toNat) (r.drop 1) (hr.drop 1) (by rw [List.length_drop]; omega) (by omega) (by omega) hp2
  rw [show i + 1 + w = i + (w + 1) by omega] at this
  rw [this]
  have e4:(r.drop 1).drop w = r.drop (w + 1):=by rw [List.drop_drop]; congr 1; omega
  have e5:r.take (w + 1) = r[0] :: (r.drop 1).take w:=by
   conv => lhs; rw [hcons]
   rfl
  rw [e4,e5,List.foldl_cons]
theorem Yn (k:Nat) {b:List Int} (hb:ZP b = true) (hn:b.length < 536870912) {r:List Bool} (hr:Zj b r) {w:Nat} (hw:w ≤ 32) (hk:100 < k) :
  Yw k (Kf b r,(w:Int),()) = some (((((Zr w r).1:Nat):Int),(Zr w r).2.1,()),Kf b (Zr w r).2.2,()):=by
 show Zfo k (ZmA k) _ = _
 simp only [Zfo]
 rw [Zpj k w hw]
 simp only [Qr,cond_false]
 have hl:=hr.len
 have e1:ZoH k ((b,((Zz b r:Nat):Int),()),()) = some ((r.length:Int),(b,((Zz b r:Nat):Int),()),()):=by
  show Zf1 k _ = _
  simp only [Zf1]
  have:IntKind.i64.wrap (IntKind.i64.wrap ((8:Int) * Int.ofNat b.length) - ((Zz b r:Nat):Int)) = (r.length:Int):=by
   unfold Zz
   simp only [Z8]
   rw [ZT (n:=(8:Int) * (b.length:Int)) (by omega),ZT (by omega)]
   omega
  rw [this]
 rw [e1]
 simp only [Qr]
 unfold Zr
 by_cases h:w ≤ r.length
 ·rw [Ze (by omega),if_pos h]
  have:=ZDZ k hb hn w k 0 0 r hr h (by omega) (by omega) (by simp)
  rw [Nat.zero_add] at this
  exact this
 ·rw [Zb (by omega),if_neg h]
  rfl
def ZSG (w v:Nat):Int:=if 0 < w ∧ 2 ^ (w - 1) ≤ v then (v:Int) - 2 ^ w else v
def Z2 (w:Nat) (r:List Bool):Int × Int × List Bool:=if w ≤ r.length then (ZSG w (Qv (r.take w)),0,r.drop w) else (0,10,r)
theorem Xw {b:List Int} {r:List Bool} (h:Zj b r) (w:Nat):Zj b (Z2 w r).2.2:=by
 unfold Z2
 split
 ·exact h.drop w
 ·exact h
theorem ZrJ (k:Nat) {b:List Int} (hb:ZP b = true) (hn:b.length < 536870912) {r:List Bool} (hr:Zj b r) {w:Nat} (hw:w ≤ 32) (hk:100 < k) :
  ZkN k (Kf b r,(w:Int),()) = some (((Z2 w r).1,(Z2 w r).2.1,()),Kf b (Z2 w r).2.2,()):=by
 show Zf2 k _ = _
 simp only [Zf2]
 rw [Yn k hb hn hr hw hk]
 simp only [Qr]
 unfold Zr Z2
 by_cases h:w ≤ r.length
 ·rw [if_pos h,if_pos h]
  simp only
  rw [show ((0:Int) == 0) = true from rfl]
  simp only [cond_true]
  have hlt:=ZbA (r.take w)
  rw [List.length_take,Nat.min_eq_left h] at hlt
  generalize Qv (r.take w) = v at hlt
  unfold ZSG
  by_cases h0:0 < w
  ·have e1:IntKind.i64.wrap ((w:Int) - 1) = ((w - 1:Nat):Int):=by rw [ZT (by omega)]; omega
   rw [Zb (by omega),e1,Zb (by omega),QZ,Nat.min_eq_left (by omega),Zas,Zw]
   have hpw:2 ^ w = 2 * 2 ^ (w - 1):=by rw [show w = (w - 1) + 1 by omega,Nat.pow_succ,Nat.add_sub_cancel]; omega
   have hq:v / 2 ^ (w - 1) = if 2 ^ (w - 1) ≤ v then 1 else 0:=by
    split
    ·rename_i hle
     rw [Nat.div_eq_iff (Nat.pow_pos (by omega))]
     omega
    ·rename_i hle
     exact Nat.div_eq_of_lt (by omega)
   rw [hq]
   have h32:2 ^ w ≤ 2 ^ 32:=Nat.pow_le_pow_right (by omega) hw
   by_cases hle:2 ^ (w - 1) ≤ v
   ·rw [if_pos hle,Zb (show ((1:Nat):Int) = 1 from rfl),if_pos ⟨h0,hle⟩,Zb (by omega),Nat.min_eq_left (by omega:((w:Int)).toNat ≤ 64),QZ,Int.one_mul,QC]
    generalize 2 ^ w = Q at h32 hlt ⊢
    rw [ZT (n:=(Q:Int)) (by omega),ZT (by omega)]
   ·rw [if_neg hle,Ze (by omega),if_neg (by omega)]
  ·rw [Ze (by omega),if_neg (by omega)]
 ·rw [if_neg h,if_neg h]
  rfl
end Go.Sh
namespace Go.Sh
open Go Go.Proofs
def Zdo:Nat → List Bool → Option (Nat × List Bool)
 | _,[] => none
 | n,true :: r => some (n,r)
 | n,false :: r => Zdo (n + 1) r
def YP (r:List Bool):Nat × Int × List Bool:=match Zdo 0 r with
 | some (n,r') => (n,0,r')
 | none => (0,10,r)
theorem Zdf:∀ (r:List Bool) (n m:Nat) (r':List Bool),Zdo n r = some (m,r') → r' <:+ r ∧ m + 1 + r'.length = n + r.length
 | true :: r,n,m,r',h => by
  simp only [Zdo,Option.some.injEq,Prod.mk.injEq] at h
  obtain ⟨rfl,rfl⟩:=h
  exact ⟨List.suffix_cons _ _,by simp; omega⟩
 | false :: r,n,m,r',h => by
  obtain ⟨h1,h2⟩:=Zdf r (n + 1) m r' h
  exact ⟨h1.trans (List.suffix_cons _ _),by simp; omega⟩
theorem KD {b:List Int} {r:List Bool} (h:Zj b r):Zj b (YP r).2.2:=by
 unfold YP
 split
 ·rename_i n r' hu
  exact (Zdf r 0 n r' hu).1.trans h
 ·exact h
theorem ZvY {r:List Bool}:(YP r).1 ≤ r.length:=by
 unfold YP
 split
 ·rename_i n r' hu
  have:=(Zdf r 0 n r' hu).2
  simp only
  omega
 ·exact Nat.zero_le _
theorem ZD5 (k:Nat) {b:List Int} (hb:ZP b = true) (hn:b.length < 536870912) {r0:List Bool} (hr0:Zj b r0):∀ (r:List Bool) (m n:Nat),Zj b r → r.length < m → n + r.length = r0.length →
  Zp (fun L1 => ZbQ k L1) m (((Zz b r:Nat):Int),b,((Zz b r0:Nat):Int)) = some (((match Zdo n r with | some (n,r') => (n:Int) | none => 0),(match Zdo n r with | some (n,r') => 0 | none => 10),()),Kf b (match Zdo n r with | some (n,r') => r' | none => r0),()):=by
 intro r
 induction r with
 | nil =>
  intro m n hr hm hl
  obtain ⟨m,rfl⟩:=Zk hm
  rw [Zg]
  simp only [ZbQ]
  have e1:IntKind.i64.wrap ((8:Int) * Int.ofNat b.length) = ((8 * b.length:Nat):Int):=by simp only [Z8]; rw [ZT (by omega)]; omega
  rw [e1,Ze (by unfold Zz; simp)]
  rfl
 | cons x r ih =>
  intro m n hr hm hl
  obtain ⟨m,rfl⟩:=Zk (show 0 < m by omega)
  rw [Zg]
  simp only [ZbQ]
  have e1:IntKind.i64.wrap ((8:Int) * Int.ofNat b.length) = ((8 * b.length:Nat):Int):=by simp only [Z8]; rw [ZT (by omega)]; omega
  have hlen:=hr.len
  have hlen0:=hr0.len
  simp only [List.length_cons] at hlen hl hm
  have hp:Zz b (x :: r) < 8 * b.length:=by unfold Zz; simp only [List.length_cons]; omega
  rw [e1,Zb (by omega),Zpt k hb hn _ hp]
  simp only [Qr]
  have hg:=hr.get (i:=0) (by simp)
  simp only [Nat.add_zero,List.getElem_cons_zero] at hg
  rw [hg]
  have e2:IntKind.i64.wrap (((Zz b (x :: r):Nat):Int) + 1) = ((Zz b r:Nat):Int):=by
   have:=QY hr (i:=1) (by simp)
   rw [List.drop_one,List.tail_cons] at this
   rw [this,ZT (by omega)]; rfl
  have hr':Zj b r:=by have:=hr.drop 1; rwa [List.drop_one,List.tail_cons] at this
  rw [e2,Zw]
  cases x with
  | true =>
   rw [if_pos rfl,Zb rfl]
   have e3:IntKind.i64.wrap (((Zz b (true :: r):Nat):Int) - ((Zz b r0:Nat):Int)) = (n:Int):=by
    unfold Zz at hp ⊢
    simp only [List.length_cons] at hp ⊢
    rw [ZT (by omega)]
    omega
   rw [e3]
   rfl
  | false =>
   rw [if_neg (by simp),Ze (by omega)]
   exact ih m (n + 1) hr' (by omega) (by omega)
theorem Zrw (k:Nat) {b:List Int} (hb:ZP b = true) (hn:b.length < 536870912) {r:List Bool} (hr:Zj b r) (hk:8 * b.length < k) :
  Zhe k (Kf b r,()) = some (((((YP r).1:Nat):Int),(YP r).2.1,()),Kf b (YP r).2.2,()):=by
 show Zfu k (ZmF k) _ = _
 simp only [Zfu]
 have hl:=hr.len
 refine (ZD5 k hb hn hr r k 0 hr (by omega) (by omega)).trans ?_
 unfold YP
 cases Zdo 0 r with
 | none => rfl
 | some x => rfl
def alS (r:List Bool):Int × List Bool:=if (r.take (r.length % 8)).all (fun x => !x) then (0,r.drop (r.length % 8)) else (2,r)
theorem Zv3 {b:List Int} {r:List Bool} (h:Zj b r):Zj b (alS r).2:=by
 unfold alS
 split
 ·exact h.drop _
 ·exact h
theorem up8 {n:Nat} (h:n < 4294967296):IntKind.i64.wrap (Int.ofNat (BitVec.ofInt 64 (IntKind.i64.wrap ((n:Int) + 7)) &&& ~~~BitVec.ofInt 64 7).toNat) = (((n + 7) / 8 * 8:Nat):Int):=by
 rw [ZT (n:=(n:Int) + 7) (by omega),show (n:Int) + 7 = ((n + 7:Nat):Int) from rfl]
 have e:(BitVec.ofInt 64 ((n + 7:Nat):Int) &&& ~~~BitVec.ofInt 64 7).toNat = (n + 7) / 8 * 8:=by
  have h1:BitVec.ofInt 64 ((n + 7:Nat):Int) &&& ~~~BitVec.ofInt 64 7 = ((BitVec.ofNat 64 (n + 7)) >>> 3) <<< 3:=by
   rw [BitVec.ofInt_natCast,show ~~~BitVec.ofInt 64 7 = BitVec.ofNat 64 18446744073709551608 from by decide]
   apply BitVec.eq_of_getLsbD_eq
   intro i hi
   simp only [BitVec.getLsbD_and,BitVec.getLsbD_shiftLeft,BitVec.getLsbD_ushiftRight]
   have hm:=(by decide +kernel:∀ j:Fin 64,(BitVec.ofNat 64 18446744073709551608).getLsbD j.val = decide (3 ≤ j.val)) ⟨i,hi⟩
   simp only at hm
   rw [hm]
   by_cases h3:3 ≤ i
   ·rw [QS h3,Bool.and_true,show 3 + (i - 3) = i by omega]
    simp [hi]
    omega
   ·rw [QG h3,Bool.and_false]
    simp
    omega
  rw [h1,BitVec.toNat_shiftLeft,BitVec.toNat_ushiftRight,BitVec.toNat_ofNat,Nat.shiftRight_eq_div_pow,Nat.shiftLeft_eq,Nat.mod_eq_of_lt (by omega),Nat.mod_eq_of_lt (by omega)]
 rw [e,ZT (by simp only [Z8]; omega)]
 rfl
theorem ZIK (k:Nat) {b:List Int} (hb:ZP b = true) (hn:b.length < 536870912) {r0:List Bool}:∀ (p m:Nat) (r:List Bool),Zj b r → p ≤ r.length → p < m →
  Zp (fun L1 => Zea k L1) m (((Zz b r:Nat):Int),((Zz b r + p:Nat):Int),b,((Zz b r0:Nat):Int)) = some (if (r.take p).all (fun x => !x) then (0,Kf b (r.drop p),()) else (2,Kf b r0,())):=by
 intro p
 induction p with
 | zero =>
  intro m r hr hp hm
  obtain ⟨m,rfl⟩:=Zk hm
  rw [Zg]
  simp only [Zea]
  rw [Ze (by omega)]
  simp
 | succ p ih =>
  intro m r hr hp hm
  obtain ⟨m,rfl⟩:=Zk (show 0 < m by omega)
  rw [Zg]
  simp only [Zea]
  have hlen:=hr.len
  have hpos:Zz b r < 8 * b.length:=by unfold Zz; omega
  rw [Zb (by omega),Zpt k hb hn _ hpos]
  simp only [Qr]
  have hg:=hr.get (i:=0) (by omega)
  simp only [Nat.add_zero] at hg
  rw [hg,Zw]
  have hcons:r = r[0] :: r.drop 1:=by
   have:=List.drop_eq_getElem_cons (l:=r) (i:=0) (by omega)
   rwa [List.drop_zero] at this
  have e5:r.take (p + 1) = r[0] :: (r.drop 1).take p:=by
   conv => lhs; rw [hcons]
   rfl
  rw [e5,List.all_cons]
  cases hx:r[0] with
  | true =>
   rw [if_pos rfl,Zb rfl]
   simp
  | false =>
   rw [if_neg (by simp),Ze (by omega)]
   have e3:IntKind.i64.wrap (((Zz b r:Nat):Int) + 1) = ((Zz b (r.drop 1):Nat):Int):=by
    rw [QY hr (by omega),ZT (by omega)]; rfl
   have e4:Zz b r + (p + 1) = Zz b (r.drop 1) + p:=by rw [QY hr (by omega)]; omega
   rw [e3,e4,ih m (r.drop 1) (hr.drop 1) (by rw [List.length_drop]; omega) (by omega)]
   have e6:(r.drop 1).drop p = r.drop (p + 1):=by rw [List.drop_drop]; congr 1; omega
   rw [e6]
   simp only [Bool.not_false,Bool.true_and]
theorem ZIL (k:Nat) {b:List Int} (hb:ZP b = true) (hn:b.length < 536870912) {r:List Bool} (hr:Zj b r) (hk:10 < k) :
  ZxX k (Kf b r,()) = some ((alS r).1,Kf b (alS r).2,()):=by
 show ZiI k (Zum k) _ = _
 simp only [ZiI]
 have hlen:=hr.len
 have hp:Zz b r ≤ 8 * b.length:=by unfold Zz; omega
 rw [up8 (by omega)]
 have e:(Zz b r + 7) / 8 * 8 = Zz b r + r.length % 8:=by unfold Zz; omega
 rw [e]
 refine (ZIK k hb hn (r.length % 8) k r hr (Nat.mod_le _ _) (by omega)).trans ?_
 unfold alS
 split <;> rfl
def Znr (f:Nat):Int:=if f % 2 = 1 then -((f:Int) + 1) / 2 else (f:Int) / 2
theorem ZEZ (k:Nat) {f:Nat} (h:f < 4294967296):ZoT k ((f:Int),()) = some ((Znr f,0,()),()):=by
 show Zgf k _ = _
 simp only [Zgf]
 rw [Ze (by omega),Ze (by omega),show (1:Int) = ((1:Nat):Int) from rfl,Zzj (by omega) (by omega),Nat.and_one_is_mod,ZT (n:=((f % 2:Nat):Int)) (by omega)]
 have hd:((f:Nat):Int).fdiv 2 = ((f / 2:Nat):Int):=by rw [Int.fdiv_eq_ediv_of_nonneg _ (by omega)]; rfl
 rw [hd]
 unfold Znr
 by_cases h1:f % 2 = 1
 ·rw [if_pos h1,h1,show IntKind.i64.wrap ((0:Int) - ((1:Nat):Int)) = -1 from rfl,show BitVec.ofInt 64 (-1) = BitVec.allOnes 64 from by decide,BitVec.xor_allOnes,BitVec.toNat_not,Zwh (by omega)]
  have e2:IntKind.i64.wrap (Int.ofNat (2 ^ 64 - 1 - f / 2)) = -((f:Int) + 1) / 2:=by
   simp only [Z8]
   rw [IntKind.wrap_i64]
   omega
  rw [e2]
 ·rw [if_neg h1,show f % 2 = 0 by omega,show IntKind.i64.wrap ((0:Int) - ((0:Nat):Int)) = 0 from rfl,show BitVec.ofInt 64 0 = 0#64 from rfl,BitVec.xor_zero,Zwh (by omega)]
  rw [ZT (by simp only [Z8]; omega)]
  rfl
def ZaH (kk:Nat) (r:List Bool):Int × Int × List Bool :=
 if (YP r).2.1 ≠ 0 then (0,(YP r).2.1,(YP r).2.2)
 else if (Zr kk (YP r).2.2).2.1 ≠ 0 then (0,(Zr kk (YP r).2.2).2.1,(Zr kk (YP r).2.2).2.2)
 else if 4294967295 ≤ (YP r).1 * 2 ^ kk + (Zr kk (YP r).2.2).1 then (0,12,(Zr kk (YP r).2.2).2.2)
 else (Znr ((YP r).1 * 2 ^ kk + (Zr kk (YP r).2.2).1),0,(Zr kk (YP r).2.2).2.2)
theorem Zlb {b:List Int} {r:List Bool} (h:Zj b r) (kk:Nat):Zj b (ZaH kk r).2.2:=by
 unfold ZaH
 split
 ·exact KD h
 ·split
  ·exact ZJ (KD h) kk
  ·split
   ·exact ZJ (KD h) kk
   ·exact ZJ (KD h) kk
theorem ZSH {q d kk:Nat} (hq:q < 4294967296) (hk:kk ≤ 30) (hd:d < 2 ^ kk):IntKind.i64.wrap (Int.ofNat (BitVec.ofInt 64 (IntKind.i64.wrap ((q:Int) * (2:Int) ^ min ((kk:Int)).toNat 64)) ||| BitVec.ofInt 64 (d:Int)).toNat) = ((q * 2 ^ kk + d:Nat):Int):=by
 have h1:2 ^ kk ≤ 2 ^ 30:=Nat.pow_le_pow_right (by omega) hk
 have h2:q * 2 ^ kk ≤ 4294967295 * 1073741824:=Nat.mul_le_mul (by omega) (by omega)
 rw [QZ,Nat.min_eq_left (by omega),QC,← Int.natCast_mul]
 have h3:=Nat.shiftLeft_add_eq_or_of_lt hd q
 rw [Nat.shiftLeft_eq] at h3
 rw [ZT (n:=((q * 2 ^ kk:Nat):Int)) (by generalize q * 2 ^ kk = X at h2; omega),orN (by generalize q * 2 ^ kk = X at h2; omega) (by omega),← h3]
 generalize q * 2 ^ kk = X at h2 ⊢
 rw [ZT (by omega)]
theorem ZEX (k:Nat) {b:List Int} (hb:ZP b = true) (hn:b.length < 268435456) {r:List Bool} (hr:Zj b r) {kk:Nat} (hkk:kk ≤ 30) (hk:8 * b.length + 100 < k) :
  ZoP k (Kf b r,(kk:Int),()) = some (((ZaH kk r).1,(ZaH kk r).2.1,()),Kf b (ZaH kk r).2.2,()):=by
 show Zgc k _ = _
 simp only [Zgc]
 rw [Zrw k hb (by omega) hr (by omega)]
 simp only [Qr]
 unfold ZaH
 have hu:=ZvY (r:=r)
 have hl:=hr.len
 rw [Zo]
 by_cases h1:(YP r).2.1 = 0
 ·rw [Ze (by simpa using h1),if_neg (by simpa using h1),Yn k hb (by omega) (KD hr) (by omega) (by omega)]
  simp only [Qr]
  rw [Zo]
  by_cases h2:(Zr kk (YP r).2.2).2.1 = 0
  ·rw [Ze (by simpa using h2),if_neg (by simpa using h2),Zb (by omega),ZSH (by omega) hkk (WI kk _)]
   by_cases h3:4294967295 ≤ (YP r).1 * 2 ^ kk + (Zr kk (YP r).2.2).1
   ·rw [Zb (by omega),if_pos h3]
   ·rw [Ze (by omega),if_neg h3,ZEZ k (by omega)]
    rfl
  ·rw [Zb h2,if_pos h2]
 ·rw [Zb h1,if_pos h1]
end Go.Sh
namespace Go.Sh
open Go Go.Proofs
abbrev Zlr:=List Bool → Int × Int × List Bool
def QA (one:Zlr):Nat → List Bool → List Int → List Int × Int × List Bool
 | 0,r,acc => (acc,0,r)
 | n + 1,r,acc => if (one r).2.1 ≠ 0 then ([],(one r).2.1,(one r).2.2) else QA one n (one r).2.2 (acc ++ [(one r).1])
theorem Zax {b:List Int} {one:Zlr} (h1:∀ r,Zj b r → Zj b (one r).2.2):∀ (n:Nat) (r:List Bool) (acc:List Int),Zj b r → Zj b (QA one n r acc).2.2
 | 0,r,acc,h => h
 | n + 1,r,acc,h => by
  unfold QA
  split
  ·exact h1 r h
  ·exact Zax h1 n _ _ (h1 r h)
theorem Zcj {one:Zlr}:∀ (n:Nat) (r:List Bool) (acc:List Int),(QA one n r acc).1.length ≤ acc.length + n
 | 0,r,acc => Nat.le_refl _
 | n + 1,r,acc => by
  unfold QA
  split
  ·simp
  ·have:=Zcj (one:=one) n (one r).2.2 (acc ++ [(one r).1])
   rw [Yq,List.length_singleton] at this
   omega
theorem ZMy (k:Nat) (L2:Int × Int × List Int × Int × Int × List Int → Option ((List Int × Int × Unit) × (List Int × Int × Unit) × Unit)) {b:List Int} (hb:ZP b = true) (hn:b.length < 268435456) (hk:8 * b.length + 100 < k) {w:Nat} (hw:w ≤ 32) :
  ∀ (d m i:Nat) (r:List Bool) (acc:List Int),Zj b r → d < m → i + d ≤ 4096 → acc.length ≤ i →
  Zp (fun L1 => Zb4 k L1) m (((i + d:Nat):Int),(i:Int),b,((Zz b r:Nat):Int),(w:Int),acc) = some (((QA (Z2 w) d r acc).1,(QA (Z2 w) d r acc).2.1,()),Kf b (QA (Z2 w) d r acc).2.2,()):=by
 intro d
 induction d with
 | zero =>
  intro m i r acc hr hm hi ha
  obtain ⟨m,rfl⟩:=Zk hm
  rw [Zg]
  simp only [Zb4]
  rw [Ze (by omega)]
  rfl
 | succ d ih =>
  intro m i r acc hr hm hi ha
  obtain ⟨m,rfl⟩:=Zk (show 0 < m by omega)
  rw [Zg]
  simp only [Zb4]
  have e:ZoQ k (((b,((Zz b r:Nat):Int),()),()),((w:Int),()),()) = some (((Z2 w r).1,(Z2 w r).2.1,()),((Kf b (Z2 w r).2.2),()),((w:Int),()),()):=by
   show Zgd k _ = _
   simp only [Zgd]
   rw [ZrJ k hb (by omega) hr hw (by omega)]
   rfl
  rw [Zb (by omega),e]
  simp only [Qr]
  unfold QA
  rw [Zo]
  by_cases h:(Z2 w r).2.1 = 0
  ·rw [Ze (by simpa using h),Zb (by simp only [List.length_singleton]; omega),if_neg (by simpa using h)]
   have e2:IntKind.i64.wrap ((i:Int) + 1) = ((i + 1:Nat):Int):=by rw [ZT (by omega)]; rfl
   rw [e2]
   have:=ih m (i + 1) (Z2 w r).2.2 (acc ++ [(Z2 w r).1]) (Xw hr w) (by omega) (by omega) (by simp; omega)
   rw [show i + 1 + d = i + (d + 1) by omega] at this
   exact this
  ·rw [Zb h,if_pos h]
theorem ZHS (k:Nat) {b:List Int} (hb:ZP b = true) (hn:b.length < 268435456) (hk:8 * b.length + 100 < k) {w:Nat} (hw:w ≤ 30) :
  ∀ (d m i:Nat) (r:List Bool) (acc:List Int),Zj b r → d < m → i + d ≤ 4096 → acc.length ≤ i →
  Zp (fun L2 => Zb5 k L2) m (((i + d:Nat):Int),(i:Int),b,((Zz b r:Nat):Int),(w:Int),acc) = some (((QA (ZaH w) d r acc).1,(QA (ZaH w) d r acc).2.1,()),Kf b (QA (ZaH w) d r acc).2.2,()):=by
 intro d
 induction d with
 | zero =>
  intro m i r acc hr hm hi ha
  obtain ⟨m,rfl⟩:=Zk hm
  rw [Zg]
  simp only [Zb5]
  rw [Ze (by omega)]
  rfl
 | succ d ih =>
  intro m i r acc hr hm hi ha
  obtain ⟨m,rfl⟩:=Zk (show 0 < m by omega)
  rw [Zg]
  simp only [Zb5]
  have e:ZoO k (((b,((Zz b r:Nat):Int),()),()),((w:Int),()),()) = some (((ZaH w r).1,(ZaH w r).2.1,()),((Kf b (ZaH w r).2.2),()),((w:Int),()),()):=by
   show Zgb k _ = _
   simp only [Zgb]
   rw [ZEX k hb (by omega) hr hw (by omega)]
   rfl
  rw [Zb (by omega),e]
  simp only [Qr]
  unfold QA
  rw [Zo]
  by_cases h:(ZaH w r).2.1 = 0
  ·rw [Ze (by simpa using h),Zb (by simp only [List.length_singleton]; omega),if_neg (by simpa using h)]
   have e2:IntKind.i64.wrap ((i:Int) + 1) = ((i + 1:Nat):Int):=by rw [ZT (by omega)]; rfl
   rw [e2]
   have:=ih m (i + 1) (ZaH w r).2.2 (acc ++ [(ZaH w r).1]) (Zlb hr w) (by omega) (by omega) (by simp; omega)
   rw [show i + 1 + d = i + (d + 1) by omega] at this
   exact this
  ·rw [Zb h,if_pos h]
def Q7 (m count : Nat) (r : List Bool) : List Int × Int × List Bool :=
  if (Zr (4 + m) r).2.1 ≠ 0 then ([], (Zr (4 + m) r).2.1, (Zr (4 + m) r).2.2)
  else if (Zr (4 + m) r).1 = Xe m then
    (if (Zr 5 (Zr (4 + m) r).2.2).2.1 ≠ 0 then ([], (Zr 5 (Zr (4 + m) r).2.2).2.1, (Zr 5 (Zr (4 + m) r).2.2).2.2)
     else QA (Z2 (Zr 5 (Zr (4 + m) r).2.2).1) count (Zr 5 (Zr (4 + m) r).2.2).2.2 [])
  else QA (ZaH (Zr (4 + m) r).1) count (Zr (4 + m) r).2.2 []
theorem Zc2 {b:List Int} {r:List Bool} (h:Zj b r) (m count:Nat):Zj b (Q7 m count r).2.2:=by
 unfold Q7
 split
 ·exact ZJ h _
 ·split
  ·split
   ·exact ZJ (ZJ h _) _
   ·exact Zax (fun r h => Xw h _) _ _ _ (ZJ (ZJ h _) _)
  ·exact Zax (fun r h => Zlb h _) _ _ _ (ZJ h _)
theorem Zle (m count:Nat) (r:List Bool):(Q7 m count r).1.length ≤ count:=by
 unfold Q7
 split
 ·simp
 ·split
  ·split
   ·simp
   ·have:=Zcj (one:=Z2 (Zr 5 (Zr (4 + m) r).2.2).1) count (Zr 5 (Zr (4 + m) r).2.2).2.2 []
    simpa using this
  ·have:=Zcj (one:=ZaH (Zr (4 + m) r).1) count (Zr (4 + m) r).2.2 []
   simpa using this
theorem ZES (k:Nat) {b:List Int} (hb:ZP b = true) (hn:b.length < 268435456) {r:List Bool} (hr:Zj b r) (hk:8 * b.length + 5000 < k) {m count:Nat} (hm:m = 0 ∨ m = 1) (hc:count ≤ 4096) :
  Zhi k (Kf b r,(m:Int),(count:Int),()) = some (((Q7 m count r).1,(Q7 m count r).2.1,()),Kf b (Q7 m count r).2.2,()):=by
 show Zf3 k (Zna k) (Zil k) _ = _
 simp only [Zf3]
 have hmi:(m:Int) = 0 ∨ (m:Int) = 1:=by omega
 rw [ZPb,Zkq k hmi]
 simp only [Qr]
 have e4:(4:Int) + (m:Int) = ((4 + m:Nat):Int):=rfl
 rw [e4,Yn k hb (by omega) hr (by omega) (by omega)]
 simp only [Qr]
 unfold Q7
 have hlt:=WI (4 + m) r
 rw [Zo]
 by_cases h1:(Zr (4 + m) r).2.1 = 0
 ·rw [Ze (by simpa using h1),if_neg (by simpa using h1),ZC6,ZbK k hmi]
  simp only [Qr]
  rw [Zw]
  by_cases h2:(Zr (4 + m) r).1 = Xe m
  ·rw [Zb (by omega),if_pos h2,show (5:Int) = ((5:Nat):Int) from rfl,Yn k hb (by omega) (ZJ hr _) (by omega) (by omega)]
   simp only [Qr]
   rw [Zo]
   by_cases h3:(Zr 5 (Zr (4 + m) r).2.2).2.1 = 0
   ·rw [Ze (by simpa using h3),if_neg (by simpa using h3)]
    have hlt5:=WI 5 (Zr (4 + m) r).2.2
    have:=ZMy k (Zil k) hb hn (by omega) (w:=(Zr 5 (Zr (4 + m) r).2.2).1) (by omega) count k 0 (Zr 5 (Zr (4 + m) r).2.2).2.2 [] (ZJ (ZJ hr _) _) (by omega) (by omega) (by simp)
    rw [Nat.zero_add] at this
    exact this
   ·rw [Zb h3,if_pos h3]
  ·rw [Ze (by omega),if_neg h2]
   have h30:(Zr (4 + m) r).1 ≤ 30:=by
    rcases hm with rfl | rfl
    ·have:(Zr (4 + 0) r).1 < 16:=hlt
     omega
    ·have h32:(Zr (4 + 1) r).1 < 32:=hlt
     have:Xe (1:Nat) = 31:=rfl
     omega
   have:=ZHS k hb hn (by omega) h30 count k 0 (Zr (4 + m) r).2.2 [] (ZJ hr _) (by omega) (by omega) (by simp)
   rw [Nat.zero_add] at this
   exact this
 ·rw [Zb h1,if_pos h1]
def QI (m n o p:Nat):Nat → Nat → List Bool → List Int → List Int × Int × List Bool
 | 0,_,r,acc => (acc,0,r)
 | d + 1,i,r,acc => if (Q7 m (n / 2 ^ p - if i = 0 then o else 0) r).2.1 ≠ 0 then ([],(Q7 m (n / 2 ^ p - if i = 0 then o else 0) r).2.1,(Q7 m (n / 2 ^ p - if i = 0 then o else 0) r).2.2)
  else QI m n o p d (i + 1) (Q7 m (n / 2 ^ p - if i = 0 then o else 0) r).2.2 (acc ++ (Q7 m (n / 2 ^ p - if i = 0 then o else 0) r).1)
theorem ZhL {b:List Int} {m n o p:Nat}:∀ (d i:Nat) (r:List Bool) (acc:List Int),Zj b r → Zj b (QI m n o p d i r acc).2.2
 | 0,_,r,acc,h => h
 | d + 1,i,r,acc,h => by
  unfold QI
  generalize (n / 2 ^ p - if i = 0 then o else 0) = cnt
  split
  ·exact Zc2 h _ _
  ·exact ZhL d (i + 1) _ _ (Zc2 h _ _)
theorem ZEb (k:Nat) {b:List Int} (hb:ZP b = true) (hn:b.length < 268435456) (hk:8 * b.length + 5000 < k) {m n o p:Nat} (hm:m = 0 ∨ m = 1) (hnn:n ≤ 512) (hp:p ≤ 15) (ho:o ≤ n / 2 ^ p) :
  ∀ (d j i:Nat) (r:List Bool) (acc:List Int),Zj b r → d < j → i + d ≤ 32768 → acc.length ≤ i * 512 →
  Zp (fun L1 => Zab k L1) j (((i + d:Nat):Int),(i:Int),(n:Int),(p:Int),(o:Int),(m:Int),b,((Zz b r:Nat):Int),acc) = some (((QI m n o p d i r acc).1,(QI m n o p d i r acc).2.1,()),Kf b (QI m n o p d i r acc).2.2,()):=by
 intro d
 have hdiv:n / 2 ^ p ≤ n:=Nat.div_le_self _ _
 induction d with
 | zero =>
  intro j i r acc hr hj hi ha
  obtain ⟨j,rfl⟩:=Zk hj
  rw [Zg]
  simp only [Zab]
  rw [Ze (by omega)]
  rfl
 | succ d ih =>
  intro j i r acc hr hj hi ha
  obtain ⟨j,rfl⟩:=Zk (show 0 < j by omega)
  rw [Zg]
  simp only [Zab,QZ,Nat.min_eq_left (show p ≤ 64 by omega),Zas]
  have e2:IntKind.i64.wrap ((i:Int) + 1) = ((i + 1:Nat):Int):=by rw [ZT (by omega)]; rfl
  have e3:IntKind.i64.wrap (((n / 2 ^ p:Nat):Int) - (o:Int)) = ((n / 2 ^ p - o:Nat):Int):=by generalize n / 2 ^ p = q at hdiv ho ⊢; rw [ZT (by omega)]; omega
  have fin:∀ cnt:Nat,cnt = (n / 2 ^ p - if i = 0 then o else 0) → ((Zhi k ((b,((Zz b r:Nat):Int),()),(m:Int),(cnt:Int),())).bind fun y => bif y.1.2.1 != (0:Int) then some (([],y.1.2.1,()),(y.2.1.1,y.2.1.2.1,()),()) else bif decide (acc.length + List.length y.1.1 < (2147483648:Nat)) then Zp (fun L1 => Zab k L1) j (((i + (d + 1):Nat):Int),IntKind.i64.wrap ((i:Int) + 1),(n:Int),(p:Int),(o:Int),(m:Int),y.2.1.1,y.2.1.2.1,acc ++ y.1.1) else none) =
    some (((QI m n o p (d + 1) i r acc).1,(QI m n o p (d + 1) i r acc).2.1,()),Kf b (QI m n o p (d + 1) i r acc).2.2,()):=by
   intro cnt hcnt
   have hcl:cnt ≤ 512:=by omega
   refine (Zc (ZES k hb hn hr hk hm (by omega)) _).trans ?_
   simp only
   unfold QI
   rw [← hcnt,Zo]
   have hlen:=Zle m cnt r
   by_cases h:(Q7 m cnt r).2.1 = 0
   ·rw [Ze (by simpa using h),Zb (by omega),if_neg (by simpa using h),e2]
    have:=ih j (i + 1) (Q7 m cnt r).2.2 (acc ++ (Q7 m cnt r).1) (Zc2 hr _ _) (by omega) (by omega) (by rw [Yq]; omega)
    rw [show i + 1 + d = i + (d + 1) by omega] at this
    exact this
   ·rw [Zb h,if_pos h]
  rw [Zb (by omega),Zb (by omega),Zw]
  by_cases h0:i = 0
  ·rw [Zb (by omega),e3]
   exact fin _ (by rw [if_pos h0])
  ·rw [Ze (by omega)]
   exact fin _ (by rw [if_neg h0,Nat.sub_zero])
def XA (n o:Nat) (r:List Bool):List Int × Int × List Bool :=
 if KG n o = false then ([],1,r)
 else if (Zr 2 r).2.1 ≠ 0 then ([],(Zr 2 r).2.1,(Zr 2 r).2.2)
 else if 1 < (Zr 2 r).1 then ([],2,(Zr 2 r).2.2)
 else if (Zr 4 (Zr 2 r).2.2).2.1 ≠ 0 then ([],(Zr 4 (Zr 2 r).2.2).2.1,(Zr 4 (Zr 2 r).2.2).2.2)
 else if Zbq n o (Zr 4 (Zr 2 r).2.2).1 = false then ([],2,(Zr 4 (Zr 2 r).2.2).2.2)
 else QI (Zr 2 r).1 n o (Zr 4 (Zr 2 r).2.2).1 (2 ^ (Zr 4 (Zr 2 r).2.2).1) 0 (Zr 4 (Zr 2 r).2.2).2.2 []
theorem Zql {b:List Int} {r:List Bool} (h:Zj b r) (n o:Nat):Zj b (XA n o r).2.2:=by
 unfold XA
 repeat' split
 all_goals first | exact h | exact ZJ h _ | exact ZJ (ZJ h _) _ | exact ZhL _ _ _ _ (ZJ (ZJ h _) _)
theorem ZEc (k:Nat) {b:List Int} (hb:ZP b = true) (hn:b.length < 268435456) {r:List Bool} (hr:Zj b r) (hk:8 * b.length + 50000 < k) (n o:Nat) :
  Zbk k (Kf b r,(n:Int),(o:Int),()) = some (((XA n o r).1,(XA n o r).2.1,()),Kf b (XA n o r).2.2,()):=by
 show Zfz k (ZmL k) _ = _
 simp only [Zfz]
 rw [ZrD]
 simp only [Qr]
 unfold XA
 cases hbl:KG n o with
 | false => rfl
 | true =>
  have hbb:=of_decide_eq_true hbl
  simp only [Bool.not_true,cond_false,Bool.true_eq_false,if_false]
  have g2:Yw k (Kf b r,2,()) = _:=Yn k hb (by omega) hr (w:=2) (by omega) (by omega)
  rw [g2]
  simp only [Qr]
  rw [Zo]
  have hlt2:=WI 2 r
  by_cases h1:(Zr 2 r).2.1 = 0
  ·rw [Ze (by simpa using h1),if_neg (by simpa using h1)]
   by_cases h2:1 < (Zr 2 r).1
   ·rw [Zb (by omega),if_pos h2]
   ·have g4:Yw k (Kf b (Zr 2 r).2.2,4,()) = _:=Yn k hb (by omega) (ZJ hr _) (w:=4) (by omega) (by omega)
    rw [Ze (by omega),if_neg h2,g4]
    simp only [Qr]
    rw [Zo]
    have hlt4:=WI 4 (Zr 2 r).2.2
    by_cases h3:(Zr 4 (Zr 2 r).2.2).2.1 = 0
    ·rw [Ze (by simpa using h3),if_neg (by simpa using h3),ZrF k (by omega) (by omega)]
     simp only [Qr]
     cases hf:Zbq n o (Zr 4 (Zr 2 r).2.2).1 with
     | false => rfl
     | true =>
      simp only [Bool.not_true,cond_false,Bool.true_eq_false,if_false]
      have hfit:=hf
      unfold Zbq at hfit
      simp only [Bool.and_eq_true,decide_eq_true_eq] at hfit
      rw [Zb (by omega),K6 (by omega)]
      have h15:2 ^ (Zr 4 (Zr 2 r).2.2).1 ≤ 2 ^ 15:=Nat.pow_le_pow_right (by omega) (by omega)
      have:=ZEb k hb hn (by omega) (m:=(Zr 2 r).1) (n:=n) (o:=o) (p:=(Zr 4 (Zr 2 r).2.2).1) (by omega) (by omega) (by omega) hfit.2 (2 ^ (Zr 4 (Zr 2 r).2.2).1) k 0 (Zr 4 (Zr 2 r).2.2).2.2 [] (ZJ (ZJ hr _) _) (by omega) (by omega) (by simp)
      rw [Nat.zero_add] at this
      exact this
    ·rw [Zb h3,if_pos h3]
  ·rw [Zb h1,if_pos h1]
theorem ZUk:∀ n:Fin 513,Zf9 0 (1,(n.val:Int),()) = some ((0,(n.val:Int),()),()):=by decide +kernel
theorem ZHQ (k:Nat) {n:Nat} (hn:n ≤ 512):ZoI k (1,(n:Int),()) = some ((0,(n:Int),()),()):=by
 have:=ZUk ⟨n,by omega⟩
 simp only at this
 show (Zf9 0 (1,(n:Int),())).bind _ = _
 rw [this]
 rfl
theorem ZD7 (k:Nat) (x:Int) {n:Nat} (hn:n ≤ 512):∀ (d m i:Nat),i + d = n → d < m → 1 ≤ i →
  Zp (fun L1 => Zfx k L1) m ((i:Int),List.replicate i x ++ List.replicate d 0) = some (List.replicate n x,()):=by
 intro d
 induction d using Nat.strongRecOn with
 | ind d ih =>
  intro m i hi hm h1
  obtain ⟨m,rfl⟩:=Zk (show 0 < m by omega)
  rw [Zg]
  simp only [Zfx]
  have hlen:(List.replicate i x ++ List.replicate d (0:Int)).length = n:=by simp; omega
  rw [hlen]
  by_cases h0:d = 0
  ·subst h0
   rw [Ze (by simp only [Z8]; omega)]
   obtain rfl:i = n:=by omega
   simp
  ·rw [Zb (by simp only [Z8]; omega),Zb (by simp only [Z8]; omega),Zb (by simp only [Z8]; omega)]
   simp only [QZ,show (Int.ofNat n).toNat = n from rfl]
   rw [Zb (by omega),Zb (by omega),List.drop_zero]
   have ht:(List.replicate i x ++ List.replicate d (0:Int)).take i = List.replicate i x:=by
    rw [List.take_append_of_le_length (by simp)]
    simp
   rw [ht,List.length_replicate]
   have e1:IntKind.i64.wrap ((i:Int) + Int.ofNat (min i (n - i))) = ((i + min i (n - i):Nat):Int):=by simp only [Z8]; rw [ZT (by omega)]; omega
   have e2:List.replicate i x ++ List.take (n - i) (List.replicate i x) ++ List.drop (i + min i (n - i)) (List.replicate i x ++ List.replicate d (0:Int)) = List.replicate (i + min i (n - i)) x ++ List.replicate (d - min i (n - i)) 0:=by
    rw [List.take_replicate,List.replicate_append_replicate,List.drop_append]
    simp
    omega
   rw [e1,e2]
   exact ih (d - min i (n - i)) (by omega) m _ (by omega) (by omega) (by omega)
theorem ZD8 (k:Nat) (x:Int) {n:Nat} (h1:1 ≤ n) (hn:n ≤ 512) (hk:1000 < k):Zog k ([x],(n:Int),()) = some (List.replicate n x,()):=by
 show Zfw k (ZmH k) _ = _
 simp only [Zfw]
 have e1:IntKind.u64.wrap (Int.ofNat [x].length) = 1:=rfl
 have e2:IntKind.u64.wrap (n:Int) = (n:Int):=by rw [IntKind.wrap_u64]; omega
 rw [Ze (by omega),e1,e2,ZHQ k hn]
 simp only [Qr]
 have e3:IntKind.i64.wrap (n:Int) = (n:Int):=by rw [ZT (by omega)]
 rw [Ze (by omega),Ze (by omega),e3,Zb (by omega)]
 simp only [QZ,List.length_replicate,List.length_singleton,Nat.sub_zero,List.take_zero,List.nil_append,Nat.zero_add]
 rw [Nat.min_eq_left h1,List.take_of_length_le (by simp; omega),List.drop_replicate]
 exact ZD7 k x hn (n - 1) k 1 (by omega) (by omega) (by omega)
end Go.Sh
namespace Go.Sh
open Go Go.Proofs
def ZgO (c:List Int) (sh:Int):List Int → List Int → List Int × Int
 | [],out => (out,0)
 | x :: xs,out => if Qi (x + Zbb c sh out) = true then ([],12) else ZgO c sh xs (out ++ [x + Zbb c sh out])
def YK (c:List Int) (sh:Int) (warm res:List Int):List Int × Int :=
 if Y5 c sh = false then ([],2) else if warm.length ≠ c.length then ([],1) else if warm.any Qi = true then ([],12) else if res.any Qi = true then ([],12) else ZgO c sh res warm
theorem ZsE {c:List Int} {sh:Int}:∀ (xs out:List Int),(ZgO c sh xs out).1.length ≤ out.length + xs.length
 | [],out => Nat.le_refl _
 | x :: xs,out => by
  unfold ZgO
  split
  ·simp
  ·have:=ZsE (c:=c) (sh:=sh) xs (out ++ [x + Zbb c sh out])
   rw [Yq,List.length_singleton] at this
   rw [List.length_cons]
   omega
theorem Zl2 {x:Int} (h:Qi x = false):ZV x:=by
 unfold Qi at h
 rw [decide_eq_false_iff_not] at h
 unfold ZV
 omega
theorem ZEe (k:Nat) {c warm res:List Int} {sh:Int} (hk:1000 < k) (hc:c.length ≤ 8192) (hw:warm.length ≤ 900) (hr:res.length ≤ 900) :
  Zbl k ((c,sh,()),warm,res,()) = some (((YK c sh warm res).1,(YK c sh warm res).2,()),()):=by
 show ZfA k (ZmN k) _ = _
 simp only [ZfA]
 rw [ZrK k c sh (by omega)]
 simp only [Qr]
 unfold YK
 cases hm:Y5 c sh with
 | false => rfl
 | true =>
  simp only [if_true,Bool.true_eq_false,if_false]
  rw [show ((0:Int) != 0) = false from rfl]
  simp only [cond_false]
  rw [Zo]
  by_cases hl:warm.length = c.length
  ·rw [Ze (by simp [hl]),if_neg (by simpa using hl),ZaR k warm (by omega) (by omega)]
   simp only [Qr]
   cases hw1:warm.any Qi with
   | true => rfl
   | false =>
    simp only [cond_false,Bool.false_eq_true,if_false]
    rw [ZaR k res (by omega) (by omega)]
    simp only [Qr]
    cases hr1:res.any Qi with
    | true => rfl
    | false =>
     simp only [cond_false,Bool.false_eq_true,if_false]
     have ecl:ZkJ k (warm,()) = some (warm,()):=by show KH _ = _; unfold KH; rw [Zb (by simp only; omega)]
     rw [ecl]
     simp only [Qr]
     obtain ⟨h8,hsh,hco⟩:=Za7 hm
     have:=ZI (A:=List Int) (R:=(List Int × Int × Unit) × Unit) (step:=fun L1 => ZbT k L1)
      (fun i out => (Int.ofNat res.length,Int.ofNat i,res,c,sh,out)) res
      (fun l' out => some (((ZgO c sh l' out).1,(ZgO c sh l' out).2,()),()))
      (fun i out => c.length ≤ out.length ∧ out.length = warm.length + i ∧ ∀ x ∈ out,ZV x)
      (fun L out _ => by simp only [ZbT]; rw [Ze (We _)]; rfl)
      (fun L i hi out ho hL => by
       simp only [ZbT]
       rw [Zb (ltR hi),Zb (Y2 hi),ZrL k (by omega) h8 ho.1 (by omega) hsh hco ho.2.2,ZO hi]
       simp only [Qr]
       have hx:=Yr hr1 res[i] (List.getElem_mem hi)
       have hp:=ZeQ (sh:=sh) hco ho.2.2 h8
       unfold ZV at hx
       rw [ZT (n:=res[i] + Zbb c sh out) (by omega),ZkH]
       simp only [Qr]
       unfold ZgO
       cases hwi:Qi (res[i] + Zbb c sh out) with
       | true => rfl
       | false =>
        simp only [cond_false,Bool.false_eq_true,if_false]
        rw [Zb (by simp only [List.length_singleton]; omega),QL hi (by omega)]
        exact hL _ ⟨by simp; omega,by simp; omega,fun x hx => by
         rcases List.mem_append.1 hx with h | h
         ·exact ho.2.2 x h
         ·rw [List.mem_singleton.1 h]; exact Zl2 hwi⟩)
      k 0 warm ⟨by omega,by omega,Yr hw1⟩ (by omega) (Nat.zero_le _)
     rw [List.drop_zero] at this
     exact this
  ·rw [Zb (by simp only [Z8]; omega),if_pos hl]
abbrev IS:=List Bool × Int
def gI (w:Nat) (s:IS):Nat × IS:=if s.2 = 0 then ((Zr w s.1).1,(Zr w s.1).2.2,(Zr w s.1).2.1) else (0,s)
def mI (ok:Bool) (s:IS) (code:Int):IS:=if s.2 = 0 ∧ ok = false then (s.1,code) else s
theorem Qf {b:List Int} {s:IS} (h:Zj b s.1) (w:Nat):Zj b (gI w s).2.1:=by
 unfold gI
 split
 ·exact ZJ h w
 ·exact h
theorem Qc {b:List Int} {s:IS} (h:Zj b s.1) (ok:Bool) (code:Int):Zj b (mI ok s code).1:=by
 unfold mI
 split
 ·exact h
 ·exact h
theorem ZT0 (w:Nat) (s:IS):(gI w s).1 < 2 ^ w:=by
 unfold gI
 split
 ·exact WI w _
 ·exact Nat.pow_pos (by omega)
theorem ZbP (k:Nat) {b:List Int} (hb:ZP b = true) (hn:b.length < 268435456) (hk:100 < k) {s:IS} (hs:Zj b s.1) {w:Nat} (hw:w ≤ 32) :
  Yx k ((Kf b s.1,s.2,()),(w:Int),()) = some ((((gI w s).1:Nat):Int),(Kf b (gI w s).2.1,(gI w s).2.2,()),()):=by
 show Zfr k _ = _
 simp only [Zfr]
 unfold gI
 rw [Zw]
 by_cases h:s.2 = 0
 ·rw [Zb h,if_pos h,Yn k hb (by omega) hs hw hk]
  rfl
 ·rw [Ze h,if_neg h]
  rfl
theorem Yo (k:Nat) {b:List Int} {s:IS} (ok:Bool):WZ k ((Kf b s.1,s.2,()),ok,()) = some ((),(Kf b (mI ok s 2).1,(mI ok s 2).2,()),()):=by
 show Zfq k _ = _
 simp only [Zfq]
 unfold mI
 rw [Zw]
 by_cases h:s.2 = 0
 ·rw [Zb h]
  cases ok with
  | false => rw [if_pos ⟨h,rfl⟩]; rfl
  | true => rw [if_neg (by simp)]; rfl
 ·rw [Ze h,if_neg (fun hh => h hh.1)]
def Zdj (n:Nat):Bool:=n = 0 ∨ n = 1 ∨ 8 ≤ n ∧ n ≤ 12 ∨ 32 ≤ n ∧ n ≤ 39
theorem ZD3 (k n:Nat):Zof k ((n:Int),()) = some (Zdj n,()):=by
 show Zfs k _ = _
 simp only [Zfs]
 unfold Zdj
 rw [Zw,Zw]
 by_cases h0:n = 0
 ·rw [Zb (by omega),QS (by omega)]
 ·rw [Ze (by omega)]
  by_cases h1:n = 1
  ·rw [Zb (by omega),QS (by omega)]
  ·rw [Ze (by omega)]
   by_cases h8:8 ≤ n
   ·rw [Zb (by omega)]
    by_cases h12:n ≤ 12
    ·rw [Zb (by omega),QS (by omega)]
    ·rw [Ze (by omega)]
     by_cases h31:31 < n
     ·rw [Zb (by omega)]
      by_cases h39:n ≤ 39
      ·rw [QS (by omega),QS (by omega)]
      ·rw [QG (by omega),QG (by omega)]
     ·rw [Ze (by omega),QG (by omega)]
   ·rw [Ze (by omega),Ze (by omega),QG (by omega)]
def Xl (w:Nat):Nat → IS → List Int → List Int × IS
 | 0,s,acc => (acc,s)
 | n + 1,s,acc => if s.2 = 0 then Xl w n ((Z2 w s.1).2.2,(Z2 w s.1).2.1) (acc ++ [(Z2 w s.1).1]) else Xl w n s (acc ++ [0])
theorem XL {b:List Int} {w:Nat}:∀ (n:Nat) (s:IS) (acc:List Int),Zj b s.1 → Zj b (Xl w n s acc).2.1
 | 0,s,acc,h => h
 | n + 1,s,acc,h => by
  unfold Xl
  split
  ·exact XL n _ _ (Xw h w)
  ·exact XL n _ _ h
theorem Ky {w:Nat}:∀ (n:Nat) (s:IS) (acc:List Int),(Xl w n s acc).1.length = acc.length + n
 | 0,s,acc => rfl
 | n + 1,s,acc => by
  unfold Xl
  split
  ·rw [Ky n,Yq,List.length_singleton]; omega
  ·rw [Ky n,Yq,List.length_singleton]; omega
theorem ZbS (k:Nat) {b:List Int} (hb:ZP b = true) (hn:b.length < 268435456) (hk:1000 < k) {s:IS} (hs:Zj b s.1) {w n:Nat} (hw:w ≤ 32) (hnn:n ≤ 512) :
  Zao k ((Kf b s.1,s.2,()),(n:Int),(w:Int),()) = some ((Xl w n s []).1,(Kf b (Xl w n s []).2.1,(Xl w n s []).2.2,()),()):=by
 show Zfy k (ZmJ k) _ = _
 simp only [Zfy]
 suffices H:∀ (d m i:Nat) (s:IS) (acc:List Int),Zj b s.1 → d < m → i + d ≤ 512 → acc.length = i →
   Zp (fun L1 => ZbR k L1) m (((i + d:Nat):Int),(i:Int),(w:Int),s.2,b,((Zz b s.1:Nat):Int),acc) = some ((Xl w d s acc).1,(Kf b (Xl w d s acc).2.1,(Xl w d s acc).2.2,()),()) by
  have:=H n k 0 s [] hs (by omega) (by omega) rfl
  rw [Nat.zero_add] at this
  exact this
 intro d
 induction d with
 | zero =>
  intro m i s acc hs hm hi ha
  obtain ⟨m,rfl⟩:=Zk hm
  rw [Zg]
  simp only [ZbR]
  rw [Ze (by omega)]
  rfl
 | succ d ih =>
  intro m i s acc hs hm hi ha
  obtain ⟨m,rfl⟩:=Zk (show 0 < m by omega)
  rw [Zg]
  simp only [ZbR]
  have e2:IntKind.i64.wrap ((i:Int) + 1) = ((i + 1:Nat):Int):=by rw [ZT (by omega)]; rfl
  rw [Zb (by omega),Zw]
  unfold Xl
  by_cases h:s.2 = 0
  ·rw [Zb h,if_pos h,ZrJ k hb (by omega) hs hw (by omega)]
   simp only [Qr]
   rw [Zb (by simp only [List.length_singleton]; omega),e2]
   have:=ih m (i + 1) ((Z2 w s.1).2.2,(Z2 w s.1).2.1) (acc ++ [(Z2 w s.1).1]) (Xw hs w) (by omega) (by omega) (by simp; omega)
   rw [show i + 1 + d = i + (d + 1) by omega] at this
   exact this
  ·rw [Ze h,if_neg h,Zb (by omega),e2]
   have:=ih m (i + 1) s (acc ++ [0]) hs (by omega) (by omega) (by simp; omega)
   rw [show i + 1 + d = i + (d + 1) by omega] at this
   exact this
def Zdn (s:IS):IS:=mI ((gI 1 s).1 == 0) (gI 1 s).2 2
def YT (s:IS):Nat × IS:=((gI 6 s).1,mI (Zdj (gI 6 s).1) (gI 6 s).2 2)
def KX (kind depth:Nat) (s:IS):Nat × Nat × IS :=
 if (gI 1 s).1 = 1 ∧ (gI 1 s).2.2 = 0 then (kind,(YP (gI 1 s).2.1).1 + 1,mI (decide ((YP (gI 1 s).2.1).1 + 1 < depth)) ((YP (gI 1 s).2.1).2.2,(YP (gI 1 s).2.1).2.1) 2)
 else (kind,0,mI (decide (0 < depth)) (gI 1 s).2 2)
def ZU (depth:Nat) (s:IS):Nat × Nat × IS:=KX (YT (Zdn s)).1 depth (YT (Zdn s)).2
theorem Wq (a b:Nat):((a:Int) == (b:Int)) = (a == b):=by
 rw [Bool.eq_iff_iff,beq_iff_eq,beq_iff_eq]
 omega
theorem ZBl {b:List Int} {s:IS} (h:Zj b s.1) (kind d:Nat):Zj b (KX kind d s).2.2.1:=by
 unfold KX
 split
 ·exact Qc (s:=(_,_)) (KD (Qf h _)) _ _
 ·exact Qc (Qf h _) _ _
theorem Zqv {b:List Int} {s:IS} (h:Zj b s.1):Zj b (Zdn s).1:=Qc (Qf h _) _ _
theorem Zqw {b:List Int} {s:IS} (h:Zj b s.1):Zj b (YT s).2.1:=Qc (Qf h _) _ _
theorem ZjV {b:List Int} {s:IS} (h:Zj b s.1) (d:Nat):Zj b (ZU d s).2.2.1:=ZBl (Zqw (Zqv h)) _ _
theorem ZJD (k:Nat) {b:List Int} (hb:ZP b = true) (hn:b.length < 268435456) (hk:8 * b.length + 1000 < k) {s:IS} (hs:Zj b s.1) (d:Nat) :
  Zyh k ((Kf b s.1,s.2,()),(d:Int),()) = some (((((ZU d s).1:Nat):Int),(((ZU d s).2.1:Nat):Int),()),(Kf b (ZU d s).2.2.1,(ZU d s).2.2.2,()),()):=by
 show Zjf k _ = _
 simp only [Zjf]
 refine (Zc (ZbP k hb hn (by omega) hs (w:=1) (by omega)) _).trans ?_
 refine (Zc (Yo k (s:=(gI 1 s).2) _) _).trans ?_
 rw [show ((((gI 1 s).1:Nat):Int) == (0:Int)) = ((gI 1 s).1 == 0) from Wq _ 0]
 have r2:=Zqv hs
 unfold ZU
 change ((Yx k ((Kf b (Zdn s).1,(Zdn s).2,()),6,())).bind _) = _
 generalize Zdn s = s1 at r2 ⊢
 refine (Zc (ZbP k hb hn (by omega) r2 (w:=6) (by omega)) _).trans ?_
 refine (Zc (ZD3 k (gI 6 s1).1) _).trans ?_
 refine (Zc (Yo k (s:=(gI 6 s1).2) _) _).trans ?_
 have r4:=Zqw r2
 change ((Yx k ((Kf b (YT s1).2.1,(YT s1).2.2,()),1,())).bind fun y_3 => bif y_3.1 == (1:Int) then bif y_3.2.1.2.1 == (0:Int) then (Zhe k ((y_3.2.1.1.1,y_3.2.1.1.2.1,()),())).bind fun y_4 => (WZ k (((y_4.2.1.1,y_4.2.1.2.1,()),y_4.1.2.1,()),decide (IntKind.i64.wrap (y_4.1.1 + (1:Int)) < d),())).bind fun y_5 => some (((((YT s1).1:Nat):Int),IntKind.i64.wrap (y_4.1.1 + (1:Int)),()),((y_5.2.1.1.1,y_5.2.1.1.2.1,()),y_5.2.1.2.1,()),())
  else (WZ k (((y_3.2.1.1.1,y_3.2.1.1.2.1,()),y_3.2.1.2.1,()),decide ((0:Int) < d),())).bind fun y_4 => some (((((YT s1).1:Nat):Int),0,()),((y_4.2.1.1.1,y_4.2.1.1.2.1,()),y_4.2.1.2.1,()),())
  else (WZ k (((y_3.2.1.1.1,y_3.2.1.1.2.1,()),y_3.2.1.2.1,()),decide ((0:Int) < d),())).bind fun y_4 => some (((((YT s1).1:Nat):Int),0,()),((y_4.2.1.1.1,y_4.2.1.1.2.1,()),y_4.2.1.2.1,()),())) = _
 generalize (YT s1).1 = kind
 generalize (YT s1).2 = s2 at r4 ⊢
 unfold KX
 have r5:=Qf r4 1
 refine (Zc (ZbP k hb hn (by omega) r4 (w:=1) (by omega)) _).trans ?_
 simp only
 rw [show ((((gI 1 s2).1:Nat):Int) == (1:Int)) = ((gI 1 s2).1 == 1) from Wq _ 1]
 have fin0:((WZ k ((Kf b (gI 1 s2).2.1,(gI 1 s2).2.2,()),decide ((0:Int) < (d:Int)),())).bind fun y_4 => some ((((kind:Nat):Int),0,()),((y_4.2.1.1.1,y_4.2.1.1.2.1,()),y_4.2.1.2.1,()),())) =
   some ((((kind:Nat):Int),(((0:Nat):Int)),()),(Kf b (mI (decide (0 < d)) (gI 1 s2).2 2).1,(mI (decide (0 < d)) (gI 1 s2).2 2).2,()),()):=by
  refine (Zc (Yo k (s:=(gI 1 s2).2) _) _).trans ?_
  have:decide ((0:Int) < (d:Int)) = decide (0 < d):=by
   by_cases h:0 < d
   ·rw [QS h,QS (by omega)]
   ·rw [QG h,QG (by omega)]
  rw [this]
  rfl
 by_cases h1:(gI 1 s2).1 = 1
 ·rw [show ((gI 1 s2).1 == 1) = true from by simp [h1]]
  simp only [cond_true]
  rw [Zw]
  by_cases h2:(gI 1 s2).2.2 = 0
  ·rw [Zb h2,if_pos ⟨h1,h2⟩]
   refine (Zc (Zrw k hb (by omega) r5 (by omega)) _).trans ?_
   have hu:=ZvY (r:=(gI 1 s2).2.1)
   have hl:=r5.len
   have e1:IntKind.i64.wrap ((((YP (gI 1 s2).2.1).1:Nat):Int) + 1) = (((YP (gI 1 s2).2.1).1 + 1:Nat):Int):=by rw [ZT (by omega)]; rfl
   simp only
   rw [e1]
   refine (Zc (Yo k (b:=b) (s:=((YP (gI 1 s2).2.1).2.2,(YP (gI 1 s2).2.1).2.1)) _) _).trans ?_
   have:decide ((((YP (gI 1 s2).2.1).1 + 1:Nat):Int) < (d:Int)) = decide ((YP (gI 1 s2).2.1).1 + 1 < d):=by
    by_cases h:(YP (gI 1 s2).2.1).1 + 1 < d
    ·rw [QS h,QS (by omega)]
    ·rw [QG h,QG (by omega)]
   rw [this]
  ·rw [Ze h2,if_neg (fun h => h2 h.2)]
   exact fin0
 ·rw [show ((gI 1 s2).1 == 1) = false from by simp [h1]]
  simp only [cond_false]
  rw [if_neg (fun h => h1 h.1)]
  exact fin0
end Go.Sh
namespace Go.Sh
open Go Go.Proofs
def Zdg (coefs:List Int) (sh:Int) (c n:Nat) (warm:List Int) (s:IS):List Int × IS :=
 if (XA n c s.1).2.1 ≠ 0 then ([],((XA n c s.1).2.2,(XA n c s.1).2.1))
 else ((YK coefs sh warm (XA n c s.1).1).1,((XA n c s.1).2.2,(YK coefs sh warm (XA n c s.1).1).2))
def KR (s:IS):IS:=mI ((gI 4 s).1 == 11) (gI 4 s).2 2
def WL (s:IS):Nat × IS:=((gI 5 s).1,mI (decide ((gI 5 s).1 ≤ 15)) (gI 5 s).2 2)
def ZhM (c n:Nat) (warm:List Int) (sh:Nat) (x:List Int × IS):List Int × IS :=
 if x.2.2 ≠ 0 then ([],x.2) else Zdg x.1 sh c n warm x.2
def Zlw (num:Bool) (c n:Nat) (w:List Int × IS):List Int × IS :=
 if num = true then ZhM c n w.1 (WL (KR w.2)).1 (Xl 12 c (WL (KR w.2)).2 [])
 else if w.2.2 ≠ 0 then ([],w.2) else Zdg (Yc (min 4 c)) 0 c n w.1 w.2
def ZbB (num:Bool) (c n depth:Nat) (s:IS):List Int × IS :=
 if (mI (decide (c ≤ n)) s 2).2 ≠ 0 then ([],mI (decide (c ≤ n)) s 2) else Zlw num c n (Xl depth c (mI (decide (c ≤ n)) s 2) [])
def Xq (kind n depth:Nat) (s:IS):List Int × IS :=
 if kind = 0 then (List.replicate n ((Xl depth 1 s []).1.headD 0),(Xl depth 1 s []).2)
 else if kind = 1 then Xl depth n s []
 else if 31 < kind then ZbB true (kind - 31) n depth s else ZbB false (kind - 8) n depth s
theorem Zlu {m n o p:Nat}:∀ (d i:Nat) (r:List Bool) (acc:List Int),(QI m n o p d i r acc).1.length ≤ acc.length + d * (n / 2 ^ p)
 | 0,_,r,acc => by simp [QI]
 | d + 1,i,r,acc => by
  unfold QI
  have hle:(n / 2 ^ p - if i = 0 then o else 0) ≤ n / 2 ^ p:=Nat.sub_le _ _
  generalize (n / 2 ^ p - if i = 0 then o else 0) = cnt at hle ⊢
  have h1:=Zle m cnt r
  rw [Nat.add_mul,Nat.one_mul]
  split
  ·simp
  ·have:=Zlu (m:=m) (n:=n) (o:=o) (p:=p) d (i + 1) (Q7 m cnt r).2.2 (acc ++ (Q7 m cnt r).1)
   rw [Yq] at this
   omega
theorem Zlm {n o:Nat} (r:List Bool):(XA n o r).1.length ≤ n:=by
 unfold XA
 repeat' split
 all_goals try simp
 rename_i hf
 have hf:Zbq n o (Zr 4 (Zr 2 r).2.2).1 = true:=by simpa using hf
 unfold Zbq at hf
 simp only [Bool.and_eq_true,decide_eq_true_eq] at hf
 have:=Zlu (m:=(Zr 2 r).1) (n:=n) (o:=o) (p:=(Zr 4 (Zr 2 r).2.2).1) (2 ^ (Zr 4 (Zr 2 r).2.2).1) 0 (Zr 4 (Zr 2 r).2.2).2.2 []
 rw [List.length_nil,Nat.zero_add] at this
 refine Nat.le_trans this ?_
 rw [Nat.mul_comm]
 exact Nat.div_mul_le_self _ _
theorem Za6 {ok:Bool} {s:IS} {code:Int} (hc:code ≠ 0):(mI ok s code).2 = 0 ↔ s.2 = 0 ∧ ok = true:=by
 unfold mI
 split
 ·rename_i h
  exact ⟨fun e => absurd e hc,fun e => by rw [h.2] at e; exact absurd e.2 (by simp)⟩
 ·rename_i h
  constructor
  ·intro e
   refine ⟨e,?_⟩
   cases ok with
   | true => rfl
   | false => exact absurd ⟨e,rfl⟩ h
  ·exact fun e => e.1
theorem ZjW {d:Nat} {s:IS} (h:(ZU d s).2.2.2 = 0):(ZU d s).2.1 < d ∧ Zdj (ZU d s).1 = true:=by
 unfold ZU at h ⊢
 have hk:(YT (Zdn s)).2.2 = 0 → Zdj (YT (Zdn s)).1 = true:=fun h => ((Za6 (by decide)).1 h).2
 generalize (YT (Zdn s)).1 = kind at h hk ⊢
 generalize (YT (Zdn s)).2 = s2 at h hk ⊢
 have g0:(gI 1 s2).2.2 = 0 → s2.2 = 0:=by
  unfold gI
  split
  ·rename_i h; exact fun _ => h
  ·exact fun e => e
 unfold KX at h ⊢
 split
 ·rename_i hc
  rw [if_pos hc] at h
  have:=(Za6 (by decide)).1 h
  exact ⟨of_decide_eq_true this.2,hk (g0 hc.2)⟩
 ·rename_i hc
  rw [if_neg hc] at h
  have:=(Za6 (by decide)).1 h
  exact ⟨of_decide_eq_true this.2,hk (g0 this.1)⟩
theorem ZnI {b:List Int} {coefs warm:List Int} {sh:Int} {c n:Nat} {s:IS} (h:Zj b s.1):Zj b (Zdg coefs sh c n warm s).2.1:=by
 unfold Zdg
 split
 ·exact Zql h _ _
 ·exact Zql h _ _
theorem Zq4 {coefs warm:List Int} {sh:Int} {c n:Nat} {s:IS}:(Zdg coefs sh c n warm s).1.length ≤ warm.length + n:=by
 unfold Zdg
 split
 ·simp
 ·have h1:=Zlm (n:=n) (o:=c) s.1
  simp only
  unfold YK
  repeat' split
  all_goals try simp
  have:=ZsE (c:=coefs) (sh:=sh) (XA n c s.1).1 warm
  omega
theorem ZnR {b:List Int} {s:IS} (h:Zj b s.1):Zj b (KR s).1:=Qc (Qf h _) _ _
theorem ZnS {b:List Int} {s:IS} (h:Zj b s.1):Zj b (WL s).2.1:=Qc (Qf h _) _ _
theorem Zzr {b:List Int} {c n:Nat} {warm:List Int} {sh:Nat} {x:List Int × IS} (h:Zj b x.2.1):Zj b (ZhM c n warm sh x).2.1:=by
 unfold ZhM
 split
 ·exact h
 ·exact ZnI h
theorem Zzs {b:List Int} {num:Bool} {c n:Nat} {w:List Int × IS} (h:Zj b w.2.1):Zj b (Zlw num c n w).2.1:=by
 unfold Zlw
 split
 ·exact Zzr (XL _ _ _ (ZnS (ZnR h)))
 ·split
  ·exact h
  ·exact ZnI h
theorem ZnH {b:List Int} {num:Bool} {c n d:Nat} {s:IS} (h:Zj b s.1):Zj b (ZbB num c n d s).2.1:=by
 unfold ZbB
 split
 ·exact Qc h _ _
 ·exact Zzs (XL _ _ _ (Qc h _ _))
theorem Zzq {b:List Int} {kind n d:Nat} {s:IS} (h:Zj b s.1):Zj b (Xq kind n d s).2.1:=by
 unfold Xq
 split
 ·exact XL _ _ _ h
 ·split
  ·exact XL _ _ _ h
  ·split
   ·exact ZnH h
   ·exact ZnH h
theorem Zq3 {num:Bool} {c n d:Nat} {s:IS} (hc:c ≤ 8):(ZbB num c n d s).1.length ≤ 8 + n:=by
 unfold ZbB
 split
 ·simp
 ·have hl:=Ky (w:=d) c (mI (decide (c ≤ n)) s 2) []
  generalize Xl d c (mI (decide (c ≤ n)) s 2) [] = w at hl
  simp only [List.length_nil,Nat.zero_add] at hl
  unfold Zlw ZhM
  repeat' split
  all_goals try simp
  ·have:=Zq4 (coefs:=(Xl 12 c (WL (KR w.2)).2 []).1) (warm:=w.1) (sh:=((WL (KR w.2)).1:Nat)) (c:=c) (n:=n) (s:=(Xl 12 c (WL (KR w.2)).2 []).2)
   omega
  ·have:=Zq4 (coefs:=Yc (min 4 c)) (warm:=w.1) (sh:=0) (c:=c) (n:=n) (s:=w.2)
   omega
theorem Zj6 {kind n d:Nat} {s:IS} (hk:Zdj kind = true):(Xq kind n d s).1.length ≤ 8 + n:=by
 have hk:=of_decide_eq_true hk
 unfold Xq
 split
 ·simp
 ·split
  ·rw [Ky]; simp
  ·split
   ·exact Zq3 (by omega)
   ·exact Zq3 (by omega)
abbrev BT:=List Int × ((List Int × Int × Unit) × Int × Unit) × Unit
theorem ZOW (k:Nat) {b:List Int} (hb:ZP b = true) (hn:b.length < 268435456) (hk:8 * b.length + 50000 < k) {s:IS} (hs:Zj b s.1) {coefs warm:List Int} (hco:coefs.length ≤ 8192) (hw:warm.length ≤ 8) {sh:Int} {n c:Nat} (hnn:n ≤ 512) :
  ((Zbk k (Kf b s.1,(n:Int),(c:Int),())).bind fun y_2 => bif y_2.1.2.1 != (0:Int) then some (([],((y_2.2.1.1,y_2.2.1.2.1,()),y_2.1.2.1,()),()):BT) else (Zbl k ((coefs,sh,()),warm,y_2.1.1,())).bind fun y => some (y.1.1,((y_2.2.1.1,y_2.2.1.2.1,()),y.1.2.1,()),())) =
   some ((Zdg coefs sh c n warm s).1,(Kf b (Zdg coefs sh c n warm s).2.1,(Zdg coefs sh c n warm s).2.2,()),()):=by
 refine (Zc (ZEc k hb hn hs hk n c) _).trans ?_
 unfold Zdg
 simp only
 rw [Zo]
 by_cases h:(XA n c s.1).2.1 = 0
 ·rw [Ze (by simpa using h),if_neg (by simpa using h)]
  have hl:=Zlm (n:=n) (o:=c) s.1
  exact Zc (ZEe k (by omega) hco (by omega) (by omega)) _
 ·rw [Zb h,if_pos h]
theorem ZJE (k:Nat) {b:List Int} (hb:ZP b = true) (hn:b.length < 268435456) (hk:8 * b.length + 50000 < k) {s:IS} (hs:Zj b s.1) {kind n d:Nat} (hkd:Zdj kind = true) (h1:1 ≤ n) (hnn:n ≤ 512) (hd:d ≤ 32) :
  Zyi k ((Kf b s.1,s.2,()),(kind:Int),(n:Int),(d:Int),()) = some ((Xq kind n d s).1,(Kf b (Xq kind n d s).2.1,(Xq kind n d s).2.2,()),()):=by
 show Zjg k _ = _
 simp only [Zjg]
 have hkd:=of_decide_eq_true hkd
 unfold Xq
 rw [Zw,Zw]
 by_cases h0:kind = 0
 ·rw [Zb (by omega),if_pos h0]
  refine (Zc (ZbS k hb hn (by omega) hs (w:=d) (n:=1) hd (by omega)) _).trans ?_
  have hl:=Ky (w:=d) 1 s []
  generalize Xl d 1 s [] = w at hl
  obtain ⟨w1,w2⟩:=w
  match w1,hl with
  | [x],_ =>
   refine (Zc (ZD8 k x h1 hnn (by omega)) _).trans ?_
   rfl
 ·rw [Ze (by omega),if_neg h0]
  by_cases hk1:kind = 1
  ·rw [Zb (by omega),if_pos hk1]
   exact Zc (ZbS k hb hn (by omega) hs (w:=d) (n:=n) hd hnn) _
  ·rw [Ze (by omega),if_neg hk1]
   by_cases h31:31 < kind
   ·simp only [Zb (show (31:Int) < (kind:Int) by omega)]
    rw [if_pos h31]
    have ec:IntKind.i64.wrap ((kind:Int) - 31) = ((kind - 31:Nat):Int):=by rw [ZT (by omega)]; omega
    simp only [ec]
    have hc8:kind - 31 ≤ 8:=by omega
    generalize kind - 31 = c at hc8
    have edn:decide ((c:Int) ≤ (n:Int)) = decide (c ≤ n):=by
     by_cases h:c ≤ n
     ·rw [QS h,QS (by omega)]
     ·rw [QG h,QG (by omega)]
    rw [edn]
    refine (Zc (Yo k (s:=s) _) _).trans ?_
    unfold ZbB
    have r1:=Qc hs (decide (c ≤ n)) 2
    generalize mI (decide (c ≤ n)) s 2 = s1 at r1 ⊢
    simp only
    rw [Zo]
    by_cases he:s1.2 = 0
    ·rw [Ze (by simpa using he),if_neg (show ¬ s1.2 ≠ 0 by simpa using he)]
     refine (Zc (ZbS k hb hn (by omega) r1 (w:=d) (n:=c) hd (by omega)) _).trans ?_
     have r2:=XL (w:=d) c s1 [] r1
     have hl:=Ky (w:=d) c s1 []
     generalize Xl d c s1 [] = w at r2 hl ⊢
     simp only [List.length_nil,Nat.zero_add] at hl
     have e4:(if (4:Int) < (c:Int) then (4:Int) else (c:Int)) = ((min 4 c:Nat):Int):=by split <;> omega
     simp only
     rw [e4]
     refine (Zc (Zkk k (min 4 c) (by omega) (by omega)) _).trans ?_
     unfold Zlw
     rw [if_pos rfl]
     refine (Zc (ZbP k hb hn (by omega) r2 (w:=4) (by omega)) _).trans ?_
     refine (Zc (Yo k (s:=(gI 4 w.2).2) _) _).trans ?_
     rw [show ((((gI 4 w.2).1:Nat):Int) == (11:Int)) = ((gI 4 w.2).1 == 11) from Wq _ 11]
     have r3:=ZnR r2
     change ((Yx k ((Kf b (KR w.2).1,(KR w.2).2,()),5,())).bind _) = _
     generalize KR w.2 = s3 at r3 ⊢
     refine (Zc (ZbP k hb hn (by omega) r3 (w:=5) (by omega)) _).trans ?_
     refine (Zc (Yo k (s:=(gI 5 s3).2) _) _).trans ?_
     have e15:decide ((((gI 5 s3).1:Nat):Int) ≤ 15) = decide ((gI 5 s3).1 ≤ 15):=by
      by_cases h:(gI 5 s3).1 ≤ 15
      ·rw [QS h,QS (by omega)]
      ·rw [QG h,QG (by omega)]
     rw [e15]
     have r4:=ZnS r3
     change ((Zao k ((Kf b (WL s3).2.1,(WL s3).2.2,()),(c:Int),12,())).bind fun y_6 => bif y_6.2.1.2.1 != (0:Int) then some (([],((y_6.2.1.1.1,y_6.2.1.1.2.1,()),y_6.2.1.2.1,()),()):BT) else (Zbk k ((y_6.2.1.1.1,y_6.2.1.1.2.1,()),(n:Int),(c:Int),())).bind fun y_7 => bif y_7.1.2.1 != (0:Int) then some ([],((y_7.2.1.1,y_7.2.1.2.1,()),y_7.1.2.1,()),()) else (Zbl k ((y_6.1,(((WL s3).1:Nat):Int),()),w.1,y_7.1.1,())).bind fun y => some (y.1.1,((y_7.2.1.1,y_7.2.1.2.1,()),y.1.2.1,()),())) = _
     generalize (WL s3).1 = sh
     generalize (WL s3).2 = s4 at r4 ⊢
     refine (Zc (ZbS k hb hn (by omega) r4 (w:=12) (n:=c) (by omega) (by omega)) _).trans ?_
     have r5:=XL (w:=12) c s4 [] r4
     have hl5:=Ky (w:=12) c s4 []
     generalize Xl 12 c s4 [] = x at r5 hl5 ⊢
     simp only [List.length_nil,Nat.zero_add] at hl5
     unfold ZhM
     simp only
     rw [Zo]
     by_cases hx:x.2.2 = 0
     ·rw [Ze (by simpa using hx),if_neg (by simpa using hx)]
      exact ZOW k hb hn hk r5 (by omega) (by omega) hnn
     ·rw [Zb hx,if_pos hx]
    ·rw [Zb he,if_pos he]
   ·simp only [Ze (show ¬ (31:Int) < (kind:Int) by omega)]
    rw [if_neg h31]
    have ec:IntKind.i64.wrap ((kind:Int) - 8) = ((kind - 8:Nat):Int):=by rw [ZT (by omega)]; omega
    simp only [ec]
    have hc8:kind - 8 ≤ 4:=by omega
    generalize kind - 8 = c at hc8
    have edn:decide ((c:Int) ≤ (n:Int)) = decide (c ≤ n):=by
     by_cases h:c ≤ n
     ·rw [QS h,QS (by omega)]
     ·rw [QG h,QG (by omega)]
    rw [edn]
    refine (Zc (Yo k (s:=s) _) _).trans ?_
    unfold ZbB
    have r1:=Qc hs (decide (c ≤ n)) 2
    generalize mI (decide (c ≤ n)) s 2 = s1 at r1 ⊢
    simp only
    rw [Zo]
    by_cases he:s1.2 = 0
    ·rw [Ze (by simpa using he),if_neg (show ¬ s1.2 ≠ 0 by simpa using he)]
     refine (Zc (ZbS k hb hn (by omega) r1 (w:=d) (n:=c) hd (by omega)) _).trans ?_
     have r2:=XL (w:=d) c s1 [] r1
     have hl:=Ky (w:=d) c s1 []
     generalize Xl d c s1 [] = w at r2 hl ⊢
     simp only [List.length_nil,Nat.zero_add] at hl
     have e4:(if (4:Int) < (c:Int) then (4:Int) else (c:Int)) = ((min 4 c:Nat):Int):=by split <;> omega
     simp only
     rw [e4]
     refine (Zc (Zkk k (min 4 c) (by omega) (by omega)) _).trans ?_
     unfold Zlw
     rw [if_neg (by simp)]
     simp only
     rw [Zo]
     by_cases hx:w.2.2 = 0
     ·rw [Ze (by simpa using hx),if_neg (by simpa using hx)]
      exact ZOW k hb hn hk r2 (by rw [ZpA _ (by omega)]; omega) (by omega) hnn
     ·rw [Zb hx,if_pos hx]
    ·rw [Zb he,if_pos he]
def Z3 (n d:Nat) (r:List Bool):List Int × Int × List Bool :=
 if ¬ (1 ≤ n ∧ n ≤ 512 ∧ 4 ≤ d ∧ d ≤ 25) then ([],1,r)
 else if (ZU d (r,0)).2.2.2 ≠ 0 then ([],(ZU d (r,0)).2.2.2,(ZU d (r,0)).2.2.1)
 else if (Xq (ZU d (r,0)).1 n (d - (ZU d (r,0)).2.1) (ZU d (r,0)).2.2).2.2 ≠ 0 then ([],(Xq (ZU d (r,0)).1 n (d - (ZU d (r,0)).2.1) (ZU d (r,0)).2.2).2.2,(Xq (ZU d (r,0)).1 n (d - (ZU d (r,0)).2.1) (ZU d (r,0)).2.2).2.1)
 else if (Xq (ZU d (r,0)).1 n (d - (ZU d (r,0)).2.1) (ZU d (r,0)).2.2).1.all (W6 · (d - (ZU d (r,0)).2.1)) = true then
  ((Xq (ZU d (r,0)).1 n (d - (ZU d (r,0)).2.1) (ZU d (r,0)).2.2).1.map (fun x => x * 2 ^ (ZU d (r,0)).2.1),0,(Xq (ZU d (r,0)).1 n (d - (ZU d (r,0)).2.1) (ZU d (r,0)).2.2).2.1)
 else ([],12,(Xq (ZU d (r,0)).1 n (d - (ZU d (r,0)).2.1) (ZU d (r,0)).2.2).2.1)
theorem Zbx {b:List Int} {r:List Bool} (h:Zj b r) (n d:Nat):Zj b (Z3 n d r).2.2:=by
 unfold Z3
 have h1:=ZjV (s:=(r,0)) h d
 repeat' split
 all_goals first | exact h | exact h1 | exact Zzq h1
theorem ZvP {x:Int} {d k:Nat} (hk:k < d) (hd:d ≤ 32) (h:W6 x (d - k) = true):W6 (x * 2 ^ k) d = true ∧ -9223372036854775808 ≤ x * 2 ^ k ∧ x * 2 ^ k ≤ 9223372036854775807:=by
 unfold W6 at h ⊢
 rw [if_neg (by omega),decide_eq_true_eq] at h
 rw [if_neg (by omega),decide_eq_true_eq]
 have hp:(0:Int) < 2 ^ k:=Int.pow_pos (by omega)
 have e:(2:Int) ^ (d - 1) = 2 ^ (d - k - 1) * 2 ^ k:=by rw [← Int.pow_add]; congr 1; omega
 have h1 : -(2 ^ (d - 1):Int) ≤ x * 2 ^ k:=by rw [e,← Int.neg_mul]; exact Int.mul_le_mul_of_nonneg_right h.1 (by omega)
 have h2:x * 2 ^ k < 2 ^ (d - 1):=by rw [e]; exact Int.mul_lt_mul_of_pos_right h.2 hp
 refine ⟨⟨h1,h2⟩,?_⟩
 rw [QC (d - 1)] at h1 h2
 have:2 ^ (d - 1) ≤ 2 ^ 31:=Nat.pow_le_pow_right (by omega) (by omega)
 generalize 2 ^ (d - 1) = Q at h1 h2 this
 omega
theorem ZII (k:Nat) {b:List Int} (hb:ZP b = true) (hn:b.length < 268435456) (hk:8 * b.length + 50000 < k) {r:List Bool} (hr:Zj b r) (n d:Nat) :
  ZxW k (Kf b r,(n:Int),(d:Int),()) = some (((Z3 n d r).1,(Z3 n d r).2.1,()),Kf b (Z3 n d r).2.2,()):=by
 show ZiH k (Zuk k) _ = _
 simp only [ZiH]
 rw [Zyg]
 simp only [Qr]
 unfold Z3
 by_cases h:1 ≤ n ∧ n ≤ 512 ∧ 4 ≤ d ∧ d ≤ 25
 ·rw [if_neg (by simpa using h),QS (by omega)]
  simp only [Bool.not_true,cond_false]
  refine (Zc (ZJD k hb hn (by omega) (s:=(r,0)) hr d) _).trans ?_
  have hz:=ZjW (d:=d) (s:=(r,0))
  have r1:=ZjV (s:=(r,0)) hr d
  generalize ZU d (r,0) = hd at hz r1 ⊢
  obtain ⟨kind,kk,s1⟩:=hd
  simp only at hz r1 ⊢
  rw [Zo]
  by_cases he:s1.2 = 0
  ·rw [Ze (by simpa using he),if_neg (by simpa using he)]
   obtain ⟨hkd,hkind⟩:=hz he
   have e1:IntKind.i64.wrap ((d:Int) - (kk:Int)) = ((d - kk:Nat):Int):=by rw [ZT (by omega)]; omega
   rw [e1]
   refine (Zc (ZJE k hb hn hk r1 hkind h.1 h.2.1 (d:=d - kk) (by omega)) _).trans ?_
   have hl:=Zj6 (kind:=kind) (n:=n) (d:=d - kk) (s:=s1) hkind
   generalize Xq kind n (d - kk) s1 = y at hl ⊢
   simp only
   rw [Zo]
   by_cases hy:y.2.2 = 0
   ·rw [Ze (by simpa using hy),if_neg (by simpa using hy)]
    have:=ZI (A:=List Int) (R:=(List Int × Int × Unit) × (List Int × Int × Unit) × Unit) (step:=fun L1 => Zd9 k L1)
     (fun i out => (Int.ofNat y.1.length,Int.ofNat i,y.1,(d:Int),(kk:Int),b,((Zz b y.2.1:Nat):Int),out)) y.1
     (fun l' out => some (if l'.all (W6 · (d - kk)) = true then ((out ++ l'.map (fun x => x * 2 ^ kk),0,()),Kf b y.2.1,()) else (([],12,()),Kf b y.2.1,())))
     (fun i out => out.length = i)
     (fun L out _ => by simp only [Zd9]; rw [Ze (We _)]; simp)
     (fun L i hi out ho hL => by
      simp only [Zd9]
      rw [Zb (ltR hi),Zb (Y2 hi),ZO hi,e1,Zyj k _ (by omega) (by omega)]
      simp only [Qr]
      rw [List.all_cons]
      cases hs:W6 y.1[i] (d - kk) with
      | false => simp
      | true =>
       simp only [Bool.not_true,cond_false,Bool.true_and]
       have hsh:=(ZvP hkd (by omega) hs).2
       rw [Zb (by omega),QZ,Nat.min_eq_left (by omega),ZT hsh,Zb (by simp only [List.length_singleton]; omega),QL hi (by omega),hL _ (by simp; omega)]
       simp only [List.map_cons,List.append_assoc,List.singleton_append])
     k 0 [] rfl (by omega) (Nat.zero_le _)
    rw [List.drop_zero] at this
    refine Eq.trans this ?_
    split <;> simp
   ·rw [Zb hy,if_pos hy]
  ·rw [Zb he,if_pos he]
 ·rw [if_pos h,QG (by omega)]
  rfl
end Go.Sh
namespace Go.Sh
open Go Go.Proofs
def QQ (x:Nat):Nat:=if x < 128 then 0 else if x < 192 then 1 else if x < 224 then 2 else if x < 240 then 3 else if x < 248 then 4 else if x < 252 then 5 else if x < 254 then 6 else if x < 255 then 7 else 8
theorem ZKi:∀ x:Fin 256,ZkM 0 (IntKind.u8.wrap (Int.ofNat (BitVec.ofInt 8 255 ^^^ BitVec.ofInt 8 (x.val:Int)).toNat),()) = some (((QQ x.val:Nat):Int),()):=by decide +kernel
theorem ZEP (k:Nat) {x:Nat} (h:x < 256):ZkM k (IntKind.u8.wrap (Int.ofNat (BitVec.ofInt 8 255 ^^^ BitVec.ofInt 8 (x:Int)).toNat),()) = some (((QQ x:Nat):Int),()):=ZKi ⟨x,h⟩
theorem Zvy (x:Nat):QQ x ≤ 8:=by
 unfold QQ
 repeat' split
 all_goals omega
theorem ZJ9:∀ (x:Fin 256) (k:Fin 8),IntKind.i64.wrap (Int.ofNat (BitVec.ofInt 64 (IntKind.i64.wrap (x.val:Int)) &&& BitVec.ofInt 64 (Int.fdiv (127:Int) ((2:Int) ^ min k.val 64))).toNat) = ((x.val % 2 ^ (7 - k.val):Nat):Int):=by decide +kernel
def cgL:Nat → List Int → Nat → Nat → Option (Nat × Nat)
 | 0,_,a,g => some (a,g)
 | n + 1,[],a,g => cgL n [] (a * 64) (g * 64 + 63)
 | n + 1,x :: xs,a,g => if x.toNat / 64 = 2 then cgL n xs (a * 64 + x.toNat % 64) (g * 64 + x.toNat % 64) else none
def Zat (b:List Int):Nat × Nat × Int:=match b with
 | [] => (0,0,10)
 | x :: xs => if QQ x.toNat = 0 then (x.toNat,1,0) else if QQ x.toNat = 1 then (0,0,2) else if 7 < QQ x.toNat then (0,0,2)
  else match cgL (QQ x.toNat - 1) xs (x.toNat % 2 ^ (7 - QQ x.toNat)) (x.toNat % 2 ^ (7 - QQ x.toNat)) with
   | none => (0,0,2)
   | some (a,g) => if g < 2 ^ WE (QQ x.toNat - 1) then (0,0,2) else if xs.length + 1 < QQ x.toNat then (0,0,10) else (a,QQ x.toNat,0)
theorem ZN3 {a m:Nat} (ha:a < 1125899906842624) (hm:m < 64):IntKind.i64.wrap (Int.ofNat (BitVec.ofInt 64 (IntKind.i64.wrap ((a:Int) * 64)) ||| BitVec.ofInt 64 (m:Int)).toNat) = ((a * 64 + m:Nat):Int):=by
 have h1:IntKind.i64.wrap ((a:Int) * 64) = ((a * 64:Nat):Int):=by rw [ZT (by omega)]; omega
 rw [h1,orN (by omega) (by omega)]
 have:=Nat.shiftLeft_add_eq_or_of_lt (i:=6) (show m < 2 ^ 6 from hm) a
 rw [Nat.shiftLeft_eq] at this
 rw [show a * 64 = a * 2 ^ 6 from rfl,← this,ZT (by omega)]
theorem ZSS {x:Nat} (hx:x < 256):IntKind.i64.wrap (Int.ofNat (BitVec.ofInt 64 (IntKind.i64.wrap (x:Int)) &&& BitVec.ofInt 64 63).toNat) = ((x % 64:Nat):Int):=by
 rw [ZT (n:=(x:Int)) (by omega),show (63:Int) = ((63:Nat):Int) from rfl,Zzj (by omega) (by omega),show (63:Nat) = 2 ^ 6 - 1 from rfl,Nat.and_two_pow_sub_one_eq_mod,ZT (by omega)]
theorem ZD1 (k:Nat) {b:List Int} (hb:ZP b = true) {kk:Nat} (h2:2 ≤ kk) (h7:kk ≤ 7):∀ (d m i a g:Nat),i + d = kk → 1 ≤ i → d < m → a < 2 ^ (6 * i + 6) → g < 2 ^ (6 * i + 6) →
  Zp (fun L1 => ZbO k L1) m ((i:Int),(kk:Int),b,(a:Int),(g:Int)) = some (match cgL d (b.drop i) a g with
   | none => (0,0,2,())
   | some (a,g) => if g < 2 ^ WE (kk - 1) then (0,0,2,()) else if b.length < kk then (0,0,10,()) else ((a:Int),(kk:Int),0,()),()):=by
 intro d
 induction d with
 | zero =>
  intro m i a g hi h1 hm ha hg
  obtain ⟨m,rfl⟩:=Zk hm
  rw [Zg]
  simp only [ZbO]
  have e1:IntKind.i64.wrap ((kk:Int) - 1) = ((kk - 1:Nat):Int):=by rw [ZT (by omega)]; omega
  rw [Ze (by omega),e1,Zpl k (kk - 1) (by omega)]
  simp only [Qr,cgL]
  have hr:WE (kk - 1) ≤ 31:=by unfold WE; split <;> omega
  rw [Zb (by omega),K6 hr]
  by_cases hlt:g < 2 ^ WE (kk - 1)
  ·rw [Zb (by omega),if_pos hlt]
  ·rw [Ze (by omega),if_neg hlt]
   by_cases hl:b.length < kk
   ·rw [Zb (by simp only [Z8]; omega),if_pos hl]
   ·rw [Ze (by simp only [Z8]; omega),if_neg hl]
 | succ d ih =>
  intro m i a g hi h1 hm ha hg
  obtain ⟨m,rfl⟩:=Zk (show 0 < m by omega)
  rw [Zg]
  simp only [ZbO]
  have hpow:2 ^ (6 * i + 6) ≤ 2 ^ 42:=Nat.pow_le_pow_right (by omega) (by omega)
  have hnext:2 ^ (6 * (i + 1) + 6) = 64 * 2 ^ (6 * i + 6):=by rw [show 6 * (i + 1) + 6 = (6 * i + 6) + 6 by omega,Nat.pow_add]; omega
  have e2:IntKind.i64.wrap ((i:Int) + 1) = ((i + 1:Nat):Int):=by rw [ZT (by omega)]; rfl
  rw [Zb (by omega)]
  by_cases hlt:i < b.length
  ·obtain ⟨x,hx,hxe⟩:=WV hb hlt
   rw [Zb (by simp only [Z8]; omega),Zb (by simp only [Z8]; omega),QZ,Wt hlt,hxe,List.drop_eq_getElem_cons hlt,hxe]
   have hd:((x:Nat):Int).fdiv 64 = ((x / 64:Nat):Int):=by rw [Int.fdiv_eq_ediv_of_nonneg _ (by omega)]; rfl
   rw [hd,Zo]
   simp only [cgL,QZ]
   by_cases h64:x / 64 = 2
   ·rw [Ze (by omega),if_pos h64,Zb (by simp only [Z8]; omega),ZSS hx,ZN3 (by omega) (by omega),ZN3 (by omega) (by omega),e2]
    exact ih m (i + 1) _ _ (by omega) (by omega) (by omega) (by omega) (by omega)
   ·rw [Zb (by omega),if_neg h64]
  ·rw [Ze (by simp only [Z8]; omega),show (0:Int) = ((0:Nat):Int) from rfl,show (63:Int) = ((63:Nat):Int) from rfl,ZN3 (by omega) (by omega),ZN3 (by omega) (by omega),e2]
   have hd0:b.drop i = []:=List.drop_eq_nil_of_le (by omega)
   have hd1:b.drop (i + 1) = []:=List.drop_eq_nil_of_le (by omega)
   have:=ih m (i + 1) (a * 64 + 0) (g * 64 + 63) (by omega) (by omega) (by omega) (by omega) (by omega)
   rw [hd1] at this
   rw [hd0]
   exact this
theorem ZD2 (k:Nat) {b:List Int} (hb:ZP b = true) (hk:20 < k):Zod k (b,()) = some (((((Zat b).1:Nat):Int),(((Zat b).2.1:Nat):Int),(Zat b).2.2,()),()):=by
 show Zfp k (ZmC k) _ = _
 simp only [Zfp]
 match b,hb with
 | [],_ => rfl
 | x :: xs,hb =>
  obtain ⟨y,hy,hye⟩:=WV hb (i:=0) (by simp)
  simp only [List.getElem_cons_zero] at hye
  subst hye
  rw [show (Int.ofNat ((y:Int) :: xs).length == (0:Int)) = false from by rw [Zw,QG]; simp only [Z8,List.length_cons]; omega]
  simp only [cond_false]
  have hpos:(0:Int) ≤ 0 ∧ (0:Int) < Int.ofNat ((y:Int) :: xs).length:=by simp only [Z8,List.length_cons]; omega
  rw [Zb hpos,show ((y:Int) :: xs).getD 0 0 = (y:Int) from rfl,ZEP k hy]
  simp only [Qr]
  unfold Zat
  simp only [QZ]
  have h8:=Zvy y
  rw [Zw]
  by_cases h0:QQ y = 0
  ·rw [Zb (by omega),Zb hpos,if_pos h0,ZT (by omega)]
   rfl
  ·rw [Ze (by omega),if_neg h0,Zw]
   by_cases h1:QQ y = 1
   ·rw [Zb (by omega),if_pos h1]
    rfl
   ·rw [Ze (by omega),if_neg h1]
    by_cases h7:7 < QQ y
    ·rw [Zb (by omega),if_pos h7]
     rfl
    ·rw [Ze (by omega),if_neg h7,Zb hpos,Zb (by omega),Zb hpos,Zb (by omega)]
     have hm:=ZJ9 ⟨y,hy⟩ ⟨QQ y,by omega⟩
     simp only at hm
     rw [hm]
     have hlt:y % 2 ^ (7 - QQ y) < 2 ^ (6 * 1 + 6):=Nat.lt_of_le_of_lt (Nat.mod_le _ _) (by omega)
     refine (ZD1 k hb (kk:=QQ y) (by omega) (by omega) (QQ y - 1) k 1 _ _ (by omega) (by omega) (by omega) hlt hlt).trans ?_
     rw [show ((y:Int) :: xs).drop 1 = xs from rfl]
     cases cgL (QQ y - 1) xs (y % 2 ^ (7 - QQ y)) (y % 2 ^ (7 - QQ y)) with
     | none => rfl
     | some ag =>
      obtain ⟨a,g⟩:=ag
      simp only [List.length_cons]
      by_cases hg:g < 2 ^ WE (QQ y - 1)
      ·rw [if_pos hg,if_pos hg]; rfl
      ·rw [if_neg hg,if_neg hg]
       by_cases hl:xs.length + 1 < QQ y
       ·rw [if_pos hl,if_pos hl]; rfl
       ·rw [if_neg hl,if_neg hl]
def tgL (m x y:Int):Int:=if m = 9 then x + y else if m = 10 then (2 * x + y % 2 + y) / 2 else x
def tgR (m x y:Int):Int:=if m = 8 then x - y else if m = 10 then (2 * x + y % 2 - y) / 2 else y
theorem ZSy {x y:Int} (hx:Z1 x) (hy:Z1 y):IntKind.i64.wrap (Int.ofNat (BitVec.ofInt 64 (IntKind.i64.wrap (x * 2)) ||| BitVec.ofInt 64 (IntKind.i64.wrap (Int.ofNat (BitVec.ofInt 64 y &&& BitVec.ofInt 64 1).toNat))).toNat) = 2 * x + y % 2:=by
 unfold Z1 at hx hy
 have e1:IntKind.i64.wrap (Int.ofNat (BitVec.ofInt 64 y &&& BitVec.ofInt 64 1).toNat) = (((y % 2).toNat:Nat):Int):=by
  rw [BitVec.toNat_and,KA,show (BitVec.ofInt 64 1).toNat = 1 from rfl,Nat.and_one_is_mod]
  have:K5 y % 2 = (y % 2).toNat:=by unfold K5; omega
  rw [this,ZT (by simp only [Z8]; omega)]
  rfl
 rw [e1,ZT (n:=x * 2) (by omega),BitVec.toNat_or,KA,KA]
 have e2:K5 (((y % 2).toNat:Nat):Int) = (y % 2).toNat:=by unfold K5; omega
 obtain ⟨q,hq⟩:∃ q,K5 (x * 2) = q * 2:=⟨K5 (x * 2) / 2,by unfold K5; omega⟩
 have hb:(y % 2).toNat < 2 ^ 1:=by omega
 have:=Nat.shiftLeft_add_eq_or_of_lt hb q
 rw [Nat.shiftLeft_eq] at this
 rw [e2,hq,show q * 2 = q * 2 ^ 1 from rfl,← this]
 have h3:q * 2 = K5 (x * 2):=hq.symm
 unfold K5 at h3
 rw [IntKind.wrap_i64]
 simp only [Z8]
 omega
def KO (m:Int) (A B:List Int):List Int:=(A.zip B).map fun x => tgL m x.1 x.2
def KP (m:Int) (A B:List Int):List Int:=(A.zip B).map fun x => tgR m x.1 x.2
def QO (x:Int):Bool:=decide (-16777216 ≤ x ∧ x ≤ 16777216)
theorem ZNl (k:Nat) {L R:List Int} (hk:L.length < k) (h:L.length = R.length) (hn:L.length ≤ 8192) :
  Zpd k (L,R,()) = some (if (L.zip R).all (fun x => QO x.1 && QO x.2) = true then (Zci L R,0,()) else ([],12,()),()):=by
 show Zcb k (Zpe k) _ = _
 simp only [Zcb]
 rw [show (Int.ofNat L.length != Int.ofNat R.length) = false from by rw [h]; simp]
 simp only [cond_false]
 rw [Ze (by simp only [Z8]; omega)]
 have:=ZI (A:=List (Nat × Nat)) (step:=fun L1 => Kr k L1) (fun i acc => (Int.ofNat L.length,Int.ofNat i,L,R,acc)) (L.zip R)
  (fun l acc => some (if l.all (fun x => QO x.1 && QO x.2) = true then (acc ++ l.map (fun x => (FloatKind.f64.nearest x.1,FloatKind.f64.nearest x.2)),0,()) else ([],12,()),())) (fun i acc => acc.length = i)
  (fun L1 acc ha => by
   simp only [Kr]
   rw [List.length_zip,← h,Nat.min_self,Ze (We _)]
   simp)
  (fun L1 i hi acc ha hL1 => by
   have hi2:i < L.length:=by simp at hi; omega
   have hi3:i < R.length:=by omega
   simp only [Kr]
   rw [Zb (ltR hi2),Zb (Y2 hi2),Zb (Y2 hi3),ZO hi2,ZO hi3,List.all_cons,List.getElem_zip]
   have hok:∀ x:Int,QO x = true ↔ (¬ x < -16777216 ∧ ¬ 16777216 < x):=by intro x; unfold QO; rw [decide_eq_true_eq]; omega
   by_cases h1:L[i] < -16777216
   ·have:QO L[i] = false:=by rw [Bool.eq_false_iff]; intro hh; exact ((hok _).1 hh).1 h1
    rw [Zb h1,this]; rfl
   ·rw [Ze h1]
    by_cases h2:16777216 < L[i]
    ·have:QO L[i] = false:=by rw [Bool.eq_false_iff]; intro hh; exact ((hok _).1 hh).2 h2
     rw [Zb h2,this]; rfl
    ·have hl:QO L[i] = true:=(hok _).2 ⟨h1,h2⟩
     rw [Ze h2]
     by_cases h3:R[i] < -16777216
     ·have:QO R[i] = false:=by rw [Bool.eq_false_iff]; intro hh; exact ((hok _).1 hh).1 h3
      rw [Zb h3,hl,this]; rfl
     ·rw [Ze h3]
      by_cases h4:16777216 < R[i]
      ·have:QO R[i] = false:=by rw [Bool.eq_false_iff]; intro hh; exact ((hok _).1 hh).2 h4
       rw [Zb h4,hl,this]; rfl
      ·have hr:QO R[i] = true:=(hok _).2 ⟨h3,h4⟩
       rw [Ze h4,Zb (by simp; omega),QL hi2 (by omega),hL1 _ (by simp [ha]),hl,hr]
       simp only [Bool.true_and,Bool.and_true,List.map_cons,List.append_assoc,List.singleton_append]) k 0 [] rfl (by simp; omega) (Nat.zero_le _)
 exact Eq.trans this (by rw [List.drop_zero]; rfl)
theorem ZKF {m x y:Int} (hm:Zgv m) (hx:Z1 x) (hy:Z1 y) : -300000000 ≤ tgL m x y ∧ tgL m x y ≤ 300000000 ∧ -300000000 ≤ tgR m x y ∧ tgR m x y ≤ 300000000:=by
 unfold Z1 at hx hy
 unfold tgL tgR
 rcases hm with rfl | rfl | rfl | rfl
 ·simp; omega
 ·simp; omega
 ·simp; omega
 ·simp; omega
def Qt (m:Int) (A B:List Int):List (Nat × Nat) × Int :=
 if A.length ≠ B.length then ([],1) else if ((KO m A B).zip (KP m A B)).all (fun x => QO x.1 && QO x.2) = true then (Zci (KO m A B) (KP m A B),0) else ([],12)
theorem ZyX {xs:List Int} {g:List Int} {i:Nat} {v:Int} (h:i < xs.length) (hx:∀ j (h:j < i),xs[j]? = g[j]?) (hv:g[i]? = some v):∀ j,j < i + 1 → (xs.set i v)[j]? = g[j]? := by
 intro j hj
 rw [List.getElem?_set]
 split
 ·rename_i e; subst e; rw [hv]; try rw [if_pos h]
 ·exact hx j (by omega)
theorem ZIO (k:Nat) {A B:List Int} {m:Int} (hm:Zgv m) (hn:A.length ≤ 600) (hk:1000 < k) (hA:∀ x ∈ A,Z1 x) (hB:∀ x ∈ B,Z1 x) :
  Zo6 k (A,B,m,()) = some (((Qt m A B).1,(Qt m A B).2,()),()):=by
 show ZiK k (Zup k) _ = _
 simp only [ZiK]
 rw [Zyl k hm]
 simp only [Qr,Bool.not_true,cond_false]
 by_cases hl:A.length = B.length
 case neg =>
  rw [Zo,Zb (by simp only [Z8]; omega)]
  unfold Qt
  rw [if_pos hl]
 rw [show (Int.ofNat A.length != Int.ofNat B.length) = false from by rw [hl]; simp]
 simp only [cond_false]
 rw [Ze (by simp only [Z8]; omega),Zb (by simp only [Z8]; omega),Zb (by simp only [Z8]; omega)]
 have hzl:(A.zip B).length = A.length:=by rw [List.length_zip]; omega
 have hLl:(KO m A B).length = A.length:=by unfold KO; rw [List.length_map,hzl]
 have hRl:(KP m A B).length = A.length:=by unfold KP; rw [List.length_map,hzl]
 have hgL:∀ (i:Nat) (h:i < A.length),(KO m A B)[i]? = some (tgL m A[i] (B[i]'(by omega))):=by
  intro i h
  rw [List.getElem?_eq_getElem (by omega)]
  unfold KO
  rw [List.getElem_map,List.getElem_zip]
 have hgR:∀ (i:Nat) (h:i < A.length),(KP m A B)[i]? = some (tgR m A[i] (B[i]'(by omega))):=by
  intro i h
  rw [List.getElem?_eq_getElem (by omega)]
  unfold KP
  rw [List.getElem_map,List.getElem_zip]
 have:=ZI (A:=List Int × List Int) (R:=(List (Nat × Nat) × Int × Unit) × Unit) (step:=fun L1 => Zca k L1)
  (fun i a => (Int.ofNat A.length,Int.ofNat i,A,B,m,a.1,a.2)) A
  (fun l' a => some (((Qt m A B).1,(Qt m A B).2,()),()))
  (fun i a => a.1.length = A.length ∧ a.2.length = A.length ∧ (∀ j,j < i → a.1[j]? = (KO m A B)[j]?) ∧ (∀ j,j < i → a.2[j]? = (KP m A B)[j]?))
  (fun L a ha => by
   simp only [Zca]
   rw [Ze (We _)]
   have e1:a.1 = KO m A B:=by
    apply List.ext_getElem?
    intro j
    by_cases hj:j < A.length
    ·exact ha.2.2.1 j hj
    ·rw [List.getElem?_eq_none (by omega),List.getElem?_eq_none (by omega)]
   have e2:a.2 = KP m A B:=by
    apply List.ext_getElem?
    intro j
    by_cases hj:j < A.length
    ·exact ha.2.2.2 j hj
    ·rw [List.getElem?_eq_none (by omega),List.getElem?_eq_none (by omega)]
   rw [e1,e2,ZNl k (by omega) (by omega) (by omega)]
   simp only [Qr]
   unfold Qt
   rw [if_neg (show ¬ A.length ≠ B.length from fun h => h hl)]
   split <;> rfl)
  (fun L i hi a ha hL => by
   have hi2:i < B.length:=by omega
   have hx:=hA A[i] (List.getElem_mem hi)
   have hy:=hB B[i] (List.getElem_mem hi2)
   have hbd:=ZKF hm hx hy
   have key:Zca k L (Int.ofNat A.length,Int.ofNat i,A,B,m,a.1,a.2) = L (Int.ofNat A.length,Int.ofNat (i + 1),A,B,m,a.1.set i (tgL m A[i] B[i]),a.2.set i (tgR m A[i] B[i])):=by
    have hor:=ZSy hx hy
    unfold Z1 at hx hy
    simp only [Zca]
    rw [Zb (ltR hi),Zb (Y2 hi),Zb (Y2 hi2),ZO hi,ZO hi2,Ze (by split <;> omega),Ze (by split <;> omega)]
    have c1:(0:Int) ≤ Int.ofNat i ∧ Int.ofNat i < Int.ofNat a.1.length:=by rw [ha.1]; exact Y2 hi
    have c2:(0:Int) ≤ Int.ofNat i ∧ Int.ofNat i < Int.ofNat a.2.length:=by rw [ha.2.1]; exact Y2 hi
    have c3:(Int.ofNat i).toNat < a.1.length:=by rw [ha.1]; simpa using hi
    have c4:(Int.ofNat i).toNat < a.2.length:=by rw [ha.2.1]; simpa using hi
    rw [Zw,Zw,Zw,Zw]
    simp only [QS c1,QS c2,QS c3,QS c4,cond_true]
    rw [hor,QL hi (by omega)]
    unfold tgL tgR
    rcases hm with rfl | rfl | rfl | rfl
    ·rfl
    ·rw [ZT (n:=A[i] - B[i]) (by omega)]; rfl
    ·rw [ZT (n:=A[i] + B[i]) (by omega)]; rfl
    ·rw [ZT (n:=2 * A[i] + B[i] % 2 + B[i]) (by omega),ZT (n:=2 * A[i] + B[i] % 2 - B[i]) (by omega),Int.fdiv_eq_ediv_of_nonneg _ (by omega),Int.fdiv_eq_ediv_of_nonneg _ (by omega)]
     rfl
   rw [key]
   exact hL (a.1.set i (tgL m A[i] B[i]),a.2.set i (tgR m A[i] B[i])) ⟨by simp [ha.1],by simp [ha.2.1],ZyX (by omega) ha.2.2.1 (hgL i hi),ZyX (by omega) ha.2.2.2 (hgR i hi)⟩)
  k 0 (List.replicate A.length 0,List.replicate A.length 0) ⟨by simp,by simp,fun j hj => by omega,fun j hj => by omega⟩ (by omega) (Nat.zero_le _)
 exact this
theorem ZIP (k:Nat) {p:List (Nat × Nat)} {L R:List Int} (hp:PP p L R) (hk:p.length + 4 < k) (hn:p.length ≤ 8192):Zo7 k (p,()) = some ((L,R,0,()),()):=by
 show ZiL k _ = _
 simp only [ZiL]
 rw [Zph k hp hk hn (.inl rfl)]
 have hlr:L.length = R.length:=by rw [← hp.hl,hp.hr]
 have e1:KE 0 L R = L:=by
  unfold KE
  show (L.zip R).map (fun x => x.1) = L
  exact List.map_fst_zip (by omega)
 have e2:KF 0 L R = R:=by
  unfold KF
  show (L.zip R).map (fun x => x.2) = R
  exact List.map_snd_zip (by omega)
 rw [e1,e2]
 rfl
end Go.Sh
namespace Go.Sh
open Go Go.Proofs
abbrev InT:=List Int × (List Int × Int × Unit) × Int × Unit
abbrev inp (b:List Int) (s:IS):InT:=(b,Kf b s.1,s.2,())
theorem XY (k:Nat) {b:List Int} (hb:ZP b = true) (hn:b.length < 268435456) (hk:100 < k) {s:IS} (hs:Zj b s.1) {w:Nat} (hw:w ≤ 32) :
  Ws k (inp b s,(w:Int),()) = some ((((gI w s).1:Nat):Int),inp b (gI w s).2,()):=by
 show Zja k _ = _
 simp only [Zja]
 unfold gI
 rw [Zw]
 by_cases h:s.2 = 0
 ·rw [Zb h,if_pos h,Yn k hb (by omega) hs hw hk]
  rfl
 ·rw [Ze h,if_neg h]
  rfl
theorem Wr (k:Nat) {b:List Int} {s:IS} (ok:Bool) (code:Int):Q1 k (inp b s,ok,code,()) = some ((),inp b (mI ok s code),()):=by
 show Zi9 k _ = _
 simp only [Zi9]
 unfold mI
 rw [Zw]
 by_cases h:s.2 = 0
 ·rw [Zb h]
  cases ok with
  | false => rw [if_pos ⟨h,rfl⟩]; rfl
  | true => rw [if_neg (by simp)]; rfl
 ·rw [Ze h,if_neg (fun hh => h hh.1)]
def KU (c:Int) (m:Nat):Bool:=if c = 1 then m == 0 else m == 1 || (decide (8 ≤ m) && decide (m ≤ 10))
theorem ZJz (k:Nat) (c d r:Int) (m:Nat):Zpq k ((c,d,r,()),(m:Int),()) = some (KU c m,()):=by
 show Zjb k _ = _
 simp only [Zjb]
 unfold KU
 rw [Zw,show ((m:Int) == (0:Int)) = (m == 0) from Wq m 0,show ((m:Int) == (1:Int)) = (m == 1) from Wq m 1]
 by_cases h:c = 1
 ·rw [Zb h,if_pos h]
 ·rw [Ze h,if_neg h]
  cases m == 1 with
  | true => rfl
  | false =>
   simp only [cond_false,Bool.false_or]
   by_cases h8:8 ≤ m
   ·rw [Zb (by omega),QS h8,Bool.true_and]
    by_cases h10:m ≤ 10
    ·rw [QS h10,QS (by omega)]
    ·rw [QG h10,QG (by omega)]
   ·rw [Ze (by omega),QG h8,Bool.false_and]
def ZjQ:Nat → IS → IS
 | 0,s => s
 | n + 1,s => ZjQ n (gI 8 s).2
theorem Zqr {b:List Int}:∀ (n:Nat) (s:IS),Zj b s.1 → Zj b (ZjQ n s).1
 | 0,s,h => h
 | n + 1,s,h => Zqr n _ (Qf h 8)
def Zhr (b:List Int) (s:IS):Nat × IS :=
 if s.2 ≠ 0 then (0,s) else ((Zat (b.drop (Zz b s.1 / 8))).1,mI (decide ((Zat (b.drop (Zz b s.1 / 8))).1 ≤ 2147483647)) (ZjQ (Zat (b.drop (Zz b s.1 / 8))).2.1 (s.1,(Zat (b.drop (Zz b s.1 / 8))).2.2)) 2)
theorem Zla {b:List Int} {s:IS} (h:Zj b s.1):Zj b (Zhr b s).2.1:=by
 unfold Zhr
 split
 ·exact h
 ·exact Qc (Zqr (Zat (b.drop (Zz b s.1 / 8))).2.1 (s.1,(Zat (b.drop (Zz b s.1 / 8))).2.2) h) _ _
theorem Zly {b:List Int} (h:ZP b = true) (i:Nat):ZP (b.drop i) = true :=
 List.all_eq_true.2 fun x hx => List.all_eq_true.1 h x (List.mem_of_mem_drop hx)
theorem ZaJ {b:List Int} (h:ZP b = true) (i:Nat):ZP (b.take i) = true :=
 List.all_eq_true.2 fun x hx => List.all_eq_true.1 h x (List.mem_of_mem_take hx)
theorem ZFh (b:List Int):(Zat b).2.1 ≤ 8:=by
 unfold Zat
 split
 ·simp
 ·rename_i x xs
  have:=Zvy x.toNat
  repeat' split
  all_goals simp
  all_goals omega
theorem ZJC (k:Nat) {b:List Int} (hb:ZP b = true) (hn:b.length < 268435456) (hk:1000 < k) {s:IS} (hs:Zj b s.1) :
  Zjc k (inp b s,()) = some ((((Zhr b s).1:Nat):Int),inp b (Zhr b s).2,()):=by
 show Zjd k (Zu3 k) _ = _
 simp only [Zjd]
 unfold Zhr
 rw [Zo]
 by_cases h:s.2 = 0
 ·rw [Ze (by simpa using h),if_neg (by simpa using h)]
  have e51:Zaq k ((b,((Zz b s.1:Nat):Int),()),()) = some (((Zz b s.1:Nat):Int),Kf b s.1,()):=rfl
  rw [e51]
  simp only [Qr]
  have hp:Zz b s.1 ≤ 8 * b.length:=by unfold Zz; omega
  rw [ZsP,ZT (n:=((Zz b s.1 / 8:Nat):Int)) (by omega),Zb (by simp only [Z8]; omega),QZ,show (Int.ofNat b.length).toNat = b.length from rfl,List.take_length]
  rw [ZD2 k (Zly hb _) (by omega)]
  simp only [Qr]
  have hu:=ZFh (b.drop (Zz b s.1 / 8))
  generalize Zat (b.drop (Zz b s.1 / 8)) = c at hu
  have H:∀ (d m i:Nat) (t:IS),Zj b t.1 → d < m → i + d ≤ 8 →
    Zp (fun L1 => Zeq k L1) m (((i + d:Nat):Int),(i:Int),((c.1:Nat):Int),b,t.2,b,((Zz b t.1:Nat):Int)) = some (((c.1:Nat):Int),inp b (mI (decide (c.1 ≤ 2147483647)) (ZjQ d t) 2),()):=by
   intro d
   induction d with
   | zero =>
    intro m i t ht hm hi
    obtain ⟨m,rfl⟩:=Zk hm
    rw [Zg]
    simp only [Zeq]
    rw [Ze (by omega)]
    refine (Zc (Wr k (b:=b) (s:=t) _ _) _).trans ?_
    have:decide (((c.1:Nat):Int) ≤ 2147483647) = decide (c.1 ≤ 2147483647):=by
     by_cases h:c.1 ≤ 2147483647
     ·rw [QS h,QS (by omega)]
     ·rw [QG h,QG (by omega)]
    rw [this]
    rfl
   | succ d ih =>
    intro m i t ht hm hi
    obtain ⟨m,rfl⟩:=Zk (show 0 < m by omega)
    rw [Zg]
    simp only [Zeq]
    rw [Zb (by omega)]
    refine (Zc (XY k hb hn (by omega) ht (w:=8) (by omega)) _).trans ?_
    have e2:IntKind.i64.wrap ((i:Int) + 1) = ((i + 1:Nat):Int):=by rw [ZT (by omega)]; rfl
    rw [e2]
    have:=ih m (i + 1) (gI 8 t).2 (Qf ht 8) (by omega) (by omega)
    rw [show i + 1 + d = i + (d + 1) by omega] at this
    exact this
  have:=H c.2.1 k 0 (s.1,c.2.2) hs (by omega) (by omega)
  rw [Nat.zero_add] at this
  exact this
 ·rw [Zb h,if_pos h]
  rfl
def Zdc (of:List Int → Nat) (b:List Int) (w:Nat) (s:IS):IS:=if (gI w s).2.2 ≠ 0 then (gI w s).2 else mI ((gI w s).1 == of (b.take (Zz b s.1 / 8))) (gI w s).2 16
theorem ZsM {of:List Int → Nat} {b:List Int} {s:IS} (h:Zj b s.1) (w:Nat):Zj b (Zdc of b w s).1:=by
 unfold Zdc
 split
 ·exact Qf h _
 ·exact Qc (Qf h _) _ _
theorem QK (s:IS) (code:Int):mI true s code = s:=by unfold mI; rw [if_neg (by simp)]
theorem ZxY (k:Nat) {b:List Int} (hb:ZP b = true) (hn:b.length < 268435456) (hk:b.length + 1000 < k) {s:IS} (hs:Zj b s.1) {w:Nat} (hw:w ≤ 32) :
  ZgE k (inp b s,(w:Int),(),()) = some ((),inp b (Zdc Zj9 b w s),()):=by
 show ZiJ k _ = _
 simp only [ZiJ]
 have e51:Zaq k ((b,((Zz b s.1:Nat):Int),()),()) = some (((Zz b s.1:Nat):Int),Kf b s.1,()):=rfl
 rw [e51]
 simp only [Qr]
 refine (Zc (XY k hb hn (by omega) hs hw) _).trans ?_
 unfold Zdc
 simp only
 rw [Zo]
 by_cases h:(gI w s).2.2 = 0
 ·rw [Ze (by simpa using h),if_neg (by simpa using h)]
  have hp:Zz b s.1 ≤ 8 * b.length:=by unfold Zz; omega
  rw [ZsP,ZT (n:=((Zz b s.1 / 8:Nat):Int)) (by omega),Zb (by simp only [Z8]; omega),QZ,List.drop_zero]
  have htl:(b.take (Zz b s.1 / 8)).length ≤ b.length:=by rw [List.length_take]; omega
  refine (Zc (ZxN k (b.take (Zz b s.1 / 8)) (ZaJ hb _) (by omega) (by omega)) _).trans ?_
  simp only
  rw [Wq]
  exact Zc (Wr k (b:=b) (s:=(gI w s).2) _ _) _
 ·rw [Zb h,if_pos h]
  refine (Zc (Wr k (b:=b) (s:=(gI w s).2) _ _) _).trans ?_
  rw [QK]
theorem ZzG (k:Nat) {b:List Int} (hb:ZP b = true) (hn:b.length < 268435456) (hk:b.length + 1000 < k) {s:IS} (hs:Zj b s.1) {w:Nat} (hw:w ≤ 32) :
  Zh0 k (inp b s,(w:Int),(),()) = some ((),inp b (Zdc YQ b w s),()):=by
 show ZcJ k _ = _
 simp only [ZcJ]
 have e51:Zaq k ((b,((Zz b s.1:Nat):Int),()),()) = some (((Zz b s.1:Nat):Int),Kf b s.1,()):=rfl
 rw [e51]
 simp only [Qr]
 refine (Zc (XY k hb hn (by omega) hs hw) _).trans ?_
 unfold Zdc
 simp only
 rw [Zo]
 by_cases h:(gI w s).2.2 = 0
 ·rw [Ze (by simpa using h),if_neg (by simpa using h)]
  have hp:Zz b s.1 ≤ 8 * b.length:=by unfold Zz; omega
  rw [ZsP,ZT (n:=((Zz b s.1 / 8:Nat):Int)) (by omega),Zb (by simp only [Z8]; omega),QZ,List.drop_zero]
  have htl:(b.take (Zz b s.1 / 8)).length ≤ b.length:=by rw [List.length_take]; omega
  refine (Zc (ZxR k (b.take (Zz b s.1 / 8)) (ZaJ hb _) (by omega) (by omega)) _).trans ?_
  simp only
  rw [Wq]
  exact Zc (Wr k (b:=b) (s:=(gI w s).2) _ _) _
 ·rw [Zb h,if_pos h]
  refine (Zc (Wr k (b:=b) (s:=(gI w s).2) _ _) _).trans ?_
  rw [QK]
def hd1 (s:IS):IS:=mI ((gI 15 s).1 == 32764) (gI 15 s).2 11
def hd2 (s:IS):IS:=mI ((gI 1 s).1 == 0) (gI 1 s).2 2
def hd3 (s:IS):Nat × IS:=((gI 4 s).1,mI ((gI 4 s).1 == 6 || (gI 4 s).1 == 7) (gI 4 s).2 2)
def hd4 (s:IS):IS:=mI ((gI 4 s).1 == 0) (gI 4 s).2 2
def hd5 (c:Int) (s:IS):Nat × IS:=((gI 4 s).1,mI (KU c (gI 4 s).1) (gI 4 s).2 2)
def hd6 (kind:Nat) (s:IS):Nat × IS:=if s.2 = 0 then ((gI (8 * (kind - 5)) s).1 + 1,mI (decide ((gI (8 * (kind - 5)) s).1 + 1 ≤ 512)) (gI (8 * (kind - 5)) s).2 1) else (0,s)
abbrev HdT:=Nat × Nat × Nat × IS
def Zk2 (b:List Int) (kind mode num:Nat) (s:IS):HdT:=(mode,num,(hd6 kind s).1,Zdc Zj9 b 8 (hd6 kind s).2)
def ZqP (b:List Int) (kind mode:Nat) (s:IS):HdT:=Zk2 b kind mode (Zhr b s).1 (Zhr b s).2
def ZyE (c:Int) (b:List Int) (kind:Nat) (s:IS):HdT:=ZqP b kind (hd5 c s).1 (hd4 (hd5 c s).2)
def Zju (c:Int) (b:List Int) (kind:Nat) (s:IS):HdT:=ZyE c b kind (hd4 s)
def YR (c:Int) (b:List Int) (s:IS):HdT:=Zju c b (hd3 (hd2 (hd1 s))).1 (hd3 (hd2 (hd1 s))).2
abbrev ZSN:=(Int × Int × Int × Unit) × InT × Unit
def Zui (k:Nat) (kind mode num:Int) (w:InT):Option ZSN :=
 bif w.2.2.1 == (0:Int) then (Ws k (w,IntKind.i64.wrap ((8:Int) * IntKind.i64.wrap (IntKind.i64.wrap (kind - (6:Int)) + (1:Int))),())).bind fun y => (Q1 k (y.2.1,decide (IntKind.i64.wrap (y.1 + (1:Int)) ≤ (512:Int)),1,())).bind fun y_10 => (ZgE k (y_10.2.1,8,(),())).bind fun y_11 => some ((mode,num,IntKind.i64.wrap (y.1 + (1:Int)),()),y_11.2.1,())
 else (Q1 k (w,decide ((0:Int) ≤ (512:Int)),1,())).bind fun y => (ZgE k (y.2.1,8,(),())).bind fun y => some ((mode,num,0,()),y.2.1,())
def Zuh (k:Nat) (sh:Int × Int × Int × Unit) (kind:Int) (w:InT):Option ZSN :=
 (Ws k (w,4,())).bind fun y_2 => (Q1 k (y_2.2.1,y_2.1 == (0:Int),2,())).bind fun y_3 => (Ws k (y_3.2.1,4,())).bind fun y_4 => (Zpq k (sh,y_4.1,())).bind fun y_5 => (Q1 k (y_4.2.1,y_5.1,2,())).bind fun y_6 => (Ws k (y_6.2.1,4,())).bind fun y_7 => (Q1 k (y_7.2.1,y_7.1 == (0:Int),2,())).bind fun y_8 => (Zjc k (y_8.2.1,())).bind fun y_9 => Zui k kind y_4.1 y_9.1 y_9.2.1
theorem ZE4 (k:Nat) (w:InT) (sh:Int × Int × Int × Unit):Zr1 k (w,sh,()) =
  (Ws k (w,15,())).bind fun y => (Q1 k (y.2.1,y.1 == (32764:Int),11,())).bind fun y => (Ws k (y.2.1,1,())).bind fun y => (Q1 k (y.2.1,y.1 == (0:Int),2,())).bind fun y => (Ws k (y.2.1,4,())).bind fun y =>
   bif y.1 == (6:Int) then (Q1 k (y.2.1,true,2,())).bind fun y_1 => Zuh k sh y.1 y_1.2.1 else (Q1 k (y.2.1,y.1 == (7:Int),2,())).bind fun y_1 => Zuh k sh y.1 y_1.2.1:=rfl
theorem Zvm {w:Nat} {s:IS} (h:(gI w s).2.2 = 0):s.2 = 0:=by
 unfold gI at h
 split at h
 ·rename_i h0; exact h0
 ·exact h
theorem Zsu {b:List Int} {s:IS} (h:(Zhr b s).2.2 = 0):s.2 = 0:=by
 unfold Zhr at h
 split at h
 ·exact h
 ·rename_i h0; simpa using h0
theorem ZpG {s:IS} (h:(hd4 s).2 = 0):s.2 = 0:=Zvm ((Za6 (by decide)).1 h).1
theorem ZyC {c:Int} {s:IS} (h:(hd5 c s).2.2 = 0):s.2 = 0 ∧ KU c (hd5 c s).1 = true:=⟨Zvm ((Za6 (by decide)).1 h).1,((Za6 (by decide)).1 h).2⟩
theorem ZJ3 {s:IS} (h:(hd3 s).2.2 = 0):(hd3 s).1 = 6 ∨ (hd3 s).1 = 7:=by
 have:=((Za6 (by decide)).1 h).2
 show (gI 4 s).1 = 6 ∨ (gI 4 s).1 = 7
 simpa using this
theorem ZyD {b:List Int} {s:IS} (h:Zj b s.1) (kind:Nat):Zj b (hd6 kind s).2.1:=by
 unfold hd6
 split
 ·exact Qc (Qf h _) _ _
 ·exact h
theorem ZxV (k:Nat) {b:List Int} (hb:ZP b = true) (hn:b.length < 268435456) (hk:b.length + 1000 < k) {s:IS} (hs:Zj b s.1) {kind:Nat} (hkind:s.2 = 0 → kind = 6 ∨ kind = 7) (mode num:Nat) :
  Zui k (kind:Int) (mode:Int) (num:Int) (inp b s) = some (((((Zk2 b kind mode num s).1:Nat):Int),(((Zk2 b kind mode num s).2.1:Nat):Int),(((Zk2 b kind mode num s).2.2.1:Nat):Int),()),inp b (Zk2 b kind mode num s).2.2.2,()):=by
 unfold Zui Zk2 hd6
 rw [Zw]
 by_cases h:s.2 = 0
 ·rw [Zb h]
  simp only [if_pos h]
  have e1:IntKind.i64.wrap ((8:Int) * IntKind.i64.wrap (IntKind.i64.wrap ((kind:Int) - (6:Int)) + (1:Int))) = ((8 * (kind - 5):Nat):Int):=by
   rcases hkind h with rfl | rfl <;> rfl
  have hw:8 * (kind - 5) ≤ 32:=by rcases hkind h with rfl | rfl <;> omega
  rw [e1]
  refine (Zc (XY k hb hn (by omega) hs hw) _).trans ?_
  have hlt:=ZT0 (8 * (kind - 5)) s
  have r1:=Qf hs (8 * (kind - 5))
  have h32:2 ^ (8 * (kind - 5)) ≤ 2 ^ 32:=Nat.pow_le_pow_right (by omega) hw
  generalize gI (8 * (kind - 5)) s = x at hlt r1 ⊢
  have e2:IntKind.i64.wrap (((x.1:Nat):Int) + 1) = ((x.1 + 1:Nat):Int):=by rw [ZT (by omega)]; rfl
  have e3:decide (((x.1 + 1:Nat):Int) ≤ 512) = decide (x.1 + 1 ≤ 512):=by
   by_cases h:x.1 + 1 ≤ 512
   ·rw [QS h,QS (by omega)]
   ·rw [QG h,QG (by omega)]
  simp only
  rw [e2,e3]
  refine (Zc (Wr k (b:=b) (s:=x.2) _ _) _).trans ?_
  refine (Zc (ZxY k hb hn hk (Qc r1 _ _) (w:=8) (by omega)) _).trans ?_
  rfl
 ·rw [Ze h]
  simp only [if_neg h]
  refine (Zc (Wr k (b:=b) (s:=s) _ _) _).trans ?_
  rw [show decide ((0:Int) ≤ 512) = true from rfl,QK]
  refine (Zc (ZxY k hb hn hk hs (w:=8) (by omega)) _).trans ?_
  rfl
theorem ZxU (k:Nat) {b:List Int} (hb:ZP b = true) (hn:b.length < 268435456) (hk:b.length + 1000 < k) {s:IS} (hs:Zj b s.1) {kind:Nat} (hkind:s.2 = 0 → kind = 6 ∨ kind = 7) (c d r:Int) :
  Zuh k (c,d,r,()) (kind:Int) (inp b s) = some (((((Zju c b kind s).1:Nat):Int),(((Zju c b kind s).2.1:Nat):Int),(((Zju c b kind s).2.2.1:Nat):Int),()),inp b (Zju c b kind s).2.2.2,()):=by
 unfold Zuh Zju
 refine (Zc (XY k hb hn (by omega) hs (w:=4) (by omega)) _).trans ?_
 refine (Zc (Wr k (b:=b) (s:=(gI 4 s).2) _ _) _).trans ?_
 rw [show ((((gI 4 s).1:Nat):Int) == (0:Int)) = ((gI 4 s).1 == 0) from Wq _ 0]
 have r1:Zj b (hd4 s).1:=Qc (Qf hs _) _ _
 have k1:=fun h => hkind (ZpG (s:=s) h)
 change ((Ws k (inp b (hd4 s),4,())).bind _) = _
 generalize hd4 s = s1 at r1 k1 ⊢
 unfold ZyE
 refine (Zc (XY k hb hn (by omega) r1 (w:=4) (by omega)) _).trans ?_
 refine (Zc (ZJz k c d r (gI 4 s1).1) _).trans ?_
 refine (Zc (Wr k (b:=b) (s:=(gI 4 s1).2) _ _) _).trans ?_
 have r2:Zj b (hd5 c s1).2.1:=Qc (Qf r1 _) _ _
 have k2:=fun h => k1 (ZyC (c:=c) (s:=s1) h).1
 change ((Ws k (inp b (hd5 c s1).2,4,())).bind fun y_7 => (Q1 k (y_7.2.1,y_7.1 == (0:Int),2,())).bind fun y_8 => (Zjc k (y_8.2.1,())).bind fun y_9 => Zui k (kind:Int) (((hd5 c s1).1:Nat):Int) y_9.1 y_9.2.1) = _
 generalize (hd5 c s1).1 = mode
 generalize (hd5 c s1).2 = s2 at r2 k2 ⊢
 refine (Zc (XY k hb hn (by omega) r2 (w:=4) (by omega)) _).trans ?_
 refine (Zc (Wr k (b:=b) (s:=(gI 4 s2).2) _ _) _).trans ?_
 rw [show ((((gI 4 s2).1:Nat):Int) == (0:Int)) = ((gI 4 s2).1 == 0) from Wq _ 0]
 have r3:Zj b (hd4 s2).1:=Qc (Qf r2 _) _ _
 have k3:=fun h => k2 (ZpG (s:=s2) h)
 change ((Zjc k (inp b (hd4 s2),())).bind _) = _
 generalize hd4 s2 = s3 at r3 k3 ⊢
 unfold ZqP
 refine (Zc (ZJC k hb hn (by omega) r3) _).trans ?_
 exact ZxV k hb hn hk (Zla r3) (fun h => k3 (Zsu h)) mode (Zhr b s3).1
theorem ZIF (k:Nat) {b:List Int} (hb:ZP b = true) (hn:b.length < 268435456) (hk:b.length + 1000 < k) {s:IS} (hs:Zj b s.1) (c d r:Int) :
  Zr1 k (inp b s,(c,d,r,()),()) = some (((((YR c b s).1:Nat):Int),(((YR c b s).2.1:Nat):Int),(((YR c b s).2.2.1:Nat):Int),()),inp b (YR c b s).2.2.2,()):=by
 rw [ZE4]
 unfold YR
 refine (Zc (XY k hb hn (by omega) hs (w:=15) (by omega)) _).trans ?_
 refine (Zc (Wr k (b:=b) (s:=(gI 15 s).2) _ _) _).trans ?_
 rw [show ((((gI 15 s).1:Nat):Int) == (32764:Int)) = ((gI 15 s).1 == 32764) from Wq _ 32764]
 have r1:Zj b (hd1 s).1:=Qc (Qf hs _) _ _
 change ((Ws k (inp b (hd1 s),1,())).bind _) = _
 generalize hd1 s = s1 at r1 ⊢
 refine (Zc (XY k hb hn (by omega) r1 (w:=1) (by omega)) _).trans ?_
 refine (Zc (Wr k (b:=b) (s:=(gI 1 s1).2) _ _) _).trans ?_
 rw [show ((((gI 1 s1).1:Nat):Int) == (0:Int)) = ((gI 1 s1).1 == 0) from Wq _ 0]
 have r2:Zj b (hd2 s1).1:=Qc (Qf r1 _) _ _
 change ((Ws k (inp b (hd2 s1),4,())).bind _) = _
 generalize hd2 s1 = s2 at r2 ⊢
 refine (Zc (XY k hb hn (by omega) r2 (w:=4) (by omega)) _).trans ?_
 simp only
 rw [show ((((gI 4 s2).1:Nat):Int) == (6:Int)) = ((gI 4 s2).1 == 6) from Wq _ 6,show ((((gI 4 s2).1:Nat):Int) == (7:Int)) = ((gI 4 s2).1 == 7) from Wq _ 7]
 have r3:Zj b (hd3 s2).2.1:=Qc (Qf r2 _) _ _
 have fin:=ZxU k hb hn hk r3 (fun h => ZJ3 h) c d r
 unfold hd3 at fin ⊢
 cases h6:(gI 4 s2).1 == 6 with
 | true =>
  rw [h6] at fin
  simp only [cond_true]
  refine (Zc (Wr k (b:=b) (s:=(gI 4 s2).2) _ _) _).trans ?_
  exact fin
 | false =>
  rw [h6] at fin
  simp only [cond_false]
  refine (Zc (Wr k (b:=b) (s:=(gI 4 s2).2) _ _) _).trans ?_
  exact fin
end Go.Sh
namespace Go.Sh
open Go Go.Proofs
def Zg2 (n:Nat):List Int → List Bool → List (List Int) → List (List Int) × Int × List Bool
 | [],r,acc => (acc,0,r)
 | d :: ds,r,acc => if (Z3 n d.toNat r).2.1 ≠ 0 then ([],(Z3 n d.toNat r).2.1,(Z3 n d.toNat r).2.2) else Zg2 n ds (Z3 n d.toNat r).2.2 (acc ++ [(Z3 n d.toNat r).1])
abbrev RdR:=(Int × List (List Int)) × Int × Int
def ZvB (c d r num:Int) (pos:Nat) (out:List (List Int)):RdR:=if Ya c d r num out ≠ 0 then ((0,[]),0,Ya c d r num out) else ((num,out),((pos / 8:Nat):Int),0)
def Zp6 (c d r num:Int) (pos:Nat) (m:Int) (A B:List Int):RdR:=if (Qt m A B).2 ≠ 0 then ((0,[]),0,(Qt m A B).2) else ZvB c d r num pos [KO m A B,KP m A B]
def ZAR (c d r:Int) (b:List Int) (mode num:Nat) (chs:List (List Int)) (rr:List Bool):RdR :=
 if (Zdc YQ b 16 ((alS rr).2,(alS rr).1)).2 ≠ 0 then ((0,[]),0,(Zdc YQ b 16 ((alS rr).2,(alS rr).1)).2)
 else if 1 < c then Zp6 c d r num (Zz b (Zdc YQ b 16 ((alS rr).2,(alS rr).1)).1) (if mode = 1 then 0 else mode) (chs.getD 0 []) (chs.getD 1 [])
 else ZvB c d r num (Zz b (Zdc YQ b 16 ((alS rr).2,(alS rr).1)).1) chs
def Zs1 (c d r:Int) (b:List Int) (h:HdT):RdR :=
 if h.2.2.2.2 ≠ 0 then ((0,[]),0,h.2.2.2.2)
 else if (Zg2 h.2.2.1 (Qj c d h.1) h.2.2.2.1 []).2.1 ≠ 0 then ((0,[]),0,(Zg2 h.2.2.1 (Qj c d h.1) h.2.2.2.1 []).2.1)
 else ZAR c d r b h.1 h.2.1 (Zg2 h.2.2.1 (Qj c d h.1) h.2.2.2.1 []).1 (Zg2 h.2.2.1 (Qj c d h.1) h.2.2.2.1 []).2.2
def ZlW (c d r:Int) (b:List Int):RdR:=if KN c d r = false then ((0,[]),0,2) else Zs1 c d r b (YR c b (Qe b,0))
def ZgL (x:RdR):((Int × List (List Int) × Unit) × Int × Int × Unit) × Unit:=(((x.1.1,x.1.2,()),x.2.1,x.2.2,()),())
theorem ZeX {n d:Nat} {r:List Bool} (h:(Z3 n d r).2.1 = 0):(Z3 n d r).1.length ≤ 520 ∧ d ≤ 25 ∧ ∀ x ∈ (Z3 n d r).1,W6 x d = true:=by
 unfold Z3 at h ⊢
 split at h
 ·simp at h
 ·rename_i h1
  rw [if_neg h1]
  have h1:1 ≤ n ∧ n ≤ 512 ∧ 4 ≤ d ∧ d ≤ 25:=by simpa using h1
  have hz:=ZjW (d:=d) (s:=(r,0))
  generalize ZU d (r,0) = hd at h hz ⊢
  obtain ⟨kind,kk,s1⟩:=hd
  simp only at h hz ⊢
  split at h
  ·rename_i h2; exact absurd h h2
  ·rename_i h2
   rw [if_neg h2]
   obtain ⟨hkd,hkind⟩:=hz (by simpa using h2)
   have hl:=Zj6 (kind:=kind) (n:=n) (d:=d - kk) (s:=s1) hkind
   generalize Xq kind n (d - kk) s1 = y at h hl ⊢
   split at h
   ·rename_i h3; exact absurd h h3
   ·rename_i h3
    rw [if_neg h3]
    split at h
    ·rename_i h4
     rw [if_pos h4]
     refine ⟨by simp; omega,by omega,fun x hx => ?_⟩
     obtain ⟨z,hz,rfl⟩:=List.mem_map.1 hx
     exact (ZvP hkd (by omega) (List.all_eq_true.1 h4 z hz)).1
    ·simp at h
theorem Za3 {x:Int} (h:QO x = true):Z6 x:=by
 unfold QO at h
 rw [decide_eq_true_eq] at h
 exact h
abbrev ZFS:=((Int × List (List Int) × Unit) × Int × Int × Unit) × Unit
theorem ZBJ (k:Nat) (hk:1000 < k) (c d r num:Int) (out:List (List Int)) {b:List Int} (hn:b.length < 268435456) (rr:List Bool) :
  ((ZgC k ((c,d,r,()),(num,out,()),())).bind fun y_3 => bif y_3.1 != (0:Int) then some (((((0:Int),[],()),0,y_3.1,()),()):ZFS) else (Zaq k ((b,((Zz b rr:Nat):Int),()),())).bind fun y => some (((num,out,()),IntKind.i64.wrap (Int.tdiv y.1 (8:Int)),0,()),())) = some (ZgL (ZvB c d r num (Zz b rr) out)):=by
 refine (Zc (ZxI k c d r num out (by omega)) _).trans ?_
 unfold ZvB
 simp only
 rw [Zo]
 by_cases h:Ya c d r num out = 0
 ·rw [Ze (by simpa using h),if_neg (by simpa using h)]
  have e51:Zaq k ((b,((Zz b rr:Nat):Int),()),()) = some (((Zz b rr:Nat):Int),Kf b rr,()):=rfl
  refine (Zc e51 _).trans ?_
  have hp:Zz b rr ≤ 8 * b.length:=by unfold Zz; omega
  simp only
  rw [ZsP,ZT (n:=((Zz b rr / 8:Nat):Int)) (by omega)]
  rfl
 ·rw [Zb h,if_pos h]
  rfl
theorem ZxA (k:Nat) (hk:2000 < k) (c d r num:Int) {A B:List Int} {m:Int} (hm:Zgv m) (hA:A.length ≤ 520 ∧ ∀ x ∈ A,Z1 x) (hB:B.length ≤ 520 ∧ ∀ x ∈ B,Z1 x) {b:List Int} (hn:b.length < 268435456) (rr:List Bool) :
  ((Zo6 k (A,B,m,())).bind fun y_1 => bif y_1.1.2.1 != (0:Int) then some (((((0:Int),[],()),0,y_1.1.2.1,()),()):ZFS) else (Zo7 k (y_1.1.1,())).bind fun y_2 => bif y_2.1.2.2.1 != (0:Int) then some ((((0:Int),[],()),0,y_2.1.2.2.1,()),()) else (ZgC k ((c,d,r,()),(num,[y_2.1.1,y_2.1.2.1],()),())).bind fun y_3 => bif y_3.1 != (0:Int) then some ((((0:Int),[],()),0,y_3.1,()),()) else (Zaq k ((b,((Zz b rr:Nat):Int),()),())).bind fun y => some (((num,[y_2.1.1,y_2.1.2.1],()),IntKind.i64.wrap (Int.tdiv y.1 (8:Int)),0,()),())) =
   some (ZgL (Zp6 c d r num (Zz b rr) m A B)):=by
 refine (Zc (ZIO k hm (by omega) (by omega) hA.2 hB.2) _).trans ?_
 unfold Zp6
 have key:(Qt m A B).2 = 0 → A.length = B.length ∧ (Qt m A B).1 = Zci (KO m A B) (KP m A B) ∧ ((KO m A B).zip (KP m A B)).all (fun x => QO x.1 && QO x.2) = true:=by
  unfold Qt
  split
  ·intro h; simp at h
  ·rename_i h1
   split
   ·rename_i h2; exact fun _ => ⟨by simpa using h1,rfl,h2⟩
   ·intro h; simp at h
 simp only
 rw [Zo]
 by_cases h:(Qt m A B).2 = 0
 ·rw [Ze (by simpa using h),if_neg (by simpa using h)]
  obtain ⟨hl,e1,e2⟩:=key h
  have hLl:(KO m A B).length = A.length:=by unfold KO; rw [List.length_map,List.length_zip]; omega
  have hRl:(KP m A B).length = A.length:=by unfold KP; rw [List.length_map,List.length_zip]; omega
  generalize KO m A B = L at e1 e2 hLl ⊢
  generalize KP m A B = R at e1 e2 hRl ⊢
  have hsm:(∀ x ∈ L,Z6 x) ∧ ∀ x ∈ R,Z6 x:=by
   have hall:=List.all_eq_true.1 e2
   constructor
   ·intro x hx
    obtain ⟨i,hi,rfl⟩:=List.getElem_of_mem hx
    have:=hall ((L.zip R)[i]'(by rw [List.length_zip]; omega)) (List.getElem_mem _)
    rw [List.getElem_zip,Bool.and_eq_true] at this
    exact Za3 this.1
   ·intro x hx
    obtain ⟨i,hi,rfl⟩:=List.getElem_of_mem hx
    have:=hall ((L.zip R)[i]'(by rw [List.length_zip]; omega)) (List.getElem_mem _)
    rw [List.getElem_zip,Bool.and_eq_true] at this
    exact Za3 this.2
  have hpp:=ZpQ (show L.length = R.length by omega) hsm.1 hsm.2
  rw [e1]
  have hjl:(Zci L R).length ≤ 520:=by rw [hpp.hl]; omega
  refine (Zc (ZIP k hpp (by omega) (by omega)) _).trans ?_
  simp only
  rw [show ((0:Int) != 0) = false from rfl]
  simp only [cond_false]
  exact ZBJ k (by omega) c d r num [L,R] hn rr
 ·rw [Zb h,if_pos h]
  rfl
theorem Zzz (c d m:Int):(Qj c d m).length ≤ 2 ∧ (c ≠ 1 → (Qj c d m).length = 2) ∧ ((1 ≤ d ∧ d ≤ 24) → ∀ x ∈ Qj c d m,1 ≤ x):=by
 unfold Qj
 split
 ·exact ⟨by simp,fun h => by omega,fun h x hx => by simp at hx; omega⟩
 ·split
  ·exact ⟨by simp,fun h => by simp,fun h x hx => by simp at hx; omega⟩
  ·split
   ·exact ⟨by simp,fun h => by simp,fun h x hx => by simp at hx; omega⟩
   ·exact ⟨by simp,fun h => by simp,fun h x hx => by simp at hx; omega⟩
theorem ZIa (k:Nat) {b:List Int} (hb:ZP b = true) (hn:b.length < 268435456) (hk:8 * b.length + 50000 < k) {c d r:Int} (hc:c = 1 ∨ c = 2) {mode num n:Nat} (hm:KU c mode = true) (ds:List Int) (hd:∀ x ∈ ds,1 ≤ x) (hdl:ds.length ≤ 2) (hdl2:c ≠ 1 → ds.length = 2) (zz:Int) :
  ∀ (e j i:Nat) (rr:List Bool) (acc:List (List Int)),e < j → i + e = ds.length → acc.length = i → Zj b rr → (∀ l ∈ acc,l.length ≤ 520 ∧ ∀ x ∈ l,Z1 x) →
  Zp (fun L1 => ZdW k L1) j (((ds.length:Nat):Int),(i:Int),ds,(n:Int),(mode:Int),b,(0:Int),b,((Zz b rr:Nat):Int),zz,(num:Int),acc,c,d,r) =
   some (ZgL (if (Zg2 n (ds.drop i) rr acc).2.1 ≠ 0 then ((0,[]),0,(Zg2 n (ds.drop i) rr acc).2.1) else ZAR c d r b mode num (Zg2 n (ds.drop i) rr acc).1 (Zg2 n (ds.drop i) rr acc).2.2)):=by
 intro e
 induction e with
 | zero =>
  intro j i rr acc hj hi ha hr hacc
  obtain ⟨j,rfl⟩:=Zk hj
  rw [Zg]
  simp only [ZdW]
  rw [Ze (by omega),List.drop_eq_nil_of_le (by omega)]
  show _ = some (ZgL (if (0:Int) ≠ 0 then _ else ZAR c d r b mode num acc rr))
  rw [if_neg (by simp)]
  refine (Zc (ZIL k hb (by omega) hr (by omega)) _).trans ?_
  refine (Zc (ZzG k hb hn (by omega) (s:=((alS rr).2,(alS rr).1)) (Zv3 hr) (w:=16) (by omega)) _).trans ?_
  unfold ZAR
  generalize Zdc YQ b 16 ((alS rr).2,(alS rr).1) = s
  simp only
  rw [Zo]
  by_cases h:s.2 = 0
  ·rw [Ze (by simpa using h),if_neg (by simpa using h)]
   rcases hc with rfl | rfl
   ·rw [Ze (by omega),if_neg (by omega)]
    exact ZBJ k (by omega) 1 d r num acc hn s.1
   ·rw [Zb (by omega),if_pos (by omega)]
    have hlen:acc.length = 2:=by have:=hdl2 (by omega); omega
    match acc,hlen,hacc with
    | [A,B],_,hacc =>
     have hA:=hacc A (by simp)
     have hB:=hacc B (by simp)
     have p1:(0:Int) ≤ 0 ∧ (0:Int) < Int.ofNat [A,B].length:=by simp
     have p2:0 < [A,B].length:=by simp
     have p3:(0:Int) ≤ 1 ∧ (1:Int) < Int.ofNat [A,B].length:=by simp
     have p4:1 < [A,B].length:=by simp
     have hmd:Zgv (if mode = 1 then 0 else (mode:Int)):=by
      unfold KU at hm
      rw [if_neg (by omega)] at hm
      simp only [Bool.or_eq_true,beq_iff_eq,Bool.and_eq_true,decide_eq_true_eq] at hm
      unfold Zgv
      split <;> omega
     rw [Zb p1,Zb p2,Zb p3,Zb p4,Zb p1,Zb p2,Zb p3,Zb p4,show ((mode:Int) == (1:Int)) = (mode == 1) from Wq _ 1]
     by_cases h1:mode = 1
     ·rw [show (mode == 1) = true from by simp [h1]]
      rw [if_pos h1] at hmd ⊢
      exact ZxA k (by omega) 2 d r num hmd hA hB hn s.1
     ·rw [show (mode == 1) = false from by simp [h1]]
      rw [if_neg h1] at hmd ⊢
      exact ZxA k (by omega) 2 d r num hmd hA hB hn s.1
  ·rw [Zb h,if_pos h]
   rfl
 | succ e ih =>
  intro j i rr acc hj hi ha hr hacc
  obtain ⟨j,rfl⟩:=Zk (show 0 < j by omega)
  rw [Zg]
  simp only [ZdW]
  have hil:i < ds.length:=by omega
  rw [Zb (by omega),Zb (by simp only [Z8]; omega),QZ,Wt hil,List.drop_eq_getElem_cons hil]
  have hdi:=hd ds[i] (List.getElem_mem hil)
  have hde:ds[i] = ((ds[i].toNat:Nat):Int):=by omega
  have e46:=ZII k hb hn hk hr n ds[i].toNat
  rw [← hde] at e46
  refine (Zc e46 _).trans ?_
  unfold Zg2
  have hok:=ZeX (n:=n) (d:=ds[i].toNat) (r:=rr)
  have hrr:=Zbx hr n ds[i].toNat
  generalize Z3 n ds[i].toNat rr = q at hok hrr ⊢
  simp only
  rw [Zo]
  by_cases h:q.2.1 = 0
  ·rw [Ze (by simpa using h),Zb (by simp only [List.length_singleton]; omega)]
   have e2:IntKind.i64.wrap ((i:Int) + 1) = ((i + 1:Nat):Int):=by rw [ZT (by omega)]; rfl
   rw [e2]
   obtain ⟨o1,o2,o3⟩:=hok h
   have:=ih j (i + 1) q.2.2 (acc ++ [q.1]) (by omega) (by omega) (by simp; omega) hrr (by
    intro l hl
    rcases List.mem_append.1 hl with hl | hl
    ·exact hacc l hl
    ·rw [List.mem_singleton.1 hl]
     refine ⟨o1,fun x hx => ?_⟩
     have:=o3 x hx
     unfold W6 at this
     unfold Z1
     split at this
     ·simp only [decide_eq_true_eq] at this; omega
     ·rw [decide_eq_true_eq,QC] at this
      have h24:2 ^ (ds[i].toNat - 1) ≤ 2 ^ 24:=Nat.pow_le_pow_right (by omega) (by omega)
      generalize 2 ^ (ds[i].toNat - 1) = Q at this h24
      omega)
   refine this.trans ?_
   simp only [if_neg (show ¬ q.2.1 ≠ 0 from fun hh => hh h)]
  ·rw [Zb h]
   simp only [if_pos h]
   rfl
theorem ZpK {c:Int} {b:List Int} {s:IS} (h:(YR c b s).2.2.2.2 = 0):KU c (YR c b s).1 = true:=by
 unfold YR Zju ZyE ZqP Zk2 at h ⊢
 generalize (hd3 (hd2 (hd1 s))).1 = kind at h ⊢
 generalize hd4 (hd3 (hd2 (hd1 s))).2 = s3 at h ⊢
 simp only at h ⊢
 have h0:(hd6 kind (Zhr b (hd4 (hd5 c s3).2)).2).2.2 = 0:=by
  unfold Zdc at h
  split at h
  ·rename_i h1; exact absurd h h1
  ·exact Zvm ((Za6 (by decide)).1 h).1
 have h1:(Zhr b (hd4 (hd5 c s3).2)).2.2 = 0:=by
  unfold hd6 at h0
  split at h0
  ·rename_i hh; exact hh
  ·exact h0
 exact (ZyC (ZpG (Zsu h1))).2
theorem ZxB (k:Nat) (c d r:Int) {b:List Int} (hb:ZP b = true) (hn:b.length < 268435456) (hk:8 * b.length + 50000 < k):ZrR k ((c,d,r,()),b,()) = some (ZgL (ZlW c d r b)):=by
 show Zim k (Zt1 k) _ = _
 simp only [Zim]
 rw [ZwP k c d r]
 simp only [Qr]
 unfold ZlW
 cases hs:KN c d r with
 | false => rfl
 | true =>
  have hsh:=of_decide_eq_true hs
  simp only [if_true,Bool.true_eq_false,if_false]
  rw [show ((0:Int) != 0) = false from rfl]
  simp only [cond_false]
  have e44:ZxS k (b,()) = some (inp b (Qe b,0) |>.2.1,()):=by
   show ZiG k _ = _
   simp only [ZiG]
   have:Zr4 k (b,()) = some (b,()):=by show KH _ = _; unfold KH; rw [Zb (by simp only; omega)]
   rw [this]
   have hp:Zz b (Qe b) = 0:=by unfold Zz; rw [Q9]; omega
   simp only [Qr]
   show some ((b,((0:Nat):Int),()),()) = some ((b,((Zz b (Qe b):Nat):Int),()),())
   rw [hp]
  refine (Zc e44 _).trans ?_
  refine (Zc (ZIF k hb hn (by omega) (s:=(Qe b,0)) (ZjL b) c d r) _).trans ?_
  unfold Zs1
  have hmode:=ZpK (c:=c) (b:=b) (s:=(Qe b,0))
  have hrest:Zj b (YR c b (Qe b,0)).2.2.2.1:=by
   unfold YR Zju ZyE ZqP Zk2
   exact ZsM (ZyD (Zla (Qc (Qf (Qc (Qf (Qc (Qf (Qc (Qf (Qc (Qf (Qc (Qf (ZjL b) _) _ _) _) _ _) _) _ _) _) _ _) _) _ _) _) _ _)) _) _
  generalize YR c b (Qe b,0) = h at hmode hrest ⊢
  obtain ⟨mode,num,n,s⟩:=h
  simp only at hmode hrest ⊢
  rw [Zo]
  by_cases he:s.2 = 0
  ·rw [Ze (by simpa using he),if_neg (by simpa using he)]
   have hm:=hmode he
   have hc:c = 1 ∨ c = 2:=by omega
   have hcm:c = 1 ∧ (mode:Int) = 0 ∨ c = 2:=by
    rcases hc with rfl | rfl
    ·unfold KU at hm
     rw [if_pos rfl,beq_iff_eq] at hm
     exact .inl ⟨rfl,by omega⟩
    ·exact .inr rfl
   refine (Zc (ZxO k (c:=c) (d:=d) (r:=r) (m:=(mode:Int)) hcm (by omega)) _).trans ?_
   have hdl:=Zzz c d mode
   have:=ZIa k hb hn hk (c:=c) (d:=d) (r:=r) hc (mode:=mode) (num:=num) (n:=n) hm (Qj c d mode) (hdl.2.2 (by omega)) hdl.1 hdl.2.1 0 (Qj c d mode).length k 0 s.1 [] (by omega) (by omega) rfl hrest (by simp)
   rw [List.drop_zero] at this
   simp only
   rw [he]
   exact this
  ·rw [Zb he,if_pos he]
   rfl
end Go.Sh
