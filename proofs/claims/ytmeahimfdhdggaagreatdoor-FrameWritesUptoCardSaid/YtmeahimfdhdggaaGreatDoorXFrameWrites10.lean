/-
  What the row needs, part 10.
-/
import Derived.Test.YtmeahimfdhdggaaGreatDoorXFrameWrites9
import Derived.IntWalk
set_option linter.unusedSimpArgs false
set_option linter.unusedVariables false
set_option linter.unusedSectionVars false
namespace Go.Sh
open Go
theorem Qh (n:Nat):Int.ofNat n = (n:Int):=rfl
theorem Qb {α β:Type} (a:α) (f:α → Option β):(some a).bind f = f a:=rfl
theorem QS (n:Nat):((n:Int)).toNat = n:=rfl
theorem Wq {α:Type} {as0 bs0:List α}:(as0 ++ bs0).length = as0.length + bs0.length:=List.length_append
theorem QN {p:Prop} [inst:Decidable p] (h:¬p):decide p = false:=decide_eq_false h
theorem QX {p:Prop} [inst:Decidable p] (h:p):decide p = true:=decide_eq_true h
theorem ZQ {n:Int} (h : -9223372036854775808 ≤ n ∧ n ≤ 9223372036854775807):IntKind.i64.wrap n = n:=IntWalk.i64_in n h
theorem wu8 {n:Int} (h:0 ≤ n ∧ n ≤ 255):IntKind.u8.wrap n = n:=IntWalk.u8_in n h
theorem Zd {V R:Type} (step:(V → Option R) → V → Option R) (n:Nat) (v:V):Zm step (n + 1) v = step (Zm step n) v:=rfl
theorem Zn {a k:Nat} (h:a < k):∃ m,k = m + 1:=⟨k - 1,by omega⟩
theorem toList_eq (s:ByteArray):s.toList = s.data.toList:=ByteArray.toList_eq s
theorem Zh3 (s:ByteArray):s.data.toList.length = s.size:=by rw [Array.length_toList]; rfl
theorem ZtG {a b:ByteArray} (h:a.data.toList = b.data.toList):a = b:=ByteArray.ext (Array.toList_inj.1 h)
theorem Zrc {a b:ByteArray}:a.toList = b.toList ↔ a = b:=by
 rw [toList_eq,toList_eq]
 exact ⟨ZtG,fun h => by rw [h]⟩
theorem ZG8 (a b:ByteArray):(a.toList == b.toList) = decide (a = b):=by
 rw [Bool.eq_iff_iff]; simp [Zrc]
theorem Zb {p:Prop} [Decidable p] {α:Type} {a b:α} (h:p):(bif decide p then a else b) = a:=by simp [h]
theorem Zi {p:Prop} [Decidable p] {α:Type} {a b:α} (h:¬ p):(bif decide p then a else b) = b:=by simp [h]
theorem ZB (a b:Int):(a == b) = decide (a = b):=rfl
theorem ZT (a b:Int):(a != b) = decide (¬ a = b):=by rw [bne,ZB]; simp
theorem WZ {α:Type} {l:List α} {i:Nat} {d:α} (h:i < l.length):l.getD i d = l[i]:=by
 simp [List.getD_eq_getElem?_getD,h]
end Go.Sh
namespace Go.Sh
open Go
theorem XY {V R α A:Type} {step:(V → Option R) → V → Option R} (at_:Nat → A → V) (xs:List α) (G:List α → A → Option R)
  (h0:∀ L a,step L (at_ xs.length a) = G [] a)
  (h1:∀ L i (hi:i < xs.length) a,(∀ a',L (at_ (i + 1) a') = G (xs.drop (i + 1)) a') → step L (at_ i a) = G (xs[i] :: xs.drop (i + 1)) a) :
  ∀ k i a,xs.length < k + i → i ≤ xs.length → Zm step k (at_ i a) = G (xs.drop i) a
 | 0,i,a,hk,hi => by omega
 | k + 1,i,a,hk,hi => by
  rw [Zd]
  by_cases he:i = xs.length
  ·subst he
   rw [h0,List.drop_length]
  ·have hi':i < xs.length:=by omega
   rw [h1 _ i hi' a fun a' => XY at_ xs G h0 h1 k (i + 1) a' (by omega) hi',List.drop_eq_getElem_cons hi']
theorem Zu {V R α A:Type} {step:(V → Option R) → V → Option R} (at_:Nat → A → V) (xs:List α) (G:List α → A → Option R) (I:Nat → A → Prop)
  (h0:∀ L a,I xs.length a → step L (at_ xs.length a) = G [] a)
  (h1:∀ L i (hi:i < xs.length) a,I i a → (∀ a',I (i + 1) a' → L (at_ (i + 1) a') = G (xs.drop (i + 1)) a') → step L (at_ i a) = G (xs[i] :: xs.drop (i + 1)) a) :
  ∀ k i a,I i a → xs.length < k + i → i ≤ xs.length → Zm step k (at_ i a) = G (xs.drop i) a
 | 0,i,a,_,hk,hi => by omega
 | k + 1,i,a,hI,hk,hi => by
  rw [Zd]
  by_cases he:i = xs.length
  ·subst he
   rw [h0 _ _ hI,List.drop_length]
  ·have hi':i < xs.length:=by omega
   rw [h1 _ i hi' a hI fun a' ha' => Zu at_ xs G I h0 h1 k (i + 1) a' ha' (by omega) hi',List.drop_eq_getElem_cons hi']
theorem XZ {V R α:Type} {step:(V → Option R) → V → Option R} (at_:Nat → V) (xs:List α) (p:α → Bool) (out last:Option R)
  (h0:∀ L,step L (at_ xs.length) = last)
  (h1:∀ L i (hi:i < xs.length),step L (at_ i) = bif p xs[i] then L (at_ (i + 1)) else out)
  (k:Nat) (hk:xs.length < k):Zm step k (at_ 0) = bif xs.all p then last else out:=by
 have:=XY (A:=Unit) (fun i _ => at_ i) xs (fun l _ => bif l.all p then last else out) (fun L _ => h0 L) (fun L i hi _ hL => by
  rw [h1 L i hi,hL ()]
  simp only [List.all_cons]
  cases p xs[i] <;> rfl) k 0 () (by omega) (Nat.zero_le _)
 simpa using this
theorem ZK {α:Type} {l:List α} {i:Nat} {d:α} (h:i < l.length):l.getD (Int.toNat (Int.ofNat i)) d = l[i]:=by
 simp [List.getD_eq_getElem?_getD,h]
theorem Qq {i n:Nat} (h:i < n) (hn:n ≤ 4294967296):IntKind.i64.wrap (Int.ofNat i + 1) = Int.ofNat (i + 1):=by
 rw [ZQ (by simp only [Qh]; omega)]; rfl
theorem Xx {i n:Nat} (h:i < n):(0:Int) ≤ Int.ofNat i ∧ Int.ofNat i < Int.ofNat n:=by simp only [Qh]; omega
theorem KU {i n:Nat} (h:i < n):Int.ofNat i < Int.ofNat n:=by simp only [Qh]; omega
theorem QV (n:Nat):¬ Int.ofNat n < Int.ofNat n:=by simp only [Qh]; omega
end Go.Sh
namespace Go.Sh
open Go Go.Proofs
def Zg (n:Nat):Nat → List Bool
 | 0 => []
 | w + 1 => n.testBit w :: Zg n w
theorem Zl (n:Nat):∀ w,(Zg n w).length = w
 | 0 => rfl
 | w + 1 => by simp [Zg,Zl n w]
def YE (f:Nat → Bool):Nat:=(f 0).toNat * 128 + (f 1).toNat * 64 + (f 2).toNat * 32 + (f 3).toNat * 16 + (f 4).toNat * 8 + (f 5).toNat * 4 + (f 6).toNat * 2 + (f 7).toNat
def Ws (bs:List Bool) (i:Nat):Nat:=YE fun j => bs.getD (8 * i + j) false
def ZY (bs:List Bool):List Int:=(List.range ((bs.length + 7) / 8)).map fun i => ((Ws bs i:Nat):Int)
theorem Q6 (bs:List Bool):(ZY bs).length = (bs.length + 7) / 8:=by simp [ZY]
theorem KQ {bs:List Bool} {i:Nat} (h:i < (ZY bs).length):(ZY bs)[i] = ((Ws bs i:Nat):Int):=by simp [ZY]
theorem Zof (f:Nat → Bool):YE f < 256:=by
 unfold YE
 cases f 0 <;> cases f 1 <;> cases f 2 <;> cases f 3 <;> cases f 4 <;> cases f 5 <;> cases f 6 <;> cases f 7 <;> decide
abbrev wst (bs:List Bool):List Int × Int × Unit:=(ZY bs,(bs.length:Int),())
def orB (v:Int) (r:Nat) (x:Int):Int:=IntKind.u8.wrap (Int.ofNat (BitVec.ofInt 8 v ||| BitVec.ofInt 8 (IntKind.u8.wrap (IntKind.i64.wrap (x * (2:Int) ^ min (7 - r) 64)))).toNat)
theorem ZPn:∀ (r:Fin 8) (v:Fin 256) (c:Bool),v.val % 2 ^ (8 - r.val) = 0 → orB (v.val:Int) r.val (if c then 1 else 0) = ((v.val + c.toNat * 2 ^ (7 - r.val):Nat):Int):=by
 decide +kernel
theorem ZEd {f:Nat → Bool} {r:Nat} (hr:r < 8) (hf:∀ j,r ≤ j → f j = false):YE f % 2 ^ (8 - r) = 0:=by
 unfold YE
 match r,hr with
 | 0,_ => rw [hf 0 (by omega),hf 1 (by omega),hf 2 (by omega),hf 3 (by omega),hf 4 (by omega),hf 5 (by omega),hf 6 (by omega),hf 7 (by omega)]; rfl
 | 1,_ => rw [hf 1 (by omega),hf 2 (by omega),hf 3 (by omega),hf 4 (by omega),hf 5 (by omega),hf 6 (by omega),hf 7 (by omega)]; simp <;> omega
 | 2,_ => rw [hf 2 (by omega),hf 3 (by omega),hf 4 (by omega),hf 5 (by omega),hf 6 (by omega),hf 7 (by omega)]; simp <;> omega
 | 3,_ => rw [hf 3 (by omega),hf 4 (by omega),hf 5 (by omega),hf 6 (by omega),hf 7 (by omega)]; simp <;> omega
 | 4,_ => rw [hf 4 (by omega),hf 5 (by omega),hf 6 (by omega),hf 7 (by omega)]; simp <;> omega
 | 5,_ => rw [hf 5 (by omega),hf 6 (by omega),hf 7 (by omega)]; simp <;> omega
 | 6,_ => rw [hf 6 (by omega),hf 7 (by omega)]; simp <;> omega
 | 7,_ => rw [hf 7 (by omega)]; simp <;> omega
theorem ZEe {f:Nat → Bool} {r:Nat} (hr:r < 8) (hf:f r = false) (c:Bool):YE (fun j => if j = r then c else f j) = YE f + c.toNat * 2 ^ (7 - r):=by
 unfold YE
 match r,hr with
 | 0,_ => simp [hf]; omega
 | 1,_ => simp [hf]; omega
 | 2,_ => simp [hf]; omega
 | 3,_ => simp [hf]; omega
 | 4,_ => simp [hf]; omega
 | 5,_ => simp [hf]; omega
 | 6,_ => simp [hf]; omega
 | 7,_ => simp [hf]
theorem Zoe {bs:List Bool} (c:Bool) {i:Nat} (h:8 * i + 8 ≤ bs.length):Ws (bs ++ [c]) i = Ws bs i:=by
 unfold Ws YE
 have:∀ j,j < 8 → (bs ++ [c]).getD (8 * i + j) false = bs.getD (8 * i + j) false:=by
  intro j hj
  simp only [List.getD_eq_getElem?_getD]
  rw [List.getElem?_append_left (by omega)]
 simp only []
 rw [this 0 (by omega),this 1 (by omega),this 2 (by omega),this 3 (by omega),this 4 (by omega),this 5 (by omega),this 6 (by omega),this 7 (by omega)]
theorem Zod {bs:List Bool} (c:Bool) {i r:Nat} (hr:r < 8) (h:bs.length = 8 * i + r):Ws (bs ++ [c]) i = Ws bs i + c.toNat * 2 ^ (7 - r):=by
 have h2:(bs.getD (8 * i + r) false) = false:=by rw [List.getD_eq_getElem?_getD,List.getElem?_eq_none (by omega)]; rfl
 unfold Ws
 rw [← ZEe (f:=fun j => bs.getD (8 * i + j) false) hr h2 c]
 congr 1
 funext j
 simp only [List.getD_eq_getElem?_getD]
 by_cases hj:j = r
 ·subst hj; simp [← h]
 ·rw [if_neg hj]
  by_cases hlt:8 * i + j < bs.length
  ·rw [List.getElem?_append_left hlt]
  ·rw [List.getElem?_eq_none (by simp; omega),List.getElem?_eq_none (by omega)]
theorem ZAl {bs:List Bool} {i r:Nat} (hr:r < 8) (h:bs.length = 8 * i + r):Ws bs i % 2 ^ (8 - r) = 0:=by
 refine ZEd hr fun j hj => ?_
 rw [List.getD_eq_getElem?_getD,List.getElem?_eq_none (by omega)]; rfl
theorem Zts (n:Nat):((n:Int)).tdiv 8 = ((n / 8:Nat):Int):=by rw [Int.tdiv_eq_ediv_of_nonneg (by omega)]; omega
theorem ZQr (n:Nat):((n:Int)).tmod 8 = ((n % 8:Nat):Int):=by rw [Int.tmod_eq_emod_of_nonneg (by omega)]; omega
theorem Zrp {bs:List Bool} (c:Bool) {q r:Nat} (hr:r < 8) (h0:r ≠ 0) (h:bs.length = 8 * q + r) :
  ZY (bs ++ [c]) = (ZY bs).set q ((Ws bs q + c.toNat * 2 ^ (7 - r):Nat):Int):=by
 have hl1:(ZY bs).length = q + 1:=by rw [Q6]; omega
 have hl2:(ZY (bs ++ [c])).length = q + 1:=by rw [Q6,Wq,List.length_singleton]; omega
 apply List.ext_getElem
 ·rw [List.length_set,hl1,hl2]
 ·intro i h1 h2
  rw [KQ,List.getElem_set]
  split
  ·rename_i e; subst e; rw [Zod c hr h]
  ·rw [KQ,Zoe c (by omega)]
theorem Zro {bs:List Bool} (c:Bool) {q:Nat} (h:bs.length = 8 * q) :
  ZY (bs ++ [c]) = (ZY bs ++ [0]).set q ((c.toNat * 2 ^ 7:Nat):Int):=by
 have hl1:(ZY bs).length = q:=by rw [Q6]; omega
 have hl2:(ZY (bs ++ [c])).length = q + 1:=by rw [Q6,Wq,List.length_singleton]; omega
 have hz:Ws bs q = 0:=by
  unfold Ws YE
  have:∀ j,bs.getD (8 * q + j) false = false:=by intro j; rw [List.getD_eq_getElem?_getD,List.getElem?_eq_none (by omega)]; rfl
  simp only [this]
  rfl
 apply List.ext_getElem
 ·rw [List.length_set,Wq,hl1,hl2]; rfl
 ·intro i h1 h2
  rw [KQ,List.getElem_set]
  split
  ·rename_i e; subst e
   rw [Zod c (r:=0) (by omega) (by omega),hz]; simp
  ·rw [List.getElem_append_left (by omega),KQ,Zoe c (by omega)]
theorem ZkB (k:Nat) (bs:List Bool) (hb:bs.length < 4294967296) (x:Int) (c:Bool) (hx:x = if c then 1 else 0):Zhr k (wst bs,x,()) = some ((),wst (bs ++ [c]),()):=by
 show Zfq k _ = _
 obtain ⟨q,r,hr,hq⟩:∃ q r,r < 8 ∧ bs.length = 8 * q + r:=⟨bs.length / 8,bs.length % 8,Nat.mod_lt _ (by omega),by omega⟩
 have e1:IntKind.i64.wrap (((bs.length:Nat):Int).tdiv 8) = ((q:Nat):Int):=by rw [Zts,ZQ (by omega)]; omega
 have e2:((bs.length:Nat):Int).tmod 8 = ((r:Nat):Int):=by rw [ZQr]; omega
 have e3:IntKind.i64.wrap ((7:Int) - (r:Int)) = ((7 - r:Nat):Int):=by rw [ZQ (by omega)]; omega
 have e4:IntKind.i64.wrap (((bs.length:Nat):Int) + 1) = (((bs ++ [c]).length:Nat):Int):=by rw [ZQ (by omega),Wq]; simp
 have e5:∀ v:Nat,v < 256 → v % 2 ^ (8 - r) = 0 → IntKind.u8.wrap (Int.ofNat (BitVec.ofInt 8 (v:Int) ||| BitVec.ofInt 8 (IntKind.u8.wrap (IntKind.i64.wrap (x * (2:Int) ^ min ((7 - r:Nat):Int).toNat 64)))).toNat) = ((v + c.toNat * 2 ^ (7 - r):Nat):Int):=by
  intro v hv hm
  have:=ZPn ⟨r,hr⟩ ⟨v,hv⟩ c hm
  rw [← hx] at this
  simpa only [orB,QS] using this
 simp only [Zfq,e1,e2,e3,QS]
 by_cases h0:r = 0
 ·subst h0
  have hlen:(ZY bs).length = q:=by rw [Q6]; omega
  rw [show ((((0:Nat):Int)) == (0:Int)) = true from rfl]
  simp only [cond_true]
  have hl:(ZY bs ++ [(0:Int)]).length = q + 1:=by simp [hlen]
  rw [Zb (by rw [hlen]; omega),Zb (by rw [hl]; simp only [Qh]; omega),Zb (by omega),Zb (by omega),Zb (by rw [hl]; simp only [Qh]; omega),Zb (by omega)]
  have hg:(ZY bs ++ [(0:Int)]).getD q (OfNat.ofNat 0) = ((0:Nat):Int):=by rw [List.getD_eq_getElem?_getD,List.getElem?_append_right (by omega),hlen]; simp
  have h5:=e5 0 (by omega) (by simp)
  simp only [QS] at h5
  rw [hg,h5,e4]
  show _ = some ((),(ZY (bs ++ [c]),_,()),())
  rw [Zro c (by omega)]
  simp
 ·rw [show ((((r:Nat):Int)) == (0:Int)) = false from by rw [ZB]; simp; omega]
  simp only [cond_false]
  have hlen:(ZY bs).length = q + 1:=by rw [Q6]; omega
  rw [Zb (by rw [hlen]; simp only [Qh]; omega),Zb (by omega),Zb (by omega),Zb (by rw [hlen]; simp only [Qh]; omega),Zb (by omega)]
  have hg:(ZY bs).getD q (OfNat.ofNat 0) = ((Ws bs q:Nat):Int):=by rw [List.getD_eq_getElem?_getD,List.getElem?_eq_getElem (by omega),KQ]; rfl
  have h5:=e5 _ (Zof _) (ZAl hr hq)
  simp only [QS] at h5
  rw [hg]
  rw [show YE (fun j => bs.getD (8 * q + j) false) = Ws bs q from rfl] at h5
  rw [h5,e4]
  show _ = some ((),(ZY (bs ++ [c]),_,()),())
  rw [Zrp c hr h0 hq]
end Go.Sh
namespace Go.Sh
open Go Go.Proofs
theorem KJ (n j:Nat):((n:Nat):Int).fdiv ((2:Int) ^ j) = ((n / 2 ^ j:Nat):Int):=by
 have h0:(0:Int) ≤ (2:Int) ^ j:=Int.pow_nonneg (by omega)
 rw [Int.fdiv_eq_ediv_of_nonneg _ h0]
 have:((2:Int) ^ j) = ((2 ^ j:Nat):Int):=by rw [Int.natCast_pow]; rfl
 rw [this]; rfl
theorem ZVz (n j:Nat) (hj:j < 64):IntKind.i64.wrap (IntKind.u64.wrap (Int.ofNat (BitVec.ofInt 64 (((n:Nat):Int).fdiv ((2:Int) ^ min (j:Int).toNat 64)) &&& BitVec.ofInt 64 1).toNat)) = if n.testBit j then 1 else 0:=by
 rw [QS,Nat.min_eq_left (by omega),KJ,BitVec.ofInt_natCast,show BitVec.ofInt 64 1 = 1#64 from rfl,BitVec.toNat_and,BitVec.toNat_ofNat]
 rw [show (1#64).toNat = 1 from rfl,Nat.and_one_is_mod,Nat.mod_mod_of_dvd _ (by decide:2 ∣ 2 ^ 64)]
 have h2:n.testBit j = decide (n / 2 ^ j % 2 = 1):=Nat.testBit_eq_decide_div_mod_eq
 rw [h2]
 have:n / 2 ^ j % 2 < 2:=Nat.mod_lt _ (by omega)
 generalize n / 2 ^ j % 2 = m at this ⊢
 match m,this with
 | 0,_ => rfl
 | 1,_ => rfl
theorem ZyY (k:Nat):∀ (w:Nat) (bs:List Bool) (n:Nat),w < k → w ≤ 64 → bs.length + w < 4294967296 →
  ZdE k (wst bs,(n:Int),(w:Int),()) = some ((),wst (bs ++ Zg n w),()):=by
 intro w bs n hk hw hb
 show Zjl k (ZvE k) _ = _
 simp only [Zjl]
 suffices H:∀ (w:Nat) (m:Nat) (bs:List Bool),w < m → w ≤ 64 → bs.length + w < 4294967296 →
   Zm (fun L1 => Zez k L1) m (IntKind.i64.wrap ((w:Int) - 1),(n:Int),(bs.length:Int),ZY bs) = some ((),wst (bs ++ Zg n w),()) from H w k bs hk hw hb
 intro w
 induction w with
 | zero =>
  intro m bs hm _ _
  obtain ⟨m,rfl⟩:=Zn hm
  rw [Zd]
  rw [show IntKind.i64.wrap (((0:Nat):Int) - 1) = -1 from by rw [ZQ (by omega)]; rfl]
  simp only [Zez]
  rw [Zi (by omega)]
  simp [Zg]
 | succ w ih =>
  intro m bs hm hw hb
  obtain ⟨m,rfl⟩:=Zn (show 0 < m by omega)
  rw [Zd]
  have e1:IntKind.i64.wrap (((w + 1:Nat):Int) - 1) = (w:Int):=by rw [ZQ (by omega)]; omega
  rw [e1]
  simp only [Zez]
  rw [Zb (by omega)]
  simp only [Zb (show (0:Int) ≤ (w:Int) by omega)]
  rw [ZVz n w (by omega)]
  rw [show ((ZY bs,((bs.length:Nat):Int),()):List Int × Int × Unit) = wst bs from rfl,ZkB k bs (by omega) _ (n.testBit w) rfl]
  simp only [Qb]
  rw [ih m (bs ++ [n.testBit w]) (by omega) (by omega) (by simp; omega)]
  simp [Zg]
theorem ZpW (k w:Nat) (h:w ≤ 32):ZpV k ((w:Int),()) = some (false,()):=by
 show Zjk k _ = _
 simp only [Zjk]
 rw [Zi (by omega),QN (by omega)]
theorem QU (k:Nat) (bs:List Bool) (n w:Nat) (hk:64 < k) (hw:w ≤ 32) (hn:n < 2 ^ w) (hb:bs.length + w < 4294967296) :
  QQ k (wst bs,(n:Int),(w:Int),()) = some (0,wst (bs ++ Zg n w),()):=by
 show ZiS k _ = _
 have h32:n < 2 ^ 32:=Nat.lt_of_lt_of_le hn (Nat.pow_le_pow_right (by omega) hw)
 simp only [ZiS]
 rw [ZpW k w hw]
 simp only [Qb,cond_false]
 rw [Zi (by omega),Zb (by omega),QS,Nat.min_eq_left (by omega),KJ,Nat.div_eq_of_lt hn]
 rw [show ((((0:Nat):Int)) != (0:Int)) = false from rfl]
 simp only [cond_false]
 rw [show IntKind.u64.wrap (n:Int) = (n:Int) from by rw [IntKind.wrap_u64]; omega]
 rw [show ((ZY bs,((bs.length:Nat):Int),()):List Int × Int × Unit) = wst bs from rfl,ZyY k w bs n (by omega) (by omega) hb]
 rfl
def WU (n:Int) (w:Nat):Bool:=if w = 0 then n = 0 else -(2 ^ (w - 1):Int) ≤ n ∧ n < 2 ^ (w - 1)
def WL (n:Int) (w:Nat):List Bool:=Zg (n % 2 ^ w).toNat w
theorem Zda (n v:Nat):∀ w,w ≤ v → Zg (n % 2 ^ v) w = Zg n w
 | 0,_ => rfl
 | w + 1,h => by
  simp only [Zg]
  rw [Zda n v w (by omega),Nat.testBit_mod_two_pow]
  simp [show w < v by omega]
theorem YA (n:Int) (w:Nat):(WL n w).length = w:=Zl _ _
theorem Zma (n:Int) (w v:Nat) (h:w ≤ v):(n % 2 ^ v).toNat % 2 ^ w = (n % 2 ^ w).toNat:=by
 have hv:(0:Int) < 2 ^ v:=Int.pow_pos (by omega)
 have hw:(0:Int) < 2 ^ w:=Int.pow_pos (by omega)
 have h1:0 ≤ n % 2 ^ v:=Int.emod_nonneg _ (by omega)
 have h2:0 ≤ n % 2 ^ w:=Int.emod_nonneg _ (by omega)
 have hd:((2:Int) ^ w) ∣ 2 ^ v:=⟨2 ^ (v - w),by rw [← Int.pow_add]; congr 1; omega⟩
 apply Int.ofNat.inj
 show (((n % 2 ^ v).toNat % 2 ^ w:Nat):Int) = ((n % 2 ^ w).toNat:Int)
 rw [Int.natCast_emod,Int.toNat_of_nonneg h1,Int.toNat_of_nonneg h2,Int.natCast_pow]
 exact Int.emod_emod_of_dvd n hd
theorem ZtI (n:Int) (w v:Nat) (h:w ≤ v):Zg (n % 2 ^ v).toNat w = WL n w:=by
 unfold WL
 rw [← Zma n w v h,Zda _ _ _ (Nat.le_refl w)]
theorem Zzj {n:Int} {w:Nat} (hw:0 < w) (h:WU n w = true):n.fdiv (2 ^ (w - 1)) = 0 ∨ n.fdiv (2 ^ (w - 1)) = -1:=by
 unfold WU at h
 rw [if_neg (by omega)] at h
 obtain ⟨h1,h2⟩:=of_decide_eq_true h
 have hp:(0:Int) < 2 ^ (w - 1):=Int.pow_pos (by omega)
 rw [Int.fdiv_eq_ediv_of_nonneg _ (by omega)]
 rcases Int.lt_or_le n 0 with hn | hn
 ·right
  rw [Int.ediv_eq_iff_of_pos hp]
  constructor <;> omega
 ·left
  exact Int.ediv_eq_zero_of_lt hn h2
theorem ZrR (k:Nat) (bs:List Bool) (n:Int) (w:Nat) (hk:64 < k) (hw:w ≤ 32) (hn:WU n w = true) (hb:bs.length + w < 4294967296) :
  ZkE k (wst bs,n,(w:Int),()) = some (0,wst (bs ++ WL n w),()):=by
 show Zfz k _ = _
 have hput:ZdE k ((ZY bs,((bs.length:Nat):Int),()),IntKind.u64.wrap n,(w:Int),()) = some ((),wst (bs ++ WL n w),()):=by
  rw [show IntKind.u64.wrap n = (((n % 2 ^ 64).toNat:Nat):Int) from by
   rw [IntKind.wrap_u64]
   have:0 ≤ n % 2 ^ 64:=Int.emod_nonneg _ (by decide)
   rw [Int.toNat_of_nonneg this]; rfl]
  rw [show ((ZY bs,((bs.length:Nat):Int),()):List Int × Int × Unit) = wst bs from rfl,ZyY k w bs _ (by omega) (by omega) hb,ZtI n w 64 (by omega)]
 simp only [Zfz]
 rw [ZpW k w hw]
 simp only [Qb,cond_false,hput]
 by_cases h0:w = 0
 ·subst h0
  unfold WU at hn
  simp at hn
  subst hn
  rw [show ((((0:Nat):Int)) == (0:Int)) = true from rfl]
  simp only [cond_true]
  rw [show (((0:Int)) != (0:Int)) = false from rfl]
  simp only [cond_false]
  rw [Zi (by omega)]
 ·rw [show ((((w:Nat):Int)) == (0:Int)) = false from by rw [ZB]; simp; omega]
  simp only [cond_false]
  have e1:IntKind.i64.wrap ((w:Int) - 1) = ((w - 1:Nat):Int):=by rw [ZQ (by omega)]; omega
  rw [e1]
  simp only [QS,Nat.min_eq_left (show w - 1 ≤ 64 by omega)]
  rw [Zb (by omega),Zb (by omega)]
  rcases Zzj (by omega) hn with h | h
  ·rw [h]
   rw [show (((0:Int)) != (0:Int)) = false from rfl]
   rfl
  ·rw [h]
   rw [show (((-1:Int)) != (0:Int)) = true from rfl]
   simp only [cond_true]
   rw [Zb (by omega),show (((-1:Int)) != (-1:Int)) = false from rfl]
   rfl
theorem Zy1 (k:Nat) (bs:List Bool) (n:Nat) (hk:n < k) (hn:n ≤ 65536) (hb:bs.length + n + 1 < 4294967296) :
  Zl3 k (wst bs,(n:Int),()) = some (0,wst (bs ++ (List.replicate n false ++ [true])),()):=by
 show Zjr k (ZvN k) _ = _
 simp only [Zjr]
 rw [Zi (by omega),Zi (by omega)]
 suffices H:∀ (r i m:Nat) (bs:List Bool),n = i + r → r < m → bs.length + r + 1 < 4294967296 →
   Zm (fun L1 => ZeC k L1) m ((n:Int),(i:Int),(bs.length:Int),ZY bs) = some (0,wst (bs ++ (List.replicate r false ++ [true])),()) from H n 0 k bs (by omega) hk hb
 intro r
 induction r with
 | zero =>
  intro i m bs he hm hb
  obtain ⟨m,rfl⟩:=Zn hm
  rw [Zd]
  simp only [ZeC]
  rw [Zi (by omega),show ((ZY bs,((bs.length:Nat):Int),()):List Int × Int × Unit) = wst bs from rfl,ZkB k bs (by omega) 1 true rfl]
  simp
 | succ r ih =>
  intro i m bs he hm hb
  obtain ⟨m,rfl⟩:=Zn (show 0 < m by omega)
  rw [Zd]
  simp only [ZeC]
  rw [Zb (by omega),show ((ZY bs,((bs.length:Nat):Int),()):List Int × Int × Unit) = wst bs from rfl,ZkB k bs (by omega) 0 false rfl]
  simp only [Qb]
  rw [show IntKind.i64.wrap ((i:Int) + 1) = ((i + 1:Nat):Int) from by rw [ZQ (by omega)]; omega]
  rw [ih (i + 1) m (bs ++ [false]) (by omega) (by omega) (by simp; omega)]
  simp [List.replicate_succ]
def Zdr (n:Nat):Nat:=(8 - n % 8) % 8
theorem ZAm (bs:List Bool) (m i:Nat):Ws (bs ++ List.replicate m false) i = Ws bs i:=by
 unfold Ws
 congr 1
 funext j
 simp only [List.getD_eq_getElem?_getD]
 by_cases h:8 * i + j < bs.length
 ·rw [List.getElem?_append_left h]
 ·rw [List.getElem?_eq_none (by omega:bs.length ≤ 8 * i + j),List.getElem?_append_right (by omega),List.getElem?_replicate]
  split <;> rfl
theorem ZzE (bs:List Bool):ZY (bs ++ List.replicate (Zdr bs.length) false) = ZY bs:=by
 unfold ZY
 rw [show ((bs ++ List.replicate (Zdr bs.length) false).length + 7) / 8 = (bs.length + 7) / 8 from by simp [Zdr]; omega]
 apply List.map_congr_left
 intro i _
 rw [ZAm]
theorem ZVy (n:Nat) (h:n < 4294967296):IntKind.i64.wrap (Int.ofNat (BitVec.ofInt 64 (IntKind.i64.wrap ((0:Int) - (n:Int))) &&& BitVec.ofInt 64 7).toNat) = ((Zdr n:Nat):Int):=by
 rw [ZQ (n:=(0:Int) - (n:Int)) (by omega)]
 have e:BitVec.ofInt 64 ((0:Int) - (n:Int)) = BitVec.ofNat 64 (18446744073709551616 - n):=by
  apply BitVec.eq_of_toNat_eq
  rw [BitVec.toNat_ofInt,BitVec.toNat_ofNat]
  omega
 rw [e,show BitVec.ofInt 64 7 = 7#64 from rfl,BitVec.toNat_and,BitVec.toNat_ofNat,show (7#64).toNat = 2 ^ 3 - 1 from rfl,Nat.and_two_pow_sub_one_eq_mod]
 have:(18446744073709551616 - n) % 2 ^ 64 % 2 ^ 3 = Zdr n:=by unfold Zdr; omega
 rw [this,ZQ (by unfold Zdr; simp only [Qh]; omega)]
 rfl
theorem ZJJ (k:Nat) (bs:List Bool) (hb:bs.length < 4294967000):ZyF k (wst bs,()) = some (((Zdr bs.length:Nat):Int),wst (bs ++ List.replicate (Zdr bs.length) false),()):=by
 show ZiY k _ = _
 simp only [ZiY]
 rw [ZVy _ (by omega)]
 have h8:Zdr bs.length < 8:=by unfold Zdr; omega
 rw [show IntKind.i64.wrap (((bs.length:Nat):Int) + ((Zdr bs.length:Nat):Int)) = (((bs ++ List.replicate (Zdr bs.length) false).length:Nat):Int) from by rw [ZQ (by omega)]; simp]
 show _ = some (_,(ZY (bs ++ List.replicate (Zdr bs.length) false),_,()),())
 rw [ZzE]
theorem ZpE (k:Nat) (bs:List Bool) (hb:bs.length < 4294967296):ZpD k (wst bs,()) = some (ZY bs,wst bs,()):=by
 show ZiV k _ = _
 simp only [ZiV]
 have:(ZY bs).length < 2147483648:=by rw [Q6]; omega
 rw [show ZsH k (ZY bs,()) = some (ZY bs,()) from by show KY _ = _; unfold KY; rw [Zb this]]
 rfl
theorem ZJC (k:Nat):Zpz k () = some (wst [],()):=rfl
end Go.Sh
namespace Go.Sh
open Go Go.Proofs
theorem Zq7 {n:Nat} (h:n < 18446744073709551616):IntKind.u64.wrap (n:Int) = (n:Int):=by rw [IntKind.wrap_u64]; omega
theorem Zw1 {a:Nat} (ha:a < 18446744073709551616):(BitVec.ofInt 64 (a:Int)).toNat = a:=by rw [BitVec.ofInt_natCast,BitVec.toNat_ofNat,Nat.mod_eq_of_lt ha]
theorem Zz8 {a b:Nat} (ha:a < 18446744073709551616) (hb:b < 18446744073709551616):Int.ofNat (BitVec.ofInt 64 (a:Int) &&& BitVec.ofInt 64 (b:Int)).toNat = ((a &&& b:Nat):Int):=by
 rw [BitVec.toNat_and,Zw1 ha,Zw1 hb]; rfl
theorem orN {a b:Nat} (ha:a < 18446744073709551616) (hb:b < 18446744073709551616):Int.ofNat (BitVec.ofInt 64 (a:Int) ||| BitVec.ofInt 64 (b:Int)).toNat = ((a ||| b:Nat):Int):=by
 rw [BitVec.toNat_or,Zw1 ha,Zw1 hb]; rfl
theorem ZTZ {a b:Nat} (ha:a < 18446744073709551616) (hb:b < 18446744073709551616):Int.ofNat (BitVec.ofInt 64 (a:Int) ^^^ BitVec.ofInt 64 (b:Int)).toNat = ((a ^^^ b:Nat):Int):=by
 rw [BitVec.toNat_xor,Zw1 ha,Zw1 hb]; rfl
theorem Qp (j:Nat):((2:Int) ^ j) = ((2 ^ j:Nat):Int):=by rw [Int.natCast_pow]; rfl
def ZdW (s p r:Nat):Nat:=(2 * r) % 2 ^ s ^^^ (r / 2 ^ (s - 1) % 2) * p
def ZaW (s p:Nat):Nat → Nat → Nat
 | 0,r => r
 | n + 1,r => ZaW s p n (ZdW s p r)
def ZaX (s p r x:Nat):Nat:=ZaW s p 8 (r ^^^ x * 2 ^ (s - 8))
def ZHe (s p:Nat) (l:List Nat):Nat:=l.foldl (ZaX s p) 0
def ZW (l:List Int):Bool:=l.all fun x => decide (0 ≤ x) && decide (x < 256)
def ZhP (l:List Int):List Nat:=l.map Int.toNat
theorem Zku {s p r:Nat} (hp:p < 2 ^ s):ZdW s p r < 2 ^ s:=by
 unfold ZdW
 refine Nat.xor_lt_two_pow (Nat.mod_lt _ (Nat.pow_pos (by omega))) ?_
 have:r / 2 ^ (s - 1) % 2 < 2:=Nat.mod_lt _ (by omega)
 generalize r / 2 ^ (s - 1) % 2 = b at this
 have h0:0 < 2 ^ s:=Nat.pow_pos (by omega)
 match b,this with
 | 0,_ => simpa using h0
 | 1,_ => simpa using hp
theorem Zoo {s p:Nat} (hp:p < 2 ^ s):∀ (n r:Nat),r < 2 ^ s → ZaW s p n r < 2 ^ s
 | 0,r,h => h
 | n + 1,r,h => Zoo hp n _ (Zku hp)
theorem Zhm {s p r x:Nat} (hs:8 ≤ s) (hp:p < 2 ^ s) (hr:r < 2 ^ s) (hx:x < 256):ZaX s p r x < 2 ^ s:=by
 refine Zoo hp _ _ (Nat.xor_lt_two_pow hr ?_)
 have h1:2 ^ s = 2 ^ 8 * 2 ^ (s - 8):=by rw [← Nat.pow_add]; congr 1; omega
 have:x * 2 ^ (s - 8) < 256 * 2 ^ (s - 8):=Nat.mul_lt_mul_of_pos_right hx (Nat.pow_pos (by omega))
 rw [h1]; exact this
theorem Zhn {s p:Nat} (hs:8 ≤ s) (hp:p < 2 ^ s):∀ (l:List Nat) (r:Nat),(∀ x ∈ l,x < 256) → r < 2 ^ s → l.foldl (ZaX s p) r < 2 ^ s
 | [],r,_,h => h
 | x :: l,r,hl,h => by
  simp only [List.foldl_cons]
  exact Zhn hs hp l _ (fun y hy => hl y (List.mem_cons_of_mem _ hy)) (Zhm hs hp h (hl x (List.mem_cons_self ..)))
theorem ZL2 {s p r:Nat} (hs:8 ≤ s) (hs':s ≤ 16) (hp:p < 2 ^ s) (hr:r < 2 ^ s) :
  IntKind.u64.wrap (Int.ofNat (BitVec.ofInt 64 (IntKind.u64.wrap (Int.ofNat (BitVec.ofInt 64 (IntKind.u64.wrap ((r:Int) * (2:Int))) &&& BitVec.ofInt 64 (IntKind.u64.wrap (IntKind.u64.wrap ((1:Int) * (2:Int) ^ min (s:Int).toNat 64) - (1:Int)))).toNat)) ^^^
   BitVec.ofInt 64 (IntKind.u64.wrap (IntKind.u64.wrap (Int.ofNat (BitVec.ofInt 64 ((r:Int).fdiv ((2:Int) ^ min (IntKind.i64.wrap ((s:Int) - (1:Int))).toNat 64)) &&& BitVec.ofInt 64 (1:Int)).toNat) * (p:Int)))).toNat) = ((ZdW s p r:Nat):Int):=by
 have hpow:2 ^ s ≤ 2 ^ 16:=Nat.pow_le_pow_right (by omega) hs'
 have hpos:0 < 2 ^ s:=Nat.pow_pos (by omega)
 rw [show IntKind.i64.wrap ((s:Int) - 1) = ((s - 1:Nat):Int) from by rw [ZQ (by omega)]; omega]
 rw [QS,QS,Nat.min_eq_left (by omega),Nat.min_eq_left (by omega),KJ,Int.one_mul,Qp]
 rw [Zq7 (n:=2 ^ s) (by omega),show ((2 ^ s:Nat):Int) - 1 = ((2 ^ s - 1:Nat):Int) from by omega,Zq7 (n:=2 ^ s - 1) (by omega)]
 rw [show (r:Int) * 2 = ((2 * r:Nat):Int) from by omega,Zq7 (n:=2 * r) (by omega)]
 rw [Zz8 (by omega) (by omega),Nat.and_two_pow_sub_one_eq_mod]
 have hm:2 * r % 2 ^ s < 2 ^ s:=Nat.mod_lt _ hpos
 rw [Zq7 (n:=2 * r % 2 ^ s) (by omega)]
 have hdl:r / 2 ^ (s - 1) ≤ r:=Nat.div_le_self _ _
 rw [show ((1:Int)) = ((1:Nat):Int) from rfl,Zz8 (by omega) (by omega),Nat.and_one_is_mod]
 have hb:r / 2 ^ (s - 1) % 2 < 2:=Nat.mod_lt _ (by omega)
 have hbp:r / 2 ^ (s - 1) % 2 * p < 2 ^ s:=by
  generalize r / 2 ^ (s - 1) % 2 = b at hb
  match b,hb with
  | 0,_ => simpa using hpos
  | 1,_ => simpa using hp
 rw [Zq7 (n:=r / 2 ^ (s - 1) % 2) (by omega),← Int.natCast_mul,Zq7 (n:=r / 2 ^ (s - 1) % 2 * p) (by omega),ZTZ (by omega) (by omega)]
 have:=Zku (s:=s) (p:=p) (r:=r) hp
 unfold ZdW at this ⊢
 rw [Zq7 (by omega)]
theorem ZHc {s r x:Nat} (hs:8 ≤ s) (hs':s ≤ 16) (hr:r < 2 ^ s) (hx:x < 256) :
  IntKind.u64.wrap (Int.ofNat (BitVec.ofInt 64 (r:Int) ^^^ BitVec.ofInt 64 (IntKind.u64.wrap (IntKind.u64.wrap (x:Int) * (2:Int) ^ min (IntKind.i64.wrap ((s:Int) - (8:Int))).toNat 64))).toNat) = ((r ^^^ x * 2 ^ (s - 8):Nat):Int):=by
 have hpow:2 ^ s ≤ 2 ^ 16:=Nat.pow_le_pow_right (by omega) hs'
 have h1:2 ^ s = 2 ^ 8 * 2 ^ (s - 8):=by rw [← Nat.pow_add]; congr 1; omega
 have hxp:x * 2 ^ (s - 8) < 2 ^ s:=by
  rw [h1]; exact Nat.mul_lt_mul_of_pos_right hx (Nat.pow_pos (by omega))
 rw [show IntKind.i64.wrap ((s:Int) - 8) = ((s - 8:Nat):Int) from by rw [ZQ (by omega)]; omega]
 rw [QS,Nat.min_eq_left (by omega),Qp,Zq7 (n:=x) (by omega),← Int.natCast_mul,Zq7 (n:=x * 2 ^ (s - 8)) (by omega),ZTZ (by omega) (by omega)]
 have:r ^^^ x * 2 ^ (s - 8) < 2 ^ s:=Nat.xor_lt_two_pow hr hxp
 rw [Zq7 (by omega)]
theorem ZGe (k:Nat) {s p:Nat} (hs:8 ≤ s) (hs':s ≤ 16) (hp:p < 2 ^ s) (L1:Int × Int × List Int × Int × Int × Int → Option (Int × Unit)) (v4 v5:Int) (v6:List Int) :
  ∀ (n m i r:Nat),i + n = 8 → n < m → r < 2 ^ s →
  Zm (fun L2 => ZcB k L1 L2) m ((i:Int),(r:Int),(s:Int),(p:Int),v4,v5,v6) = L1 (v5,IntKind.i64.wrap (v4 + 1),v6,((ZaW s p n r:Nat):Int),(s:Int),(p:Int)):=by
 intro n
 induction n with
 | zero =>
  intro m i r hi hm hr
  obtain ⟨m,rfl⟩:=Zn hm
  rw [Zd]
  simp only [ZcB]
  rw [Zi (by omega)]
  rfl
 | succ n ih =>
  intro m i r hi hm hr
  obtain ⟨m,rfl⟩:=Zn (show 0 < m by omega)
  rw [Zd]
  simp only [ZcB]
  rw [Zb (by omega),Zb (by rw [ZQ (by omega)]; omega),Zb (by omega),ZL2 hs hs' hp hr]
  rw [show IntKind.i64.wrap ((i:Int) + 1) = ((i + 1:Nat):Int) from by rw [ZQ (by omega)]; omega]
  rw [ih m (i + 1) _ (by omega) (by omega) (Zku hp)]
  rfl
theorem Yg {l:List Int} (h:ZW l = true) {i:Nat} (hi:i < l.length):∃ x:Nat,x < 256 ∧ l[i] = (x:Int):=by
 have:=List.all_eq_true.1 h l[i] (List.getElem_mem hi)
 simp only [Bool.and_eq_true,decide_eq_true_eq] at this
 exact ⟨l[i].toNat,by omega,by omega⟩
theorem Zs3 {l:List Int} (h:ZW l = true):∀ x ∈ ZhP l,x < 256:=by
 intro x hx
 obtain ⟨y,hy,rfl⟩:=List.mem_map.1 hx
 have:=List.all_eq_true.1 h y hy
 simp only [Bool.and_eq_true,decide_eq_true_eq] at this
 omega
theorem ZyZ (k:Nat) (l:List Int) {s p:Nat} (hs:8 ≤ s) (hs':s ≤ 16) (hp:p < 2 ^ s) (hl:ZW l = true) (hk:l.length + 8 < k) (hk':l.length < 4294967296) :
  ZgY k (l,(s:Int),(p:Int),()) = some (((ZHe s p (ZhP l):Nat):Int),()):=by
 show Zjo k (ZvG k) _ = _
 simp only [Zjo]
 have h16:2 ^ s ≤ 2 ^ 16:=Nat.pow_le_pow_right (by omega) hs'
 have:=Zu (A:=Nat) (step:=fun L1 => ZeA k (ZvH k L1) L1) (fun i r => (Int.ofNat l.length,Int.ofNat i,l,(r:Int),(s:Int),(p:Int))) l
  (fun l' r => some (((l'.foldl (fun r x => ZaX s p r x.toNat) r:Nat):Int),())) (fun i r => r < 2 ^ s)
  (fun L r hr => by
   simp only [ZeA]
   rw [Zi (QV _),ZQ (by omega)]; rfl)
  (fun L i hi r hr hL => by
   obtain ⟨x,hx,hxe⟩:=Yg hl hi
   simp only [ZeA]
   rw [Zb (KU hi),Zb (Xx hi),Zb (by rw [ZQ (by omega)]; omega),ZK hi,hxe,ZHc hs hs' hr hx]
   have hx2:r ^^^ x * 2 ^ (s - 8) < 2 ^ s:=Nat.xor_lt_two_pow hr (by
    have h1:2 ^ s = 2 ^ 8 * 2 ^ (s - 8):=by rw [← Nat.pow_add]; congr 1; omega
    rw [h1]; exact Nat.mul_lt_mul_of_pos_right hx (Nat.pow_pos (by omega)))
   have hin:=ZGe k hs hs' hp L (Int.ofNat i) (Int.ofNat l.length) l 8 k 0 (r ^^^ x * 2 ^ (s - 8)) rfl (by omega) hx2
   refine Eq.trans hin ?_
   rw [Qq hi (by omega)]
   rw [show ZaW s p 8 (r ^^^ x * 2 ^ (s - 8)) = ZaX s p r x from rfl]
   rw [hL _ (Zhm hs hp hr hx)]
   rw [List.foldl_cons,QS]) k 0 0 (Nat.pow_pos (by omega)) (by omega) (Nat.zero_le _)
 refine Eq.trans this ?_
 rw [List.drop_zero]
 unfold ZHe ZhP
 rw [List.foldl_map]
theorem ZEb (bs:List Bool) (i:Nat):Ws bs i < 256:=Zof _
theorem Ke (bs:List Bool):ZW (ZY bs) = true:=by
 refine List.all_eq_true.2 fun x hx => ?_
 obtain ⟨i,_,rfl⟩:=List.mem_map.1 hx
 have h:=ZEb bs i
 generalize Ws bs i = n at h
 rw [Bool.and_eq_true,decide_eq_true_eq,decide_eq_true_eq]
 omega
def Zw8 (l:List Int):Nat:=ZHe 8 7 (ZhP l)
def Ys (l:List Int):Nat:=ZHe 16 32773 (ZhP l)
theorem ZCr {l:List Int} (h:ZW l = true):Zw8 l < 2 ^ 8:=Zhn (by omega) (by omega) _ _ (Zs3 h) (by omega)
theorem Zon {l:List Int} (h:ZW l = true):Ys l < 2 ^ 16:=Zhn (by omega) (by omega) _ _ (Zs3 h) (by omega)
theorem ZyC (k:Nat) (l:List Int) (hl:ZW l = true) (hk:l.length + 8 < k) (hk':l.length < 4294967296):Zsz k (l,()) = some (((Zw8 l:Nat):Int),()):=by
 show ZiU k _ = _
 simp only [ZiU]
 have:=ZyZ k l (s:=8) (p:=7) (by omega) (by omega) (by omega) hl hk hk'
 rw [show ZgY k (l,8,7,()) = ZgY k (l,((8:Nat):Int),((7:Nat):Int),()) from rfl,this]
 rfl
theorem ZyG (k:Nat) (l:List Int) (hl:ZW l = true) (hk:l.length + 8 < k) (hk':l.length < 4294967296):ZsC k (l,()) = some (((Ys l:Nat):Int),()):=by
 show ZiZ k _ = _
 simp only [ZiZ]
 have:=ZyZ k l (s:=16) (p:=32773) (by omega) (by omega) (by omega) hl hk hk'
 rw [show ZgY k (l,16,32773,()) = ZgY k (l,((16:Nat):Int),((32773:Nat):Int),()) from rfl,this]
 rfl
def Q9 (k:Nat):Nat:=if k = 1 then 7 else 5 * k + 1
def Ku:Nat → Nat → List Nat
 | _,0 => []
 | n,i + 1 => Ku (n / 64) i ++ [128 + n % 64]
def Xq (n:Nat):Nat:=if n < 2 ^ 7 then 1 else if n < 2 ^ 11 then 2 else if n < 2 ^ 16 then 3 else if n < 2 ^ 21 then 4 else if n < 2 ^ 26 then 5 else if n < 2 ^ 31 then 6 else 7
def ZhI (k m:Nat):Nat:=(65280 / 2 ^ k % 256) ||| m
def Qs (n:Nat):List Nat:=if n < 128 then [n] else ZhI (Xq n) (n / 64 ^ (Xq n - 1)) :: Ku n (Xq n - 1)
def Wi (l:List Nat):List Int:=l.map fun (n:Nat) => (n:Int)
theorem ZPo:∀ m:Fin 64,IntKind.u8.wrap (Int.ofNat (BitVec.ofInt 8 (128:Int) ||| BitVec.ofInt 8 (IntKind.u8.wrap (IntKind.i64.wrap (m.val:Int)))).toNat) = ((128 + m.val:Nat):Int):=by decide +kernel
theorem ZLu:∀ (k:Fin 8) (m:Fin 64),2 ≤ k.val → IntKind.u8.wrap (Int.ofNat (BitVec.ofInt 8 (IntKind.u8.wrap (Int.fdiv (65280:Int) ((2:Int) ^ min (k.val:Int).toNat 64))) ||| BitVec.ofInt 8 (IntKind.u8.wrap (m.val:Int))).toNat) = ((ZhI k.val m.val:Nat):Int):=by decide +kernel
theorem ZF9 (k:Nat) {kk:Nat} (h2:2 ≤ kk) (h7:kk ≤ 7):∀ (i m n:Nat) (suf:List Int),i < m → i < kk → n < 18446744073709551616 → n / 64 ^ i < 64 →
  Zm (fun L2 => Zeo k L2) m ((i:Int),(n:Int),(kk:Int),List.replicate (i + 1) 0 ++ suf) = some ((Wi (ZhI kk (n / 64 ^ i) :: Ku n i) ++ suf,0,()),()):=by
 intro i
 induction i with
 | zero =>
  intro m n suf hm hi hn hq
  obtain ⟨m,rfl⟩:=Zn hm
  rw [Zd]
  simp only [Zeo]
  rw [Zi (by omega),Zb (by omega),Zb (by simp only [Qh,Wq,List.length_replicate]; omega),Zb (by simp)]
  rw [Nat.pow_zero,Nat.div_one] at hq ⊢
  have:=ZLu ⟨kk,by omega⟩ ⟨n,hq⟩ h2
  simp only at this
  rw [this]
  rfl
 | succ i ih =>
  intro m n suf hm hi hn hq
  obtain ⟨m,rfl⟩:=Zn (show 0 < m by omega)
  rw [Zd]
  simp only [Zeo]
  have hl:(List.replicate (i + 1 + 1) (0:Int) ++ suf).length = i + 2 + suf.length:=by simp
  rw [Zb (by omega),Zb (by rw [hl]; simp only [Qh]; omega),Zb (by rw [hl]; omega)]
  rw [show (63:Int) = ((63:Nat):Int) from rfl,Zz8 hn (by omega)]
  have h63:n &&& 63 = n % 64:=Nat.and_two_pow_sub_one_eq_mod n 6
  have:=ZPo ⟨n % 64,Nat.mod_lt _ (by omega)⟩
  simp only at this
  rw [h63,this]
  rw [show IntKind.i64.wrap (((i + 1:Nat):Int) - 1) = (i:Int) from by rw [ZQ (by omega)]; omega]
  rw [show ((n:Int)).fdiv 64 = ((n / 64:Nat):Int) from by rw [Int.fdiv_eq_ediv_of_nonneg _ (by omega)]; rfl]
  have hset:(List.replicate (i + 1 + 1) (0:Int) ++ suf).set (((i + 1:Nat):Int)).toNat ((128 + n % 64:Nat):Int) = List.replicate (i + 1) 0 ++ (((128 + n % 64:Nat):Int) :: suf):=by
   rw [QS,List.replicate_succ' (n:=i + 1),List.append_assoc,List.set_append_right _ _ (by simp)]
   simp
  rw [hset,ih m (n / 64) _ (by omega) (by omega) (by omega) (by rw [Nat.div_div_eq_div_mul,Nat.mul_comm,← Nat.pow_succ]; exact hq)]
  rw [Nat.div_div_eq_div_mul,Nat.mul_comm,← Nat.pow_succ]
  simp only [Wi,Ku,List.map_cons,List.map_append,List.map_nil,List.append_assoc,List.cons_append,List.nil_append]
theorem ZpY (k kk:Nat) (h:kk ≤ 8):ZsG k ((kk:Int),()) = some (((Q9 kk:Nat):Int),()):=by
 show Zjm k _ = _
 simp only [Zjm]
 unfold Q9
 by_cases h1:kk = 1
 ·subst h1; rfl
 ·rw [show (((kk:Nat):Int) == (1:Int)) = false from by rw [ZB]; simp; omega,if_neg h1]
  simp only [cond_false]
  rw [ZQ (n:=5 * (kk:Int)) (by omega),ZQ (by omega)]
  congr 2
theorem ZqV:Q9 2 = 11 ∧ Q9 3 = 16 ∧ Q9 4 = 21 ∧ Q9 5 = 26 ∧ Q9 6 = 31 ∧ Q9 7 = 36:=by decide
theorem ZO9 {kk n:Nat} (h2:2 ≤ kk) (h7:kk ≤ 7) (hlt:n < 2 ^ Q9 kk) (hge:2 < kk → 2 ^ Q9 (kk - 1) ≤ n) (h128:128 ≤ n):Xq n = kk:=by
 obtain ⟨r2,r3,r4,r5,r6,r7⟩:=ZqV
 obtain rfl | rfl | rfl | rfl | rfl | rfl:kk = 2 ∨ kk = 3 ∨ kk = 4 ∨ kk = 5 ∨ kk = 6 ∨ kk = 7:=by omega
 ·rw [r2] at hlt
  unfold Xq
  rw [if_neg (by omega),if_pos hlt]
 ·have hge:=hge (by omega)
  rw [Nat.add_sub_cancel (n:=2) (m:=1),r2] at hge
  rw [r3] at hlt
  unfold Xq
  rw [if_neg (by omega),if_neg (by omega),if_pos hlt]
 ·have hge:=hge (by omega)
  rw [Nat.add_sub_cancel (n:=3) (m:=1),r3] at hge
  rw [r4] at hlt
  unfold Xq
  rw [if_neg (by omega),if_neg (by omega),if_neg (by omega),if_pos hlt]
 ·have hge:=hge (by omega)
  rw [Nat.add_sub_cancel (n:=4) (m:=1),r4] at hge
  rw [r5] at hlt
  unfold Xq
  rw [if_neg (by omega),if_neg (by omega),if_neg (by omega),if_neg (by omega),if_pos hlt]
 ·have hge:=hge (by omega)
  rw [Nat.add_sub_cancel (n:=5) (m:=1),r5] at hge
  rw [r6] at hlt
  unfold Xq
  rw [if_neg (by omega),if_neg (by omega),if_neg (by omega),if_neg (by omega),if_neg (by omega),if_pos hlt]
 ·have hge:=hge (by omega)
  rw [Nat.add_sub_cancel (n:=6) (m:=1),r6] at hge
  unfold Xq
  rw [if_neg (by omega),if_neg (by omega),if_neg (by omega),if_neg (by omega),if_neg (by omega),if_neg (by omega)]
theorem ZhL {kk n:Nat} (h2:2 ≤ kk) (h7:kk ≤ 7) (hlt:n < 2 ^ Q9 kk):n / 64 ^ (kk - 1) < 64:=by
 have h64:(64:Nat) = 2 ^ 6:=rfl
 rw [Nat.div_lt_iff_lt_mul (Nat.pow_pos (by omega))]
 refine Nat.lt_of_lt_of_le hlt ?_
 rw [h64,← Nat.pow_mul,← Nat.pow_add]
 refine Nat.pow_le_pow_right (by omega) ?_
 unfold Q9
 rw [if_neg (by omega)]
 omega
theorem ZyB (k:Nat) (hk:20 < k) {n:Nat} (hn:n < 2 ^ 36) (kk:Nat) (h2:2 ≤ kk) (h7:kk ≤ 7) (hlt:n < 2 ^ Q9 kk) (hge:2 < kk → 2 ^ Q9 (kk - 1) ≤ n) (h128:128 ≤ n) :
  ZpB k (IntKind.i64.wrap ((kk:Int) - 1),(n:Int),(kk:Int),List.replicate (kk:Int).toNat (0:Int)) = some ((Wi (Qs n),0,()),()):=by
 have hlen:=ZO9 h2 h7 hlt hge h128
 have hq:=ZhL h2 h7 hlt
 have hn':n < 18446744073709551616:=Nat.lt_trans hn (by decide)
 have:=ZF9 k h2 h7 (kk - 1) k n [] (by omega) (by omega) hn' hq
 rw [show IntKind.i64.wrap ((kk:Int) - 1) = ((kk - 1:Nat):Int) from by rw [ZQ (by omega)]; omega,QS]
 rw [show kk - 1 + 1 = kk by omega,List.append_nil,List.append_nil] at this
 refine Eq.trans this ?_
 unfold Qs
 rw [if_neg (by omega),hlen]
theorem ZGa (k:Nat) (hk:20 < k) {n:Nat} (hn:n < 2 ^ 36):∀ (d kk m:Nat),d < m → kk + d = 7 → 2 ≤ kk → (2 < kk → 2 ^ Q9 (kk - 1) ≤ n) → 128 ≤ n →
  Zm (fun L1 => Zen k (ZpB k) L1) m ((n:Int),(kk:Int)) = some ((Wi (Qs n),0,()),()):=by
 intro d
 induction d with
 | zero =>
  intro kk m hm hkk h2 hge h128
  obtain rfl:kk = 7:=by omega
  obtain ⟨m,rfl⟩:=Zn hm
  rw [Zd]
  simp only [Zen]
  rw [ZpY k 7 (by omega)]
  simp only [Qb]
  rw [Zb (by omega),QS,Nat.min_eq_left (show Q9 7 ≤ 64 by decide),KJ,Nat.div_eq_of_lt (show n < 2 ^ Q9 7 from hn),Zi (by omega),Zb (by omega)]
  exact ZyB k hk hn 7 (by omega) (by omega) hn hge h128
 | succ d ih =>
  intro kk m hm hkk h2 hge h128
  obtain ⟨m,rfl⟩:=Zn (show 0 < m by omega)
  rw [Zd]
  simp only [Zen]
  rw [ZpY k kk (by omega)]
  simp only [Qb]
  have hroom:Q9 kk ≤ 64:=by unfold Q9; split <;> omega
  rw [Zb (by omega),QS,Nat.min_eq_left hroom,KJ]
  by_cases hlt:n < 2 ^ Q9 kk
  ·rw [Nat.div_eq_of_lt hlt,Zi (by omega),Zb (by omega)]
   exact ZyB k hk hn kk h2 (by omega) hlt hge h128
  ·have hpos:0 < n / 2 ^ Q9 kk:=Nat.div_pos (by omega) (Nat.pow_pos (by omega))
   rw [Zb (by omega),show IntKind.i64.wrap ((kk:Int) + 1) = ((kk + 1:Nat):Int) from by rw [ZQ (by omega)]; omega]
   exact ih (kk + 1) m (by omega) (by omega) (by omega) (fun _ => by rw [Nat.add_sub_cancel]; omega) h128
theorem ZJH (k:Nat) (hk:20 < k) {n:Nat} (hn:n < 2 ^ 36):ZpA k ((n:Int),()) = some ((Wi (Qs n),0,()),()):=by
 show ZiT k (Zu1 k) _ = _
 simp only [ZiT]
 rw [Zi (by omega),Zi (by omega)]
 by_cases h:n < 128
 ·rw [Zb (by omega),wu8 (by omega)]
  unfold Qs
  rw [if_pos h]
  rfl
 ·rw [Zi (by omega)]
  exact ZGa k hk hn 5 2 k (by omega) (by omega) (by omega) (fun h => by omega) (by omega)
end Go.Sh
namespace Go.Sh
open Go Go.Proofs
abbrev Y0:=Ieee.double
theorem Zho:Y0.binade = 4503599627370496:=by decide
theorem ZtP:Y0.infRung = 9218868437227405312:=by decide
theorem Zih:Y0.signWeight = 9223372036854775808:=by decide
theorem Zkx:Y0.leastPlace = -1074:=by decide
theorem ZHf:Y0.fractionBits = 52:=rfl
theorem ZGB (s:Bool) {R:Nat} (h0:4503599627370496 ≤ R) (h1:R < 9218868437227405312) :
  Y0.read (Y0.word s R) = .number s (4503599627370496 + R % 4503599627370496) (-1074 + (R / 4503599627370496 - 1:Nat)):=by
 have e1:Y0.word s R / 9223372036854775808 % 2 = s.toNat:=by
  unfold Ieee.Format.word
  rw [Zih]
  cases s <;> simp <;> omega
 have e2:Y0.word s R % 9223372036854775808 = R:=by
  unfold Ieee.Format.word
  rw [Zih]
  cases s <;> simp <;> omega
 unfold Ieee.Format.read
 simp only [Zih,Zho,ZtP,Zkx,e1,e2]
 rw [if_neg (by omega),if_pos h1]
 cases s <;> rfl
theorem Ztd (s:Bool):Y0.read (Y0.word s 0) = .number s 0 (-1074):=by cases s <;> decide
theorem ZjZ (s:Bool) {m K L:Nat} {e:Int} (hm:m ≠ 0) (hL:L ≤ 52) (hl:(m.log2:Int) = L - 1 - e)
  (hcut:Ieee.Toward.even.cut s (m <<< (e - ((L:Int) - 53)).toNat) ((L:Int) - 53 - e).toNat = K) (hK:4503599627370496 ≤ K) (hK2:K < 9007199254740992) :
  Y0.read (Y0.nearest s m e) = .number s K ((L:Int) - 53):=by
 unfold Ieee.Format.nearest
 rw [if_neg hm]
 simp only [ZHf,Zkx,Zho,ZtP]
 have hlast:max (e + (m.log2:Int) - ((52:Nat):Int)) (-1074) = (L:Int) - 53:=by omega
 rw [hlast,hcut]
 have h1:((L:Int) - 53 - -1074).toNat = L + 1021:=by omega
 rw [h1,Nat.min_eq_left (by omega)]
 rw [ZGB s (by omega) (by omega)]
 have h2:((L + 1021) * 4503599627370496 + K) % 4503599627370496 = K - 4503599627370496:=by omega
 have h3:((L + 1021) * 4503599627370496 + K) / 4503599627370496 = L + 1022:=by omega
 rw [h2,h3,show 4503599627370496 + (K - 4503599627370496) = K by omega,show (-1074 + ((L + 1022 - 1:Nat):Int)) = (L:Int) - 53 by omega]
theorem Zop (s:Bool) {n d q:Nat} (hd:d ≤ n.log2 + 2) (h:n = q * 2 ^ d):Ieee.Toward.even.cut s n d = q:=by
 unfold Ieee.Toward.cut
 simp only [Nat.min_eq_left hd,Nat.one_shiftLeft]
 have hp:0 < 2 ^ d:=Nat.pow_pos (by omega)
 rw [h,Nat.mul_div_cancel _ hp,Nat.mul_mod_left]
 simp
theorem YQ {N:Nat} (h:N ≠ 0) (t:Nat):(N * 2 ^ t).log2 = N.log2 + t:=by
 have hp:0 < 2 ^ t:=Nat.pow_pos (by omega)
 rw [Nat.log2_eq_iff (Nat.mul_ne_zero h (by omega))]
 obtain ⟨h1,h2⟩:=(Nat.log2_eq_iff h).1 rfl
 constructor
 ·rw [Nat.pow_add]; exact Nat.mul_le_mul_right _ h1
 ·rw [show N.log2 + t + 1 = (N.log2 + 1) + t by omega,Nat.pow_add]; exact Nat.mul_lt_mul_of_pos_right h2 hp
theorem ZjW {N:Nat} (h:N ≠ 0) (h':N < 9007199254740992):N.log2 ≤ 52:=by
 have:=(Nat.log2_lt h (k:=53)).2 h'
 omega
theorem Zqf {N:Nat} (h:N ≠ 0) (h':N < 9007199254740992):4503599627370496 ≤ N * 2 ^ (52 - N.log2) ∧ N * 2 ^ (52 - N.log2) < 9007199254740992:=by
 have hL:=ZjW h h'
 obtain ⟨h1,h2⟩:=(Nat.log2_eq_iff h).1 rfl
 have hp:0 < 2 ^ (52 - N.log2):=Nat.pow_pos (by omega)
 have e1:2 ^ N.log2 * 2 ^ (52 - N.log2) = 4503599627370496:=by rw [← Nat.pow_add,show N.log2 + (52 - N.log2) = 52 by omega]
 have e2:2 ^ (N.log2 + 1) * 2 ^ (52 - N.log2) = 9007199254740992:=by rw [← Nat.pow_add,show N.log2 + 1 + (52 - N.log2) = 53 by omega]
 constructor
 ·rw [← e1]; exact Nat.mul_le_mul_right _ h1
 ·rw [← e2]; exact Nat.mul_lt_mul_of_pos_right h2 hp
theorem Zwm (s:Bool) {N t:Nat} (h:N ≠ 0) (h':N < 9007199254740992) :
  Y0.read (Y0.nearest s (N * 2 ^ t) (-1 - (t:Int))) = .number s (N * 2 ^ (52 - N.log2)) ((N.log2:Int) - 53):=by
 have hL:=ZjW h h'
 obtain ⟨f1,f2⟩:=Zqf h h'
 have hp:0 < 2 ^ t:=Nat.pow_pos (by omega)
 refine ZjZ s (Nat.mul_ne_zero h (by omega)) hL (by rw [YQ h]; omega) ?_ f1 f2
 by_cases hc:52 - N.log2 ≤ t
 ·have e1:((-1 - (t:Int)) - ((N.log2:Int) - 53)).toNat = 0:=by omega
  have e2:((N.log2:Int) - 53 - (-1 - (t:Int))).toNat = t - (52 - N.log2):=by omega
  rw [e1,e2,Nat.shiftLeft_zero]
  refine Zop s (by rw [YQ h]; omega) ?_
  rw [Nat.mul_assoc,← Nat.pow_add]
  congr 2; omega
 ·have e1:((-1 - (t:Int)) - ((N.log2:Int) - 53)).toNat = 52 - N.log2 - t:=by omega
  have e2:((N.log2:Int) - 53 - (-1 - (t:Int))).toNat = 0:=by omega
  rw [e1,e2]
  refine Zop s (by omega) ?_
  rw [Nat.shiftLeft_eq,Nat.mul_assoc,← Nat.pow_add,Nat.pow_zero,Nat.mul_one]
  congr 2; omega
theorem Zg4 (s:Bool) {N:Nat} (h:N ≠ 0) (h':N < 4503599627370496) :
  Y0.read (Y0.nearest s N 0) = .number s (2 * N * 2 ^ (52 - (2 * N).log2)) (((2 * N).log2:Int) - 53):=by
 have hl:(2 * N).log2 = N.log2 + 1:=by rw [Nat.mul_comm]; exact YQ h 1
 have h2:2 * N ≠ 0:=by omega
 have hL:=ZjW h2 (by omega)
 obtain ⟨f1,f2⟩:=Zqf h2 (by omega)
 refine ZjZ s h hL (by rw [hl]; omega) ?_ f1 f2
 have e1:((0:Int) - (((2 * N).log2:Int) - 53)).toNat = 53 - (2 * N).log2:=by omega
 have e2:(((2 * N).log2:Int) - 53 - 0).toNat = 0:=by omega
 rw [e1,e2]
 refine Zop s (by omega) ?_
 rw [Nat.shiftLeft_eq,Nat.pow_zero,Nat.mul_one,show 53 - (2 * N).log2 = 1 + (52 - (2 * N).log2) by omega,Nat.pow_add]
 rw [← Nat.mul_assoc]; congr 1; omega
def Val (x:Nat) (n:Int):Prop:=n.natAbs < 9007199254740992 ∧
 ((n = 0 ∧ ∃ s,Y0.read x = .number s 0 (-1074)) ∨ (n ≠ 0 ∧ Y0.read x = .number (decide (n < 0)) (n.natAbs * 2 ^ (52 - n.natAbs.log2)) ((n.natAbs.log2:Int) - 53)))
theorem ZLJ (n:Int):(if decide (n < 0) = true then -(n.natAbs:Int) else (n.natAbs:Int)) = n:=by
 by_cases h:n < 0
 ·rw [QX h,if_pos rfl]; omega
 ·rw [QN h,if_neg (by simp)]; omega
theorem Val.num {x:Nat} {n:Int} (h:Val x n):∃ s m e,Y0.read x = .number s m e ∧ e ≤ -1 ∧ -1074 ≤ e ∧ ∀ (b:Int),b ≤ e → Ieee.signed s m (e - b).toNat = n * 2 ^ (-1 - b).toNat:=by
 obtain ⟨hb,⟨rfl,s,hr⟩ | ⟨hn,hr⟩⟩:=h
 ·refine ⟨s,0,_,hr,by omega,by omega,fun b hb => ?_⟩
  unfold Ieee.signed
  cases s <;> simp
 ·have h0:n.natAbs ≠ 0:=by omega
  have hL:=ZjW h0 hb
  refine ⟨_,_,_,hr,by omega,by omega,fun b hb => ?_⟩
  unfold Ieee.signed
  have e1:(n.natAbs * 2 ^ (52 - n.natAbs.log2)) <<< ((n.natAbs.log2:Int) - 53 - b).toNat = n.natAbs * 2 ^ (-1 - b).toNat:=by
   rw [Nat.shiftLeft_eq,Nat.mul_assoc,← Nat.pow_add]
   congr 2; omega
  rw [e1]
  have e2:((n.natAbs * 2 ^ (-1 - b).toNat:Nat):Int) = (n.natAbs:Int) * 2 ^ (-1 - b).toNat:=by rw [Int.natCast_mul,Int.natCast_pow]; rfl
  rw [e2]
  have hs:=ZLJ n
  by_cases hlt:n < 0
  ·rw [QX hlt] at hs ⊢
   simp only [if_true] at hs ⊢
   rw [← Int.neg_mul]; congr 1
  ·rw [QN hlt] at hs ⊢
   simp only [Bool.false_eq_true,if_false] at hs ⊢
   congr 1
theorem Zc3 {s:Bool} {m:Nat} {e:Int} {n:Int} {t:Nat} (he:e = -1 - (t:Int)) (hm:m = n.natAbs * 2 ^ t) (hs:n ≠ 0 → s = decide (n < 0)) (hb:n.natAbs < 9007199254740992):Val (Y0.write (.number s m e)) n:=by
 refine ⟨hb,?_⟩
 show _ ∨ (_ ∧ Y0.read (Y0.nearest s m e) = _)
 by_cases hn:n = 0
 ·left
  refine ⟨hn,s,?_⟩
  show Y0.read (Y0.nearest s m e) = _
  subst hn
  rw [show m = 0 by rw [hm]; simp]
  unfold Ieee.Format.nearest
  rw [if_pos rfl]
  exact Ztd s
 ·right
  refine ⟨hn,?_⟩
  rw [hm,he,← hs hn]
  exact Zwm s (by omega) hb
theorem Zmd (n:Int) (hb:n.natAbs < 4503599627370496):Val (FloatKind.f64.nearest n) (2 * n):=by
 show Val (Y0.nearest (decide (n < 0)) n.natAbs 0) (2 * n)
 refine ⟨by omega,?_⟩
 by_cases hn:n = 0
 ·left
  subst hn
  exact ⟨rfl,false,by decide⟩
 ·right
  refine ⟨by omega,?_⟩
  rw [Zg4 _ (by omega) hb]
  have e1:(2 * n).natAbs = 2 * n.natAbs:=by omega
  have e2:decide (2 * n < 0) = decide (n < 0):=by by_cases h:n < 0 <;> simp [h] <;> omega
  rw [e1,e2]
theorem Zw3 {a b:Int} {p:Int} (hp:0 < p):compare (a * p) (b * p) = compare a b:=by
 rcases Int.lt_trichotomy a b with h | h | h
 ·have:=Int.mul_lt_mul_of_pos_right h hp
  rw [Int.compare_eq_lt.2 h,Int.compare_eq_lt.2 this]
 ·subst h; simp
 ·have:=Int.mul_lt_mul_of_pos_right h hp
  rw [Int.compare_eq_gt.2 h,Int.compare_eq_gt.2 this]
theorem ZlB {x y:Nat} {a b:Int} (hx:Val x a) (hy:Val y b):FloatKind.f64.format.order x y = some (compare a b):=by
 obtain ⟨s,m,i,h1,h2,_,h3⟩:=hx.num
 obtain ⟨t,n,j,g1,g2,_,g3⟩:=hy.num
 show (Y0.read x).order (Y0.read y) = _
 rw [h1,g1]
 unfold Ieee.Datum.order
 simp only
 rw [h3 _ (Int.min_le_left i j),g3 _ (Int.min_le_right i j),Zw3 (Int.pow_pos (by omega))]
theorem ZCm {x y:Nat} {a b:Int} (hx:Val x a) (hy:Val y b) (hb:(a + b).natAbs < 9007199254740992):∃ z,floatBits .add .f64 x y = some z ∧ Val z (a + b):=by
 obtain ⟨s,m,i,h1,h2,h2',h3⟩:=hx.num
 obtain ⟨t,n,j,g1,g2,g2',g3⟩:=hy.num
 show ∃ z,((Y0.read x).sum (Y0.read y)).map Y0.write = some z ∧ _
 rw [h1,g1]
 unfold Ieee.Datum.sum
 simp only
 rw [h3 _ (Int.min_le_left i j),g3 _ (Int.min_le_right i j),← Int.add_mul]
 refine ⟨_,rfl,?_⟩
 have hp:(0:Int) < 2 ^ (-1 - min i j).toNat:=Int.pow_pos (by omega)
 refine Zc3 (t:=(-1 - min i j).toNat) (by omega) ?_ (fun hn => ?_) hb
 ·rw [Int.natAbs_mul,Int.natAbs_pow]; rfl
 ·rw [if_neg (by intro h; rcases Int.mul_eq_zero.1 h with h | h <;> omega)]
  by_cases hlt:a + b < 0
  ·rw [QX hlt,QX (Int.mul_neg_of_neg_of_pos hlt hp)]
  ·rw [QN hlt,QN (by
    have:=Int.mul_nonneg (show 0 ≤ a + b by omega) (Int.le_of_lt hp)
    omega)]
theorem ZPk {x:Nat} {n:Int} (h:Val x n):∃ s m e,(Y0.read x).opposite = .number s m e ∧ e ≤ -1 ∧ ∀ (b:Int),b ≤ e → Ieee.signed s m (e - b).toNat = -n * 2 ^ (-1 - b).toNat:=by
 obtain ⟨s,m,e,h1,h2,_,h3⟩:=h.num
 refine ⟨!s,m,e,by rw [h1]; rfl,h2,fun b hb => ?_⟩
 have:=h3 b hb
 unfold Ieee.signed at this ⊢
 rw [Int.neg_mul,← this]
 cases s <;> simp
theorem ZPv {x y:Nat} {a b:Int} (hx:Val x a) (hy:Val y b) (hb:(a - b).natAbs < 9007199254740992):∃ z,floatBits .sub .f64 x y = some z ∧ Val z (a - b):=by
 obtain ⟨s,m,i,h1,h2,h2',h3⟩:=hx.num
 obtain ⟨t,n,j,g1,g2,g3⟩:=ZPk hy
 show ∃ z,((Y0.read x).sum (Y0.read y).opposite).map Y0.write = some z ∧ _
 rw [h1,g1]
 unfold Ieee.Datum.sum
 simp only
 rw [h3 _ (Int.min_le_left i j),g3 _ (Int.min_le_right i j),← Int.add_mul,← Int.sub_eq_add_neg]
 refine ⟨_,rfl,?_⟩
 have hp:(0:Int) < 2 ^ (-1 - min i j).toNat:=Int.pow_pos (by omega)
 refine Zc3 (t:=(-1 - min i j).toNat) (by omega) ?_ (fun hn => ?_) hb
 ·rw [Int.natAbs_mul,Int.natAbs_pow]; rfl
 ·rw [if_neg (by intro h; rcases Int.mul_eq_zero.1 h with h | h <;> omega)]
  by_cases hlt:a - b < 0
  ·rw [QX hlt,QX (Int.mul_neg_of_neg_of_pos hlt hp)]
  ·rw [QN hlt,QN (by
    have:=Int.mul_nonneg (show 0 ≤ a - b by omega) (Int.le_of_lt hp)
    omega)]
end Go.Sh
namespace Go.Sh
open Go Go.Proofs
theorem ZLq (s:Bool) (m:Nat):(Ieee.Datum.number s 0 (-1074)) = Ieee.Datum.number s ((0:Int).natAbs * m) (-((1074:Nat):Int)):=by
 rw [show (0:Int).natAbs * m = 0 from Nat.zero_mul m]
 rfl
theorem Val.nat {x:Nat} {n:Int} (h:Val x n):∃ (s:Bool) (t:Nat),Y0.read x = .number s (n.natAbs * 2 ^ (t - 1)) (-(t:Int)) ∧ 1 ≤ t ∧ (n ≠ 0 → s = decide (n < 0) ∧ (n.natAbs * 2 ^ (t - 1)).log2 = 52):=by
 obtain ⟨hb,⟨rfl,s,hr⟩ | ⟨hn,hr⟩⟩:=h
 ·exact ⟨s,1074,hr.trans (ZLq s _),by omega,fun h => absurd rfl h⟩
 ·have h0:n.natAbs ≠ 0:=by omega
  have hL:=ZjW h0 hb
  refine ⟨_,53 - n.natAbs.log2,hr.trans ?_,by omega,fun _ => ⟨rfl,?_⟩⟩
  ·rw [show 53 - n.natAbs.log2 - 1 = 52 - n.natAbs.log2 by omega]
   congr 1
   omega
  ·rw [YQ h0]; omega
theorem ZLs:Y0.read 4607182418800017408 = .number false 4503599627370496 (-52):=by decide
theorem ZLR:Y0.read 4611686018427387904 = .number false 4503599627370496 (-51):=by decide
theorem Zmc {x:Nat} {a:Int} (hx:Val x a):∃ z,floatBits .mul .f64 x 4607182418800017408 = some z ∧ Val z a:=by
 obtain ⟨s,t,hr,h1,hs⟩:=hx.nat
 show ∃ z,((Y0.read x).product (Y0.read 4607182418800017408)).map Y0.write = some z ∧ _
 rw [hr,ZLs]
 refine ⟨_,rfl,Zc3 (t:=t + 51) (by omega) ?_ (fun hn => by rw [(hs hn).1]; simp) hx.1⟩
 rw [Nat.mul_assoc,show (4503599627370496:Nat) = 2 ^ 52 from rfl,← Nat.pow_add]
 congr 2; omega
theorem ZLf {x:Nat} {c:Int} (hx:Val x (2 * c)):∃ z,floatBits .quo .f64 x 4611686018427387904 = some z ∧ Val z c:=by
 obtain ⟨s,t,hr,h1,hs⟩:=hx.nat
 show ∃ z,((Y0.read x).quotient 54 (Y0.read 4611686018427387904)).map Y0.write = some z ∧ _
 rw [hr,ZLR]
 unfold Ieee.Datum.quotient
 simp only
 rw [if_neg (by omega)]
 refine ⟨_,rfl,?_⟩
 have hb:=hx.1
 by_cases hn:c = 0
 ·subst hn
  simp only [Int.mul_zero,Int.natAbs_zero,Nat.zero_mul,Nat.zero_shiftLeft,Nat.zero_div,Nat.zero_mod]
  have e1:(4503599627370496:Nat).log2 = 52:=by decide
  have e2:(0:Nat).log2 = 0:=by decide
  rw [e1,e2]
  exact Zc3 (t:=t + 55) (by simp; omega) (by simp) (fun h => absurd rfl h) (by simp)
 ·obtain ⟨h2,h3⟩:=hs (by omega)
  rw [h3,show (4503599627370496:Nat).log2 = 52 from by decide,show 54 + 52 - 52 = 54 from rfl,Nat.shiftLeft_eq]
  have e0:(2 ^ 54:Nat) = 4 * 4503599627370496:=by decide
  rw [e0,← Nat.mul_assoc,Nat.mul_div_cancel _ (by omega),Nat.mul_mod_left]
  refine Zc3 (t:=t + 3) (by omega) ?_ (fun _ => ?_) (by omega)
  ·have e1:(2 * c).natAbs = 2 * c.natAbs:=by omega
   rw [e1]
   have e2:2 ^ (t + 3) = 2 ^ (t - 1) * 16:=by rw [show t + 3 = (t - 1) + 4 by omega,Nat.pow_add]
   rw [e2]
   simp
   rw [← Nat.mul_assoc]
   generalize 2 ^ (t - 1) = P
   rw [Nat.mul_assoc 2 c.natAbs P,← Nat.mul_assoc c.natAbs P 16]
   generalize c.natAbs * P = Q
   omega
  ·rw [h2]
   by_cases hlt:c < 0
   ·rw [QX hlt,QX (by omega)]; rfl
   ·rw [QN hlt,QN (by omega)]; rfl
theorem Zmi {s:Bool} {q:Nat} {n:Int} (hq:q = n.natAbs) (hs:n ≠ 0 → s = decide (n < 0)) (hb:n.natAbs < 4503599627370496):Val (Y0.write (.number s q 0)) (2 * n):=by
 subst hq
 refine ⟨by omega,?_⟩
 show _ ∨ (_ ∧ Y0.read (Y0.nearest s n.natAbs 0) = _)
 by_cases hn:n = 0
 ·left
  refine ⟨by omega,s,?_⟩
  show Y0.read (Y0.nearest s n.natAbs 0) = _
  subst hn
  unfold Ieee.Format.nearest
  rw [if_pos (by rfl)]
  exact Ztd s
 ·right
  refine ⟨by omega,?_⟩
  rw [Zg4 _ (by omega) hb,hs hn]
  have e1:(2 * n).natAbs = 2 * n.natAbs:=by omega
  have e2:decide (2 * n < 0) = decide (n < 0):=by by_cases h:n < 0 <;> simp [h] <;> omega
  rw [e1,e2]
theorem Zkw {s:Bool} {a t:Nat} (way:Ieee.Toward) (hway:way = .down ∨ way = .zero) (ht:1 ≤ t) (hl:a ≠ 0 → (a * 2 ^ (t - 1)).log2 = 52) (ht':a ≠ 0 → t ≤ 53) :
  way.cut s (a * 2 ^ (t - 1)) t = a / 2 + (if way = .down then (s && decide (a % 2 ≠ 0)).toNat else 0):=by
 by_cases h0:a = 0
 ·subst h0
  rcases hway with rfl | rfl <;> simp [Ieee.Toward.cut]
 ·unfold Ieee.Toward.cut
  have h1:=hl h0
  have h2:=ht' h0
  simp only [Nat.min_eq_left (show t ≤ (a * 2 ^ (t - 1)).log2 + 2 by omega),Nat.one_shiftLeft]
  have hp:0 < 2 ^ (t - 1):=Nat.pow_pos (by omega)
  have e1:2 ^ t = 2 * 2 ^ (t - 1):=by rw [show t = (t - 1) + 1 by omega,Nat.pow_succ,Nat.add_sub_cancel]; omega
  rw [e1,Nat.mul_div_mul_right _ _ hp,Nat.mul_mod_mul_right]
  have e2:(a % 2 * 2 ^ (t - 1) != 0) = decide (a % 2 ≠ 0):=by
   have:a % 2 < 2:=Nat.mod_lt _ (by omega)
   generalize a % 2 = b at this
   match b,this with
   | 0,_ => simp
   | 1,_ => simp [bne]
  rcases hway with rfl | rfl
  ·simp [e2]
  ·simp
theorem ZwE {x:Nat} {n:Int} {s:Bool} {t:Nat} (h:n.natAbs ≠ 0) (ht:1 ≤ t) (hl:(n.natAbs * 2 ^ (t - 1)).log2 = 52):t ≤ 53:=by
 rw [YQ h] at hl; omega
theorem ZGk {x:Nat} {n:Int} (hx:Val x n) (hb:n.natAbs < 4503599627370496):∃ z,WP .down x = some z ∧ Val z (2 * (n / 2)):=by
 obtain ⟨s,t,hr,h1,hs⟩:=hx.nat
 unfold WP
 have hd:FloatKind.f64.decode x = .number s (n.natAbs * 2 ^ (t - 1)) (-(t:Int)):=hr
 rw [hd]
 refine ⟨_,rfl,?_⟩
 show Val (Y0.write (Ieee.Datum.integral .down (.number s (n.natAbs * 2 ^ (t - 1)) (-(t:Int))))) _
 unfold Ieee.Datum.integral
 simp only [Int.neg_neg,QS,show (-(t:Int)).toNat = 0 by omega,Nat.shiftLeft_zero]
 rw [Zkw .down (.inl rfl) h1 (fun h => (hs (by omega)).2) (fun h => ZwE (x:=x) (s:=s) h h1 (hs (by omega)).2),if_pos rfl]
 refine Zmi ?_ (fun hne => ?_) (by omega)
 ·by_cases h0:n = 0
  ·subst h0; simp
  ·rw [(hs h0).1]
   by_cases hlt:n < 0
   ·rw [QX hlt]
    by_cases ho:n.natAbs % 2 = 0
    ·simp [ho]; omega
    ·simp [ho]; omega
   ·rw [QN hlt]; simp; omega
 ·have h0:n ≠ 0:=by omega
  rw [(hs h0).1]
  by_cases hlt:n < 0
  ·rw [QX hlt,QX (by omega)]
  ·rw [QN hlt,QN (by omega)]
theorem ZGM {x:Nat} {v:Int} (hx:Val x (2 * v)) (hb:v.natAbs < 1125899906842624):∃ z,WP .zero x = some z ∧ Val z (2 * v):=by
 obtain ⟨s,t,hr,h1,hs⟩:=hx.nat
 unfold WP
 have hd:FloatKind.f64.decode x = .number s ((2 * v).natAbs * 2 ^ (t - 1)) (-(t:Int)):=hr
 rw [hd]
 refine ⟨_,rfl,?_⟩
 show Val (Y0.write (Ieee.Datum.integral .zero (.number s ((2 * v).natAbs * 2 ^ (t - 1)) (-(t:Int))))) _
 unfold Ieee.Datum.integral
 simp only [Int.neg_neg,QS,show (-(t:Int)).toNat = 0 by omega,Nat.shiftLeft_zero]
 rw [Zkw .zero (.inr rfl) h1 (fun h => (hs (by omega)).2) (fun h => ZwE (x:=x) (s:=s) h h1 (hs (by omega)).2),if_neg (by decide)]
 refine Zmi (by omega) (fun hne => ?_) (by omega)
 rw [(hs (by omega)).1]
 by_cases hlt:v < 0
 ·rw [QX hlt,QX (by omega)]
 ·rw [QN hlt,QN (by omega)]
theorem Zbi {x:Nat} {v:Int} (hx:Val x (2 * v)) (hb:v.natAbs < 1125899906842624):floatToIntVal .f64 x .i64 = some v:=by
 obtain ⟨s,t,hr,h1,hs⟩:=hx.nat
 unfold floatToIntVal
 have hd:FloatKind.f64.decode x = .number s ((2 * v).natAbs * 2 ^ (t - 1)) (-(t:Int)):=hr
 rw [hd]
 have:Ieee.Datum.toInt .zero (.number s ((2 * v).natAbs * 2 ^ (t - 1)) (-(t:Int))) = some v:=by
  unfold Ieee.Datum.toInt Ieee.Datum.integral
  simp only [Int.neg_neg,QS,show (-(t:Int)).toNat = 0 by omega,Nat.shiftLeft_zero]
  rw [Zkw .zero (.inr rfl) h1 (fun h => (hs (by omega)).2) (fun h => ZwE (x:=x) (s:=s) h h1 (hs (by omega)).2),if_neg (by decide)]
  unfold Ieee.signed
  simp only [Nat.shiftLeft_zero,Nat.add_zero]
  by_cases h0:v = 0
  ·subst h0; simp
  ·rw [(hs (by omega)).1]
   by_cases hlt:v < 0
   ·rw [QX (by omega),if_pos rfl]; congr 1; omega
   ·rw [QN (by omega),if_neg (by simp)]; congr 1; omega
 rw [this]
 simp only
 rw [if_pos]
 simp only [IntKind.min,IntKind.max,IntKind.signed,IntKind.bits]
 constructor <;> simp <;> omega
theorem ZLB (x:Nat):Y0.read (x % 9223372036854775808) = match Y0.read x with | .number _ m e => .number false m e | .infinity _ => .infinity false | .nan _ f => .nan false f:=by
 unfold Ieee.Format.read
 simp only [Zih,Zho,ZtP,Zkx]
 have e1:x % 9223372036854775808 / 9223372036854775808 = 0:=Nat.div_eq_of_lt (Nat.mod_lt _ (by omega))
 rw [e1,Nat.mod_mod]
 split
 ·rfl
 ·split
  ·rfl
  ·split <;> rfl
theorem Zty {x:Nat} {n:Int} (hx:Val x n):Val (x % 9223372036854775808) (n.natAbs:Int):=by
 obtain ⟨hb,h⟩:=hx
 refine ⟨by simpa using hb,?_⟩
 rw [ZLB]
 rcases h with ⟨rfl,s,hr⟩ | ⟨hn,hr⟩
 ·left
  rw [hr]
  exact ⟨rfl,false,rfl⟩
 ·right
  rw [hr]
  refine ⟨by omega,?_⟩
  simp only [Int.natAbs_natCast]
  rw [QN (by omega)]
theorem ZoQ (k x:Nat):Zd9 k (x,()) = some (x % 9223372036854775808,()):=by
 show Zf1 k _ = _
 simp only [Zf1]
 congr 2
 have e1:BitVec.ofInt 64 (Int.ofNat x) &&& ~~~BitVec.ofInt 64 (9223372036854775808:Int) = BitVec.ofNat 64 (x % 9223372036854775808):=by
  apply BitVec.eq_of_getLsbD_eq
  intro i hi
  have h1:BitVec.ofInt 64 (Int.ofNat x) = BitVec.ofNat 64 x:=BitVec.ofInt_natCast ..
  have h2:BitVec.ofInt 64 (9223372036854775808:Int) = BitVec.twoPow 64 63:=by decide
  rw [h1,h2]
  simp only [BitVec.getLsbD_and,BitVec.getLsbD_not,BitVec.getLsbD_ofNat,BitVec.getLsbD_twoPow,show (9223372036854775808:Nat) = 2 ^ 63 from rfl,Nat.testBit_mod_two_pow]
  by_cases h63:i = 63
  ·subst h63; simp
  ·simp [hi,show i < 63 by omega]
   omega
 rw [e1,BitVec.toNat_ofNat]
 have:x % 9223372036854775808 < 9223372036854775808:=Nat.mod_lt _ (by omega)
 rw [Nat.mod_eq_of_lt (by omega)]
 show (IntKind.u64.wrap ((x % 9223372036854775808:Nat):Int)).toNat = _
 rw [Zq7 (by omega),QS]
end Go.Sh
namespace Go.Sh
open Go Go.Proofs
def Z0 (n:Int):Prop := -16777216 ≤ n ∧ n ≤ 16777216
def PV2 (p:Nat × Nat) (l r:Int):Prop:=Val p.1 (2 * l) ∧ Val p.2 (2 * r) ∧ Z0 l ∧ Z0 r
structure PP (p:List (Nat × Nat)) (L R:List Int):Prop where
 hl:p.length = L.length
 hr:p.length = R.length
 at_:∀ i (h:i < p.length),PV2 p[i] (L[i]'(hl ▸ h)) (R[i]'(hr ▸ h))
def ZeW (L R:List Int):List (Nat × Nat):=(L.zip R).map fun x => (FloatKind.f64.nearest x.1,FloatKind.f64.nearest x.2)
theorem Zzx {L R:List Int} (h:L.length = R.length) (hL:∀ x ∈ L,Z0 x) (hR:∀ x ∈ R,Z0 x):PP (ZeW L R) L R where
 hl:=by simp [ZeW,h]
 hr:=by simp [ZeW,h]
 at_:=fun i hi => by
  simp only [ZeW,List.length_map,List.length_zip] at hi
  have h1:=hL L[i] (List.getElem_mem (by omega))
  have h2:=hR R[i] (List.getElem_mem (by omega))
  simp only [ZeW,List.getElem_map,List.getElem_zip]
  exact ⟨Zmd _ (by unfold Z0 at h1; omega),Zmd _ (by unfold Z0 at h2; omega),h1,h2⟩
theorem ZKm (k:Nat) {L R:List Int} (hk:L.length < k) (h:L.length = R.length) (hn:L.length ≤ 8192) (hL:∀ x ∈ L,Z0 x) (hR:∀ x ∈ R,Z0 x) :
  ZpP k (L,R,()) = some ((ZeW L R,0,()),()):=by
 show Zcz k (ZpQ k) _ = _
 simp only [Zcz]
 rw [show (Int.ofNat L.length != Int.ofNat R.length) = false from by rw [h]; simp]
 simp only [cond_false]
 rw [Zi (by simp only [Qh]; omega)]
 have:=Zu (A:=List (Nat × Nat)) (step:=fun L1 => KG k L1) (fun i acc => (Int.ofNat L.length,Int.ofNat i,L,R,acc)) (L.zip R)
  (fun l acc => some ((acc ++ l.map (fun x => (FloatKind.f64.nearest x.1,FloatKind.f64.nearest x.2)),0,()),())) (fun i acc => acc.length = i)
  (fun L1 acc ha => by
   simp only [KG]
   rw [List.length_zip,← h,Nat.min_self,Zi (QV _)]
   simp)
  (fun L1 i hi acc ha hL1 => by
   have hi2:i < L.length:=by simp at hi; omega
   have hi3:i < R.length:=by omega
   have b1:=hL L[i] (List.getElem_mem hi2)
   have b2:=hR R[i] (List.getElem_mem hi3)
   unfold Z0 at b1 b2
   simp only [KG]
   rw [Zb (KU hi2),Zb (Xx hi2),Zb (Xx hi3),ZK hi2,ZK hi3]
   rw [Zi (by omega),Zi (by omega),Zi (by omega),Zi (by omega),Zb (by simp; omega),Qq hi2 (by omega)]
   rw [hL1 _ (by simp [ha])]
   simp) k 0 [] rfl (by simp; omega) (Nat.zero_le _)
 exact Eq.trans this (by rw [List.drop_zero]; rfl)
theorem Zox (k:Nat) {x y:Nat} {a b:Int} (hx:Val x a) (hy:Val y b) (hb:(a - b).natAbs < 9007199254740992) (hb2:(a + b).natAbs < 9007199254740992):∃ z,Zhq k ((x,y),()) = some (z,()) ∧ Val z (a - b):=by
 show ∃ z,Zfo k _ = _ ∧ _
 simp only [Zfo]
 unfold cMulBits
 obtain ⟨z1,e1,v1⟩:=Zmc hx
 obtain ⟨z2,e2,v2⟩:=Zmc hy
 obtain ⟨z3,e3,v3⟩:=ZPv v1 v2 hb
 obtain ⟨z4,e4,v4⟩:=ZCm v1 v2 hb2
 refine ⟨z3,?_,v3⟩
 simp only [e1,e2,e3,e4,Qb]
theorem ZHo (k:Nat) {x:Nat} {n:Int} (hx:Val x n) (hb:n.natAbs < 4503599627370496):∃ z,Zoy k (x,()) = some (z,()) ∧ Val z (2 * (n / 2)):=by
 obtain ⟨z,e,v⟩:=ZGk hx hb
 refine ⟨z,?_,v⟩
 show Zfp k _ = _
 simp only [Zfp,e,Qb]
theorem ZxQ (k:Nat) {x:Nat} {v:Int} (hx:Val x (2 * v)) (hb:v.natAbs < 1125899906842624):∃ z,Zd8 k (x,()) = some (z,()) ∧ Val z (2 * v):=by
 obtain ⟨z,e,w⟩:=ZGM hx hb
 refine ⟨z,?_,w⟩
 show ZfZ k _ = _
 simp only [ZfZ,e,Qb]
theorem ZLn:Y0.read 9218868437227405311 = .number false 9007199254740991 971:=by decide
theorem ZPg {x:Nat} {n:Int} (hx:Val x n) (h0:0 ≤ n):(FloatKind.f64.format.order x 9218868437227405311 == some Ordering.gt) = false:=by
 obtain ⟨s,m,i,h1,h2,h2',h3⟩:=hx.num
 have:FloatKind.f64.format.order x 9218868437227405311 = some Ordering.lt:=by
  show (Y0.read x).order (Y0.read 9218868437227405311) = _
  rw [h1,ZLn]
  unfold Ieee.Datum.order
  simp only
  have hmin:min i 971 = i:=by omega
  rw [hmin,h3 i (Int.le_refl _)]
  congr 1
  rw [Int.compare_eq_lt]
  unfold Ieee.signed
  simp only [Bool.false_eq_true,if_false]
  rw [Nat.shiftLeft_eq,Int.natCast_mul]
  have hp:(0:Int) < 2 ^ (-1 - i).toNat:=Int.pow_pos (by omega)
  obtain ⟨d,hd,hd1⟩:∃ d:Nat,(971 - i).toNat = (-1 - i).toNat + d ∧ d ≠ 0:=⟨972,by omega,by omega⟩
  have hq:(((2 ^ (971 - i).toNat:Nat):Int)) = 2 ^ (-1 - i).toNat * ((2 ^ d:Nat):Int):=by
   rw [hd,Nat.pow_add,Int.natCast_mul,Int.natCast_pow]; rfl
  rw [hq]
  have hb:=hx.1
  have hQ:1 < 2 ^ d:=Nat.one_lt_two_pow hd1
  have e1:n * 2 ^ (-1 - i).toNat ≤ 9007199254740991 * 2 ^ (-1 - i).toNat:=Int.mul_le_mul_of_nonneg_right (by omega) (Int.le_of_lt hp)
  generalize hP:(2:Int) ^ (-1 - i).toNat = P at hp e1
  generalize 2 ^ d = Q at hQ
  have e2:P * 1 < P * (Q:Int):=Int.mul_lt_mul_of_pos_left (by omega) hp
  have e3:(9007199254740991:Int) * P < 9007199254740991 * (P * (Q:Int)):=Int.mul_lt_mul_of_pos_left (by omega) (by omega)
  show _ < ((9007199254740991:Nat):Int) * (P * (Q:Int))
  omega
 rw [this]; rfl
theorem ZxS (k:Nat) {x:Nat} {n:Int} (hx:Val x n):ZkS k (x,0,()) = some (false,()):=by
 show Zf0 k _ = _
 simp only [Zf0]
 rw [show ((0:Int) == (0:Int)) = true from rfl]
 simp only [cond_true,ZoQ,Qb]
 rw [ZPg (Zty hx) (by omega)]
theorem ZO1:Val 4715268809856909312 33554432:=by
 refine ⟨by decide,.inr ⟨by decide,by decide⟩⟩
theorem ZPc {x y:Nat} {a b:Int} (hx:Val x a) (hy:Val y b):∃ z,ZzA .f64 x y = some z ∧ Val z (max a b):=by
 unfold ZzA
 rw [ZlB hx hy]
 rcases Int.lt_trichotomy a b with h | h | h
 ·rw [Int.compare_eq_lt.2 h]; exact ⟨y,rfl,by rw [Int.max_eq_right (by omega)]; exact hy⟩
 ·subst h
  have:compare a a = Ordering.eq:=by simp
  rw [this]
  refine ⟨_,rfl,?_⟩
  rw [Int.max_self]
  split
  ·exact hy
  ·exact hx
 ·rw [Int.compare_eq_gt.2 h]; exact ⟨x,rfl,by rw [Int.max_eq_left (by omega)]; exact hx⟩
theorem ZzC {x y:Nat} {a:Int} (hx:Val x a) (hy:Val y a):(FloatKind.f64.format.order x y != some Ordering.eq) = false:=by
 rw [ZlB hx hy]; simp
theorem ZGy {x:Nat} {a:Int} (hx:Val x a) (h:a ≤ 33554432):(FloatKind.f64.format.order x 4715268809856909312 == some Ordering.gt) = false:=by
 rw [ZlB hx ZO1]
 have:compare a 33554432 ≠ Ordering.gt:=by
  intro h2
  have:=Int.compare_eq_gt.1 h2
  omega
 cases hc:compare a 33554432 <;> first | rfl | exact absurd hc this
theorem ZAr (k:Nat) (hk:4 < k) (L1:Int × Int × List (Nat × Nat) × List (Nat × Nat) → Option (Int × Unit)) {x y:Nat} {l r:Int} (h:PV2 (x,y) l r) (v3 v4:Int) (v5 v6:List (Nat × Nat)) :
  Zij k L1 (0,x,y,v3,v4,v5,v6) = L1 (v4,IntKind.i64.wrap (v3 + 1),v5,v6):=by
 obtain ⟨hx,hy,b1,b2⟩:=h
 unfold Z0 at b1 b2
 obtain ⟨k,rfl⟩:∃ m,k = m + 3:=⟨k - 3,by omega⟩
 obtain ⟨z1,e1,w1⟩:=ZxQ (k + 3) hx (by omega)
 obtain ⟨z2,e2,w2⟩:=ZxQ (k + 3) hy (by omega)
 show Zm (fun L2 => Y4 (k + 3) L1 L2) (k + 3) _ = _
 rw [Zd]
 simp only [Y4]
 rw [Zb (by omega),Zb (by omega)]
 show ((Zd8 (k + 3) (x,())).bind _) = _
 rw [e1]
 simp only [Qb]
 rw [show [x,y].getD (0:Int).toNat (0:Nat) = x from rfl,ZzC w1 hx]
 simp only [cond_false]
 rw [ZxS _ hx]
 simp only [Qb,cond_false]
 rw [show IntKind.i64.wrap ((0:Int) + 1) = 1 from by rw [ZQ (by omega)]; rfl,Zd]
 simp only [Y4]
 rw [Zb (by omega),Zb (by omega)]
 show ((Zd8 (k + 3) (y,())).bind _) = _
 rw [e2]
 simp only [Qb]
 rw [show [x,y].getD (1:Int).toNat (0:Nat) = y from rfl,ZzC w2 hy]
 simp only [cond_false]
 rw [ZxS _ hy]
 simp only [Qb,cond_false]
 rw [show IntKind.i64.wrap ((1:Int) + 1) = 2 from by rw [ZQ (by omega)]; rfl,Zd]
 simp only [Y4]
 rw [Zi (by omega)]
theorem ZEq (k:Nat) {p:List (Nat × Nat)} {L R:List Int} (hp:PP p L R) (hk:p.length + 4 < k) (hn:p.length ≤ 8192):Zow k (p,()) = some (0,()):=by
 show Zfn k (Zmv k) _ = _
 simp only [Zfn]
 rw [Zi (by simp only [Qh]; omega)]
 have h3:Zik k (Int.ofNat p.length,(0:Int),p) = some (0,()):=by
  have:=XY (A:=Unit) (step:=fun L3 => ZbR k L3) (fun i _ => (Int.ofNat p.length,Int.ofNat i,p)) p (fun _ _ => some (0,()))
   (fun L _ => by simp only [ZbR]; rw [Zi (QV _)])
   (fun L i hi _ hL => by
    obtain ⟨hx,hy,b1,b2⟩:=hp.at_ i hi
    unfold Z0 at b1 b2
    simp only [ZbR]
    rw [Zb (KU hi),Zb (Xx hi),ZK hi,ZoQ,ZoQ]
    simp only [Qb]
    obtain ⟨z,e,w⟩:=ZPc (Zty hx) (Zty hy)
    rw [e]
    simp only [Qb]
    rw [ZGy w (by omega)]
    simp only [cond_false]
    rw [Qq hi (by omega),hL ()]) k 0 () (by omega) (Nat.zero_le _)
  exact this
 have:=XY (A:=Unit) (step:=fun L1 => ZbQ k (Zij k L1) (Zik k) L1) (fun i _ => (Int.ofNat p.length,Int.ofNat i,p,p)) p (fun _ _ => some (0,()))
  (fun L _ => by simp only [ZbQ]; rw [Zi (QV _)]; exact h3)
  (fun L i hi _ hL => by
   simp only [ZbQ]
   rw [Zb (KU hi),Zb (Xx hi),ZK hi]
   rw [ZAr k (by omega) L (x:=p[i].1) (y:=p[i].2) (hp.at_ i hi),Qq hi (by omega),hL ()]) k 0 () (by omega) (Nat.zero_le _)
 exact this
def apA (m l r:Int):Int:=if m = 9 then l - r else if m = 10 then (l + r) / 2 else l
def apB (m l r:Int):Int:=if m = 8 then l - r else if m = 10 then l - r else r
def ZjU (m:Int):Prop:=m = 0 ∨ m = 8 ∨ m = 9 ∨ m = 10
def XA (m:Int) (L R:List Int):List Int:=(L.zip R).map fun x => apA m x.1 x.2
def XB (m:Int) (L R:List Int):List Int:=(L.zip R).map fun x => apB m x.1 x.2
theorem Zzh (k:Nat) {m:Int} (h:ZjU m):ZsQ k (m,()) = some (true,()):=by
 rcases h with rfl | rfl | rfl | rfl <;> rfl
theorem ZpU (k:Nat) {p:List (Nat × Nat)} {L R:List Int} (hp:PP p L R) (hk:p.length + 4 < k) (hn:p.length ≤ 8192) {m:Int} (hm:ZjU m) :
  ZpS k (p,m,()) = some ((XA m L R,XB m L R,0,()),()):=by
 show Zjj k (ZvA k) _ = _
 simp only [Zjj]
 rw [Zzh k hm]
 simp only [Qb,Bool.not_true,cond_false]
 rw [ZEq k hp hk hn]
 simp only [Qb]
 rw [show ((0:Int) != (0:Int)) = false from rfl]
 simp only [cond_false]
 have hl:=hp.hl
 have hr:=hp.hr
 have:=Zu (A:=List Int × List Int) (step:=fun L1 => Zey k L1) (fun i a => (Int.ofNat p.length,Int.ofNat i,p,m,a.1,a.2)) (L.zip R)
  (fun l a => some ((a.1 ++ l.map (fun x => apA m x.1 x.2),a.2 ++ l.map (fun x => apB m x.1 x.2),0,()),())) (fun i a => a.1.length = i ∧ a.2.length = i)
  (fun L1 a ha => by
   simp only [Zey]
   rw [List.length_zip,← hl,← hr,Nat.min_self,Zi (QV _)]
   simp)
  (fun L1 i hi a ha hL1 => by
   have hi2:i < p.length:=by simp at hi; omega
   obtain ⟨hx,hy,b1,b2⟩:=hp.at_ i hi2
   unfold Z0 at b1 b2
   simp only [Zey]
   rw [Zb (KU hi2),Zb (Xx hi2),ZK hi2]
   have s1:(a.1.length + [(0:Int)].length < 2147483648):=by simp; omega
   have s2:(a.2.length + [(0:Int)].length < 2147483648):=by simp; omega
   have hz:(L.zip R)[i] = (L[i]'(by omega),R[i]'(by omega)):=by simp
   rw [hz]
   have fin:∀ (u v:Int),u = apA m (L[i]'(by omega)) (R[i]'(by omega)) → v = apB m (L[i]'(by omega)) (R[i]'(by omega)) →
     L1 (Int.ofNat p.length,IntKind.i64.wrap (Int.ofNat i + 1),p,m,a.1 ++ [u],a.2 ++ [v]) = some ((a.1 ++ List.map (fun x => apA m x.1 x.2) ((L[i]'(by omega),R[i]'(by omega)) :: List.drop (i + 1) (L.zip R)),a.2 ++ List.map (fun x => apB m x.1 x.2) ((L[i]'(by omega),R[i]'(by omega)) :: List.drop (i + 1) (L.zip R)),0,()),()):=by
    intro u v hu hv
    rw [Qq hi2 (by omega)]
    have:=hL1 (a.1 ++ [u],a.2 ++ [v]) ⟨by simp [ha.1],by simp [ha.2]⟩
    simp only at this
    rw [this,hu,hv]
    simp
   rcases hm with rfl | rfl | rfl | rfl
   ·rw [show ((0:Int) == (8:Int)) = false from rfl,show ((0:Int) == (9:Int)) = false from rfl,show ((0:Int) == (10:Int)) = false from rfl]
    simp only [cond_false]
    rw [Zbi hx (by omega)]
    simp only [Qb]
    rw [Zb (by simp; omega),Zbi hy (by omega)]
    simp only [Qb]
    rw [Zb (by simp; omega)]
    exact fin _ _ rfl rfl
   ·rw [show ((8:Int) == (8:Int)) = true from rfl]
    simp only [cond_true]
    obtain ⟨z,e,w⟩:=Zox k hx hy (by omega) (by omega)
    rw [← Int.mul_sub] at w
    rw [e]
    simp only [Qb]
    rw [Zbi hx (by omega)]
    simp only [Qb]
    rw [Zb (by simp; omega),Zbi w (by omega)]
    simp only [Qb]
    rw [Zb (by simp; omega)]
    exact fin _ _ rfl rfl
   ·rw [show ((9:Int) == (8:Int)) = false from rfl,show ((9:Int) == (9:Int)) = true from rfl]
    simp only [cond_true,cond_false]
    obtain ⟨z,e,w⟩:=Zox k hx hy (by omega) (by omega)
    rw [← Int.mul_sub] at w
    rw [e]
    simp only [Qb]
    rw [Zbi w (by omega)]
    simp only [Qb]
    rw [Zb (by simp; omega),Zbi hy (by omega)]
    simp only [Qb]
    rw [Zb (by simp; omega)]
    exact fin _ _ rfl rfl
   ·rw [show ((10:Int) == (8:Int)) = false from rfl,show ((10:Int) == (9:Int)) = false from rfl,show ((10:Int) == (10:Int)) = true from rfl]
    simp only [cond_true,cond_false]
    obtain ⟨z1,e1,w1⟩:=ZCm hx hy (by omega)
    rw [← Int.mul_add] at w1
    obtain ⟨z2,e2,w2⟩:=ZLf w1
    obtain ⟨z3,e3,w3⟩:=ZHo k w2 (by omega)
    obtain ⟨z,e,w⟩:=Zox k hx hy (by omega) (by omega)
    rw [← Int.mul_sub] at w
    rw [e1]
    simp only [Qb]
    rw [e2]
    simp only [Qb]
    rw [e3]
    simp only [Qb]
    rw [e]
    simp only [Qb]
    rw [Zbi w3 (by omega)]
    simp only [Qb]
    rw [Zb (by simp; omega),Zbi w (by omega)]
    simp only [Qb]
    rw [Zb (by simp; omega)]
    exact fin _ _ rfl rfl) k 0 ([],[]) ⟨rfl,rfl⟩ (by simp; omega) (Nat.zero_le _)
 exact Eq.trans this (by rw [List.drop_zero]; rfl)
end Go.Sh
namespace Go.Sh
open Go Go.Proofs
theorem ZzM (x:Int) {w:Nat} (hw:0 < w):WU x w = (x.fdiv (2 ^ (w - 1)) == 0 || x.fdiv (2 ^ (w - 1)) == -1):=by
 rw [Bool.eq_iff_iff]
 constructor
 ·intro h
  rcases Zzj hw h with h | h
  ·rw [h]; rfl
  ·rw [h]; rfl
 ·intro h
  unfold WU
  rw [if_neg (by omega),decide_eq_true_eq]
  have hp:(0:Int) < 2 ^ (w - 1):=Int.pow_pos (by omega)
  rw [Int.fdiv_eq_ediv_of_nonneg _ (by omega)] at h
  have h1:=Int.mul_ediv_add_emod x (2 ^ (w - 1))
  have h2:=Int.emod_nonneg x (show (2:Int) ^ (w - 1) ≠ 0 by omega)
  have h3:=Int.emod_lt_of_pos x hp
  simp only [Bool.or_eq_true,beq_iff_eq] at h
  generalize (2:Int) ^ (w - 1) = P at *
  rcases h with h | h
  ·rw [h] at h1; constructor <;> omega
  ·rw [h] at h1; constructor <;> omega
def Zfb:List Int → Int → Int → Int
 | [],n,_ => n
 | x :: l,n,last => Zfb l (n + ((x - last).natAbs:Int)) x
def Ki (l:List Int):Int:=Zfb l 0 0
def Qk (n:Int):Prop := -67108864 ≤ n ∧ n ≤ 67108864
theorem Zzi (k:Nat) (l:List Int) (hk:l.length < k) (hn:l.length ≤ 8192) (hl:∀ x ∈ l,Qk x):ZsR k (l,()) = some (Ki l,()):=by
 show ZjO k (Zwa k) _ = _
 simp only [ZjO]
 have:=Zu (A:=Int × Int) (step:=fun L1 => ZeP k L1) (fun i a => (Int.ofNat l.length,Int.ofNat i,l,a.1,a.2)) l
  (fun l' a => some (Zfb l' a.1 a.2,())) (fun i a => 0 ≤ a.1 ∧ a.1 ≤ (i:Int) * 268435456 ∧ Qk a.2)
  (fun L a _ => by simp only [ZeP]; rw [Zi (QV _)]; rfl)
  (fun L i hi a ha hL => by
   have hx:=hl _ (List.getElem_mem hi)
   unfold Qk at hx ha
   simp only [ZeP]
   rw [Zb (KU hi),Zb (Xx hi),ZK hi,Qq hi (by omega)]
   have e1:IntKind.i64.wrap (l[i] - a.2) = l[i] - a.2:=ZQ (by omega)
   have e2:IntKind.i64.wrap (a.2 - l[i]) = a.2 - l[i]:=ZQ (by omega)
   rw [e1,e2]
   have e3:(if l[i] - a.2 < a.2 - l[i] then a.2 - l[i] else l[i] - a.2) = (((l[i] - a.2).natAbs:Nat):Int):=by split <;> omega
   rw [e3]
   have hi':(i:Int) ≤ 8192:=by omega
   have e4:IntKind.i64.wrap (a.1 + (((l[i] - a.2).natAbs:Nat):Int)) = a.1 + (((l[i] - a.2).natAbs:Nat):Int):=ZQ (by omega)
   rw [e4,hL (a.1 + (((l[i] - a.2).natAbs:Nat):Int),l[i]) ⟨by omega,by push_cast; omega,hx⟩]
   rfl) k 0 (0,0) ⟨by omega,by omega,by unfold Qk; omega⟩ (by omega) (Nat.zero_le _)
 exact this
theorem Zj7:∀ (l:List Int) (n last:Int),(∀ x ∈ l,Qk x) → Qk last → n ≤ Zfb l n last ∧ Zfb l n last ≤ n + (l.length:Int) * 134217728
 | [],n,last,_,_ => by simp [Zfb]
 | x :: l,n,last,h,hb => by
  have hx:=h x (List.mem_cons_self ..)
  have:=Zj7 l (n + ((x - last).natAbs:Int)) x (fun y hy => h y (List.mem_cons_of_mem _ hy)) hx
  unfold Qk at hx hb
  simp only [Zfb,List.length_cons]
  push_cast
  omega
theorem Zak {l:List Int} (h:∀ x ∈ l,Qk x) (hn:l.length ≤ 8192):0 ≤ Ki l ∧ Ki l ≤ 1099511627776:=by
 have:=Zj7 l 0 0 h (by unfold Qk; omega)
 unfold Ki
 omega
theorem ZwR {m l r:Int} (hl:Z0 l) (hr:Z0 r):Qk (apA m l r) ∧ Qk (apB m l r):=by
 unfold Z0 at hl hr
 unfold Qk apA apB
 constructor
 ·split
  ·omega
  ·split <;> omega
 ·split
  ·omega
  ·split <;> omega
theorem ZdR {m:Int} {L R:List Int} (hL:∀ x ∈ L,Z0 x) (hR:∀ x ∈ R,Z0 x):(∀ x ∈ XA m L R,Qk x) ∧ (∀ x ∈ XB m L R,Qk x):=by
 constructor
 ·intro x hx
  obtain ⟨⟨l,r⟩,h,rfl⟩:=List.mem_map.1 hx
  exact (ZwR (hL _ (List.of_mem_zip h).1) (hR _ (List.of_mem_zip h).2)).1
 ·intro x hx
  obtain ⟨⟨l,r⟩,h,rfl⟩:=List.mem_map.1 hx
  exact (ZwR (hL _ (List.of_mem_zip h).1) (hR _ (List.of_mem_zip h).2)).2
theorem ZbN {m:Int} {L R:List Int} (h:L.length = R.length):(XA m L R).length = L.length ∧ (XB m L R).length = L.length:=by
 unfold XA XB
 simp [h]
def Zig (L R:List Int) (m:Int):Int:=Ki (XA m L R) + Ki (XB m L R)
def Yy (L R:List Int) (b:Int × Int) (m:Int):Int × Int:=if b.1 < 0 ∨ Zig L R m < b.1 then (Zig L R m,m) else b
def ZU (L R:List Int):Int:=(Yy L R (Yy L R (Yy L R (Yy L R (-1,0) 0) 8) 9) 10).2
theorem Zj1 {L R:List Int} {b:Int × Int} {m:Int} (hb:ZjU b.2) (hm:ZjU m):ZjU (Yy L R b m).2:=by
 unfold Yy; split
 ·exact hm
 ·exact hb
theorem Zhl (L R:List Int):ZjU (ZU L R):=by
 unfold ZU
 exact Zj1 (Zj1 (Zj1 (Zj1 (.inl rfl) (.inl rfl)) (.inr (.inl rfl))) (.inr (.inr (.inl rfl)))) (.inr (.inr (.inr rfl)))
theorem Zji (k:Nat) (L1:Int × Int × Int × Int × Int × List (Nat × Nat) × Int × Int → Option ((Int × Int × Unit) × Unit)) {p:List (Nat × Nat)} {L R:List Int} (hp:PP p L R) (hLR:L.length = R.length) (hL:∀ x ∈ L,Z0 x) (hR:∀ x ∈ R,Z0 x)
  (hk:p.length + 4 < k) (hn:p.length ≤ 8192) (j:Nat) (hj:j < 4) (m:Int) (hm:ZjU m) (hg:[(0:Int),8,9,10].getD j 0 = m) (b:Int × Int) :
  ZcA k L1 ((j:Int),0,8,9,10,p,b.1,b.2) = L1 (((j + 1:Nat):Int),0,8,9,10,p,(Yy L R b m).1,(Yy L R b m).2):=by
 have hl:=hp.hl
 obtain ⟨sA,sB⟩:=ZdR (m:=m) hL hR
 obtain ⟨lA,lB⟩:=ZbN (m:=m) hLR
 have bA:=Zak sA (by omega)
 have bB:=Zak sB (by omega)
 simp only [ZcA]
 rw [Zb (by omega),Zb (by omega),QS,hg,ZpU k hp hk hn hm]
 simp only [Qb]
 rw [show ((0:Int) != (0:Int)) = false from rfl]
 simp only [cond_false]
 rw [Zzi k _ (by omega) (by omega) sA]
 simp only [Qb]
 rw [Zzi k _ (by omega) (by omega) sB]
 simp only [Qb]
 rw [ZQ (n:=Ki (XA m L R) + Ki (XB m L R)) (by omega),ZQ (n:=(j:Int) + 1) (by omega)]
 unfold Yy Zig
 by_cases h1:b.1 < 0
 ·rw [Zb h1,if_pos (.inl h1)]
  push_cast; rfl
 ·rw [Zi h1]
  by_cases h2:Ki (XA m L R) + Ki (XB m L R) < b.1
  ·rw [Zb h2,if_pos (.inr h2)]
   push_cast; rfl
  ·rw [Zi h2,if_neg (by omega)]
   push_cast; rfl
theorem ZKp (k:Nat) {p:List (Nat × Nat)} {L R:List Int} (hp:PP p L R) (hLR:L.length = R.length) (hL:∀ x ∈ L,Z0 x) (hR:∀ x ∈ R,Z0 x)
  (hk:p.length + 8 < k) (hn:p.length ≤ 8192):ZyW k (p,()) = some ((ZU L R,0,()),()):=by
 obtain ⟨k,rfl⟩:∃ m,k = m + 5:=⟨k - 5,by omega⟩
 show Zm (fun L1 => ZcA (k + 5) L1) (k + 5) ((0:Nat),0,8,9,10,p,(-1,(0:Int)).1,(-1,(0:Int)).2) = _
 rw [Zd,Zji (k + 5) _ hp hLR hL hR (by omega) hn 0 (by omega) 0 (.inl rfl) rfl]
 rw [Zd,Zji (k + 5) _ hp hLR hL hR (by omega) hn 1 (by omega) 8 (.inr (.inl rfl)) rfl]
 rw [Zd,Zji (k + 5) _ hp hLR hL hR (by omega) hn 2 (by omega) 9 (.inr (.inr (.inl rfl))) rfl]
 rw [Zd,Zji (k + 5) _ hp hLR hL hR (by omega) hn 3 (by omega) 10 (.inr (.inr (.inr rfl))) rfl]
 rw [Zd]
 simp only [ZcA]
 rw [Zi (by omega)]
 rfl
def Yk (ch:List (List Int)):List (List Int) × Int:=match ch with
 | [L,R] => ([XA (ZU L R) L R,XB (ZU L R) L R],if ZU L R = 0 then 1 else ZU L R)
 | ch => (ch,0)
theorem ZJB (k:Nat) (n:Int) (ch:List (List Int)) (hk:9000 < k) (h:ch.length = 1 ∨ (∃ L R,ch = [L,R] ∧ L.length = R.length ∧ L.length ≤ 8192 ∧ (∀ x ∈ L,Z0 x) ∧ ∀ x ∈ R,Z0 x)) :
  Zyy k ((n,ch,()),()) = some (((Yk ch).1,(Yk ch).2,0,()),()):=by
 show ZiR k _ = _
 simp only [ZiR]
 rcases h with h | ⟨L,R,rfl,hLR,hn,hL,hR⟩
 ·match ch,h with
  | [L],_ => rfl
 ·rw [show (Int.ofNat [L,R].length == (1:Int)) = false from rfl]
  simp only [cond_false]
  rw [Zb (by simp),Zb (by simp)]
  have hp:=Zzx hLR hL hR
  have hpl:(ZeW L R).length ≤ 8192:=by rw [hp.hl]; exact hn
  rw [show [L,R].getD 0 [] = L from rfl,show [L,R].getD 1 [] = R from rfl,ZKm k (by omega) hLR hn hL hR]
  simp only [Qb]
  rw [show ((0:Int) != (0:Int)) = false from rfl]
  simp only [cond_false]
  rw [ZKp k hp hLR hL hR (by omega) hpl]
  simp only [Qb]
  rw [show ((0:Int) != (0:Int)) = false from rfl]
  simp only [cond_false]
  rw [ZpU k hp (by omega) hpl (Zhl L R)]
  simp only [Qb]
  rw [ZB]
  show (bif decide (ZU L R = 0) then _ else _) = some ((([_,_],if ZU L R = 0 then 1 else ZU L R,0,()),()))
  by_cases h0:ZU L R = 0
  ·rw [Zb h0,if_pos h0]
  ·rw [Zi h0,if_neg h0]
def Z9 (c d m:Int):List Int:=if c = 1 then [d] else if m = 8 ∨ m = 10 then [d,d + 1] else if m = 9 then [d + 1,d] else [d,d]
theorem ZyD (k:Nat) {c d r m:Int} (hc:c = 1 ∧ m = 0 ∨ c = 2) (hd:0 ≤ d ∧ d ≤ 24):ZsA k ((c,d,r,()),m,()) = some (Z9 c d m,()):=by
 show ZiW k _ = _
 simp only [ZiW]
 have e:IntKind.i64.wrap (d + 1) = d + 1:=ZQ (by omega)
 unfold Z9
 rcases hc with ⟨rfl,rfl⟩ | rfl
 ·rw [Zb (by simp)]
  rfl
 ·rw [Zb (by simp),if_neg (by omega)]
  simp only [ZB]
  by_cases h8:m = 8
  ·rw [Zb h8,if_pos (.inl h8),Zb (by simp),Zb (by simp),Zb (by simp)]
   simp [e]
  ·rw [Zi h8]
   by_cases h10:m = 10
   ·rw [Zb h10,if_pos (.inr h10),Zb (by simp),Zb (by simp),Zb (by simp)]
    simp [e]
   ·rw [Zi h10,if_neg (by omega)]
    by_cases h9:m = 9
    ·rw [Zb h9,if_pos h9,Zb (by simp),Zb (by simp),Zb (by simp)]
     simp [e]
    ·rw [Zi h9,if_neg h9,Zb (by simp)]
     rfl
def YW (c d r:Int):Bool:=decide (1 ≤ c ∧ c ≤ 2 ∧ 4 ≤ d ∧ d ≤ 24 ∧ 1 ≤ r ∧ r ≤ 655350)
theorem ZoH (k:Nat) (c d r:Int):ZoG k ((c,d,r,()),()) = some (if YW c d r then 0 else 2,()):=by
 show Ziu k _ = _
 simp only [Ziu]
 unfold YW
 by_cases h1:c < 1
 ·rw [Zb h1,QN (by omega)]; rfl
 ·rw [Zi h1]
  by_cases h2:2 < c
  ·rw [Zb h2,QN (by omega)]; rfl
  ·rw [Zi h2]
   by_cases h3:d < 4
   ·rw [Zb h3,QN (by omega)]; rfl
   ·rw [Zi h3]
    by_cases h4:24 < d
    ·rw [Zb h4,QN (by omega)]; rfl
    ·rw [Zi h4]
     by_cases h5:r < 1
     ·rw [Zb h5,QN (by omega)]; rfl
     ·rw [Zi h5]
      by_cases h6:655350 < r
      ·rw [Zb h6,QN (by omega)]; rfl
      ·rw [Zi h6,QX (by omega)]; rfl
def K1 (n:Nat) (l:List Int):Bool:=decide (l.length = n ∧ 1 ≤ n ∧ n ≤ 512)
def XC (c d r n:Int) (ch:List (List Int)):Int :=
 if YW c d r = false then 2 else if n < 0 ∨ 2147483647 < n ∨ (ch.length:Int) ≠ c then 1
 else if ch.all (K1 (ch.headD []).length) = false then 1
 else if ch.all (fun l => l.all fun x => WU x d.toNat) = false then 12 else 0
theorem Zyx (k:Nat) (c d r n:Int) (ch:List (List Int)) (hk:1000 < k):ZgV k ((c,d,r,()),(n,ch,()),()) = some (XC c d r n ch,()):=by
 show ZiQ k (Zpx k) _ = _
 simp only [ZiQ]
 rw [ZoH]
 simp only [Qb]
 unfold XC
 cases hs:YW c d r with
 | false => simp only [if_true,Bool.false_eq_true,if_false]; rfl
 | true =>
  simp only [if_true,Bool.true_eq_false,if_false]
  rw [show ((0:Int) != (0:Int)) = false from rfl]
  simp only [cond_false]
  have hs:=of_decide_eq_true hs
  by_cases h1:n < 0
  ·rw [Zb h1,if_pos (.inl h1)]
  ·rw [Zi h1]
   by_cases h2:2147483647 < n
   ·rw [Zb h2,if_pos (.inr (.inl h2))]
   ·rw [Zi h2,ZT]
    by_cases h3:Int.ofNat ch.length = c
    ·rw [Zi (by simpa using h3),if_neg (by simp only [Qh] at h3; omega)]
     simp only [Qh] at h3
     have hch:ch.length ≤ 2:=by omega
     rw [Zb (by simp only [Qh]; omega)]
     have hhd:ch.getD 0 [] = ch.headD []:=by cases ch <;> rfl
     rw [hhd]
     generalize hN:(ch.headD []).length = N
     have hstep2:ch.all (K1 N) = true → Zek k (Int.ofNat ch.length,(0:Int),ch,c,d,r) = some (if ch.all (fun l => l.all fun x => WU x d.toNat) = false then 12 else 0,()):=by
      intro hall
      have:=XZ (step:=fun L2 => Zcq k (Zpy k L2) L2) (fun i => (Int.ofNat ch.length,Int.ofNat i,ch,c,d,r)) ch (fun l => l.all fun x => WU x d.toNat) (some ((12:Int),())) (some ((0:Int),()))
       (fun L => by simp only [Zcq]; rw [Zi (QV _)])
       (fun L i hi => by
        simp only [Zcq]
        rw [Zb (KU hi),Zb (Xx hi),ZK hi]
        have hlen:=of_decide_eq_true (List.all_eq_true.1 hall ch[i] (List.getElem_mem hi))
        have:=XZ (step:=fun L3 => Zcr k L L3) (fun j => (Int.ofNat ch[i].length,Int.ofNat j,ch[i],Int.ofNat i,Int.ofNat ch.length,ch,c,d,r)) ch[i] (fun x => WU x d.toNat) (some ((12:Int),()))
         (L (Int.ofNat ch.length,Int.ofNat (i + 1),ch,c,d,r))
         (fun L3 => by simp only [Zcr]; rw [Zi (QV _),Qq hi (by omega)])
         (fun L3 j hj => by
          simp only [Zcr]
          rw [Zb (KU hj),Zb (Xx hj),ZK hj]
          have ew:IntKind.i64.wrap (d - 1) = ((d.toNat - 1:Nat):Int):=by rw [ZQ (by omega)]; omega
          simp only [ew,QS,Nat.min_eq_left (show d.toNat - 1 ≤ 64 by omega)]
          rw [Zb (by omega),ZzM _ (by omega),Qq hj (by omega)]
          simp only [bne]
          cases h5:(ch[i][j].fdiv (2 ^ (d.toNat - 1)) == 0) with
          | true => rfl
          | false =>
           cases h6:(ch[i][j].fdiv (2 ^ (d.toNat - 1)) == -1) <;> rfl) k (by omega)
        rw [← this]
        rfl) k (by omega)
      rw [show Zek k (Int.ofNat ch.length,(0:Int),ch,c,d,r) = Zm (fun L2 => Zcq k (Zpy k L2) L2) k (Int.ofNat ch.length,Int.ofNat 0,ch,c,d,r) from rfl,this]
      cases ch.all (fun l => l.all fun x => WU x d.toNat) <;> rfl
     have:=XZ (step:=fun L1 => Zcp k (Zek k) L1) (fun i => (Int.ofNat ch.length,Int.ofNat i,ch,Int.ofNat N,n,ch,c,d,r)) ch (K1 N) (some ((1:Int),()))
      (Zek k (Int.ofNat ch.length,(0:Int),ch,c,d,r))
      (fun L => by simp only [Zcp]; rw [Zi (QV _)])
      (fun L i hi => by
       simp only [Zcp]
       rw [Zb (KU hi),Zb (Xx hi),ZK hi,ZT]
       unfold K1
       simp only [Qh]
       by_cases e1:ch[i].length = N
       ·rw [Zi (by omega)]
        by_cases e2:N < 1
        ·rw [Zb (by omega),QN (by omega)]; rfl
        ·rw [Zi (by omega)]
         by_cases e3:512 < N
         ·rw [Zb (by omega),QN (by omega)]; rfl
         ·rw [Zi (by omega),QX (by omega),ZQ (by omega)]; rfl
       ·rw [Zb (by omega),QN (by omega)]; rfl) k (by omega)
     rw [show Zpx k (Int.ofNat ch.length,(0:Int),ch,Int.ofNat N,n,ch,c,d,r) = Zm (fun L1 => Zcp k (Zek k) L1) k (Int.ofNat ch.length,Int.ofNat 0,ch,Int.ofNat N,n,ch,c,d,r) from rfl,this]
     cases hall:ch.all (K1 N) with
     | false => simp
     | true =>
      simp only [cond_true,Bool.true_eq_false,if_false]
      exact hstep2 hall
    ·rw [Zb h3,if_pos (.inr (.inr h3))]
end Go.Sh
namespace Go.Sh
open Go Go.Proofs
def ZaT:List Int → Int
 | [] => 0
 | x :: l => x + ZaT l
def Zay (x:Int):Bool:=decide (-2048 ≤ x ∧ x ≤ 2047)
def Qa (x:Int):Bool:=decide (x ≤ -2147483648 ∨ 2147483648 ≤ x)
def Kc (c:List Int) (sh:Int):Bool:=decide (c.length ≤ 8 ∧ 0 ≤ sh ∧ sh ≤ 15) && c.all Zay
theorem ZF7 (k:Nat) (x:Int):Zps k (x,()) = some (!Zay x,()):=by
 show ZgE k _ = _
 simp only [ZgE]
 unfold Zay
 by_cases h:x < -2048
 ·rw [Zb h,QN (by omega)]; rfl
 ·rw [Zi h]
  by_cases h2:2047 < x
  ·rw [QX h2,QN (by omega)]; rfl
  ·rw [QN h2,QX (by omega)]; rfl
theorem Zxl (k:Nat) (c:List Int) (hk:c.length < k) (hn:c.length < 4294967296):Zd2 k (c,(),()) = some (!c.all Zay,()):=by
 show Za5 k _ = _
 simp only [Za5]
 have key:∃ i:Int,Zee k (c,(),()) = some (i,()) ∧ (0 ≤ i ↔ c.all Zay = false):=by
  have:=XY (A:=Unit) (R:=Int × Unit) (step:=fun L1 => KD k L1) (fun i _ => (Int.ofNat c.length,Int.ofNat i,c)) c
   (fun l _ => some (if l.all Zay then -1 else Int.ofNat (c.length - l.length + (l.takeWhile Zay).length),()))
   (fun L _ => by simp only [KD]; rw [Zi (QV _)]; rfl)
   (fun L i hi _ hL => by
    simp only [KD]
    rw [Zb (KU hi),Zb (Xx hi),ZK hi,ZF7]
    simp only [Qb]
    have hlen:(List.drop (i + 1) c).length = c.length - (i + 1):=by simp
    cases hc:Zay c[i] with
    | true =>
     simp only [Bool.not_true,cond_false]
     rw [Qq hi (by omega),hL ()]
     simp only [List.all_cons,hc,Bool.true_and,List.takeWhile_cons,if_true,List.length_cons,hlen]
     split
     ·rfl
     ·congr 3; omega
    | false =>
     simp only [Bool.not_false,cond_true,List.all_cons,hc,Bool.false_and,Bool.false_eq_true,if_false,List.takeWhile_cons,List.length_cons,hlen,List.length_nil]
     congr 3; omega) k 0 () (by omega) (Nat.zero_le _)
  rw [List.drop_zero] at this
  refine ⟨_,this,?_⟩
  cases c.all Zay <;> simp
 obtain ⟨i,h1,h2⟩:=key
 rw [h1]
 simp only [Qb]
 cases hc:c.all Zay with
 | false => rw [QX (h2.2 hc)]; rfl
 | true => rw [QN (fun h => by have:=h2.1 h; rw [hc] at this; cases this)]; rfl
theorem Zk1 (k:Nat) (x:Int):ZhB k (x,()) = some (Qa x,()):=by
 show Zf6 k _ = _
 simp only [Zf6]
 unfold Qa
 by_cases h:x ≤ -2147483648
 ·rw [Zb h,QX (.inl h)]
 ·rw [Zi h]
  by_cases h2:2147483648 ≤ x
  ·rw [QX h2,QX (.inr h2)]
  ·rw [QN h2,QN (by omega)]
theorem Za3 (k:Nat) (c:List Int) (hk:c.length < k) (hn:c.length < 4294967296):Kv k (c,(),()) = some (c.any Qa,()):=by
 show Za2 k _ = _
 simp only [Za2]
 have key:∃ i:Int,Zec k (c,(),()) = some (i,()) ∧ (0 ≤ i ↔ c.any Qa = true):=by
  have:=XY (A:=Unit) (R:=Int × Unit) (step:=fun L1 => KB k L1) (fun i _ => (Int.ofNat c.length,Int.ofNat i,c)) c
   (fun l _ => some (if l.any Qa then Int.ofNat (c.length - l.length + (l.takeWhile (fun x => !Qa x)).length) else -1,()))
   (fun L _ => by simp only [KB]; rw [Zi (QV _)]; rfl)
   (fun L i hi _ hL => by
    simp only [KB]
    rw [Zb (KU hi),Zb (Xx hi),ZK hi,Zk1]
    simp only [Qb]
    have hlen:(List.drop (i + 1) c).length = c.length - (i + 1):=by simp
    cases hc:Qa c[i] with
    | false =>
     simp only [cond_false]
     rw [Qq hi (by omega),hL ()]
     simp only [List.any_cons,hc,Bool.false_or,List.takeWhile_cons,Bool.not_false,if_true,List.length_cons,hlen]
     split
     ·congr 3; omega
     ·rfl
    | true =>
     simp only [cond_true,List.any_cons,hc,Bool.true_or,if_true,List.takeWhile_cons,Bool.not_true,Bool.false_eq_true,if_false,List.length_cons,hlen,List.length_nil]
     congr 3; omega) k 0 () (by omega) (Nat.zero_le _)
  rw [List.drop_zero] at this
  refine ⟨_,this,?_⟩
  cases c.any Qa <;> simp
 obtain ⟨i,h1,h2⟩:=key
 rw [h1]
 simp only [Qb]
 cases hc:c.any Qa with
 | true => rw [QX (h2.2 hc)]
 | false => rw [QN (fun h => by have:=h2.1 h; rw [hc] at this; cases this)]
theorem Zsq (k:Nat) (c:List Int) (sh:Int) (hk:10 < k):Zlb k ((c,sh,()),()) = some (if Kc c sh then 0 else 2,()):=by
 show Zgs k _ = _
 simp only [Zgs]
 unfold Kc
 by_cases h1:(8:Int) < Int.ofNat c.length
 ·simp only [Qh] at h1
  rw [Zb (by simp only [Qh]; omega),QN (by omega)]; rfl
 ·simp only [Qh] at h1
  rw [Zi (by simp only [Qh]; omega)]
  by_cases h2:sh < 0
  ·rw [Zb h2,QN (by omega)]; rfl
  ·rw [Zi h2]
   by_cases h3:15 < sh
   ·rw [Zb h3,QN (by omega)]; rfl
   ·rw [Zi h3,Zxl k c (by omega) (by omega),QX (by omega)]
    simp only [Qb]
    cases c.all Zay <;> rfl
def ZUf (c a:List Int):Int:=ZaT ((c.zip a.reverse).map fun x => x.1 * x.2)
def ZcP (c:List Int) (sh:Int) (a:List Int):Int:=(ZUf c a).fdiv (2 ^ sh.toNat)
theorem ZGv {x y:Int} (hx : -2048 ≤ x ∧ x ≤ 2047) (hy : -2147483648 < y ∧ y < 2147483648) : -4398046511104 ≤ x * y ∧ x * y ≤ 4398046511104:=by
 have h1:(x * y).natAbs ≤ 2048 * 2147483648:=by
  rw [Int.natAbs_mul]
  exact Nat.mul_le_mul (by omega) (by omega)
 omega
theorem ZCf {l:List Int} {b:Int} (h:∀ x ∈ l,-b ≤ x ∧ x ≤ b) : -((l.length:Int) * b) ≤ ZaT l ∧ ZaT l ≤ (l.length:Int) * b:=by
 induction l with
 | nil => simp [ZaT]
 | cons x l ih =>
  have h1:=h x (List.mem_cons_self ..)
  have h2:=ih fun y hy => h y (List.mem_cons_of_mem _ hy)
  simp only [ZaT,List.length_cons]
  push_cast
  rw [Int.add_mul]
  omega
def ZrF (x:Int):Prop := -2048 ≤ x ∧ x ≤ 2047
def ZI (x:Int):Prop := -2147483648 < x ∧ x < 2147483648
theorem Zky {c a:List Int} (hc:∀ x ∈ c,ZrF x) (ha:∀ x ∈ a,ZI x):∀ x ∈ (c.zip a.reverse).map fun x => x.1 * x.2,-4398046511104 ≤ x ∧ x ≤ 4398046511104:=by
 intro x hx
 obtain ⟨⟨u,v⟩,h,rfl⟩:=List.mem_map.1 hx
 exact ZGv (hc _ (List.of_mem_zip h).1) (ha _ (by simpa using (List.of_mem_zip h).2))
theorem ZhH {x:Int} {b:Int} (p:Nat) (h : -b ≤ x ∧ x ≤ b) (hb:0 ≤ b) : -b ≤ x.fdiv (2 ^ p) ∧ x.fdiv (2 ^ p) ≤ b:=by
 have hp:(0:Int) < 2 ^ p:=Int.pow_pos (by omega)
 rw [Int.fdiv_eq_ediv_of_nonneg _ (by omega)]
 constructor
 ·rw [Int.le_ediv_iff_mul_le hp]
  have:b * 1 ≤ b * 2 ^ p:=Int.mul_le_mul_of_nonneg_left (by omega) hb
  rw [Int.neg_mul]
  omega
 ·by_cases hx:0 ≤ x
  ·exact Int.le_trans (Int.ediv_le_self _ hx) h.2
  ·have:x / 2 ^ p < 0:=Int.ediv_neg_of_neg_of_pos (by omega) hp
   omega
theorem Ze4 {c a:List Int} {sh:Int} (hc:∀ x ∈ c,ZrF x) (ha:∀ x ∈ a,ZI x) (hl:c.length ≤ 8) : -35184372088832 ≤ ZcP c sh a ∧ ZcP c sh a ≤ 35184372088832:=by
 unfold ZcP ZUf
 have h1:=ZCf (Zky hc ha)
 have h2:((c.zip a.reverse).map fun x => x.1 * x.2).length ≤ 8:=by simp; omega
 exact ZhH _ (by omega) (by omega)
theorem Zsr (k:Nat) {c a:List Int} {sh:Int} (hk:c.length < k) (hl:c.length ≤ 8) (hla:c.length ≤ a.length) (hn:a.length ≤ 4294967296) (hsh:0 ≤ sh ∧ sh ≤ 15) (hc:∀ x ∈ c,ZrF x) (ha:∀ x ∈ a,ZI x) :
  Zlc k ((c,sh,()),a,()) = some (ZcP c sh a,()):=by
 show Zgt k (ZnA k) _ = _
 simp only [Zgt]
 have hzl:(c.zip a.reverse).length = c.length:=by simp; omega
 have hterm:=Zky hc ha
 have:=Zu (A:=Int) (step:=fun L1 => Zcm k L1) (fun i acc => (Int.ofNat c.length,Int.ofNat i,c,acc,a,c,sh)) (c.zip a.reverse)
  (fun l acc => some ((acc + ZaT (l.map fun x => x.1 * x.2)).fdiv (2 ^ sh.toNat),())) (fun i acc => -((i:Int) * 4398046511104) ≤ acc ∧ acc ≤ (i:Int) * 4398046511104)
  (fun L acc _ => by
   simp only [Zcm]
   rw [hzl,Zi (QV _),Zb hsh.1,Nat.min_eq_left (by omega)]
   simp [ZaT])
  (fun L i hi acc hacc hL => by
   have hi2:i < c.length:=by omega
   have hi3:i < a.reverse.length:=by simp; omega
   simp only [Zcm]
   have e1:IntKind.i64.wrap (IntKind.i64.wrap (Int.ofNat a.length - 1) - Int.ofNat i) = ((a.length - 1 - i:Nat):Int):=by
    simp only [Qh]
    rw [ZQ (n:=(a.length:Int) - 1) (by omega),ZQ (by omega)]; omega
   rw [Zb (KU hi2),Zb (Xx hi2),e1,Zb (by simp only [Qh]; omega),ZK hi2,QS]
   have e2:a.getD (a.length - 1 - i) 0 = a.reverse[i]:=by
    rw [List.getElem_reverse,WZ (by omega)]
   rw [e2]
   have hz:(c.zip a.reverse)[i] = (c[i],a.reverse[i]):=by simp
   have ht:=hterm (c[i] * a.reverse[i]) (List.mem_map.2 ⟨(c[i],a.reverse[i]),by rw [← hz]; exact List.getElem_mem _,rfl⟩)
   have hi8:(i:Int) ≤ 8:=by omega
   rw [ZQ (n:=c[i] * a.reverse[i]) (by omega),ZQ (n:=acc + c[i] * a.reverse[i]) (by omega),Qq hi2 (by omega)]
   rw [hL _ ⟨by push_cast; omega,by push_cast; omega⟩,hz]
   simp only [List.map_cons,ZaT]
   rw [Int.add_assoc]) k 0 0 ⟨by omega,by omega⟩ (by omega) (Nat.zero_le _)
 refine Eq.trans this ?_
 rw [List.drop_zero,Int.zero_add]
 rfl
def ZqP (c:List Int) (sh:Int) (s:List Int) (i:Nat):Int:=s.getD i 0 - ZcP c sh (s.take i)
def Zj6 (c:List Int) (sh:Int) (s:List Int):Nat → Nat → List Int
 | 0,_ => []
 | d + 1,i => ZqP c sh s i :: Zj6 c sh s d (i + 1)
def ZaR (c:List Int) (sh:Int) (s:List Int):List Int:=Zj6 c sh s (s.length - c.length) c.length
def QK (c:List Int) (sh:Int) (s:List Int):List Int × Int :=
 if Kc c sh = false then ([],2) else if s.length < c.length then ([],1) else if s.any Qa then ([],12)
 else if (ZaR c sh s).any Qa then ([],12) else (ZaR c sh s,0)
theorem ZqQ (c:List Int) (sh:Int) (s:List Int):∀ d i,(Zj6 c sh s d i).length = d
 | 0,_ => rfl
 | d + 1,i => by simp [Zj6,ZqQ c sh s d (i + 1)]
theorem KP {c:List Int} {sh:Int} (h:Kc c sh = true):c.length ≤ 8 ∧ (0 ≤ sh ∧ sh ≤ 15) ∧ ∀ x ∈ c,ZrF x:=by
 unfold Kc at h
 simp only [Bool.and_eq_true,decide_eq_true_eq] at h
 refine ⟨h.1.1,h.1.2,fun x hx => ?_⟩
 have:=List.all_eq_true.1 h.2 x hx
 unfold Zay at this
 rw [decide_eq_true_eq] at this
 exact this
theorem X2 {s:List Int} (h:s.any Qa = false):∀ x ∈ s,ZI x:=by
 intro x hx
 rw [List.any_eq_false] at h
 have:=h x hx
 unfold Qa at this
 simp only [decide_eq_true_eq] at this
 unfold ZI
 omega
theorem Zsb (k:Nat) (c:List Int) (sh:Int) (s:List Int) (hk:s.length + 10 < k) (hn:s.length ≤ 8192):ZkZ k ((c,sh,()),s,()) = some (((QK c sh s).1,(QK c sh s).2,()),()):=by
 show Zf4 k (Znd k) _ = _
 simp only [Zf4]
 rw [Zsq k c sh (by omega)]
 simp only [Qb]
 unfold QK
 cases hm:Kc c sh with
 | false => simp only [Bool.false_eq_true,if_false,if_true]; rfl
 | true =>
  simp only [if_true,Bool.true_eq_false,if_false]
  rw [show ((0:Int) != (0:Int)) = false from rfl]
  simp only [cond_false,Qh]
  by_cases hl:s.length < c.length
  ·rw [Zb (by omega),if_pos hl]
  ·rw [Zi (by omega),if_neg hl,Za3 k s (by omega) (by omega)]
   simp only [Qb]
   cases hw:s.any Qa with
   | true => simp only [cond_true,if_true]
   | false =>
    simp only [cond_false,Bool.false_eq_true,if_false]
    obtain ⟨hc8,hsh,hcR⟩:=KP hm
    have hnar:=X2 hw
    suffices H:∀ (d i m:Nat) (acc:List Int),i + d = s.length → c.length ≤ i → d < m → acc.length + d ≤ 8192 →
      Zm (fun L1 => Zb9 k L1) m ((i:Int),s,c,sh,acc) = some (if (Zj6 c sh s d i).any Qa then (([],12,()),()) else ((acc ++ Zj6 c sh s d i,0,()),())) by
     have:=H (s.length - c.length) c.length k [] (by omega) (by omega) (by omega) (by simp; omega)
     refine Eq.trans this ?_
     unfold ZaR
     cases (Zj6 c sh s (s.length - c.length) c.length).any Qa <;> simp
    intro d
    induction d with
    | zero =>
     intro i m acc hi hci hm _
     obtain ⟨m,rfl⟩:=Zn hm
     rw [Zd]
     simp only [Zb9]
     rw [Zi (by simp only [Qh]; omega)]
     simp [Zj6]
    | succ d ih =>
     intro i m acc hi hci hm hacc
     obtain ⟨m,rfl⟩:=Zn (show 0 < m by omega)
     rw [Zd]
     simp only [Zb9]
     have hi2:i < s.length:=by omega
     rw [Zb (by simp only [Qh]; omega),Zb (by simp only [Qh]; omega),Zb (by simp only [Qh]; omega),QS,List.drop_zero]
     have htl:(s.take i).length = i:=by simp; omega
     have htn:∀ x ∈ s.take i,ZI x:=fun x hx => hnar x (List.mem_of_mem_take hx)
     rw [Zsr k (by omega) hc8 (by omega) (by omega) hsh hcR htn]
     simp only [Qb]
     have hpb:=Ze4 (sh:=sh) hcR htn hc8
     have hsi:s.getD i 0 = s[i]:=WZ hi2
     have hsn:=hnar s[i] (List.getElem_mem hi2)
     unfold ZI at hsn
     have e1:IntKind.i64.wrap (s.getD i 0 - ZcP c sh (s.take i)) = ZqP c sh s i:=by unfold ZqP; rw [hsi]; exact ZQ (by omega)
     rw [e1,Zk1]
     simp only [Qb,Zj6,List.any_cons]
     by_cases hwi:Qa (ZqP c sh s i) = true
     ·simp only [hwi,cond_true,Bool.true_or,if_true]
     ·have hwi:Qa (ZqP c sh s i) = false:=by simpa using hwi
      simp only [hwi,cond_false,Bool.false_or]
      rw [Zb (by simp; omega),show IntKind.i64.wrap ((i:Int) + 1) = ((i + 1:Nat):Int) from by rw [ZQ (by omega)]; omega]
      rw [ih (i + 1) m _ (by omega) (by omega) (by omega) (by simp; omega)]
      simp
def QZ (c:List Int) (sh:Int) (s:List Int):Int × Int:=(ZaT ((QK c sh s).1.map fun x => (x.natAbs:Int)),(QK c sh s).2)
theorem WS (c:List Int) (sh:Int) (s:List Int):∀ x ∈ (QK c sh s).1,ZI x:=by
 unfold QK
 split
 ·simp
 ·split
  ·simp
  ·split
   ·simp
   ·split
    ·simp
    ·rename_i h
     exact X2 (by simpa using h)
theorem ZhV (c:List Int) (sh:Int) (s:List Int):(QK c sh s).1.length ≤ s.length:=by
 unfold QK
 split
 ·simp
 ·split
  ·simp
  ·split
   ·simp
   ·split
    ·simp
    ·simp [ZaR,ZqQ]
theorem Zsf (k:Nat) (c:List Int) (sh:Int) (s:List Int) (hk:s.length + 10 < k) (hn:s.length ≤ 8192):Zk2 k ((c,sh,()),s,()) = some (((QZ c sh s).1,(QZ c sh s).2,()),()):=by
 show Zf7 k (Zng k) _ = _
 simp only [Zf7]
 rw [Zsb k c sh s hk hn]
 simp only [Qb]
 have hnar:=WS c sh s
 have hlen:=ZhV c sh s
 unfold QZ
 generalize (QK c sh s).2 = e
 generalize (QK c sh s).1 = l at hnar hlen
 have:=Zu (A:=Int) (step:=fun L1 => Zcb k L1) (fun i acc => (Int.ofNat l.length,Int.ofNat i,l,acc,e)) l
  (fun l' acc => some ((acc + ZaT (l'.map fun x => (x.natAbs:Int)),e,()),())) (fun i acc => 0 ≤ acc ∧ acc ≤ (i:Int) * 2147483648)
  (fun L acc _ => by simp only [Zcb]; rw [Zi (QV _)]; simp [ZaT])
  (fun L i hi acc hacc hL => by
   have hx:=hnar l[i] (List.getElem_mem hi)
   unfold ZI at hx
   simp only [Zcb]
   rw [Zb (KU hi),Zb (Xx hi),ZK hi,Qq hi (by omega),ZQ (n:=0 - l[i]) (by omega)]
   have e1:(if l[i] < 0 - l[i] then 0 - l[i] else l[i]) = (l[i].natAbs:Int):=by split <;> omega
   have hi8:(i:Int) ≤ 8192:=by omega
   rw [e1,ZQ (n:=acc + (l[i].natAbs:Int)) (by omega),hL _ ⟨by omega,by push_cast; omega⟩]
   simp only [List.map_cons,ZaT]
   rw [Int.add_assoc]) k 0 0 ⟨by omega,by omega⟩ (by omega) (Nat.zero_le _)
 exact Eq.trans this (by rw [List.drop_zero,Int.zero_add])
def Xp (o:Nat):List Int:=match o with
 | 1 => [1]
 | 2 => [2,-1]
 | 3 => [3,-3,1]
 | 4 => [4,-6,4,-1]
 | _ => []
theorem ZkD (k:Nat) (o:Nat) (ho:o ≤ 4) (hk:20 < k):Zd3 k ((o:Int),()) = some (((Xp o,0,()),0,()),()):=by
 obtain ⟨k,rfl⟩:∃ m,k = m + 20:=⟨k - 20,by omega⟩
 match o,ho with
 | 0,_ => rfl
 | 1,_ => rfl
 | 2,_ => rfl
 | 3,_ => rfl
 | 4,_ => rfl
def Qe (o:Nat):List Int:=match o with
 | 2 => [32,-16]
 | 4 => [64,-96,64,-16]
 | 8 => [64,-96,64,-16,0,0,0,0]
 | _ => []
theorem ZFt (k:Nat) (o:Nat) (ho:o = 2 ∨ o = 4 ∨ o = 8) (hk:40 < k):Zo4 k ((o:Int),()) = some ((Qe o,4,()),()):=by
 obtain ⟨k,rfl⟩:∃ m,k = m + 40:=⟨k - 40,by omega⟩
 rcases ho with rfl | rfl | rfl
 ·rfl
 ·rfl
 ·rfl
abbrev Mdl:=List Int × Int × Bool
def Zfe (s:List Int) (by_:Int) (j:Nat) (M:Mdl):Mdl :=
 if (QZ (M.1.set j (M.1.getD j 0 + by_)) 4 s).2 = 0 ∧ (M.2.2 = false ∨ (QZ (M.1.set j (M.1.getD j 0 + by_)) 4 s).1 < M.2.1)
 then (M.1.set j (M.1.getD j 0 + by_),(QZ (M.1.set j (M.1.getD j 0 + by_)) 4 s).1,true) else M
def Zoa (s:List Int) (st:Int) (j:Nat) (M:Mdl):Mdl:=Zfe s (-st) j (Zfe s st j M)
def Zrr (s:List Int) (st:Int):Nat → Nat → Mdl → Mdl
 | 0,_,M => M
 | d + 1,j,M => Zrr s st d (j + 1) (Zoa s st j M)
def Zrs (s:List Int) (st:Int) (o:Nat) (M:Mdl):Mdl:=Zrr s st o 0 M
def ZPu (s:List Int) (o:Nat):Mdl:=Zrs s 1 o (Zrs s 2 o (Zrs s 4 o (Zrs s 8 o (Qe o,(QZ (Qe o) 4 s).1,(QZ (Qe o) 4 s).2 == 0))))
def Xw (s:List Int) (o:Nat):List Int:=(ZPu s o).1
structure MOk (o:Nat) (b:Int) (M:Mdl):Prop where
 len:M.1.length = o
 bd:∀ x ∈ M.1,-b ≤ x ∧ x ≤ b
theorem Zkc {s:List Int} {o:Nat} {b by_:Int} {j:Nat} {M:Mdl} (h:MOk o b M) (hj:j < o) (hby : -8 ≤ by_ ∧ by_ ≤ 8):MOk o (b + 8) (Zfe s by_ j M):=by
 unfold Zfe
 split
 ·refine ⟨by simp [h.len],fun x hx => ?_⟩
  have hg:M.1.getD j 0 ∈ M.1:=by rw [WZ (by rw [h.len]; exact hj)]; exact List.getElem_mem _
  rcases List.mem_or_eq_of_mem_set hx with hx | rfl
  ·have:=h.bd x hx; omega
  ·have:=h.bd _ hg; omega
 ·exact ⟨h.len,fun x hx => by have:=h.bd x hx; omega⟩
theorem Zob {s:List Int} {o:Nat} {b st:Int} {j:Nat} {M:Mdl} (h:MOk o b M) (hj:j < o) (hst : -8 ≤ st ∧ st ≤ 8):MOk o (b + 16) (Zoa s st j M):=by
 have:=Zkc (s:=s) (Zkc (s:=s) h hj hst) hj (by_ := -st) (by omega)
 rw [show b + 8 + 8 = b + 16 by omega] at this
 exact this
theorem ZDR {s:List Int} {o:Nat} {st:Int} (hst : -8 ≤ st ∧ st ≤ 8):∀ (d j:Nat) (b:Int) (M:Mdl),MOk o b M → j + d ≤ o → MOk o (b + 16 * (d:Int)) (Zrr s st d j M)
 | 0,j,b,M,h,_ => by simpa [Zrr] using h
 | d + 1,j,b,M,h,hj => by
  simp only [Zrr]
  have hb:=Zob (s:=s) (j:=j) (st:=st) h (show j < o by omega) hst
  have:=ZDR (s:=s) hst d (j + 1) (b + 16) _ hb (show j + 1 + d ≤ o by omega)
  refine ⟨this.len,fun x hx => ?_⟩
  have:=this.bd x hx
  push_cast
  omega
theorem Kp {s:List Int} {o:Nat} {st b:Int} (hst : -8 ≤ st ∧ st ≤ 8) (ho:o ≤ 8) {M:Mdl} (h:MOk o b M):MOk o (b + 128) (Zrs s st o M):=by
 have:=ZDR (s:=s) hst o 0 b M h (by omega)
 refine ⟨this.len,fun x hx => ?_⟩
 have:=this.bd x hx
 omega
theorem ZEE (k:Nat) (s:List Int) (hk:s.length + 20 < k) (hn:s.length ≤ 8192) (L1:Int × Int × List Int × Bool × Int × List Int × Int × Int → Option (((List Int × Int × Unit) × Int × Unit) × Unit)) (L2:Int × Int × Int × List Int × Bool × Int × Int × List Int × Int × Int → Option (((List Int × Int × Unit) × Int × Unit) × Unit))
  {o j:Nat} {st:Int} {M:Mdl} {v13:Int} (hM:MOk o 1000 M) (hj:j < o) (ho:o ≤ 8) (hst:0 ≤ st ∧ st ≤ 8) :
  Zfx k L1 L2 (0,st,IntKind.i64.wrap (0 - st),(j:Int),s,M.2.2,M.2.1,(j:Int),(o:Int),st,(o:Int),M.1,4,v13) =
   L2 ((o:Int),((j + 1:Nat):Int),st,s,(Zoa s st j M).2.2,(Zoa s st j M).2.1,(o:Int),(Zoa s st j M).1,4,v13):=by
 obtain ⟨k,rfl⟩:∃ m,k = m + 3:=⟨k - 3,by omega⟩
 have e0:IntKind.i64.wrap (0 - st) = -st:=by rw [ZQ (by omega)]; omega
 rw [e0]
 have one:∀ (i:Nat) (by_:Int) (L3:Int × Int × Int × Int × List Int × Bool × Int × Int × Int × Int × Int × List Int × Int × Int → Option (((List Int × Int × Unit) × Int × Unit) × Unit)) (M:Mdl),i < 2 → [st,-st].getD i 0 = by_ → -8 ≤ by_ ∧ by_ ≤ 8 → MOk o 1008 M →
   Y5 (k + 3) L1 L2 L3 ((i:Int),st,-st,(j:Int),s,M.2.2,M.2.1,(j:Int),(o:Int),st,(o:Int),M.1,4,v13) =
    L3 (((i + 1:Nat):Int),st,-st,(j:Int),s,(Zfe s by_ j M).2.2,(Zfe s by_ j M).2.1,(j:Int),(o:Int),st,(o:Int),(Zfe s by_ j M).1,4,v13):=by
  intro i by_ L3 M hi hg hb hM
  simp only [Y5]
  rw [Zb (by omega),Zb (by omega)]
  have hl:=hM.len
  rw [show Zk3 (k + 3) (M.1,()) = some (M.1,()) from by show KY _ = _; unfold KY; rw [Zb (by rw [hl]; omega)]]
  simp only [Qb,QS,Qh]
  rw [Zb (by omega),Zb (by omega),Zb (by omega),Zb (by omega),hg]
  have hx:=hM.bd (M.1.getD j 0) (by rw [WZ (by omega)]; exact List.getElem_mem _)
  rw [ZQ (n:=M.1.getD j 0 + by_) (by omega),Zsf (k + 3) _ 4 s (by omega) hn]
  simp only [Qb]
  rw [show IntKind.i64.wrap ((i:Int) + 1) = ((i + 1:Nat):Int) from by rw [ZQ (by omega)]; omega]
  unfold Zfe
  rw [ZB]
  by_cases h1:(QZ (M.1.set j (M.1.getD j 0 + by_)) 4 s).2 = 0
  ·rw [Zb h1]
   cases h2:M.2.2 with
   | false => rw [if_pos ⟨h1,.inl rfl⟩]; rfl
   | true =>
    simp only [Bool.not_true,cond_false]
    by_cases h3:(QZ (M.1.set j (M.1.getD j 0 + by_)) 4 s).1 < M.2.1
    ·rw [Zb h3,if_pos ⟨h1,.inr h3⟩]
    ·rw [Zi h3,if_neg (by rintro ⟨_,h | h⟩; cases h; exact h3 h),h2]
  ·rw [Zi h1,if_neg (fun h => h1 h.1)]
 show Zm (fun L3 => Y5 (k + 3) L1 L2 L3) (k + 3) ((0:Nat),st,-st,(j:Int),s,M.2.2,M.2.1,(j:Int),(o:Int),st,(o:Int),M.1,4,v13) = _
 rw [Zd,one 0 st _ M (by omega) rfl (by omega) ⟨hM.len,fun x hx => by have:=hM.bd x hx; omega⟩]
 have h2:=Zkc (s:=s) hM hj (by_:=st) (by omega)
 rw [Zd,one 1 (-st) _ _ (by omega) rfl (by omega) h2,Zd]
 simp only [Y5]
 rw [Zi (by omega),show IntKind.i64.wrap ((j:Int) + 1) = ((j + 1:Nat):Int) from by rw [ZQ (by omega)]; omega]
 rfl
theorem ZHH (k:Nat) (s:List Int) (hk:s.length + 20 < k) (hn:s.length ≤ 8192) (L1:Int × Int × List Int × Bool × Int × List Int × Int × Int → Option (((List Int × Int × Unit) × Int × Unit) × Unit))
  {o:Nat} {st:Int} {v9:Int} (ho:o ≤ 8) (hst:0 ≤ st ∧ st ≤ 8):∀ (d j m:Nat) (b:Int) (M:Mdl),j + d = o → d < m → MOk o b M → b + 16 * (d:Int) ≤ 1000 →
  Zm (fun L2 => Zan k (Zfx k L1 L2) L1 L2) m ((o:Int),(j:Int),st,s,M.2.2,M.2.1,(o:Int),M.1,4,v9) =
   L1 (IntKind.i64.wrap (st.tdiv 2),(o:Int),s,(Zrr s st d j M).2.2,(Zrr s st d j M).2.1,(Zrr s st d j M).1,4,v9):=by
 intro d
 induction d with
 | zero =>
  intro j m b M hj hm hM hb
  obtain ⟨m,rfl⟩:=Zn hm
  rw [Zd]
  simp only [Zan]
  rw [Zi (by omega)]
  rfl
 | succ d ih =>
  intro j m b M hj hm hM hb
  obtain ⟨m,rfl⟩:=Zn (show 0 < m by omega)
  rw [Zd]
  simp only [Zan]
  rw [Zb (by omega)]
  rw [ZEE k s hk hn L1 _ (M:=M) ⟨hM.len,fun x hx => by have:=hM.bd x hx; omega⟩ (by omega) ho hst]
  rw [ih (j + 1) m (b + 16) _ (by omega) (by omega) (Zob hM (by omega) (by omega)) (by push_cast at hb; omega)]
  rfl
theorem ZEI (k:Nat) (s:List Int) (o:Nat) (ho:o = 2 ∨ o = 4 ∨ o = 8) (hos:o ≤ s.length) (hs:∀ x ∈ s,ZI x) (hk:s.length + 60 < k) (hn:s.length ≤ 8192) :
  ZoF k (s,(o:Int),()) = some (((Xw s o,4,()),0,()),()):=by
 show Zfy k (ZmG k) _ = _
 simp only [Zfy]
 have hw:s.any Qa = false:=by
  rw [List.any_eq_false]
  intro x hx
  have:=hs x hx
  unfold ZI at this
  unfold Qa
  simp only [decide_eq_true_eq]
  omega
 rw [Zi (by omega),Zi (by omega),Zi (by simp only [Qh]; omega),Za3 k s (by omega) (by omega),hw]
 simp only [Qb,cond_false]
 rw [ZFt k o ho (by omega)]
 simp only [Qb]
 rw [Zsf k _ 4 s (by omega) hn]
 simp only [Qb]
 have hM0:MOk o 96 (Qe o,(QZ (Qe o) 4 s).1,(QZ (Qe o) 4 s).2 == 0):=by
  rcases ho with rfl | rfl | rfl
  ·exact ⟨rfl,show ∀ x ∈ Qe 2,-96 ≤ x ∧ x ≤ 96 by decide⟩
  ·exact ⟨rfl,show ∀ x ∈ Qe 4,-96 ≤ x ∧ x ≤ 96 by decide⟩
  ·exact ⟨rfl,show ∀ x ∈ Qe 8,-96 ≤ x ∧ x ≤ 96 by decide⟩
 have ho8:o ≤ 8:=by omega
 have h1:=Kp (s:=s) (st:=8) (by omega) ho8 hM0
 have h2:=Kp (s:=s) (st:=4) (by omega) ho8 h1
 have h3:=Kp (s:=s) (st:=2) (by omega) ho8 h2
 obtain ⟨k',rfl⟩:∃ m,k = m + 5:=⟨k - 5,by omega⟩
 have row:∀ (L1:Int × Int × List Int × Bool × Int × List Int × Int × Int → Option (((List Int × Int × Unit) × Int × Unit) × Unit)) (st:Int) (b:Int) (M:Mdl),0 < st → st ≤ 8 → MOk o b M → b + 128 ≤ 1000 →
   Zam (k' + 5) (Ziq (k' + 5) L1) L1 (st,(o:Int),s,M.2.2,M.2.1,M.1,4,0) = L1 (IntKind.i64.wrap (st.tdiv 2),(o:Int),s,(Zrs s st o M).2.2,(Zrs s st o M).2.1,(Zrs s st o M).1,4,0):=by
  intro L1 st b M h0 h8 hM hb
  simp only [Zam]
  rw [Zb h0]
  exact ZHH (k' + 5) s (by omega) hn L1 ho8 (by omega) o 0 (k' + 5) b M (by omega) (by omega) hM (by omega)
 show Zm (fun L1 => Zam (k' + 5) (Ziq (k' + 5) L1) L1) (k' + 5) _ = _
 rw [Zd]
 refine (row _ 8 96 (Qe o,(QZ (Qe o) 4 s).1,(QZ (Qe o) 4 s).2 == 0) (by omega) (by omega) hM0 (by omega)).trans ?_
 rw [show IntKind.i64.wrap ((8:Int).tdiv 2) = 4 from by decide,Zd]
 refine (row _ 4 _ _ (by omega) (by omega) h1 (by omega)).trans ?_
 rw [show IntKind.i64.wrap ((4:Int).tdiv 2) = 2 from by decide,Zd]
 refine (row _ 2 _ _ (by omega) (by omega) h2 (by omega)).trans ?_
 rw [show IntKind.i64.wrap ((2:Int).tdiv 2) = 1 from by decide,Zd]
 refine (row _ 1 _ _ (by omega) (by omega) h3 (by omega)).trans ?_
 rw [show IntKind.i64.wrap ((1:Int).tdiv 2) = 0 from by decide,Zd]
 simp only [Zam]
 rw [Zi (by omega)]
 rfl
theorem ZqX (s:List Int) (o:Nat) (ho:o = 2 ∨ o = 4 ∨ o = 8):(Xw s o).length = o ∧ ∀ x ∈ Xw s o,-1000 ≤ x ∧ x ≤ 1000:=by
 have hM0:MOk o 96 (Qe o,(QZ (Qe o) 4 s).1,(QZ (Qe o) 4 s).2 == 0):=by
  rcases ho with rfl | rfl | rfl
  ·exact ⟨rfl,show ∀ x ∈ Qe 2,-96 ≤ x ∧ x ≤ 96 by decide⟩
  ·exact ⟨rfl,show ∀ x ∈ Qe 4,-96 ≤ x ∧ x ≤ 96 by decide⟩
  ·exact ⟨rfl,show ∀ x ∈ Qe 8,-96 ≤ x ∧ x ≤ 96 by decide⟩
 have ho8:o ≤ 8:=by omega
 have h:=Kp (s:=s) (st:=1) (by omega) ho8 (Kp (s:=s) (st:=2) (by omega) ho8 (Kp (s:=s) (st:=4) (by omega) ho8 (Kp (s:=s) (st:=8) (by omega) ho8 hM0)))
 exact ⟨h.len,fun x hx => by have:=h.bd x hx; omega⟩
end Go.Sh
