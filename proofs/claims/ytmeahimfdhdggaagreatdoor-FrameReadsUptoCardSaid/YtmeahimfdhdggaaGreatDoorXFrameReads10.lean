/-
  What the row needs, part 10.
-/
import Derived.Test.YtmeahimfdhdggaaGreatDoorXFrameReads9
import Derived.IntWalk
set_option linter.unusedSimpArgs false
set_option linter.unusedVariables false
set_option linter.unusedSectionVars false
namespace Go.Sh
open Go
theorem Z8 (n:Nat):Int.ofNat n = (n:Int):=rfl
theorem Qr {α β:Type} (a:α) (f:α → Option β):(some a).bind f = f a:=rfl
theorem QZ (n:Nat):((n:Int)).toNat = n:=rfl
theorem Yq {α:Type} {as0 bs0:List α}:(as0 ++ bs0).length = as0.length + bs0.length:=List.length_append
theorem QG {p:Prop} [inst:Decidable p] (h:¬p):decide p = false:=decide_eq_false h
theorem QS {p:Prop} [inst:Decidable p] (h:p):decide p = true:=decide_eq_true h
theorem ZT {n:Int} (h : -9223372036854775808 ≤ n ∧ n ≤ 9223372036854775807):IntKind.i64.wrap n = n:=IntWalk.i64_in n h
theorem wu8 {n:Int} (h:0 ≤ n ∧ n ≤ 255):IntKind.u8.wrap n = n:=IntWalk.u8_in n h
theorem Zg {V R:Type} (step:(V → Option R) → V → Option R) (n:Nat) (v:V):Zp step (n + 1) v = step (Zp step n) v:=rfl
theorem Zk {a k:Nat} (h:a < k):∃ m,k = m + 1:=⟨k - 1,by omega⟩
theorem toList_eq (s:ByteArray):s.toList = s.data.toList:=ByteArray.toList_eq s
theorem ZhE (s:ByteArray):s.data.toList.length = s.size:=by rw [Array.length_toList]; rfl
theorem Zs4 {a b:ByteArray} (h:a.data.toList = b.data.toList):a = b:=ByteArray.ext (Array.toList_inj.1 h)
theorem ZqK {a b:ByteArray}:a.toList = b.toList ↔ a = b:=by
 rw [toList_eq,toList_eq]
 exact ⟨Zs4,fun h => by rw [h]⟩
theorem Zzl (a b:ByteArray):(a.toList == b.toList) = decide (a = b):=by
 rw [Bool.eq_iff_iff]; simp [ZqK]
theorem Zb {p:Prop} [Decidable p] {α:Type} {a b:α} (h:p):(bif decide p then a else b) = a:=by simp [h]
theorem Ze {p:Prop} [Decidable p] {α:Type} {a b:α} (h:¬ p):(bif decide p then a else b) = b:=by simp [h]
theorem Zw (a b:Int):(a == b) = decide (a = b):=rfl
theorem Zo (a b:Int):(a != b) = decide (¬ a = b):=by rw [bne,Zw]; simp
theorem Wt {α:Type} {l:List α} {i:Nat} {d:α} (h:i < l.length):l.getD i d = l[i]:=by
 simp [List.getD_eq_getElem?_getD,h]
end Go.Sh
namespace Go.Sh
open Go
theorem XK {V R α A:Type} {step:(V → Option R) → V → Option R} (at_:Nat → A → V) (xs:List α) (G:List α → A → Option R)
  (h0:∀ L a,step L (at_ xs.length a) = G [] a)
  (h1:∀ L i (hi:i < xs.length) a,(∀ a',L (at_ (i + 1) a') = G (xs.drop (i + 1)) a') → step L (at_ i a) = G (xs[i] :: xs.drop (i + 1)) a) :
  ∀ k i a,xs.length < k + i → i ≤ xs.length → Zp step k (at_ i a) = G (xs.drop i) a
 | 0,i,a,hk,hi => by omega
 | k + 1,i,a,hk,hi => by
  rw [Zg]
  by_cases he:i = xs.length
  ·subst he
   rw [h0,List.drop_length]
  ·have hi':i < xs.length:=by omega
   rw [h1 _ i hi' a fun a' => XK at_ xs G h0 h1 k (i + 1) a' (by omega) hi',List.drop_eq_getElem_cons hi']
theorem ZI {V R α A:Type} {step:(V → Option R) → V → Option R} (at_:Nat → A → V) (xs:List α) (G:List α → A → Option R) (I:Nat → A → Prop)
  (h0:∀ L a,I xs.length a → step L (at_ xs.length a) = G [] a)
  (h1:∀ L i (hi:i < xs.length) a,I i a → (∀ a',I (i + 1) a' → L (at_ (i + 1) a') = G (xs.drop (i + 1)) a') → step L (at_ i a) = G (xs[i] :: xs.drop (i + 1)) a) :
  ∀ k i a,I i a → xs.length < k + i → i ≤ xs.length → Zp step k (at_ i a) = G (xs.drop i) a
 | 0,i,a,_,hk,hi => by omega
 | k + 1,i,a,hI,hk,hi => by
  rw [Zg]
  by_cases he:i = xs.length
  ·subst he
   rw [h0 _ _ hI,List.drop_length]
  ·have hi':i < xs.length:=by omega
   rw [h1 _ i hi' a hI fun a' ha' => ZI at_ xs G I h0 h1 k (i + 1) a' ha' (by omega) hi',List.drop_eq_getElem_cons hi']
theorem Xd {V R α:Type} {step:(V → Option R) → V → Option R} (at_:Nat → V) (xs:List α) (p:α → Bool) (out last:Option R)
  (h0:∀ L,step L (at_ xs.length) = last)
  (h1:∀ L i (hi:i < xs.length),step L (at_ i) = bif p xs[i] then L (at_ (i + 1)) else out)
  (k:Nat) (hk:xs.length < k):Zp step k (at_ 0) = bif xs.all p then last else out:=by
 have:=XK (A:=Unit) (fun i _ => at_ i) xs (fun l _ => bif l.all p then last else out) (fun L _ => h0 L) (fun L i hi _ hL => by
  rw [h1 L i hi,hL ()]
  simp only [List.all_cons]
  cases p xs[i] <;> rfl) k 0 () (by omega) (Nat.zero_le _)
 simpa using this
theorem ZO {α:Type} {l:List α} {i:Nat} {d:α} (h:i < l.length):l.getD (Int.toNat (Int.ofNat i)) d = l[i]:=by
 simp [List.getD_eq_getElem?_getD,h]
theorem QL {i n:Nat} (h:i < n) (hn:n ≤ 4294967296):IntKind.i64.wrap (Int.ofNat i + 1) = Int.ofNat (i + 1):=by
 rw [ZT (by simp only [Z8]; omega)]; rfl
theorem Y2 {i n:Nat} (h:i < n):(0:Int) ≤ Int.ofNat i ∧ Int.ofNat i < Int.ofNat n:=by simp only [Z8]; omega
theorem ltR {i n:Nat} (h:i < n):Int.ofNat i < Int.ofNat n:=by simp only [Z8]; omega
theorem We (n:Nat):¬ Int.ofNat n < Int.ofNat n:=by simp only [Z8]; omega
end Go.Sh
namespace Go.Sh
open Go Go.Proofs
def Zm (n:Nat):Nat → List Bool
 | 0 => []
 | w + 1 => n.testBit w :: Zm n w
theorem ZE (n:Nat):∀ w,(Zm n w).length = w
 | 0 => rfl
 | w + 1 => by simp [Zm,ZE n w]
def Zdy (f:Nat → Bool):Nat:=(f 0).toNat * 128 + (f 1).toNat * 64 + (f 2).toNat * 32 + (f 3).toNat * 16 + (f 4).toNat * 8 + (f 5).toNat * 4 + (f 6).toNat * 2 + (f 7).toNat
def WU (bs:List Bool) (i:Nat):Nat:=Zdy fun j => bs.getD (8 * i + j) false
def Qh (bs:List Bool):List Int:=(List.range ((bs.length + 7) / 8)).map fun i => ((WU bs i:Nat):Int)
theorem X4 (bs:List Bool):(Qh bs).length = (bs.length + 7) / 8:=by simp [Qh]
theorem ZeO {bs:List Bool} {i:Nat} (h:i < (Qh bs).length):(Qh bs)[i] = ((WU bs i:Nat):Int):=by simp [Qh]
theorem Zwi (f:Nat → Bool):Zdy f < 256:=by
 unfold Zdy
 cases f 0 <;> cases f 1 <;> cases f 2 <;> cases f 3 <;> cases f 4 <;> cases f 5 <;> cases f 6 <;> cases f 7 <;> decide
abbrev wst (bs:List Bool):List Int × Int × Unit:=(Qh bs,(bs.length:Int),())
def orB (v:Int) (r:Nat) (x:Int):Int:=IntKind.u8.wrap (Int.ofNat (BitVec.ofInt 8 v ||| BitVec.ofInt 8 (IntKind.u8.wrap (IntKind.i64.wrap (x * (2:Int) ^ min (7 - r) 64)))).toNat)
theorem ZN4:∀ (r:Fin 8) (v:Fin 256) (c:Bool),v.val % 2 ^ (8 - r.val) = 0 → orB (v.val:Int) r.val (if c then 1 else 0) = ((v.val + c.toNat * 2 ^ (7 - r.val):Nat):Int):=by
 decide +kernel
theorem ZDh {f:Nat → Bool} {r:Nat} (hr:r < 8) (hf:∀ j,r ≤ j → f j = false):Zdy f % 2 ^ (8 - r) = 0:=by
 unfold Zdy
 match r,hr with
 | 0,_ => rw [hf 0 (by omega),hf 1 (by omega),hf 2 (by omega),hf 3 (by omega),hf 4 (by omega),hf 5 (by omega),hf 6 (by omega),hf 7 (by omega)]; rfl
 | 1,_ => rw [hf 1 (by omega),hf 2 (by omega),hf 3 (by omega),hf 4 (by omega),hf 5 (by omega),hf 6 (by omega),hf 7 (by omega)]; simp <;> omega
 | 2,_ => rw [hf 2 (by omega),hf 3 (by omega),hf 4 (by omega),hf 5 (by omega),hf 6 (by omega),hf 7 (by omega)]; simp <;> omega
 | 3,_ => rw [hf 3 (by omega),hf 4 (by omega),hf 5 (by omega),hf 6 (by omega),hf 7 (by omega)]; simp <;> omega
 | 4,_ => rw [hf 4 (by omega),hf 5 (by omega),hf 6 (by omega),hf 7 (by omega)]; simp <;> omega
 | 5,_ => rw [hf 5 (by omega),hf 6 (by omega),hf 7 (by omega)]; simp <;> omega
 | 6,_ => rw [hf 6 (by omega),hf 7 (by omega)]; simp <;> omega
 | 7,_ => rw [hf 7 (by omega)]; simp <;> omega
theorem ZDi {f:Nat → Bool} {r:Nat} (hr:r < 8) (hf:f r = false) (c:Bool):Zdy (fun j => if j = r then c else f j) = Zdy f + c.toNat * 2 ^ (7 - r):=by
 unfold Zdy
 match r,hr with
 | 0,_ => simp [hf]; omega
 | 1,_ => simp [hf]; omega
 | 2,_ => simp [hf]; omega
 | 3,_ => simp [hf]; omega
 | 4,_ => simp [hf]; omega
 | 5,_ => simp [hf]; omega
 | 6,_ => simp [hf]; omega
 | 7,_ => simp [hf]
theorem ZnL {bs:List Bool} (c:Bool) {i:Nat} (h:8 * i + 8 ≤ bs.length):WU (bs ++ [c]) i = WU bs i:=by
 unfold WU Zdy
 have:∀ j,j < 8 → (bs ++ [c]).getD (8 * i + j) false = bs.getD (8 * i + j) false:=by
  intro j hj
  simp only [List.getD_eq_getElem?_getD]
  rw [List.getElem?_append_left (by omega)]
 simp only []
 rw [this 0 (by omega),this 1 (by omega),this 2 (by omega),this 3 (by omega),this 4 (by omega),this 5 (by omega),this 6 (by omega),this 7 (by omega)]
theorem ZnK {bs:List Bool} (c:Bool) {i r:Nat} (hr:r < 8) (h:bs.length = 8 * i + r):WU (bs ++ [c]) i = WU bs i + c.toNat * 2 ^ (7 - r):=by
 have h2:(bs.getD (8 * i + r) false) = false:=by rw [List.getD_eq_getElem?_getD,List.getElem?_eq_none (by omega)]; rfl
 unfold WU
 rw [← ZDi (f:=fun j => bs.getD (8 * i + j) false) hr h2 c]
 congr 1
 funext j
 simp only [List.getD_eq_getElem?_getD]
 by_cases hj:j = r
 ·subst hj; simp [← h]
 ·rw [if_neg hj]
  by_cases hlt:8 * i + j < bs.length
  ·rw [List.getElem?_append_left hlt]
  ·rw [List.getElem?_eq_none (by simp; omega),List.getElem?_eq_none (by omega)]
theorem Zzu {bs:List Bool} {i r:Nat} (hr:r < 8) (h:bs.length = 8 * i + r):WU bs i % 2 ^ (8 - r) = 0:=by
 refine ZDh hr fun j hj => ?_
 rw [List.getD_eq_getElem?_getD,List.getElem?_eq_none (by omega)]; rfl
theorem ZsP (n:Nat):((n:Int)).tdiv 8 = ((n / 8:Nat):Int):=by rw [Int.tdiv_eq_ediv_of_nonneg (by omega)]; omega
theorem ZPa (n:Nat):((n:Int)).tmod 8 = ((n % 8:Nat):Int):=by rw [Int.tmod_eq_emod_of_nonneg (by omega)]; omega
theorem ZqX {bs:List Bool} (c:Bool) {q r:Nat} (hr:r < 8) (h0:r ≠ 0) (h:bs.length = 8 * q + r) :
  Qh (bs ++ [c]) = (Qh bs).set q ((WU bs q + c.toNat * 2 ^ (7 - r):Nat):Int):=by
 have hl1:(Qh bs).length = q + 1:=by rw [X4]; omega
 have hl2:(Qh (bs ++ [c])).length = q + 1:=by rw [X4,Yq,List.length_singleton]; omega
 apply List.ext_getElem
 ·rw [List.length_set,hl1,hl2]
 ·intro i h1 h2
  rw [ZeO,List.getElem_set]
  split
  ·rename_i e; subst e; rw [ZnK c hr h]
  ·rw [ZeO,ZnL c (by omega)]
theorem ZqW {bs:List Bool} (c:Bool) {q:Nat} (h:bs.length = 8 * q) :
  Qh (bs ++ [c]) = (Qh bs ++ [0]).set q ((c.toNat * 2 ^ 7:Nat):Int):=by
 have hl1:(Qh bs).length = q:=by rw [X4]; omega
 have hl2:(Qh (bs ++ [c])).length = q + 1:=by rw [X4,Yq,List.length_singleton]; omega
 have hz:WU bs q = 0:=by
  unfold WU Zdy
  have:∀ j,bs.getD (8 * q + j) false = false:=by intro j; rw [List.getD_eq_getElem?_getD,List.getElem?_eq_none (by omega)]; rfl
  simp only [this]
  rfl
 apply List.ext_getElem
 ·rw [List.length_set,Yq,hl1,hl2]; rfl
 ·intro i h1 h2
  rw [ZeO,List.getElem_set]
  split
  ·rename_i e; subst e
   rw [ZnK c (r:=0) (by omega) (by omega),hz]; simp
  ·rw [List.getElem_append_left (by omega),ZeO,ZnL c (by omega)]
theorem Zki (k:Nat) (bs:List Bool) (hb:bs.length < 4294967296) (x:Int) (c:Bool) (hx:x = if c then 1 else 0):Zg8 k (wst bs,x,()) = some ((),wst (bs ++ [c]),()):=by
 show Ze7 k _ = _
 obtain ⟨q,r,hr,hq⟩:∃ q r,r < 8 ∧ bs.length = 8 * q + r:=⟨bs.length / 8,bs.length % 8,Nat.mod_lt _ (by omega),by omega⟩
 have e1:IntKind.i64.wrap (((bs.length:Nat):Int).tdiv 8) = ((q:Nat):Int):=by rw [ZsP,ZT (by omega)]; omega
 have e2:((bs.length:Nat):Int).tmod 8 = ((r:Nat):Int):=by rw [ZPa]; omega
 have e3:IntKind.i64.wrap ((7:Int) - (r:Int)) = ((7 - r:Nat):Int):=by rw [ZT (by omega)]; omega
 have e4:IntKind.i64.wrap (((bs.length:Nat):Int) + 1) = (((bs ++ [c]).length:Nat):Int):=by rw [ZT (by omega),Yq]; simp
 have e5:∀ v:Nat,v < 256 → v % 2 ^ (8 - r) = 0 → IntKind.u8.wrap (Int.ofNat (BitVec.ofInt 8 (v:Int) ||| BitVec.ofInt 8 (IntKind.u8.wrap (IntKind.i64.wrap (x * (2:Int) ^ min ((7 - r:Nat):Int).toNat 64)))).toNat) = ((v + c.toNat * 2 ^ (7 - r):Nat):Int):=by
  intro v hv hm
  have:=ZN4 ⟨r,hr⟩ ⟨v,hv⟩ c hm
  rw [← hx] at this
  simpa only [orB,QZ] using this
 simp only [Ze7,e1,e2,e3,QZ]
 by_cases h0:r = 0
 ·subst h0
  have hlen:(Qh bs).length = q:=by rw [X4]; omega
  rw [show ((((0:Nat):Int)) == (0:Int)) = true from rfl]
  simp only [cond_true]
  have hl:(Qh bs ++ [(0:Int)]).length = q + 1:=by simp [hlen]
  rw [Zb (by rw [hlen]; omega),Zb (by rw [hl]; simp only [Z8]; omega),Zb (by omega),Zb (by omega),Zb (by rw [hl]; simp only [Z8]; omega),Zb (by omega)]
  have hg:(Qh bs ++ [(0:Int)]).getD q (OfNat.ofNat 0) = ((0:Nat):Int):=by rw [List.getD_eq_getElem?_getD,List.getElem?_append_right (by omega),hlen]; simp
  have h5:=e5 0 (by omega) (by simp)
  simp only [QZ] at h5
  rw [hg,h5,e4]
  show _ = some ((),(Qh (bs ++ [c]),_,()),())
  rw [ZqW c (by omega)]
  simp
 ·rw [show ((((r:Nat):Int)) == (0:Int)) = false from by rw [Zw]; simp; omega]
  simp only [cond_false]
  have hlen:(Qh bs).length = q + 1:=by rw [X4]; omega
  rw [Zb (by rw [hlen]; simp only [Z8]; omega),Zb (by omega),Zb (by omega),Zb (by rw [hlen]; simp only [Z8]; omega),Zb (by omega)]
  have hg:(Qh bs).getD q (OfNat.ofNat 0) = ((WU bs q:Nat):Int):=by rw [List.getD_eq_getElem?_getD,List.getElem?_eq_getElem (by omega),ZeO]; rfl
  have h5:=e5 _ (Zwi _) (Zzu hr hq)
  simp only [QZ] at h5
  rw [hg]
  rw [show Zdy (fun j => bs.getD (8 * q + j) false) = WU bs q from rfl] at h5
  rw [h5,e4]
  show _ = some ((),(Qh (bs ++ [c]),_,()),())
  rw [ZqX c hr h0 hq]
end Go.Sh
namespace Go.Sh
open Go Go.Proofs
theorem Zas (n j:Nat):((n:Nat):Int).fdiv ((2:Int) ^ j) = ((n / 2 ^ j:Nat):Int):=by
 have h0:(0:Int) ≤ (2:Int) ^ j:=Int.pow_nonneg (by omega)
 rw [Int.fdiv_eq_ediv_of_nonneg _ h0]
 have:((2:Int) ^ j) = ((2 ^ j:Nat):Int):=by rw [Int.natCast_pow]; rfl
 rw [this]; rfl
theorem ZUe (n j:Nat) (hj:j < 64):IntKind.i64.wrap (IntKind.u64.wrap (Int.ofNat (BitVec.ofInt 64 (((n:Nat):Int).fdiv ((2:Int) ^ min (j:Int).toNat 64)) &&& BitVec.ofInt 64 1).toNat)) = if n.testBit j then 1 else 0:=by
 rw [QZ,Nat.min_eq_left (by omega),Zas,BitVec.ofInt_natCast,show BitVec.ofInt 64 1 = 1#64 from rfl,BitVec.toNat_and,BitVec.toNat_ofNat]
 rw [show (1#64).toNat = 1 from rfl,Nat.and_one_is_mod,Nat.mod_mod_of_dvd _ (by decide:2 ∣ 2 ^ 64)]
 have h2:n.testBit j = decide (n / 2 ^ j % 2 = 1):=Nat.testBit_eq_decide_div_mod_eq
 rw [h2]
 have:n / 2 ^ j % 2 < 2:=Nat.mod_lt _ (by omega)
 generalize n / 2 ^ j % 2 = m at this ⊢
 match m,this with
 | 0,_ => rfl
 | 1,_ => rfl
theorem Zx6 (k:Nat):∀ (w:Nat) (bs:List Bool) (n:Nat),w < k → w ≤ 64 → bs.length + w < 4294967296 →
  Zdh k (wst bs,(n:Int),(w:Int),()) = some ((),wst (bs ++ Zm n w),()):=by
 intro w bs n hk hw hb
 show ZiV k (ZuJ k) _ = _
 simp only [ZiV]
 suffices H:∀ (w:Nat) (m:Nat) (bs:List Bool),w < m → w ≤ 64 → bs.length + w < 4294967296 →
   Zp (fun L1 => Zeh k L1) m (IntKind.i64.wrap ((w:Int) - 1),(n:Int),(bs.length:Int),Qh bs) = some ((),wst (bs ++ Zm n w),()) from H w k bs hk hw hb
 intro w
 induction w with
 | zero =>
  intro m bs hm _ _
  obtain ⟨m,rfl⟩:=Zk hm
  rw [Zg]
  rw [show IntKind.i64.wrap (((0:Nat):Int) - 1) = -1 from by rw [ZT (by omega)]; rfl]
  simp only [Zeh]
  rw [Ze (by omega)]
  simp [Zm]
 | succ w ih =>
  intro m bs hm hw hb
  obtain ⟨m,rfl⟩:=Zk (show 0 < m by omega)
  rw [Zg]
  have e1:IntKind.i64.wrap (((w + 1:Nat):Int) - 1) = (w:Int):=by rw [ZT (by omega)]; omega
  rw [e1]
  simp only [Zeh]
  rw [Zb (by omega)]
  simp only [Zb (show (0:Int) ≤ (w:Int) by omega)]
  rw [ZUe n w (by omega)]
  rw [show ((Qh bs,((bs.length:Nat):Int),()):List Int × Int × Unit) = wst bs from rfl,Zki k bs (by omega) _ (n.testBit w) rfl]
  simp only [Qr]
  rw [ih m (bs ++ [n.testBit w]) (by omega) (by omega) (by simp; omega)]
  simp [Zm]
theorem Zpj (k w:Nat) (h:w ≤ 32):Zpi k ((w:Int),()) = some (false,()):=by
 show ZiU k _ = _
 simp only [ZiU]
 rw [Ze (by omega),QG (by omega)]
theorem QN (k:Nat) (bs:List Bool) (n w:Nat) (hk:64 < k) (hw:w ≤ 32) (hn:n < 2 ^ w) (hb:bs.length + w < 4294967296) :
  QM k (wst bs,(n:Int),(w:Int),()) = some (0,wst (bs ++ Zm n w),()):=by
 show Zis k _ = _
 have h32:n < 2 ^ 32:=Nat.lt_of_lt_of_le hn (Nat.pow_le_pow_right (by omega) hw)
 simp only [Zis]
 rw [Zpj k w hw]
 simp only [Qr,cond_false]
 rw [Ze (by omega),Zb (by omega),QZ,Nat.min_eq_left (by omega),Zas,Nat.div_eq_of_lt hn]
 rw [show ((((0:Nat):Int)) != (0:Int)) = false from rfl]
 simp only [cond_false]
 rw [show IntKind.u64.wrap (n:Int) = (n:Int) from by rw [IntKind.wrap_u64]; omega]
 rw [show ((Qh bs,((bs.length:Nat):Int),()):List Int × Int × Unit) = wst bs from rfl,Zx6 k w bs n (by omega) (by omega) hb]
 rfl
def W6 (n:Int) (w:Nat):Bool:=if w = 0 then n = 0 else -(2 ^ (w - 1):Int) ≤ n ∧ n < 2 ^ (w - 1)
def Yt (n:Int) (w:Nat):List Bool:=Zm (n % 2 ^ w).toNat w
theorem ZnG (n v:Nat):∀ w,w ≤ v → Zm (n % 2 ^ v) w = Zm n w
 | 0,_ => rfl
 | w + 1,h => by
  simp only [Zm]
  rw [ZnG n v w (by omega),Nat.testBit_mod_two_pow]
  simp [show w < v by omega]
theorem Zgp (n:Int) (w:Nat):(Yt n w).length = w:=ZE _ _
theorem ZlQ (n:Int) (w v:Nat) (h:w ≤ v):(n % 2 ^ v).toNat % 2 ^ w = (n % 2 ^ w).toNat:=by
 have hv:(0:Int) < 2 ^ v:=Int.pow_pos (by omega)
 have hw:(0:Int) < 2 ^ w:=Int.pow_pos (by omega)
 have h1:0 ≤ n % 2 ^ v:=Int.emod_nonneg _ (by omega)
 have h2:0 ≤ n % 2 ^ w:=Int.emod_nonneg _ (by omega)
 have hd:((2:Int) ^ w) ∣ 2 ^ v:=⟨2 ^ (v - w),by rw [← Int.pow_add]; congr 1; omega⟩
 apply Int.ofNat.inj
 show (((n % 2 ^ v).toNat % 2 ^ w:Nat):Int) = ((n % 2 ^ w).toNat:Int)
 rw [Int.natCast_emod,Int.toNat_of_nonneg h1,Int.toNat_of_nonneg h2,Int.natCast_pow]
 exact Int.emod_emod_of_dvd n hd
theorem Zs5 (n:Int) (w v:Nat) (h:w ≤ v):Zm (n % 2 ^ v).toNat w = Yt n w:=by
 unfold Yt
 rw [← ZlQ n w v h,ZnG _ _ _ (Nat.le_refl w)]
theorem Zyw {n:Int} {w:Nat} (hw:0 < w) (h:W6 n w = true):n.fdiv (2 ^ (w - 1)) = 0 ∨ n.fdiv (2 ^ (w - 1)) = -1:=by
 unfold W6 at h
 rw [if_neg (by omega)] at h
 obtain ⟨h1,h2⟩:=of_decide_eq_true h
 have hp:(0:Int) < 2 ^ (w - 1):=Int.pow_pos (by omega)
 rw [Int.fdiv_eq_ediv_of_nonneg _ (by omega)]
 rcases Int.lt_or_le n 0 with hn | hn
 ·right
  rw [Int.ediv_eq_iff_of_pos hp]
  constructor <;> omega
 ·left
  exact Int.ediv_eq_zero_of_lt hn h2
theorem Zrj (k:Nat) (bs:List Bool) (n:Int) (w:Nat) (hk:64 < k) (hw:w ≤ 32) (hn:W6 n w = true) (hb:bs.length + w < 4294967296) :
  Zkl k (wst bs,n,(w:Int),()) = some (0,wst (bs ++ Yt n w),()):=by
 show Zfg k _ = _
 have hput:Zdh k ((Qh bs,((bs.length:Nat):Int),()),IntKind.u64.wrap n,(w:Int),()) = some ((),wst (bs ++ Yt n w),()):=by
  rw [show IntKind.u64.wrap n = (((n % 2 ^ 64).toNat:Nat):Int) from by
   rw [IntKind.wrap_u64]
   have:0 ≤ n % 2 ^ 64:=Int.emod_nonneg _ (by decide)
   rw [Int.toNat_of_nonneg this]; rfl]
  rw [show ((Qh bs,((bs.length:Nat):Int),()):List Int × Int × Unit) = wst bs from rfl,Zx6 k w bs _ (by omega) (by omega) hb,Zs5 n w 64 (by omega)]
 simp only [Zfg]
 rw [Zpj k w hw]
 simp only [Qr,cond_false,hput]
 by_cases h0:w = 0
 ·subst h0
  unfold W6 at hn
  simp at hn
  subst hn
  rw [show ((((0:Nat):Int)) == (0:Int)) = true from rfl]
  simp only [cond_true]
  rw [show (((0:Int)) != (0:Int)) = false from rfl]
  simp only [cond_false]
  rw [Ze (by omega)]
 ·rw [show ((((w:Nat):Int)) == (0:Int)) = false from by rw [Zw]; simp; omega]
  simp only [cond_false]
  have e1:IntKind.i64.wrap ((w:Int) - 1) = ((w - 1:Nat):Int):=by rw [ZT (by omega)]; omega
  rw [e1]
  simp only [QZ,Nat.min_eq_left (show w - 1 ≤ 64 by omega)]
  rw [Zb (by omega),Zb (by omega)]
  rcases Zyw (by omega) hn with h | h
  ·rw [h]
   rw [show (((0:Int)) != (0:Int)) = false from rfl]
   rfl
  ·rw [h]
   rw [show (((-1:Int)) != (0:Int)) = true from rfl]
   simp only [cond_true]
   rw [Zb (by omega),show (((-1:Int)) != (-1:Int)) = false from rfl]
   rfl
theorem Zx9 (k:Nat) (bs:List Bool) (n:Nat) (hk:n < k) (hn:n ≤ 65536) (hb:bs.length + n + 1 < 4294967296) :
  ZlL k (wst bs,(n:Int),()) = some (0,wst (bs ++ (List.replicate n false ++ [true])),()):=by
 show Zi1 k (ZuS k) _ = _
 simp only [Zi1]
 rw [Ze (by omega),Ze (by omega)]
 suffices H:∀ (r i m:Nat) (bs:List Bool),n = i + r → r < m → bs.length + r + 1 < 4294967296 →
   Zp (fun L1 => Zek k L1) m ((n:Int),(i:Int),(bs.length:Int),Qh bs) = some (0,wst (bs ++ (List.replicate r false ++ [true])),()) from H n 0 k bs (by omega) hk hb
 intro r
 induction r with
 | zero =>
  intro i m bs he hm hb
  obtain ⟨m,rfl⟩:=Zk hm
  rw [Zg]
  simp only [Zek]
  rw [Ze (by omega),show ((Qh bs,((bs.length:Nat):Int),()):List Int × Int × Unit) = wst bs from rfl,Zki k bs (by omega) 1 true rfl]
  simp
 | succ r ih =>
  intro i m bs he hm hb
  obtain ⟨m,rfl⟩:=Zk (show 0 < m by omega)
  rw [Zg]
  simp only [Zek]
  rw [Zb (by omega),show ((Qh bs,((bs.length:Nat):Int),()):List Int × Int × Unit) = wst bs from rfl,Zki k bs (by omega) 0 false rfl]
  simp only [Qr]
  rw [show IntKind.i64.wrap ((i:Int) + 1) = ((i + 1:Nat):Int) from by rw [ZT (by omega)]; omega]
  rw [ih (i + 1) m (bs ++ [false]) (by omega) (by omega) (by simp; omega)]
  simp [List.replicate_succ]
def Zcn (n:Nat):Nat:=(8 - n % 8) % 8
theorem Zzv (bs:List Bool) (m i:Nat):WU (bs ++ List.replicate m false) i = WU bs i:=by
 unfold WU
 congr 1
 funext j
 simp only [List.getD_eq_getElem?_getD]
 by_cases h:8 * i + j < bs.length
 ·rw [List.getElem?_append_left h]
 ·rw [List.getElem?_eq_none (by omega:bs.length ≤ 8 * i + j),List.getElem?_append_right (by omega),List.getElem?_replicate]
  split <;> rfl
theorem ZKk (bs:List Bool):Qh (bs ++ List.replicate (Zcn bs.length) false) = Qh bs:=by
 unfold Qh
 rw [show ((bs ++ List.replicate (Zcn bs.length) false).length + 7) / 8 = (bs.length + 7) / 8 from by simp [Zcn]; omega]
 apply List.map_congr_left
 intro i _
 rw [Zzv]
theorem ZUd (n:Nat) (h:n < 4294967296):IntKind.i64.wrap (Int.ofNat (BitVec.ofInt 64 (IntKind.i64.wrap ((0:Int) - (n:Int))) &&& BitVec.ofInt 64 7).toNat) = ((Zcn n:Nat):Int):=by
 rw [ZT (n:=(0:Int) - (n:Int)) (by omega)]
 have e:BitVec.ofInt 64 ((0:Int) - (n:Int)) = BitVec.ofNat 64 (18446744073709551616 - n):=by
  apply BitVec.eq_of_toNat_eq
  rw [BitVec.toNat_ofInt,BitVec.toNat_ofNat]
  omega
 rw [e,show BitVec.ofInt 64 7 = 7#64 from rfl,BitVec.toNat_and,BitVec.toNat_ofNat,show (7#64).toNat = 2 ^ 3 - 1 from rfl,Nat.and_two_pow_sub_one_eq_mod]
 have:(18446744073709551616 - n) % 2 ^ 64 % 2 ^ 3 = Zcn n:=by unfold Zcn; omega
 rw [this,ZT (by unfold Zcn; simp only [Z8]; omega)]
 rfl
theorem ZIw (k:Nat) (bs:List Bool) (hb:bs.length < 4294967000):ZxQ k (wst bs,()) = some (((Zcn bs.length:Nat):Int),wst (bs ++ List.replicate (Zcn bs.length) false),()):=by
 show Ziy k _ = _
 simp only [Ziy]
 rw [ZUd _ (by omega)]
 have h8:Zcn bs.length < 8:=by unfold Zcn; omega
 rw [show IntKind.i64.wrap (((bs.length:Nat):Int) + ((Zcn bs.length:Nat):Int)) = (((bs ++ List.replicate (Zcn bs.length) false).length:Nat):Int) from by rw [ZT (by omega)]; simp]
 show _ = some (_,(Qh (bs ++ List.replicate (Zcn bs.length) false),_,()),())
 rw [ZKk]
theorem Zo3 (k:Nat) (bs:List Bool) (hb:bs.length < 4294967296):Zo2 k (wst bs,()) = some (Qh bs,wst bs,()):=by
 show Ziv k _ = _
 simp only [Ziv]
 have:(Qh bs).length < 2147483648:=by rw [X4]; omega
 rw [show Zr4 k (Qh bs,()) = some (Qh bs,()) from by show KH _ = _; unfold KH; rw [Zb this]]
 rfl
theorem ZIp (k:Nat):ZoY k () = some (wst [],()):=rfl
end Go.Sh
namespace Go.Sh
open Go Go.Proofs
theorem ZqC {n:Nat} (h:n < 18446744073709551616):IntKind.u64.wrap (n:Int) = (n:Int):=by rw [IntKind.wrap_u64]; omega
theorem Zwh {a:Nat} (ha:a < 18446744073709551616):(BitVec.ofInt 64 (a:Int)).toNat = a:=by rw [BitVec.ofInt_natCast,BitVec.toNat_ofNat,Nat.mod_eq_of_lt ha]
theorem Zzj {a b:Nat} (ha:a < 18446744073709551616) (hb:b < 18446744073709551616):Int.ofNat (BitVec.ofInt 64 (a:Int) &&& BitVec.ofInt 64 (b:Int)).toNat = ((a &&& b:Nat):Int):=by
 rw [BitVec.toNat_and,Zwh ha,Zwh hb]; rfl
theorem orN {a b:Nat} (ha:a < 18446744073709551616) (hb:b < 18446744073709551616):Int.ofNat (BitVec.ofInt 64 (a:Int) ||| BitVec.ofInt 64 (b:Int)).toNat = ((a ||| b:Nat):Int):=by
 rw [BitVec.toNat_or,Zwh ha,Zwh hb]; rfl
theorem ZSK {a b:Nat} (ha:a < 18446744073709551616) (hb:b < 18446744073709551616):Int.ofNat (BitVec.ofInt 64 (a:Int) ^^^ BitVec.ofInt 64 (b:Int)).toNat = ((a ^^^ b:Nat):Int):=by
 rw [BitVec.toNat_xor,Zwh ha,Zwh hb]; rfl
theorem QC (j:Nat):((2:Int) ^ j) = ((2 ^ j:Nat):Int):=by rw [Int.natCast_pow]; rfl
def ZdA (s p r:Nat):Nat:=(2 * r) % 2 ^ s ^^^ (r / 2 ^ (s - 1) % 2) * p
def ZaL (s p:Nat):Nat → Nat → Nat
 | 0,r => r
 | n + 1,r => ZaL s p n (ZdA s p r)
def ZaM (s p r x:Nat):Nat:=ZaL s p 8 (r ^^^ x * 2 ^ (s - 8))
def ZGe (s p:Nat) (l:List Nat):Nat:=l.foldl (ZaM s p) 0
def ZP (l:List Int):Bool:=l.all fun x => decide (0 ≤ x) && decide (x < 256)
def Zhp (l:List Int):List Nat:=l.map Int.toNat
theorem Zka {s p r:Nat} (hp:p < 2 ^ s):ZdA s p r < 2 ^ s:=by
 unfold ZdA
 refine Nat.xor_lt_two_pow (Nat.mod_lt _ (Nat.pow_pos (by omega))) ?_
 have:r / 2 ^ (s - 1) % 2 < 2:=Nat.mod_lt _ (by omega)
 generalize r / 2 ^ (s - 1) % 2 = b at this
 have h0:0 < 2 ^ s:=Nat.pow_pos (by omega)
 match b,this with
 | 0,_ => simpa using h0
 | 1,_ => simpa using hp
theorem ZnT {s p:Nat} (hp:p < 2 ^ s):∀ (n r:Nat),r < 2 ^ s → ZaL s p n r < 2 ^ s
 | 0,r,h => h
 | n + 1,r,h => ZnT hp n _ (Zka hp)
theorem Zg3 {s p r x:Nat} (hs:8 ≤ s) (hp:p < 2 ^ s) (hr:r < 2 ^ s) (hx:x < 256):ZaM s p r x < 2 ^ s:=by
 refine ZnT hp _ _ (Nat.xor_lt_two_pow hr ?_)
 have h1:2 ^ s = 2 ^ 8 * 2 ^ (s - 8):=by rw [← Nat.pow_add]; congr 1; omega
 have:x * 2 ^ (s - 8) < 256 * 2 ^ (s - 8):=Nat.mul_lt_mul_of_pos_right hx (Nat.pow_pos (by omega))
 rw [h1]; exact this
theorem Zg4 {s p:Nat} (hs:8 ≤ s) (hp:p < 2 ^ s):∀ (l:List Nat) (r:Nat),(∀ x ∈ l,x < 256) → r < 2 ^ s → l.foldl (ZaM s p) r < 2 ^ s
 | [],r,_,h => h
 | x :: l,r,hl,h => by
  simp only [List.foldl_cons]
  exact Zg4 hs hp l _ (fun y hy => hl y (List.mem_cons_of_mem _ hy)) (Zg3 hs hp h (hl x (List.mem_cons_self ..)))
theorem ZKS {s p r:Nat} (hs:8 ≤ s) (hs':s ≤ 16) (hp:p < 2 ^ s) (hr:r < 2 ^ s) :
  IntKind.u64.wrap (Int.ofNat (BitVec.ofInt 64 (IntKind.u64.wrap (Int.ofNat (BitVec.ofInt 64 (IntKind.u64.wrap ((r:Int) * (2:Int))) &&& BitVec.ofInt 64 (IntKind.u64.wrap (IntKind.u64.wrap ((1:Int) * (2:Int) ^ min (s:Int).toNat 64) - (1:Int)))).toNat)) ^^^
   BitVec.ofInt 64 (IntKind.u64.wrap (IntKind.u64.wrap (Int.ofNat (BitVec.ofInt 64 ((r:Int).fdiv ((2:Int) ^ min (IntKind.i64.wrap ((s:Int) - (1:Int))).toNat 64)) &&& BitVec.ofInt 64 (1:Int)).toNat) * (p:Int)))).toNat) = ((ZdA s p r:Nat):Int):=by
 have hpow:2 ^ s ≤ 2 ^ 16:=Nat.pow_le_pow_right (by omega) hs'
 have hpos:0 < 2 ^ s:=Nat.pow_pos (by omega)
 rw [show IntKind.i64.wrap ((s:Int) - 1) = ((s - 1:Nat):Int) from by rw [ZT (by omega)]; omega]
 rw [QZ,QZ,Nat.min_eq_left (by omega),Nat.min_eq_left (by omega),Zas,Int.one_mul,QC]
 rw [ZqC (n:=2 ^ s) (by omega),show ((2 ^ s:Nat):Int) - 1 = ((2 ^ s - 1:Nat):Int) from by omega,ZqC (n:=2 ^ s - 1) (by omega)]
 rw [show (r:Int) * 2 = ((2 * r:Nat):Int) from by omega,ZqC (n:=2 * r) (by omega)]
 rw [Zzj (by omega) (by omega),Nat.and_two_pow_sub_one_eq_mod]
 have hm:2 * r % 2 ^ s < 2 ^ s:=Nat.mod_lt _ hpos
 rw [ZqC (n:=2 * r % 2 ^ s) (by omega)]
 have hdl:r / 2 ^ (s - 1) ≤ r:=Nat.div_le_self _ _
 rw [show ((1:Int)) = ((1:Nat):Int) from rfl,Zzj (by omega) (by omega),Nat.and_one_is_mod]
 have hb:r / 2 ^ (s - 1) % 2 < 2:=Nat.mod_lt _ (by omega)
 have hbp:r / 2 ^ (s - 1) % 2 * p < 2 ^ s:=by
  generalize r / 2 ^ (s - 1) % 2 = b at hb
  match b,hb with
  | 0,_ => simpa using hpos
  | 1,_ => simpa using hp
 rw [ZqC (n:=r / 2 ^ (s - 1) % 2) (by omega),← Int.natCast_mul,ZqC (n:=r / 2 ^ (s - 1) % 2 * p) (by omega),ZSK (by omega) (by omega)]
 have:=Zka (s:=s) (p:=p) (r:=r) hp
 unfold ZdA at this ⊢
 rw [ZqC (by omega)]
theorem ZF9 {s r x:Nat} (hs:8 ≤ s) (hs':s ≤ 16) (hr:r < 2 ^ s) (hx:x < 256) :
  IntKind.u64.wrap (Int.ofNat (BitVec.ofInt 64 (r:Int) ^^^ BitVec.ofInt 64 (IntKind.u64.wrap (IntKind.u64.wrap (x:Int) * (2:Int) ^ min (IntKind.i64.wrap ((s:Int) - (8:Int))).toNat 64))).toNat) = ((r ^^^ x * 2 ^ (s - 8):Nat):Int):=by
 have hpow:2 ^ s ≤ 2 ^ 16:=Nat.pow_le_pow_right (by omega) hs'
 have h1:2 ^ s = 2 ^ 8 * 2 ^ (s - 8):=by rw [← Nat.pow_add]; congr 1; omega
 have hxp:x * 2 ^ (s - 8) < 2 ^ s:=by
  rw [h1]; exact Nat.mul_lt_mul_of_pos_right hx (Nat.pow_pos (by omega))
 rw [show IntKind.i64.wrap ((s:Int) - 8) = ((s - 8:Nat):Int) from by rw [ZT (by omega)]; omega]
 rw [QZ,Nat.min_eq_left (by omega),QC,ZqC (n:=x) (by omega),← Int.natCast_mul,ZqC (n:=x * 2 ^ (s - 8)) (by omega),ZSK (by omega) (by omega)]
 have:r ^^^ x * 2 ^ (s - 8) < 2 ^ s:=Nat.xor_lt_two_pow hr hxp
 rw [ZqC (by omega)]
theorem ZE7 (k:Nat) {s p:Nat} (hs:8 ≤ s) (hs':s ≤ 16) (hp:p < 2 ^ s) (L1:Int × Int × List Int × Int × Int × Int → Option (Int × Unit)) (v4 v5:Int) (v6:List Int) :
  ∀ (n m i r:Nat),i + n = 8 → n < m → r < 2 ^ s →
  Zp (fun L2 => Zcd k L1 L2) m ((i:Int),(r:Int),(s:Int),(p:Int),v4,v5,v6) = L1 (v5,IntKind.i64.wrap (v4 + 1),v6,((ZaL s p n r:Nat):Int),(s:Int),(p:Int)):=by
 intro n
 induction n with
 | zero =>
  intro m i r hi hm hr
  obtain ⟨m,rfl⟩:=Zk hm
  rw [Zg]
  simp only [Zcd]
  rw [Ze (by omega)]
  rfl
 | succ n ih =>
  intro m i r hi hm hr
  obtain ⟨m,rfl⟩:=Zk (show 0 < m by omega)
  rw [Zg]
  simp only [Zcd]
  rw [Zb (by omega),Zb (by rw [ZT (by omega)]; omega),Zb (by omega),ZKS hs hs' hp hr]
  rw [show IntKind.i64.wrap ((i:Int) + 1) = ((i + 1:Nat):Int) from by rw [ZT (by omega)]; omega]
  rw [ih m (i + 1) _ (by omega) (by omega) (Zka hp)]
  rfl
theorem WV {l:List Int} (h:ZP l = true) {i:Nat} (hi:i < l.length):∃ x:Nat,x < 256 ∧ l[i] = (x:Int):=by
 have:=List.all_eq_true.1 h l[i] (List.getElem_mem hi)
 simp only [Bool.and_eq_true,decide_eq_true_eq] at this
 exact ⟨l[i].toNat,by omega,by omega⟩
theorem Zst {l:List Int} (h:ZP l = true):∀ x ∈ Zhp l,x < 256:=by
 intro x hx
 obtain ⟨y,hy,rfl⟩:=List.mem_map.1 hx
 have:=List.all_eq_true.1 h y hy
 simp only [Bool.and_eq_true,decide_eq_true_eq] at this
 omega
theorem Zx7 (k:Nat) (l:List Int) {s p:Nat} (hs:8 ≤ s) (hs':s ≤ 16) (hp:p < 2 ^ s) (hl:ZP l = true) (hk:l.length + 8 < k) (hk':l.length < 4294967296) :
  ZgF k (l,(s:Int),(p:Int),()) = some (((ZGe s p (Zhp l):Nat):Int),()):=by
 show ZiY k (ZuL k) _ = _
 simp only [ZiY]
 have h16:2 ^ s ≤ 2 ^ 16:=Nat.pow_le_pow_right (by omega) hs'
 have:=ZI (A:=Nat) (step:=fun L1 => Zei k (ZuM k L1) L1) (fun i r => (Int.ofNat l.length,Int.ofNat i,l,(r:Int),(s:Int),(p:Int))) l
  (fun l' r => some (((l'.foldl (fun r x => ZaM s p r x.toNat) r:Nat):Int),())) (fun i r => r < 2 ^ s)
  (fun L r hr => by
   simp only [Zei]
   rw [Ze (We _),ZT (by omega)]; rfl)
  (fun L i hi r hr hL => by
   obtain ⟨x,hx,hxe⟩:=WV hl hi
   simp only [Zei]
   rw [Zb (ltR hi),Zb (Y2 hi),Zb (by rw [ZT (by omega)]; omega),ZO hi,hxe,ZF9 hs hs' hr hx]
   have hx2:r ^^^ x * 2 ^ (s - 8) < 2 ^ s:=Nat.xor_lt_two_pow hr (by
    have h1:2 ^ s = 2 ^ 8 * 2 ^ (s - 8):=by rw [← Nat.pow_add]; congr 1; omega
    rw [h1]; exact Nat.mul_lt_mul_of_pos_right hx (Nat.pow_pos (by omega)))
   have hin:=ZE7 k hs hs' hp L (Int.ofNat i) (Int.ofNat l.length) l 8 k 0 (r ^^^ x * 2 ^ (s - 8)) rfl (by omega) hx2
   refine Eq.trans hin ?_
   rw [QL hi (by omega)]
   rw [show ZaL s p 8 (r ^^^ x * 2 ^ (s - 8)) = ZaM s p r x from rfl]
   rw [hL _ (Zg3 hs hp hr hx)]
   rw [List.foldl_cons,QZ]) k 0 0 (Nat.pow_pos (by omega)) (by omega) (Nat.zero_le _)
 refine Eq.trans this ?_
 rw [List.drop_zero]
 unfold ZGe Zhp
 rw [List.foldl_map]
theorem ZDg (bs:List Bool) (i:Nat):WU bs i < 256:=Zwi _
theorem Zht (bs:List Bool):ZP (Qh bs) = true:=by
 refine List.all_eq_true.2 fun x hx => ?_
 obtain ⟨i,_,rfl⟩:=List.mem_map.1 hx
 have h:=ZDg bs i
 generalize WU bs i = n at h
 rw [Bool.and_eq_true,decide_eq_true_eq,decide_eq_true_eq]
 omega
def Zj9 (l:List Int):Nat:=ZGe 8 7 (Zhp l)
def YQ (l:List Int):Nat:=ZGe 16 32773 (Zhp l)
theorem ZKU {l:List Int} (h:ZP l = true):Zj9 l < 2 ^ 8:=Zg4 (by omega) (by omega) _ _ (Zst h) (by omega)
theorem Zwr {l:List Int} (h:ZP l = true):YQ l < 2 ^ 16:=Zg4 (by omega) (by omega) _ _ (Zst h) (by omega)
theorem ZxN (k:Nat) (l:List Int) (hl:ZP l = true) (hk:l.length + 8 < k) (hk':l.length < 4294967296):ZrV k (l,()) = some (((Zj9 l:Nat):Int),()):=by
 show Ziu k _ = _
 simp only [Ziu]
 have:=Zx7 k l (s:=8) (p:=7) (by omega) (by omega) (by omega) hl hk hk'
 rw [show ZgF k (l,8,7,()) = ZgF k (l,((8:Nat):Int),((7:Nat):Int),()) from rfl,this]
 rfl
theorem ZxR (k:Nat) (l:List Int) (hl:ZP l = true) (hk:l.length + 8 < k) (hk':l.length < 4294967296):ZrY k (l,()) = some (((YQ l:Nat):Int),()):=by
 show Ziz k _ = _
 simp only [Ziz]
 have:=Zx7 k l (s:=16) (p:=32773) (by omega) (by omega) (by omega) hl hk hk'
 rw [show ZgF k (l,16,32773,()) = ZgF k (l,((16:Nat):Int),((32773:Nat):Int),()) from rfl,this]
 rfl
def WE (k:Nat):Nat:=if k = 1 then 7 else 5 * k + 1
def ZlB:Nat → Nat → List Nat
 | _,0 => []
 | n,i + 1 => ZlB (n / 64) i ++ [128 + n % 64]
def Zgw (n:Nat):Nat:=if n < 2 ^ 7 then 1 else if n < 2 ^ 11 then 2 else if n < 2 ^ 16 then 3 else if n < 2 ^ 21 then 4 else if n < 2 ^ 26 then 5 else if n < 2 ^ 31 then 6 else 7
def Zpy (k m:Nat):Nat:=(65280 / 2 ^ k % 256) ||| m
def Q6 (n:Nat):List Nat:=if n < 128 then [n] else Zpy (Zgw n) (n / 64 ^ (Zgw n - 1)) :: ZlB n (Zgw n - 1)
def X0 (l:List Nat):List Int:=l.map fun (n:Nat) => (n:Int)
theorem ZN5:∀ m:Fin 64,IntKind.u8.wrap (Int.ofNat (BitVec.ofInt 8 (128:Int) ||| BitVec.ofInt 8 (IntKind.u8.wrap (IntKind.i64.wrap (m.val:Int)))).toNat) = ((128 + m.val:Nat):Int):=by decide +kernel
theorem ZKj:∀ (k:Fin 8) (m:Fin 64),2 ≤ k.val → IntKind.u8.wrap (Int.ofNat (BitVec.ofInt 8 (IntKind.u8.wrap (Int.fdiv (65280:Int) ((2:Int) ^ min (k.val:Int).toNat 64))) ||| BitVec.ofInt 8 (IntKind.u8.wrap (m.val:Int))).toNat) = ((Zpy k.val m.val:Nat):Int):=by decide +kernel
theorem ZE1 (k:Nat) {kk:Nat} (h2:2 ≤ kk) (h7:kk ≤ 7):∀ (i m n:Nat) (suf:List Int),i < m → i < kk → n < 18446744073709551616 → n / 64 ^ i < 64 →
  Zp (fun L2 => Zd3 k L2) m ((i:Int),(n:Int),(kk:Int),List.replicate (i + 1) 0 ++ suf) = some ((X0 (Zpy kk (n / 64 ^ i) :: ZlB n i) ++ suf,0,()),()):=by
 intro i
 induction i with
 | zero =>
  intro m n suf hm hi hn hq
  obtain ⟨m,rfl⟩:=Zk hm
  rw [Zg]
  simp only [Zd3]
  rw [Ze (by omega),Zb (by omega),Zb (by simp only [Z8,Yq,List.length_replicate]; omega),Zb (by simp)]
  rw [Nat.pow_zero,Nat.div_one] at hq ⊢
  have:=ZKj ⟨kk,by omega⟩ ⟨n,hq⟩ h2
  simp only at this
  rw [this]
  rfl
 | succ i ih =>
  intro m n suf hm hi hn hq
  obtain ⟨m,rfl⟩:=Zk (show 0 < m by omega)
  rw [Zg]
  simp only [Zd3]
  have hl:(List.replicate (i + 1 + 1) (0:Int) ++ suf).length = i + 2 + suf.length:=by simp
  rw [Zb (by omega),Zb (by rw [hl]; simp only [Z8]; omega),Zb (by rw [hl]; omega)]
  rw [show (63:Int) = ((63:Nat):Int) from rfl,Zzj hn (by omega)]
  have h63:n &&& 63 = n % 64:=Nat.and_two_pow_sub_one_eq_mod n 6
  have:=ZN5 ⟨n % 64,Nat.mod_lt _ (by omega)⟩
  simp only at this
  rw [h63,this]
  rw [show IntKind.i64.wrap (((i + 1:Nat):Int) - 1) = (i:Int) from by rw [ZT (by omega)]; omega]
  rw [show ((n:Int)).fdiv 64 = ((n / 64:Nat):Int) from by rw [Int.fdiv_eq_ediv_of_nonneg _ (by omega)]; rfl]
  have hset:(List.replicate (i + 1 + 1) (0:Int) ++ suf).set (((i + 1:Nat):Int)).toNat ((128 + n % 64:Nat):Int) = List.replicate (i + 1) 0 ++ (((128 + n % 64:Nat):Int) :: suf):=by
   rw [QZ,List.replicate_succ' (n:=i + 1),List.append_assoc,List.set_append_right _ _ (by simp)]
   simp
  rw [hset,ih m (n / 64) _ (by omega) (by omega) (by omega) (by rw [Nat.div_div_eq_div_mul,Nat.mul_comm,← Nat.pow_succ]; exact hq)]
  rw [Nat.div_div_eq_div_mul,Nat.mul_comm,← Nat.pow_succ]
  simp only [X0,ZlB,List.map_cons,List.map_append,List.map_nil,List.append_assoc,List.cons_append,List.nil_append]
theorem Zpl (k kk:Nat) (h:kk ≤ 8):Zr3 k ((kk:Int),()) = some (((WE kk:Nat):Int),()):=by
 show ZiW k _ = _
 simp only [ZiW]
 unfold WE
 by_cases h1:kk = 1
 ·subst h1; rfl
 ·rw [show (((kk:Nat):Int) == (1:Int)) = false from by rw [Zw]; simp; omega,if_neg h1]
  simp only [cond_false]
  rw [ZT (n:=5 * (kk:Int)) (by omega),ZT (by omega)]
  congr 2
theorem Zqm:WE 2 = 11 ∧ WE 3 = 16 ∧ WE 4 = 21 ∧ WE 5 = 26 ∧ WE 6 = 31 ∧ WE 7 = 36:=by decide
theorem ZNQ {kk n:Nat} (h2:2 ≤ kk) (h7:kk ≤ 7) (hlt:n < 2 ^ WE kk) (hge:2 < kk → 2 ^ WE (kk - 1) ≤ n) (h128:128 ≤ n):Zgw n = kk:=by
 obtain ⟨r2,r3,r4,r5,r6,r7⟩:=Zqm
 obtain rfl | rfl | rfl | rfl | rfl | rfl:kk = 2 ∨ kk = 3 ∨ kk = 4 ∨ kk = 5 ∨ kk = 6 ∨ kk = 7:=by omega
 ·rw [r2] at hlt
  unfold Zgw
  rw [if_neg (by omega),if_pos hlt]
 ·have hge:=hge (by omega)
  rw [Nat.add_sub_cancel (n:=2) (m:=1),r2] at hge
  rw [r3] at hlt
  unfold Zgw
  rw [if_neg (by omega),if_neg (by omega),if_pos hlt]
 ·have hge:=hge (by omega)
  rw [Nat.add_sub_cancel (n:=3) (m:=1),r3] at hge
  rw [r4] at hlt
  unfold Zgw
  rw [if_neg (by omega),if_neg (by omega),if_neg (by omega),if_pos hlt]
 ·have hge:=hge (by omega)
  rw [Nat.add_sub_cancel (n:=4) (m:=1),r4] at hge
  rw [r5] at hlt
  unfold Zgw
  rw [if_neg (by omega),if_neg (by omega),if_neg (by omega),if_neg (by omega),if_pos hlt]
 ·have hge:=hge (by omega)
  rw [Nat.add_sub_cancel (n:=5) (m:=1),r5] at hge
  rw [r6] at hlt
  unfold Zgw
  rw [if_neg (by omega),if_neg (by omega),if_neg (by omega),if_neg (by omega),if_neg (by omega),if_pos hlt]
 ·have hge:=hge (by omega)
  rw [Nat.add_sub_cancel (n:=6) (m:=1),r6] at hge
  unfold Zgw
  rw [if_neg (by omega),if_neg (by omega),if_neg (by omega),if_neg (by omega),if_neg (by omega),if_neg (by omega)]
theorem ZpL {kk n:Nat} (h2:2 ≤ kk) (h7:kk ≤ 7) (hlt:n < 2 ^ WE kk):n / 64 ^ (kk - 1) < 64:=by
 have h64:(64:Nat) = 2 ^ 6:=rfl
 rw [Nat.div_lt_iff_lt_mul (Nat.pow_pos (by omega))]
 refine Nat.lt_of_lt_of_le hlt ?_
 rw [h64,← Nat.pow_mul,← Nat.pow_add]
 refine Nat.pow_le_pow_right (by omega) ?_
 unfold WE
 rw [if_neg (by omega)]
 omega
theorem ZxM (k:Nat) (hk:20 < k) {n:Nat} (hn:n < 2 ^ 36) (kk:Nat) (h2:2 ≤ kk) (h7:kk ≤ 7) (hlt:n < 2 ^ WE kk) (hge:2 < kk → 2 ^ WE (kk - 1) ≤ n) (h128:128 ≤ n) :
  Zo0 k (IntKind.i64.wrap ((kk:Int) - 1),(n:Int),(kk:Int),List.replicate (kk:Int).toNat (0:Int)) = some ((X0 (Q6 n),0,()),()):=by
 have hlen:=ZNQ h2 h7 hlt hge h128
 have hq:=ZpL h2 h7 hlt
 have hn':n < 18446744073709551616:=Nat.lt_trans hn (by decide)
 have:=ZE1 k h2 h7 (kk - 1) k n [] (by omega) (by omega) hn' hq
 rw [show IntKind.i64.wrap ((kk:Int) - 1) = ((kk - 1:Nat):Int) from by rw [ZT (by omega)]; omega,QZ]
 rw [show kk - 1 + 1 = kk by omega,List.append_nil,List.append_nil] at this
 refine Eq.trans this ?_
 unfold Q6
 rw [if_neg (by omega),hlen]
theorem ZE2 (k:Nat) (hk:20 < k) {n:Nat} (hn:n < 2 ^ 36):∀ (d kk m:Nat),d < m → kk + d = 7 → 2 ≤ kk → (2 < kk → 2 ^ WE (kk - 1) ≤ n) → 128 ≤ n →
  Zp (fun L1 => Zd2 k (Zo0 k) L1) m ((n:Int),(kk:Int)) = some ((X0 (Q6 n),0,()),()):=by
 intro d
 induction d with
 | zero =>
  intro kk m hm hkk h2 hge h128
  obtain rfl:kk = 7:=by omega
  obtain ⟨m,rfl⟩:=Zk hm
  rw [Zg]
  simp only [Zd2]
  rw [Zpl k 7 (by omega)]
  simp only [Qr]
  rw [Zb (by omega),QZ,Nat.min_eq_left (show WE 7 ≤ 64 by decide),Zas,Nat.div_eq_of_lt (show n < 2 ^ WE 7 from hn),Ze (by omega),Zb (by omega)]
  exact ZxM k hk hn 7 (by omega) (by omega) hn hge h128
 | succ d ih =>
  intro kk m hm hkk h2 hge h128
  obtain ⟨m,rfl⟩:=Zk (show 0 < m by omega)
  rw [Zg]
  simp only [Zd2]
  rw [Zpl k kk (by omega)]
  simp only [Qr]
  have hroom:WE kk ≤ 64:=by unfold WE; split <;> omega
  rw [Zb (by omega),QZ,Nat.min_eq_left hroom,Zas]
  by_cases hlt:n < 2 ^ WE kk
  ·rw [Nat.div_eq_of_lt hlt,Ze (by omega),Zb (by omega)]
   exact ZxM k hk hn kk h2 (by omega) hlt hge h128
  ·have hpos:0 < n / 2 ^ WE kk:=Nat.div_pos (by omega) (Nat.pow_pos (by omega))
   rw [Zb (by omega),show IntKind.i64.wrap ((kk:Int) + 1) = ((kk + 1:Nat):Int) from by rw [ZT (by omega)]; omega]
   exact ih (kk + 1) m (by omega) (by omega) (by omega) (fun _ => by rw [Nat.add_sub_cancel]; omega) h128
theorem ZIu (k:Nat) (hk:20 < k) {n:Nat} (hn:n < 2 ^ 36):ZoZ k ((n:Int),()) = some ((X0 (Q6 n),0,()),()):=by
 show Zit k (Zub k) _ = _
 simp only [Zit]
 rw [Ze (by omega),Ze (by omega)]
 by_cases h:n < 128
 ·rw [Zb (by omega),wu8 (by omega)]
  unfold Q6
  rw [if_pos h]
  rfl
 ·rw [Ze (by omega)]
  exact ZE2 k hk hn 5 2 k (by omega) (by omega) (by omega) (fun h => by omega) (by omega)
end Go.Sh
namespace Go.Sh
open Go Go.Proofs
abbrev Yu:=Ieee.double
theorem Zg5:Yu.binade = 4503599627370496:=by decide
theorem Ztd:Yu.infRung = 9218868437227405312:=by decide
theorem ZhU:Yu.signWeight = 9223372036854775808:=by decide
theorem Zkd:Yu.leastPlace = -1074:=by decide
theorem ZGg:Yu.fractionBits = 52:=rfl
theorem ZFz (s:Bool) {R:Nat} (h0:4503599627370496 ≤ R) (h1:R < 9218868437227405312) :
  Yu.read (Yu.word s R) = .number s (4503599627370496 + R % 4503599627370496) (-1074 + (R / 4503599627370496 - 1:Nat)):=by
 have e1:Yu.word s R / 9223372036854775808 % 2 = s.toNat:=by
  unfold Ieee.Format.word
  rw [ZhU]
  cases s <;> simp <;> omega
 have e2:Yu.word s R % 9223372036854775808 = R:=by
  unfold Ieee.Format.word
  rw [ZhU]
  cases s <;> simp <;> omega
 unfold Ieee.Format.read
 simp only [ZhU,Zg5,Ztd,Zkd,e1,e2]
 rw [if_neg (by omega),if_pos h1]
 cases s <;> rfl
theorem ZsB (s:Bool):Yu.read (Yu.word s 0) = .number s 0 (-1074):=by cases s <;> decide
theorem ZjB (s:Bool) {m K L:Nat} {e:Int} (hm:m ≠ 0) (hL:L ≤ 52) (hl:(m.log2:Int) = L - 1 - e)
  (hcut:Ieee.Toward.even.cut s (m <<< (e - ((L:Int) - 53)).toNat) ((L:Int) - 53 - e).toNat = K) (hK:4503599627370496 ≤ K) (hK2:K < 9007199254740992) :
  Yu.read (Yu.nearest s m e) = .number s K ((L:Int) - 53):=by
 unfold Ieee.Format.nearest
 rw [if_neg hm]
 simp only [ZGg,Zkd,Zg5,Ztd]
 have hlast:max (e + (m.log2:Int) - ((52:Nat):Int)) (-1074) = (L:Int) - 53:=by omega
 rw [hlast,hcut]
 have h1:((L:Int) - 53 - -1074).toNat = L + 1021:=by omega
 rw [h1,Nat.min_eq_left (by omega)]
 rw [ZFz s (by omega) (by omega)]
 have h2:((L + 1021) * 4503599627370496 + K) % 4503599627370496 = K - 4503599627370496:=by omega
 have h3:((L + 1021) * 4503599627370496 + K) / 4503599627370496 = L + 1022:=by omega
 rw [h2,h3,show 4503599627370496 + (K - 4503599627370496) = K by omega,show (-1074 + ((L + 1022 - 1:Nat):Int)) = (L:Int) - 53 by omega]
theorem ZnU (s:Bool) {n d q:Nat} (hd:d ≤ n.log2 + 2) (h:n = q * 2 ^ d):Ieee.Toward.even.cut s n d = q:=by
 unfold Ieee.Toward.cut
 simp only [Nat.min_eq_left hd,Nat.one_shiftLeft]
 have hp:0 < 2 ^ d:=Nat.pow_pos (by omega)
 rw [h,Nat.mul_div_cancel _ hp,Nat.mul_mod_left]
 simp
theorem YD {N:Nat} (h:N ≠ 0) (t:Nat):(N * 2 ^ t).log2 = N.log2 + t:=by
 have hp:0 < 2 ^ t:=Nat.pow_pos (by omega)
 rw [Nat.log2_eq_iff (Nat.mul_ne_zero h (by omega))]
 obtain ⟨h1,h2⟩:=(Nat.log2_eq_iff h).1 rfl
 constructor
 ·rw [Nat.pow_add]; exact Nat.mul_le_mul_right _ h1
 ·rw [show N.log2 + t + 1 = (N.log2 + 1) + t by omega,Nat.pow_add]; exact Nat.mul_lt_mul_of_pos_right h2 hp
theorem Zjy {N:Nat} (h:N ≠ 0) (h':N < 9007199254740992):N.log2 ≤ 52:=by
 have:=(Nat.log2_lt h (k:=53)).2 h'
 omega
theorem ZpE {N:Nat} (h:N ≠ 0) (h':N < 9007199254740992):4503599627370496 ≤ N * 2 ^ (52 - N.log2) ∧ N * 2 ^ (52 - N.log2) < 9007199254740992:=by
 have hL:=Zjy h h'
 obtain ⟨h1,h2⟩:=(Nat.log2_eq_iff h).1 rfl
 have hp:0 < 2 ^ (52 - N.log2):=Nat.pow_pos (by omega)
 have e1:2 ^ N.log2 * 2 ^ (52 - N.log2) = 4503599627370496:=by rw [← Nat.pow_add,show N.log2 + (52 - N.log2) = 52 by omega]
 have e2:2 ^ (N.log2 + 1) * 2 ^ (52 - N.log2) = 9007199254740992:=by rw [← Nat.pow_add,show N.log2 + 1 + (52 - N.log2) = 53 by omega]
 constructor
 ·rw [← e1]; exact Nat.mul_le_mul_right _ h1
 ·rw [← e2]; exact Nat.mul_lt_mul_of_pos_right h2 hp
theorem Zvv (s:Bool) {N t:Nat} (h:N ≠ 0) (h':N < 9007199254740992) :
  Yu.read (Yu.nearest s (N * 2 ^ t) (-1 - (t:Int))) = .number s (N * 2 ^ (52 - N.log2)) ((N.log2:Int) - 53):=by
 have hL:=Zjy h h'
 obtain ⟨f1,f2⟩:=ZpE h h'
 have hp:0 < 2 ^ t:=Nat.pow_pos (by omega)
 refine ZjB s (Nat.mul_ne_zero h (by omega)) hL (by rw [YD h]; omega) ?_ f1 f2
 by_cases hc:52 - N.log2 ≤ t
 ·have e1:((-1 - (t:Int)) - ((N.log2:Int) - 53)).toNat = 0:=by omega
  have e2:((N.log2:Int) - 53 - (-1 - (t:Int))).toNat = t - (52 - N.log2):=by omega
  rw [e1,e2,Nat.shiftLeft_zero]
  refine ZnU s (by rw [YD h]; omega) ?_
  rw [Nat.mul_assoc,← Nat.pow_add]
  congr 2; omega
 ·have e1:((-1 - (t:Int)) - ((N.log2:Int) - 53)).toNat = 52 - N.log2 - t:=by omega
  have e2:((N.log2:Int) - 53 - (-1 - (t:Int))).toNat = 0:=by omega
  rw [e1,e2]
  refine ZnU s (by omega) ?_
  rw [Nat.shiftLeft_eq,Nat.mul_assoc,← Nat.pow_add,Nat.pow_zero,Nat.mul_one]
  congr 2; omega
theorem ZgJ (s:Bool) {N:Nat} (h:N ≠ 0) (h':N < 4503599627370496) :
  Yu.read (Yu.nearest s N 0) = .number s (2 * N * 2 ^ (52 - (2 * N).log2)) (((2 * N).log2:Int) - 53):=by
 have hl:(2 * N).log2 = N.log2 + 1:=by rw [Nat.mul_comm]; exact YD h 1
 have h2:2 * N ≠ 0:=by omega
 have hL:=Zjy h2 (by omega)
 obtain ⟨f1,f2⟩:=ZpE h2 (by omega)
 refine ZjB s h hL (by rw [hl]; omega) ?_ f1 f2
 have e1:((0:Int) - (((2 * N).log2:Int) - 53)).toNat = 53 - (2 * N).log2:=by omega
 have e2:(((2 * N).log2:Int) - 53 - 0).toNat = 0:=by omega
 rw [e1,e2]
 refine ZnU s (by omega) ?_
 rw [Nat.shiftLeft_eq,Nat.pow_zero,Nat.mul_one,show 53 - (2 * N).log2 = 1 + (52 - (2 * N).log2) by omega,Nat.pow_add]
 rw [← Nat.mul_assoc]; congr 1; omega
def KQ (x:Nat) (n:Int):Prop:=n.natAbs < 9007199254740992 ∧
 ((n = 0 ∧ ∃ s,Yu.read x = .number s 0 (-1074)) ∨ (n ≠ 0 ∧ Yu.read x = .number (decide (n < 0)) (n.natAbs * 2 ^ (52 - n.natAbs.log2)) ((n.natAbs.log2:Int) - 53)))
theorem ZKz (n:Int):(if decide (n < 0) = true then -(n.natAbs:Int) else (n.natAbs:Int)) = n:=by
 by_cases h:n < 0
 ·rw [QS h,if_pos rfl]; omega
 ·rw [QG h,if_neg (by simp)]; omega
theorem KQ.num {x:Nat} {n:Int} (h:KQ x n):∃ s m e,Yu.read x = .number s m e ∧ e ≤ -1 ∧ -1074 ≤ e ∧ ∀ (b:Int),b ≤ e → Ieee.signed s m (e - b).toNat = n * 2 ^ (-1 - b).toNat:=by
 obtain ⟨hb,⟨rfl,s,hr⟩ | ⟨hn,hr⟩⟩:=h
 ·refine ⟨s,0,_,hr,by omega,by omega,fun b hb => ?_⟩
  unfold Ieee.signed
  cases s <;> simp
 ·have h0:n.natAbs ≠ 0:=by omega
  have hL:=Zjy h0 hb
  refine ⟨_,_,_,hr,by omega,by omega,fun b hb => ?_⟩
  unfold Ieee.signed
  have e1:(n.natAbs * 2 ^ (52 - n.natAbs.log2)) <<< ((n.natAbs.log2:Int) - 53 - b).toNat = n.natAbs * 2 ^ (-1 - b).toNat:=by
   rw [Nat.shiftLeft_eq,Nat.mul_assoc,← Nat.pow_add]
   congr 2; omega
  rw [e1]
  have e2:((n.natAbs * 2 ^ (-1 - b).toNat:Nat):Int) = (n.natAbs:Int) * 2 ^ (-1 - b).toNat:=by rw [Int.natCast_mul,Int.natCast_pow]; rfl
  rw [e2]
  have hs:=ZKz n
  by_cases hlt:n < 0
  ·rw [QS hlt] at hs ⊢
   simp only [if_true] at hs ⊢
   rw [← Int.neg_mul]; congr 1
  ·rw [QG hlt] at hs ⊢
   simp only [Bool.false_eq_true,if_false] at hs ⊢
   congr 1
theorem ZcA {s:Bool} {m:Nat} {e:Int} {n:Int} {t:Nat} (he:e = -1 - (t:Int)) (hm:m = n.natAbs * 2 ^ t) (hs:n ≠ 0 → s = decide (n < 0)) (hb:n.natAbs < 9007199254740992):KQ (Yu.write (.number s m e)) n:=by
 refine ⟨hb,?_⟩
 show _ ∨ (_ ∧ Yu.read (Yu.nearest s m e) = _)
 by_cases hn:n = 0
 ·left
  refine ⟨hn,s,?_⟩
  show Yu.read (Yu.nearest s m e) = _
  subst hn
  rw [show m = 0 by rw [hm]; simp]
  unfold Ieee.Format.nearest
  rw [if_pos rfl]
  exact ZsB s
 ·right
  refine ⟨hn,?_⟩
  rw [hm,he,← hs hn]
  exact Zvv s (by omega) hb
theorem ZeJ (n:Int) (hb:n.natAbs < 4503599627370496):KQ (FloatKind.f64.nearest n) (2 * n):=by
 show KQ (Yu.nearest (decide (n < 0)) n.natAbs 0) (2 * n)
 refine ⟨by omega,?_⟩
 by_cases hn:n = 0
 ·left
  subst hn
  exact ⟨rfl,false,by decide⟩
 ·right
  refine ⟨by omega,?_⟩
  rw [ZgJ _ (by omega) hb]
  have e1:(2 * n).natAbs = 2 * n.natAbs:=by omega
  have e2:decide (2 * n < 0) = decide (n < 0):=by by_cases h:n < 0 <;> simp [h] <;> omega
  rw [e1,e2]
theorem ZlA {a b:Int} {p:Int} (hp:0 < p):compare (a * p) (b * p) = compare a b:=by
 rcases Int.lt_trichotomy a b with h | h | h
 ·have:=Int.mul_lt_mul_of_pos_right h hp
  rw [Int.compare_eq_lt.2 h,Int.compare_eq_lt.2 this]
 ·subst h; simp
 ·have:=Int.mul_lt_mul_of_pos_right h hp
  rw [Int.compare_eq_gt.2 h,Int.compare_eq_gt.2 this]
theorem Zgm {x y:Nat} {a b:Int} (hx:KQ x a) (hy:KQ y b):FloatKind.f64.format.order x y = some (compare a b):=by
 obtain ⟨s,m,i,h1,h2,_,h3⟩:=hx.num
 obtain ⟨t,n,j,g1,g2,_,g3⟩:=hy.num
 show (Yu.read x).order (Yu.read y) = _
 rw [h1,g1]
 unfold Ieee.Datum.order
 simp only
 rw [h3 _ (Int.min_le_left i j),g3 _ (Int.min_le_right i j),ZlA (Int.pow_pos (by omega))]
theorem ZBs {x y:Nat} {a b:Int} (hx:KQ x a) (hy:KQ y b) (hb:(a + b).natAbs < 9007199254740992):∃ z,floatBits .add .f64 x y = some z ∧ KQ z (a + b):=by
 obtain ⟨s,m,i,h1,h2,h2',h3⟩:=hx.num
 obtain ⟨t,n,j,g1,g2,g2',g3⟩:=hy.num
 show ∃ z,((Yu.read x).sum (Yu.read y)).map Yu.write = some z ∧ _
 rw [h1,g1]
 unfold Ieee.Datum.sum
 simp only
 rw [h3 _ (Int.min_le_left i j),g3 _ (Int.min_le_right i j),← Int.add_mul]
 refine ⟨_,rfl,?_⟩
 have hp:(0:Int) < 2 ^ (-1 - min i j).toNat:=Int.pow_pos (by omega)
 refine ZcA (t:=(-1 - min i j).toNat) (by omega) ?_ (fun hn => ?_) hb
 ·rw [Int.natAbs_mul,Int.natAbs_pow]; rfl
 ·rw [if_neg (by intro h; rcases Int.mul_eq_zero.1 h with h | h <;> omega)]
  by_cases hlt:a + b < 0
  ·rw [QS hlt,QS (Int.mul_neg_of_neg_of_pos hlt hp)]
  ·rw [QG hlt,QG (by
    have:=Int.mul_nonneg (show 0 ≤ a + b by omega) (Int.le_of_lt hp)
    omega)]
theorem ZN1 {x:Nat} {n:Int} (h:KQ x n):∃ s m e,(Yu.read x).opposite = .number s m e ∧ e ≤ -1 ∧ ∀ (b:Int),b ≤ e → Ieee.signed s m (e - b).toNat = -n * 2 ^ (-1 - b).toNat:=by
 obtain ⟨s,m,e,h1,h2,_,h3⟩:=h.num
 refine ⟨!s,m,e,by rw [h1]; rfl,h2,fun b hb => ?_⟩
 have:=h3 b hb
 unfold Ieee.signed at this ⊢
 rw [Int.neg_mul,← this]
 cases s <;> simp
theorem ZOb {x y:Nat} {a b:Int} (hx:KQ x a) (hy:KQ y b) (hb:(a - b).natAbs < 9007199254740992):∃ z,floatBits .sub .f64 x y = some z ∧ KQ z (a - b):=by
 obtain ⟨s,m,i,h1,h2,h2',h3⟩:=hx.num
 obtain ⟨t,n,j,g1,g2,g3⟩:=ZN1 hy
 show ∃ z,((Yu.read x).sum (Yu.read y).opposite).map Yu.write = some z ∧ _
 rw [h1,g1]
 unfold Ieee.Datum.sum
 simp only
 rw [h3 _ (Int.min_le_left i j),g3 _ (Int.min_le_right i j),← Int.add_mul,← Int.sub_eq_add_neg]
 refine ⟨_,rfl,?_⟩
 have hp:(0:Int) < 2 ^ (-1 - min i j).toNat:=Int.pow_pos (by omega)
 refine ZcA (t:=(-1 - min i j).toNat) (by omega) ?_ (fun hn => ?_) hb
 ·rw [Int.natAbs_mul,Int.natAbs_pow]; rfl
 ·rw [if_neg (by intro h; rcases Int.mul_eq_zero.1 h with h | h <;> omega)]
  by_cases hlt:a - b < 0
  ·rw [QS hlt,QS (Int.mul_neg_of_neg_of_pos hlt hp)]
  ·rw [QG hlt,QG (by
    have:=Int.mul_nonneg (show 0 ≤ a - b by omega) (Int.le_of_lt hp)
    omega)]
end Go.Sh
namespace Go.Sh
open Go Go.Proofs
theorem ZKf (s:Bool) (m:Nat):(Ieee.Datum.number s 0 (-1074)) = Ieee.Datum.number s ((0:Int).natAbs * m) (-((1074:Nat):Int)):=by
 rw [show (0:Int).natAbs * m = 0 from Nat.zero_mul m]
 rfl
theorem KQ.nat {x:Nat} {n:Int} (h:KQ x n):∃ (s:Bool) (t:Nat),Yu.read x = .number s (n.natAbs * 2 ^ (t - 1)) (-(t:Int)) ∧ 1 ≤ t ∧ (n ≠ 0 → s = decide (n < 0) ∧ (n.natAbs * 2 ^ (t - 1)).log2 = 52):=by
 obtain ⟨hb,⟨rfl,s,hr⟩ | ⟨hn,hr⟩⟩:=h
 ·exact ⟨s,1074,hr.trans (ZKf s _),by omega,fun h => absurd rfl h⟩
 ·have h0:n.natAbs ≠ 0:=by omega
  have hL:=Zjy h0 hb
  refine ⟨_,53 - n.natAbs.log2,hr.trans ?_,by omega,fun _ => ⟨rfl,?_⟩⟩
  ·rw [show 53 - n.natAbs.log2 - 1 = 52 - n.natAbs.log2 by omega]
   congr 1
   omega
  ·rw [YD h0]; omega
theorem ZKh:Yu.read 4607182418800017408 = .number false 4503599627370496 (-52):=by decide
theorem ZKI:Yu.read 4611686018427387904 = .number false 4503599627370496 (-51):=by decide
theorem ZlR {x:Nat} {a:Int} (hx:KQ x a):∃ z,floatBits .mul .f64 x 4607182418800017408 = some z ∧ KQ z a:=by
 obtain ⟨s,t,hr,h1,hs⟩:=hx.nat
 show ∃ z,((Yu.read x).product (Yu.read 4607182418800017408)).map Yu.write = some z ∧ _
 rw [hr,ZKh]
 refine ⟨_,rfl,ZcA (t:=t + 51) (by omega) ?_ (fun hn => by rw [(hs hn).1]; simp) hx.1⟩
 rw [Nat.mul_assoc,show (4503599627370496:Nat) = 2 ^ 52 from rfl,← Nat.pow_add]
 congr 2; omega
theorem ZJ2 {x:Nat} {c:Int} (hx:KQ x (2 * c)):∃ z,floatBits .quo .f64 x 4611686018427387904 = some z ∧ KQ z c:=by
 obtain ⟨s,t,hr,h1,hs⟩:=hx.nat
 show ∃ z,((Yu.read x).quotient 54 (Yu.read 4611686018427387904)).map Yu.write = some z ∧ _
 rw [hr,ZKI]
 unfold Ieee.Datum.quotient
 simp only
 rw [if_neg (by omega)]
 refine ⟨_,rfl,?_⟩
 have hb:=hx.1
 by_cases hn:c = 0
 ·subst hn
  simp only [Int.mul_zero,Int.natAbs_zero,Nat.zero_mul,Nat.zero_shiftLeft,Nat.zero_div,Nat.zero_mod]
  have e1:(4503599627370496:Nat).log2 = 52:=by decide
  have e2:(0:Nat).log2 = 0:=by decide
  rw [e1,e2]
  exact ZcA (t:=t + 55) (by simp; omega) (by simp) (fun h => absurd rfl h) (by simp)
 ·obtain ⟨h2,h3⟩:=hs (by omega)
  rw [h3,show (4503599627370496:Nat).log2 = 52 from by decide,show 54 + 52 - 52 = 54 from rfl,Nat.shiftLeft_eq]
  have e0:(2 ^ 54:Nat) = 4 * 4503599627370496:=by decide
  rw [e0,← Nat.mul_assoc,Nat.mul_div_cancel _ (by omega),Nat.mul_mod_left]
  refine ZcA (t:=t + 3) (by omega) ?_ (fun _ => ?_) (by omega)
  ·have e1:(2 * c).natAbs = 2 * c.natAbs:=by omega
   rw [e1]
   have e2:2 ^ (t + 3) = 2 ^ (t - 1) * 16:=by rw [show t + 3 = (t - 1) + 4 by omega,Nat.pow_add]
   rw [e2]
   simp
   rw [← Nat.mul_assoc]
   generalize 2 ^ (t - 1) = P
   rw [Nat.mul_assoc 2 c.natAbs P,← Nat.mul_assoc c.natAbs P 16]
   generalize c.natAbs * P = Q
   omega
  ·rw [h2]
   by_cases hlt:c < 0
   ·rw [QS hlt,QS (by omega)]; rfl
   ·rw [QG hlt,QG (by omega)]; rfl
theorem Zl3 {s:Bool} {q:Nat} {n:Int} (hq:q = n.natAbs) (hs:n ≠ 0 → s = decide (n < 0)) (hb:n.natAbs < 4503599627370496):KQ (Yu.write (.number s q 0)) (2 * n):=by
 subst hq
 refine ⟨by omega,?_⟩
 show _ ∨ (_ ∧ Yu.read (Yu.nearest s n.natAbs 0) = _)
 by_cases hn:n = 0
 ·left
  refine ⟨by omega,s,?_⟩
  show Yu.read (Yu.nearest s n.natAbs 0) = _
  subst hn
  unfold Ieee.Format.nearest
  rw [if_pos (by rfl)]
  exact ZsB s
 ·right
  refine ⟨by omega,?_⟩
  rw [ZgJ _ (by omega) hb,hs hn]
  have e1:(2 * n).natAbs = 2 * n.natAbs:=by omega
  have e2:decide (2 * n < 0) = decide (n < 0):=by by_cases h:n < 0 <;> simp [h] <;> omega
  rw [e1,e2]
theorem Zkc {s:Bool} {a t:Nat} (way:Ieee.Toward) (hway:way = .down ∨ way = .zero) (ht:1 ≤ t) (hl:a ≠ 0 → (a * 2 ^ (t - 1)).log2 = 52) (ht':a ≠ 0 → t ≤ 53) :
  way.cut s (a * 2 ^ (t - 1)) t = a / 2 + (if way = .down then (s && decide (a % 2 ≠ 0)).toNat else 0):=by
 by_cases h0:a = 0
 ·subst h0
  rcases hway with rfl | rfl <;> simp [Ieee.Toward.cut]
 ·unfold Ieee.Toward.cut
  have h1:=hl h0
  have h2:=ht' h0
  simp only [Nat.min_eq_left (show t ≤ (a * 2 ^ (t - 1)).log2 + 2 by omega),Nat.one_shiftLeft]
  have hp:0 < 2 ^ (t - 1):=Nat.pow_pos (by omega)
  have e1:2 ^ t = 2 * 2 ^ (t - 1):=by rw [show t = (t - 1) + 1 by omega,Nat.pow_succ,Nat.add_sub_cancel]; omega
  rw [e1,Nat.mul_div_mul_right _ _ hp,Nat.mul_mod_mul_right]
  have e2:(a % 2 * 2 ^ (t - 1) != 0) = decide (a % 2 ≠ 0):=by
   have:a % 2 < 2:=Nat.mod_lt _ (by omega)
   generalize a % 2 = b at this
   match b,this with
   | 0,_ => simp
   | 1,_ => simp [bne]
  rcases hway with rfl | rfl
  ·simp [e2]
  ·simp
theorem ZvS {x:Nat} {n:Int} {s:Bool} {t:Nat} (h:n.natAbs ≠ 0) (ht:1 ≤ t) (hl:(n.natAbs * 2 ^ (t - 1)).log2 = 52):t ≤ 53:=by
 rw [YD h] at hl; omega
theorem ZFe {x:Nat} {n:Int} (hx:KQ x n) (hb:n.natAbs < 4503599627370496):∃ z,WB .down x = some z ∧ KQ z (2 * (n / 2)):=by
 obtain ⟨s,t,hr,h1,hs⟩:=hx.nat
 unfold WB
 have hd:FloatKind.f64.decode x = .number s (n.natAbs * 2 ^ (t - 1)) (-(t:Int)):=hr
 rw [hd]
 refine ⟨_,rfl,?_⟩
 show KQ (Yu.write (Ieee.Datum.integral .down (.number s (n.natAbs * 2 ^ (t - 1)) (-(t:Int))))) _
 unfold Ieee.Datum.integral
 simp only [Int.neg_neg,QZ,show (-(t:Int)).toNat = 0 by omega,Nat.shiftLeft_zero]
 rw [Zkc .down (.inl rfl) h1 (fun h => (hs (by omega)).2) (fun h => ZvS (x:=x) (s:=s) h h1 (hs (by omega)).2),if_pos rfl]
 refine Zl3 ?_ (fun hne => ?_) (by omega)
 ·by_cases h0:n = 0
  ·subst h0; simp
  ·rw [(hs h0).1]
   by_cases hlt:n < 0
   ·rw [QS hlt]
    by_cases ho:n.natAbs % 2 = 0
    ·simp [ho]; omega
    ·simp [ho]; omega
   ·rw [QG hlt]; simp; omega
 ·have h0:n ≠ 0:=by omega
  rw [(hs h0).1]
  by_cases hlt:n < 0
  ·rw [QS hlt,QS (by omega)]
  ·rw [QG hlt,QG (by omega)]
theorem ZFJ {x:Nat} {v:Int} (hx:KQ x (2 * v)) (hb:v.natAbs < 1125899906842624):∃ z,WB .zero x = some z ∧ KQ z (2 * v):=by
 obtain ⟨s,t,hr,h1,hs⟩:=hx.nat
 unfold WB
 have hd:FloatKind.f64.decode x = .number s ((2 * v).natAbs * 2 ^ (t - 1)) (-(t:Int)):=hr
 rw [hd]
 refine ⟨_,rfl,?_⟩
 show KQ (Yu.write (Ieee.Datum.integral .zero (.number s ((2 * v).natAbs * 2 ^ (t - 1)) (-(t:Int))))) _
 unfold Ieee.Datum.integral
 simp only [Int.neg_neg,QZ,show (-(t:Int)).toNat = 0 by omega,Nat.shiftLeft_zero]
 rw [Zkc .zero (.inr rfl) h1 (fun h => (hs (by omega)).2) (fun h => ZvS (x:=x) (s:=s) h h1 (hs (by omega)).2),if_neg (by decide)]
 refine Zl3 (by omega) (fun hne => ?_) (by omega)
 rw [(hs (by omega)).1]
 by_cases hlt:v < 0
 ·rw [QS hlt,QS (by omega)]
 ·rw [QG hlt,QG (by omega)]
theorem K4 {x:Nat} {v:Int} (hx:KQ x (2 * v)) (hb:v.natAbs < 1125899906842624):floatToIntVal .f64 x .i64 = some v:=by
 obtain ⟨s,t,hr,h1,hs⟩:=hx.nat
 unfold floatToIntVal
 have hd:FloatKind.f64.decode x = .number s ((2 * v).natAbs * 2 ^ (t - 1)) (-(t:Int)):=hr
 rw [hd]
 have:Ieee.Datum.toInt .zero (.number s ((2 * v).natAbs * 2 ^ (t - 1)) (-(t:Int))) = some v:=by
  unfold Ieee.Datum.toInt Ieee.Datum.integral
  simp only [Int.neg_neg,QZ,show (-(t:Int)).toNat = 0 by omega,Nat.shiftLeft_zero]
  rw [Zkc .zero (.inr rfl) h1 (fun h => (hs (by omega)).2) (fun h => ZvS (x:=x) (s:=s) h h1 (hs (by omega)).2),if_neg (by decide)]
  unfold Ieee.signed
  simp only [Nat.shiftLeft_zero,Nat.add_zero]
  by_cases h0:v = 0
  ·subst h0; simp
  ·rw [(hs (by omega)).1]
   by_cases hlt:v < 0
   ·rw [QS (by omega),if_pos rfl]; congr 1; omega
   ·rw [QG (by omega),if_neg (by simp)]; congr 1; omega
 rw [this]
 simp only
 rw [if_pos]
 simp only [IntKind.min,IntKind.max,IntKind.signed,IntKind.bits]
 constructor <;> simp <;> omega
theorem ZKr (x:Nat):Yu.read (x % 9223372036854775808) = match Yu.read x with | .number _ m e => .number false m e | .infinity _ => .infinity false | .nan _ f => .nan false f:=by
 unfold Ieee.Format.read
 simp only [ZhU,Zg5,Ztd,Zkd]
 have e1:x % 9223372036854775808 / 9223372036854775808 = 0:=Nat.div_eq_of_lt (Nat.mod_lt _ (by omega))
 rw [e1,Nat.mod_mod]
 split
 ·rfl
 ·split
  ·rfl
  ·split <;> rfl
theorem ZsU {x:Nat} {n:Int} (hx:KQ x n):KQ (x % 9223372036854775808) (n.natAbs:Int):=by
 obtain ⟨hb,h⟩:=hx
 refine ⟨by simpa using hb,?_⟩
 rw [ZKr]
 rcases h with ⟨rfl,s,hr⟩ | ⟨hn,hr⟩
 ·left
  rw [hr]
  exact ⟨rfl,false,rfl⟩
 ·right
  rw [hr]
  refine ⟨by omega,?_⟩
  simp only [Int.natAbs_natCast]
  rw [QG (by omega)]
theorem Zol (k x:Nat):ZdO k (x,()) = some (x % 9223372036854775808,()):=by
 show ZfJ k _ = _
 simp only [ZfJ]
 congr 2
 have e1:BitVec.ofInt 64 (Int.ofNat x) &&& ~~~BitVec.ofInt 64 (9223372036854775808:Int) = BitVec.ofNat 64 (x % 9223372036854775808):=by
  apply BitVec.eq_of_getLsbD_eq
  intro i hi
  have h1:BitVec.ofInt 64 (Int.ofNat x) = BitVec.ofNat 64 x:=BitVec.ofInt_natCast ..
  have h2:BitVec.ofInt 64 (9223372036854775808:Int) = BitVec.twoPow 64 63:=by decide
  rw [h1,h2]
  simp only [BitVec.getLsbD_and,BitVec.getLsbD_not,BitVec.getLsbD_ofNat,BitVec.getLsbD_twoPow,show (9223372036854775808:Nat) = 2 ^ 63 from rfl,Nat.testBit_mod_two_pow]
  by_cases h63:i = 63
  ·subst h63; simp
  ·simp [hi,show i < 63 by omega]
   omega
 rw [e1,BitVec.toNat_ofNat]
 have:x % 9223372036854775808 < 9223372036854775808:=Nat.mod_lt _ (by omega)
 rw [Nat.mod_eq_of_lt (by omega)]
 show (IntKind.u64.wrap ((x % 9223372036854775808:Nat):Int)).toNat = _
 rw [ZqC (by omega),QZ]
end Go.Sh
namespace Go.Sh
open Go Go.Proofs
def Z6 (n:Int):Prop := -16777216 ≤ n ∧ n ≤ 16777216
def PV2 (p:Nat × Nat) (l r:Int):Prop:=KQ p.1 (2 * l) ∧ KQ p.2 (2 * r) ∧ Z6 l ∧ Z6 r
structure PP (p:List (Nat × Nat)) (L R:List Int):Prop where
 hl:p.length = L.length
 hr:p.length = R.length
 at_:∀ i (h:i < p.length),PV2 p[i] (L[i]'(hl ▸ h)) (R[i]'(hr ▸ h))
def Zci (L R:List Int):List (Nat × Nat):=(L.zip R).map fun x => (FloatKind.f64.nearest x.1,FloatKind.f64.nearest x.2)
theorem ZpQ {L R:List Int} (h:L.length = R.length) (hL:∀ x ∈ L,Z6 x) (hR:∀ x ∈ R,Z6 x):PP (Zci L R) L R where
 hl:=by simp [Zci,h]
 hr:=by simp [Zci,h]
 at_:=fun i hi => by
  simp only [Zci,List.length_map,List.length_zip] at hi
  have h1:=hL L[i] (List.getElem_mem (by omega))
  have h2:=hR R[i] (List.getElem_mem (by omega))
  simp only [Zci,List.getElem_map,List.getElem_zip]
  exact ⟨ZeJ _ (by unfold Z6 at h1; omega),ZeJ _ (by unfold Z6 at h2; omega),h1,h2⟩
theorem ZI8 (k:Nat) {L R:List Int} (hk:L.length < k) (h:L.length = R.length) (hn:L.length ≤ 8192) (hL:∀ x ∈ L,Z6 x) (hR:∀ x ∈ R,Z6 x) :
  Zpd k (L,R,()) = some ((Zci L R,0,()),()):=by
 show Zcb k (Zpe k) _ = _
 simp only [Zcb]
 rw [show (Int.ofNat L.length != Int.ofNat R.length) = false from by rw [h]; simp]
 simp only [cond_false]
 rw [Ze (by simp only [Z8]; omega)]
 have:=ZI (A:=List (Nat × Nat)) (step:=fun L1 => Kr k L1) (fun i acc => (Int.ofNat L.length,Int.ofNat i,L,R,acc)) (L.zip R)
  (fun l acc => some ((acc ++ l.map (fun x => (FloatKind.f64.nearest x.1,FloatKind.f64.nearest x.2)),0,()),())) (fun i acc => acc.length = i)
  (fun L1 acc ha => by
   simp only [Kr]
   rw [List.length_zip,← h,Nat.min_self,Ze (We _)]
   simp)
  (fun L1 i hi acc ha hL1 => by
   have hi2:i < L.length:=by simp at hi; omega
   have hi3:i < R.length:=by omega
   have b1:=hL L[i] (List.getElem_mem hi2)
   have b2:=hR R[i] (List.getElem_mem hi3)
   unfold Z6 at b1 b2
   simp only [Kr]
   rw [Zb (ltR hi2),Zb (Y2 hi2),Zb (Y2 hi3),ZO hi2,ZO hi3]
   rw [Ze (by omega),Ze (by omega),Ze (by omega),Ze (by omega),Zb (by simp; omega),QL hi2 (by omega)]
   rw [hL1 _ (by simp [ha])]
   simp) k 0 [] rfl (by simp; omega) (Nat.zero_le _)
 exact Eq.trans this (by rw [List.drop_zero]; rfl)
theorem Zn3 (k:Nat) {x y:Nat} {a b:Int} (hx:KQ x a) (hy:KQ y b) (hb:(a - b).natAbs < 9007199254740992) (hb2:(a + b).natAbs < 9007199254740992):∃ z,Zg7 k ((x,y),()) = some (z,()) ∧ KQ z (a - b):=by
 show ∃ z,Ze5 k _ = _ ∧ _
 simp only [Ze5]
 unfold cMulBits
 obtain ⟨z1,e1,v1⟩:=ZlR hx
 obtain ⟨z2,e2,v2⟩:=ZlR hy
 obtain ⟨z3,e3,v3⟩:=ZOb v1 v2 hb
 obtain ⟨z4,e4,v4⟩:=ZBs v1 v2 hb2
 refine ⟨z3,?_,v3⟩
 simp only [e1,e2,e3,e4,Qr]
theorem ZGq (k:Nat) {x:Nat} {n:Int} (hx:KQ x n) (hb:n.natAbs < 4503599627370496):∃ z,Zn4 k (x,()) = some (z,()) ∧ KQ z (2 * (n / 2)):=by
 obtain ⟨z,e,v⟩:=ZFe hx hb
 refine ⟨z,?_,v⟩
 show Ze6 k _ = _
 simp only [Ze6,e,Qr]
theorem Zw6 (k:Nat) {x:Nat} {v:Int} (hx:KQ x (2 * v)) (hb:v.natAbs < 1125899906842624):∃ z,ZdN k (x,()) = some (z,()) ∧ KQ z (2 * v):=by
 obtain ⟨z,e,w⟩:=ZFJ hx hb
 refine ⟨z,?_,w⟩
 show ZfH k _ = _
 simp only [ZfH,e,Qr]
theorem ZKa:Yu.read 9218868437227405311 = .number false 9007199254740991 971:=by decide
theorem ZNX {x:Nat} {n:Int} (hx:KQ x n) (h0:0 ≤ n):(FloatKind.f64.format.order x 9218868437227405311 == some Ordering.gt) = false:=by
 obtain ⟨s,m,i,h1,h2,h2',h3⟩:=hx.num
 have:FloatKind.f64.format.order x 9218868437227405311 = some Ordering.lt:=by
  show (Yu.read x).order (Yu.read 9218868437227405311) = _
  rw [h1,ZKa]
  unfold Ieee.Datum.order
  simp only
  have hmin:min i 971 = i:=by omega
  rw [hmin,h3 i (Int.le_refl _)]
  congr 1
  rw [Int.compare_eq_lt]
  unfold Ieee.signed
  simp only [Bool.false_eq_true,if_false]
  rw [Nat.shiftLeft_eq,Int.natCast_mul]
  have hp:(0:Int) < 2 ^ (-1 - i).toNat:=Int.pow_pos (by omega)
  obtain ⟨d,hd,hd1⟩:∃ d:Nat,(971 - i).toNat = (-1 - i).toNat + d ∧ d ≠ 0:=⟨972,by omega,by omega⟩
  have hq:(((2 ^ (971 - i).toNat:Nat):Int)) = 2 ^ (-1 - i).toNat * ((2 ^ d:Nat):Int):=by
   rw [hd,Nat.pow_add,Int.natCast_mul,Int.natCast_pow]; rfl
  rw [hq]
  have hb:=hx.1
  have hQ:1 < 2 ^ d:=Nat.one_lt_two_pow hd1
  have e1:n * 2 ^ (-1 - i).toNat ≤ 9007199254740991 * 2 ^ (-1 - i).toNat:=Int.mul_le_mul_of_nonneg_right (by omega) (Int.le_of_lt hp)
  generalize hP:(2:Int) ^ (-1 - i).toNat = P at hp e1
  generalize 2 ^ d = Q at hQ
  have e2:P * 1 < P * (Q:Int):=Int.mul_lt_mul_of_pos_left (by omega) hp
  have e3:(9007199254740991:Int) * P < 9007199254740991 * (P * (Q:Int)):=Int.mul_lt_mul_of_pos_left (by omega) (by omega)
  show _ < ((9007199254740991:Nat):Int) * (P * (Q:Int))
  omega
 rw [this]; rfl
theorem Zw8 (k:Nat) {x:Nat} {n:Int} (hx:KQ x n):Zky k (x,0,()) = some (false,()):=by
 show ZfI k _ = _
 simp only [ZfI]
 rw [show ((0:Int) == (0:Int)) = true from rfl]
 simp only [cond_true,Zol,Qr]
 rw [ZNX (ZsU hx) (by omega)]
theorem ZNH:KQ 4715268809856909312 33554432:=by
 refine ⟨by decide,.inr ⟨by decide,by decide⟩⟩
theorem ZNT {x y:Nat} {a b:Int} (hx:KQ x a) (hy:KQ y b):∃ z,ZyN .f64 x y = some z ∧ KQ z (max a b):=by
 unfold ZyN
 rw [Zgm hx hy]
 rcases Int.lt_trichotomy a b with h | h | h
 ·rw [Int.compare_eq_lt.2 h]; exact ⟨y,rfl,by rw [Int.max_eq_right (by omega)]; exact hy⟩
 ·subst h
  have:compare a a = Ordering.eq:=by simp
  rw [this]
  refine ⟨_,rfl,?_⟩
  rw [Int.max_self]
  split
  ·exact hy
  ·exact hx
 ·rw [Int.compare_eq_gt.2 h]; exact ⟨x,rfl,by rw [Int.max_eq_left (by omega)]; exact hx⟩
theorem Zp4 {x y:Nat} {a:Int} (hx:KQ x a) (hy:KQ y a):(FloatKind.f64.format.order x y != some Ordering.eq) = false:=by
 rw [Zgm hx hy]; simp
theorem ZFw {x:Nat} {a:Int} (hx:KQ x a) (h:a ≤ 33554432):(FloatKind.f64.format.order x 4715268809856909312 == some Ordering.gt) = false:=by
 rw [Zgm hx ZNH]
 have:compare a 33554432 ≠ Ordering.gt:=by
  intro h2
  have:=Int.compare_eq_gt.1 h2
  omega
 cases hc:compare a 33554432 <;> first | rfl | exact absurd hc this
theorem ZzB (k:Nat) (hk:4 < k) (L1:Int × Int × List (Nat × Nat) × List (Nat × Nat) → Option (Int × Unit)) {x y:Nat} {l r:Int} (h:PV2 (x,y) l r) (v3 v4:Int) (v5 v6:List (Nat × Nat)) :
  ZhX k L1 (0,x,y,v3,v4,v5,v6) = L1 (v4,IntKind.i64.wrap (v3 + 1),v5,v6):=by
 obtain ⟨hx,hy,b1,b2⟩:=h
 unfold Z6 at b1 b2
 obtain ⟨k,rfl⟩:∃ m,k = m + 3:=⟨k - 3,by omega⟩
 obtain ⟨z1,e1,w1⟩:=Zw6 (k + 3) hx (by omega)
 obtain ⟨z2,e2,w2⟩:=Zw6 (k + 3) hy (by omega)
 show Zp (fun L2 => YV (k + 3) L1 L2) (k + 3) _ = _
 rw [Zg]
 simp only [YV]
 rw [Zb (by omega),Zb (by omega)]
 show ((ZdN (k + 3) (x,())).bind _) = _
 rw [e1]
 simp only [Qr]
 rw [show [x,y].getD (0:Int).toNat (0:Nat) = x from rfl,Zp4 w1 hx]
 simp only [cond_false]
 rw [Zw8 _ hx]
 simp only [Qr,cond_false]
 rw [show IntKind.i64.wrap ((0:Int) + 1) = 1 from by rw [ZT (by omega)]; rfl,Zg]
 simp only [YV]
 rw [Zb (by omega),Zb (by omega)]
 show ((ZdN (k + 3) (y,())).bind _) = _
 rw [e2]
 simp only [Qr]
 rw [show [x,y].getD (1:Int).toNat (0:Nat) = y from rfl,Zp4 w2 hy]
 simp only [cond_false]
 rw [Zw8 _ hy]
 simp only [Qr,cond_false]
 rw [show IntKind.i64.wrap ((1:Int) + 1) = 2 from by rw [ZT (by omega)]; rfl,Zg]
 simp only [YV]
 rw [Ze (by omega)]
theorem ZDx (k:Nat) {p:List (Nat × Nat)} {L R:List Int} (hp:PP p L R) (hk:p.length + 4 < k) (hn:p.length ≤ 8192):Zn2 k (p,()) = some (0,()):=by
 show Ze4 k (Zmg k) _ = _
 simp only [Ze4]
 rw [Ze (by simp only [Z8]; omega)]
 have h3:ZhY k (Int.ofNat p.length,(0:Int),p) = some (0,()):=by
  have:=XK (A:=Unit) (step:=fun L3 => ZbG k L3) (fun i _ => (Int.ofNat p.length,Int.ofNat i,p)) p (fun _ _ => some (0,()))
   (fun L _ => by simp only [ZbG]; rw [Ze (We _)])
   (fun L i hi _ hL => by
    obtain ⟨hx,hy,b1,b2⟩:=hp.at_ i hi
    unfold Z6 at b1 b2
    simp only [ZbG]
    rw [Zb (ltR hi),Zb (Y2 hi),ZO hi,Zol,Zol]
    simp only [Qr]
    obtain ⟨z,e,w⟩:=ZNT (ZsU hx) (ZsU hy)
    rw [e]
    simp only [Qr]
    rw [ZFw w (by omega)]
    simp only [cond_false]
    rw [QL hi (by omega),hL ()]) k 0 () (by omega) (Nat.zero_le _)
  exact this
 have:=XK (A:=Unit) (step:=fun L1 => ZbF k (ZhX k L1) (ZhY k) L1) (fun i _ => (Int.ofNat p.length,Int.ofNat i,p,p)) p (fun _ _ => some (0,()))
  (fun L _ => by simp only [ZbF]; rw [Ze (We _)]; exact h3)
  (fun L i hi _ hL => by
   simp only [ZbF]
   rw [Zb (ltR hi),Zb (Y2 hi),ZO hi]
   rw [ZzB k (by omega) L (x:=p[i].1) (y:=p[i].2) (hp.at_ i hi),QL hi (by omega),hL ()]) k 0 () (by omega) (Nat.zero_le _)
 exact this
def apA (m l r:Int):Int:=if m = 9 then l - r else if m = 10 then (l + r) / 2 else l
def apB (m l r:Int):Int:=if m = 8 then l - r else if m = 10 then l - r else r
def Zgv (m:Int):Prop:=m = 0 ∨ m = 8 ∨ m = 9 ∨ m = 10
def KE (m:Int) (L R:List Int):List Int:=(L.zip R).map fun x => apA m x.1 x.2
def KF (m:Int) (L R:List Int):List Int:=(L.zip R).map fun x => apB m x.1 x.2
theorem Zyl (k:Nat) {m:Int} (h:Zgv m):Zsc k (m,()) = some (true,()):=by
 rcases h with rfl | rfl | rfl | rfl <;> rfl
theorem Zph (k:Nat) {p:List (Nat × Nat)} {L R:List Int} (hp:PP p L R) (hk:p.length + 4 < k) (hn:p.length ≤ 8192) {m:Int} (hm:Zgv m) :
  Zpf k (p,m,()) = some ((KE m L R,KF m L R,0,()),()):=by
 show ZiT k (ZuF k) _ = _
 simp only [ZiT]
 rw [Zyl k hm]
 simp only [Qr,Bool.not_true,cond_false]
 rw [ZDx k hp hk hn]
 simp only [Qr]
 rw [show ((0:Int) != (0:Int)) = false from rfl]
 simp only [cond_false]
 have hl:=hp.hl
 have hr:=hp.hr
 have:=ZI (A:=List Int × List Int) (step:=fun L1 => Zeg k L1) (fun i a => (Int.ofNat p.length,Int.ofNat i,p,m,a.1,a.2)) (L.zip R)
  (fun l a => some ((a.1 ++ l.map (fun x => apA m x.1 x.2),a.2 ++ l.map (fun x => apB m x.1 x.2),0,()),())) (fun i a => a.1.length = i ∧ a.2.length = i)
  (fun L1 a ha => by
   simp only [Zeg]
   rw [List.length_zip,← hl,← hr,Nat.min_self,Ze (We _)]
   simp)
  (fun L1 i hi a ha hL1 => by
   have hi2:i < p.length:=by simp at hi; omega
   obtain ⟨hx,hy,b1,b2⟩:=hp.at_ i hi2
   unfold Z6 at b1 b2
   simp only [Zeg]
   rw [Zb (ltR hi2),Zb (Y2 hi2),ZO hi2]
   have s1:(a.1.length + [(0:Int)].length < 2147483648):=by simp; omega
   have s2:(a.2.length + [(0:Int)].length < 2147483648):=by simp; omega
   have hz:(L.zip R)[i] = (L[i]'(by omega),R[i]'(by omega)):=by simp
   rw [hz]
   have fin:∀ (u v:Int),u = apA m (L[i]'(by omega)) (R[i]'(by omega)) → v = apB m (L[i]'(by omega)) (R[i]'(by omega)) →
     L1 (Int.ofNat p.length,IntKind.i64.wrap (Int.ofNat i + 1),p,m,a.1 ++ [u],a.2 ++ [v]) = some ((a.1 ++ List.map (fun x => apA m x.1 x.2) ((L[i]'(by omega),R[i]'(by omega)) :: List.drop (i + 1) (L.zip R)),a.2 ++ List.map (fun x => apB m x.1 x.2) ((L[i]'(by omega),R[i]'(by omega)) :: List.drop (i + 1) (L.zip R)),0,()),()):=by
    intro u v hu hv
    rw [QL hi2 (by omega)]
    have:=hL1 (a.1 ++ [u],a.2 ++ [v]) ⟨by simp [ha.1],by simp [ha.2]⟩
    simp only at this
    rw [this,hu,hv]
    simp
   rcases hm with rfl | rfl | rfl | rfl
   ·rw [show ((0:Int) == (8:Int)) = false from rfl,show ((0:Int) == (9:Int)) = false from rfl,show ((0:Int) == (10:Int)) = false from rfl]
    simp only [cond_false]
    rw [K4 hx (by omega)]
    simp only [Qr]
    rw [Zb (by simp; omega),K4 hy (by omega)]
    simp only [Qr]
    rw [Zb (by simp; omega)]
    exact fin _ _ rfl rfl
   ·rw [show ((8:Int) == (8:Int)) = true from rfl]
    simp only [cond_true]
    obtain ⟨z,e,w⟩:=Zn3 k hx hy (by omega) (by omega)
    rw [← Int.mul_sub] at w
    rw [e]
    simp only [Qr]
    rw [K4 hx (by omega)]
    simp only [Qr]
    rw [Zb (by simp; omega),K4 w (by omega)]
    simp only [Qr]
    rw [Zb (by simp; omega)]
    exact fin _ _ rfl rfl
   ·rw [show ((9:Int) == (8:Int)) = false from rfl,show ((9:Int) == (9:Int)) = true from rfl]
    simp only [cond_true,cond_false]
    obtain ⟨z,e,w⟩:=Zn3 k hx hy (by omega) (by omega)
    rw [← Int.mul_sub] at w
    rw [e]
    simp only [Qr]
    rw [K4 w (by omega)]
    simp only [Qr]
    rw [Zb (by simp; omega),K4 hy (by omega)]
    simp only [Qr]
    rw [Zb (by simp; omega)]
    exact fin _ _ rfl rfl
   ·rw [show ((10:Int) == (8:Int)) = false from rfl,show ((10:Int) == (9:Int)) = false from rfl,show ((10:Int) == (10:Int)) = true from rfl]
    simp only [cond_true,cond_false]
    obtain ⟨z1,e1,w1⟩:=ZBs hx hy (by omega)
    rw [← Int.mul_add] at w1
    obtain ⟨z2,e2,w2⟩:=ZJ2 w1
    obtain ⟨z3,e3,w3⟩:=ZGq k w2 (by omega)
    obtain ⟨z,e,w⟩:=Zn3 k hx hy (by omega) (by omega)
    rw [← Int.mul_sub] at w
    rw [e1]
    simp only [Qr]
    rw [e2]
    simp only [Qr]
    rw [e3]
    simp only [Qr]
    rw [e]
    simp only [Qr]
    rw [K4 w3 (by omega)]
    simp only [Qr]
    rw [Zb (by simp; omega),K4 w (by omega)]
    simp only [Qr]
    rw [Zb (by simp; omega)]
    exact fin _ _ rfl rfl) k 0 ([],[]) ⟨rfl,rfl⟩ (by simp; omega) (Nat.zero_le _)
 exact Eq.trans this (by rw [List.drop_zero]; rfl)
end Go.Sh
namespace Go.Sh
open Go Go.Proofs
theorem ZyY (x:Int) {w:Nat} (hw:0 < w):W6 x w = (x.fdiv (2 ^ (w - 1)) == 0 || x.fdiv (2 ^ (w - 1)) == -1):=by
 rw [Bool.eq_iff_iff]
 constructor
 ·intro h
  rcases Zyw hw h with h | h
  ·rw [h]; rfl
  ·rw [h]; rfl
 ·intro h
  unfold W6
  rw [if_neg (by omega),decide_eq_true_eq]
  have hp:(0:Int) < 2 ^ (w - 1):=Int.pow_pos (by omega)
  rw [Int.fdiv_eq_ediv_of_nonneg _ (by omega)] at h
  have h1:=Int.mul_ediv_add_emod x (2 ^ (w - 1))
  have h2:=Int.emod_nonneg x (show (2:Int) ^ (w - 1) ≠ 0 by omega)
  have h3:=Int.emod_lt_of_pos x hp
  simp only [Bool.or_eq_true,beq_iff_eq] at h
  generalize (2:Int) ^ (w - 1) = P at *
  rcases h with h | h
  ·rw [h] at h1; constructor <;> omega
  ·rw [h] at h1; constructor <;> omega
def Zhx:List Int → Int → Int → Int
 | [],n,_ => n
 | x :: l,n,last => Zhx l (n + ((x - last).natAbs:Int)) x
def Zbw (l:List Int):Int:=Zhx l 0 0
def Z1 (n:Int):Prop := -67108864 ≤ n ∧ n ≤ 67108864
theorem Zyv (k:Nat) (l:List Int) (hk:l.length < k) (hn:l.length ≤ 8192) (hl:∀ x ∈ l,Z1 x):Zsf k (l,()) = some (Zbw l,()):=by
 show Zjr k (Zvl k) _ = _
 simp only [Zjr]
 have:=ZI (A:=Int × Int) (step:=fun L1 => Zey k L1) (fun i a => (Int.ofNat l.length,Int.ofNat i,l,a.1,a.2)) l
  (fun l' a => some (Zhx l' a.1 a.2,())) (fun i a => 0 ≤ a.1 ∧ a.1 ≤ (i:Int) * 268435456 ∧ Z1 a.2)
  (fun L a _ => by simp only [Zey]; rw [Ze (We _)]; rfl)
  (fun L i hi a ha hL => by
   have hx:=hl _ (List.getElem_mem hi)
   unfold Z1 at hx ha
   simp only [Zey]
   rw [Zb (ltR hi),Zb (Y2 hi),ZO hi,QL hi (by omega)]
   have e1:IntKind.i64.wrap (l[i] - a.2) = l[i] - a.2:=ZT (by omega)
   have e2:IntKind.i64.wrap (a.2 - l[i]) = a.2 - l[i]:=ZT (by omega)
   rw [e1,e2]
   have e3:(if l[i] - a.2 < a.2 - l[i] then a.2 - l[i] else l[i] - a.2) = (((l[i] - a.2).natAbs:Nat):Int):=by split <;> omega
   rw [e3]
   have hi':(i:Int) ≤ 8192:=by omega
   have e4:IntKind.i64.wrap (a.1 + (((l[i] - a.2).natAbs:Nat):Int)) = a.1 + (((l[i] - a.2).natAbs:Nat):Int):=ZT (by omega)
   rw [e4,hL (a.1 + (((l[i] - a.2).natAbs:Nat):Int),l[i]) ⟨by omega,by push_cast; omega,hx⟩]
   rfl) k 0 (0,0) ⟨by omega,by omega,by unfold Z1; omega⟩ (by omega) (Nat.zero_le _)
 exact this
theorem ZjM:∀ (l:List Int) (n last:Int),(∀ x ∈ l,Z1 x) → Z1 last → n ≤ Zhx l n last ∧ Zhx l n last ≤ n + (l.length:Int) * 134217728
 | [],n,last,_,_ => by simp [Zhx]
 | x :: l,n,last,h,hb => by
  have hx:=h x (List.mem_cons_self ..)
  have:=ZjM l (n + ((x - last).natAbs:Int)) x (fun y hy => h y (List.mem_cons_of_mem _ hy)) hx
  unfold Z1 at hx hb
  simp only [Zhx,List.length_cons]
  push_cast
  omega
theorem ZjN {l:List Int} (h:∀ x ∈ l,Z1 x) (hn:l.length ≤ 8192):0 ≤ Zbw l ∧ Zbw l ≤ 1099511627776:=by
 have:=ZjM l 0 0 h (by unfold Z1; omega)
 unfold Zbw
 omega
theorem Zv7 {m l r:Int} (hl:Z6 l) (hr:Z6 r):Z1 (apA m l r) ∧ Z1 (apB m l r):=by
 unfold Z6 at hl hr
 unfold Z1 apA apB
 constructor
 ·split
  ·omega
  ·split <;> omega
 ·split
  ·omega
  ·split <;> omega
theorem Zv8 {m:Int} {L R:List Int} (hL:∀ x ∈ L,Z6 x) (hR:∀ x ∈ R,Z6 x):(∀ x ∈ KE m L R,Z1 x) ∧ (∀ x ∈ KF m L R,Z1 x):=by
 constructor
 ·intro x hx
  obtain ⟨⟨l,r⟩,h,rfl⟩:=List.mem_map.1 hx
  exact (Zv7 (hL _ (List.of_mem_zip h).1) (hR _ (List.of_mem_zip h).2)).1
 ·intro x hx
  obtain ⟨⟨l,r⟩,h,rfl⟩:=List.mem_map.1 hx
  exact (Zv7 (hL _ (List.of_mem_zip h).1) (hR _ (List.of_mem_zip h).2)).2
theorem Zj4 {m:Int} {L R:List Int} (h:L.length = R.length):(KE m L R).length = L.length ∧ (KF m L R).length = L.length:=by
 unfold KE KF
 simp [h]
def ZGd (L R:List Int) (m:Int):Int:=Zbw (KE m L R) + Zbw (KF m L R)
def ZjE (L R:List Int) (b:Int × Int) (m:Int):Int × Int:=if b.1 < 0 ∨ ZGd L R m < b.1 then (ZGd L R m,m) else b
def QX (L R:List Int):Int:=(ZjE L R (ZjE L R (ZjE L R (ZjE L R (-1,0) 0) 8) 9) 10).2
theorem ZjF {L R:List Int} {b:Int × Int} {m:Int} (hb:Zgv b.2) (hm:Zgv m):Zgv (ZjE L R b m).2:=by
 unfold ZjE; split
 ·exact hm
 ·exact hb
theorem ZnO (L R:List Int):Zgv (QX L R):=by
 unfold QX
 exact ZjF (ZjF (ZjF (ZjF (.inl rfl) (.inl rfl)) (.inr (.inl rfl))) (.inr (.inr (.inl rfl)))) (.inr (.inr (.inr rfl)))
theorem ZiS (k:Nat) (L1:Int × Int × Int × Int × Int × List (Nat × Nat) × Int × Int → Option ((Int × Int × Unit) × Unit)) {p:List (Nat × Nat)} {L R:List Int} (hp:PP p L R) (hLR:L.length = R.length) (hL:∀ x ∈ L,Z6 x) (hR:∀ x ∈ R,Z6 x)
  (hk:p.length + 4 < k) (hn:p.length ≤ 8192) (j:Nat) (hj:j < 4) (m:Int) (hm:Zgv m) (hg:[(0:Int),8,9,10].getD j 0 = m) (b:Int × Int) :
  Zcc k L1 ((j:Int),0,8,9,10,p,b.1,b.2) = L1 (((j + 1:Nat):Int),0,8,9,10,p,(ZjE L R b m).1,(ZjE L R b m).2):=by
 have hl:=hp.hl
 obtain ⟨sA,sB⟩:=Zv8 (m:=m) hL hR
 obtain ⟨lA,lB⟩:=Zj4 (m:=m) hLR
 have bA:=ZjN sA (by omega)
 have bB:=ZjN sB (by omega)
 simp only [Zcc]
 rw [Zb (by omega),Zb (by omega),QZ,hg,Zph k hp hk hn hm]
 simp only [Qr]
 rw [show ((0:Int) != (0:Int)) = false from rfl]
 simp only [cond_false]
 rw [Zyv k _ (by omega) (by omega) sA]
 simp only [Qr]
 rw [Zyv k _ (by omega) (by omega) sB]
 simp only [Qr]
 rw [ZT (n:=Zbw (KE m L R) + Zbw (KF m L R)) (by omega),ZT (n:=(j:Int) + 1) (by omega)]
 unfold ZjE ZGd
 by_cases h1:b.1 < 0
 ·rw [Zb h1,if_pos (.inl h1)]
  push_cast; rfl
 ·rw [Ze h1]
  by_cases h2:Zbw (KE m L R) + Zbw (KF m L R) < b.1
  ·rw [Zb h2,if_pos (.inr h2)]
   push_cast; rfl
  ·rw [Ze h2,if_neg (by omega)]
   push_cast; rfl
theorem ZJb (k:Nat) {p:List (Nat × Nat)} {L R:List Int} (hp:PP p L R) (hLR:L.length = R.length) (hL:∀ x ∈ L,Z6 x) (hR:∀ x ∈ R,Z6 x)
  (hk:p.length + 8 < k) (hn:p.length ≤ 8192):Zx4 k (p,()) = some ((QX L R,0,()),()):=by
 obtain ⟨k,rfl⟩:∃ m,k = m + 5:=⟨k - 5,by omega⟩
 show Zp (fun L1 => Zcc (k + 5) L1) (k + 5) ((0:Nat),0,8,9,10,p,(-1,(0:Int)).1,(-1,(0:Int)).2) = _
 rw [Zg,ZiS (k + 5) _ hp hLR hL hR (by omega) hn 0 (by omega) 0 (.inl rfl) rfl]
 rw [Zg,ZiS (k + 5) _ hp hLR hL hR (by omega) hn 1 (by omega) 8 (.inr (.inl rfl)) rfl]
 rw [Zg,ZiS (k + 5) _ hp hLR hL hR (by omega) hn 2 (by omega) 9 (.inr (.inr (.inl rfl))) rfl]
 rw [Zg,ZiS (k + 5) _ hp hLR hL hR (by omega) hn 3 (by omega) 10 (.inr (.inr (.inr rfl))) rfl]
 rw [Zg]
 simp only [Zcc]
 rw [Ze (by omega)]
 rfl
def Zbt (ch:List (List Int)):List (List Int) × Int:=match ch with
 | [L,R] => ([KE (QX L R) L R,KF (QX L R) L R],if QX L R = 0 then 1 else QX L R)
 | ch => (ch,0)
theorem ZIo (k:Nat) (n:Int) (ch:List (List Int)) (hk:9000 < k) (h:ch.length = 1 ∨ (∃ L R,ch = [L,R] ∧ L.length = R.length ∧ L.length ≤ 8192 ∧ (∀ x ∈ L,Z6 x) ∧ ∀ x ∈ R,Z6 x)) :
  ZxJ k ((n,ch,()),()) = some (((Zbt ch).1,(Zbt ch).2,0,()),()):=by
 show Zir k _ = _
 simp only [Zir]
 rcases h with h | ⟨L,R,rfl,hLR,hn,hL,hR⟩
 ·match ch,h with
  | [L],_ => rfl
 ·rw [show (Int.ofNat [L,R].length == (1:Int)) = false from rfl]
  simp only [cond_false]
  rw [Zb (by simp),Zb (by simp)]
  have hp:=ZpQ hLR hL hR
  have hpl:(Zci L R).length ≤ 8192:=by rw [hp.hl]; exact hn
  rw [show [L,R].getD 0 [] = L from rfl,show [L,R].getD 1 [] = R from rfl,ZI8 k (by omega) hLR hn hL hR]
  simp only [Qr]
  rw [show ((0:Int) != (0:Int)) = false from rfl]
  simp only [cond_false]
  rw [ZJb k hp hLR hL hR (by omega) hpl]
  simp only [Qr]
  rw [show ((0:Int) != (0:Int)) = false from rfl]
  simp only [cond_false]
  rw [Zph k hp (by omega) hpl (ZnO L R)]
  simp only [Qr]
  rw [Zw]
  show (bif decide (QX L R = 0) then _ else _) = some ((([_,_],if QX L R = 0 then 1 else QX L R,0,()),()))
  by_cases h0:QX L R = 0
  ·rw [Zb h0,if_pos h0]
  ·rw [Ze h0,if_neg h0]
def Qj (c d m:Int):List Int:=if c = 1 then [d] else if m = 8 ∨ m = 10 then [d,d + 1] else if m = 9 then [d + 1,d] else [d,d]
theorem ZxO (k:Nat) {c d r m:Int} (hc:c = 1 ∧ m = 0 ∨ c = 2) (hd:0 ≤ d ∧ d ≤ 24):ZrW k ((c,d,r,()),m,()) = some (Qj c d m,()):=by
 show Ziw k _ = _
 simp only [Ziw]
 have e:IntKind.i64.wrap (d + 1) = d + 1:=ZT (by omega)
 unfold Qj
 rcases hc with ⟨rfl,rfl⟩ | rfl
 ·rw [Zb (by simp)]
  rfl
 ·rw [Zb (by simp),if_neg (by omega)]
  simp only [Zw]
  by_cases h8:m = 8
  ·rw [Zb h8,if_pos (.inl h8),Zb (by simp),Zb (by simp),Zb (by simp)]
   simp [e]
  ·rw [Ze h8]
   by_cases h10:m = 10
   ·rw [Zb h10,if_pos (.inr h10),Zb (by simp),Zb (by simp),Zb (by simp)]
    simp [e]
   ·rw [Ze h10,if_neg (by omega)]
    by_cases h9:m = 9
    ·rw [Zb h9,if_pos h9,Zb (by simp),Zb (by simp),Zb (by simp)]
     simp [e]
    ·rw [Ze h9,if_neg h9,Zb (by simp)]
     rfl
def KN (c d r:Int):Bool:=decide (1 ≤ c ∧ c ≤ 2 ∧ 4 ≤ d ∧ d ≤ 24 ∧ 1 ≤ r ∧ r ≤ 655350)
theorem ZwP (k:Nat) (c d r:Int):Zru k ((c,d,r,()),()) = some (if KN c d r then 0 else 2,()):=by
 show Zh8 k _ = _
 simp only [Zh8]
 unfold KN
 by_cases h1:c < 1
 ·rw [Zb h1,QG (by omega)]; rfl
 ·rw [Ze h1]
  by_cases h2:2 < c
  ·rw [Zb h2,QG (by omega)]; rfl
  ·rw [Ze h2]
   by_cases h3:d < 4
   ·rw [Zb h3,QG (by omega)]; rfl
   ·rw [Ze h3]
    by_cases h4:24 < d
    ·rw [Zb h4,QG (by omega)]; rfl
    ·rw [Ze h4]
     by_cases h5:r < 1
     ·rw [Zb h5,QG (by omega)]; rfl
     ·rw [Ze h5]
      by_cases h6:655350 < r
      ·rw [Zb h6,QG (by omega)]; rfl
      ·rw [Ze h6,QS (by omega)]; rfl
def KM (n:Nat) (l:List Int):Bool:=decide (l.length = n ∧ 1 ≤ n ∧ n ≤ 512)
def Ya (c d r n:Int) (ch:List (List Int)):Int :=
 if KN c d r = false then 2 else if n < 0 ∨ 2147483647 < n ∨ (ch.length:Int) ≠ c then 1
 else if ch.all (KM (ch.headD []).length) = false then 1
 else if ch.all (fun l => l.all fun x => W6 x d.toNat) = false then 12 else 0
theorem ZxI (k:Nat) (c d r n:Int) (ch:List (List Int)) (hk:1000 < k):ZgC k ((c,d,r,()),(n,ch,()),()) = some (Ya c d r n ch,()):=by
 show Ziq k (ZoW k) _ = _
 simp only [Ziq]
 rw [ZwP]
 simp only [Qr]
 unfold Ya
 cases hs:KN c d r with
 | false => simp only [if_true,Bool.false_eq_true,if_false]; rfl
 | true =>
  simp only [if_true,Bool.true_eq_false,if_false]
  rw [show ((0:Int) != (0:Int)) = false from rfl]
  simp only [cond_false]
  have hs:=of_decide_eq_true hs
  by_cases h1:n < 0
  ·rw [Zb h1,if_pos (.inl h1)]
  ·rw [Ze h1]
   by_cases h2:2147483647 < n
   ·rw [Zb h2,if_pos (.inr (.inl h2))]
   ·rw [Ze h2,Zo]
    by_cases h3:Int.ofNat ch.length = c
    ·rw [Ze (by simpa using h3),if_neg (by simp only [Z8] at h3; omega)]
     simp only [Z8] at h3
     have hch:ch.length ≤ 2:=by omega
     rw [Zb (by simp only [Z8]; omega)]
     have hhd:ch.getD 0 [] = ch.headD []:=by cases ch <;> rfl
     rw [hhd]
     generalize hN:(ch.headD []).length = N
     have hstep2:ch.all (KM N) = true → ZdY k (Int.ofNat ch.length,(0:Int),ch,c,d,r) = some (if ch.all (fun l => l.all fun x => W6 x d.toNat) = false then 12 else 0,()):=by
      intro hall
      have:=Xd (step:=fun L2 => Zb8 k (ZoX k L2) L2) (fun i => (Int.ofNat ch.length,Int.ofNat i,ch,c,d,r)) ch (fun l => l.all fun x => W6 x d.toNat) (some ((12:Int),())) (some ((0:Int),()))
       (fun L => by simp only [Zb8]; rw [Ze (We _)])
       (fun L i hi => by
        simp only [Zb8]
        rw [Zb (ltR hi),Zb (Y2 hi),ZO hi]
        have hlen:=of_decide_eq_true (List.all_eq_true.1 hall ch[i] (List.getElem_mem hi))
        have:=Xd (step:=fun L3 => Zb9 k L L3) (fun j => (Int.ofNat ch[i].length,Int.ofNat j,ch[i],Int.ofNat i,Int.ofNat ch.length,ch,c,d,r)) ch[i] (fun x => W6 x d.toNat) (some ((12:Int),()))
         (L (Int.ofNat ch.length,Int.ofNat (i + 1),ch,c,d,r))
         (fun L3 => by simp only [Zb9]; rw [Ze (We _),QL hi (by omega)])
         (fun L3 j hj => by
          simp only [Zb9]
          rw [Zb (ltR hj),Zb (Y2 hj),ZO hj]
          have ew:IntKind.i64.wrap (d - 1) = ((d.toNat - 1:Nat):Int):=by rw [ZT (by omega)]; omega
          simp only [ew,QZ,Nat.min_eq_left (show d.toNat - 1 ≤ 64 by omega)]
          rw [Zb (by omega),ZyY _ (by omega),QL hj (by omega)]
          simp only [bne]
          cases h5:(ch[i][j].fdiv (2 ^ (d.toNat - 1)) == 0) with
          | true => rfl
          | false =>
           cases h6:(ch[i][j].fdiv (2 ^ (d.toNat - 1)) == -1) <;> rfl) k (by omega)
        rw [← this]
        rfl) k (by omega)
      rw [show ZdY k (Int.ofNat ch.length,(0:Int),ch,c,d,r) = Zp (fun L2 => Zb8 k (ZoX k L2) L2) k (Int.ofNat ch.length,Int.ofNat 0,ch,c,d,r) from rfl,this]
      cases ch.all (fun l => l.all fun x => W6 x d.toNat) <;> rfl
     have:=Xd (step:=fun L1 => Zb7 k (ZdY k) L1) (fun i => (Int.ofNat ch.length,Int.ofNat i,ch,Int.ofNat N,n,ch,c,d,r)) ch (KM N) (some ((1:Int),()))
      (ZdY k (Int.ofNat ch.length,(0:Int),ch,c,d,r))
      (fun L => by simp only [Zb7]; rw [Ze (We _)])
      (fun L i hi => by
       simp only [Zb7]
       rw [Zb (ltR hi),Zb (Y2 hi),ZO hi,Zo]
       unfold KM
       simp only [Z8]
       by_cases e1:ch[i].length = N
       ·rw [Ze (by omega)]
        by_cases e2:N < 1
        ·rw [Zb (by omega),QG (by omega)]; rfl
        ·rw [Ze (by omega)]
         by_cases e3:512 < N
         ·rw [Zb (by omega),QG (by omega)]; rfl
         ·rw [Ze (by omega),QS (by omega),ZT (by omega)]; rfl
       ·rw [Zb (by omega),QG (by omega)]; rfl) k (by omega)
     rw [show ZoW k (Int.ofNat ch.length,(0:Int),ch,Int.ofNat N,n,ch,c,d,r) = Zp (fun L1 => Zb7 k (ZdY k) L1) k (Int.ofNat ch.length,Int.ofNat 0,ch,Int.ofNat N,n,ch,c,d,r) from rfl,this]
     cases hall:ch.all (KM N) with
     | false => simp
     | true =>
      simp only [cond_true,Bool.true_eq_false,if_false]
      exact hstep2 hall
    ·rw [Zb h3,if_pos (.inr (.inr h3))]
end Go.Sh
namespace Go.Sh
open Go Go.Proofs
def Zgz:List Int → Int
 | [] => 0
 | x :: l => x + Zgz l
def Zal (x:Int):Bool:=decide (-2048 ≤ x ∧ x ≤ 2047)
def Qi (x:Int):Bool:=decide (x ≤ -2147483648 ∨ 2147483648 ≤ x)
def Y5 (c:List Int) (sh:Int):Bool:=decide (c.length ≤ 8 ∧ 0 ≤ sh ∧ sh ≤ 15) && c.all Zal
theorem ZEY (k:Nat) (x:Int):ZoR k (x,()) = some (!Zal x,()):=by
 show Zge k _ = _
 simp only [Zge]
 unfold Zal
 by_cases h:x < -2048
 ·rw [Zb h,QG (by omega)]; rfl
 ·rw [Ze h]
  by_cases h2:2047 < x
  ·rw [QS h2,QG (by omega)]; rfl
  ·rw [QG h2,QS (by omega)]; rfl
theorem ZwF (k:Nat) (c:List Int) (hk:c.length < k) (hn:c.length < 4294967296):ZdG k (c,(),()) = some (!c.all Zal,()):=by
 show ZaT k _ = _
 simp only [ZaT]
 have key:∃ i:Int,ZdT k (c,(),()) = some (i,()) ∧ (0 ≤ i ↔ c.all Zal = false):=by
  have:=XK (A:=Unit) (R:=Int × Unit) (step:=fun L1 => Ko k L1) (fun i _ => (Int.ofNat c.length,Int.ofNat i,c)) c
   (fun l _ => some (if l.all Zal then -1 else Int.ofNat (c.length - l.length + (l.takeWhile Zal).length),()))
   (fun L _ => by simp only [Ko]; rw [Ze (We _)]; rfl)
   (fun L i hi _ hL => by
    simp only [Ko]
    rw [Zb (ltR hi),Zb (Y2 hi),ZO hi,ZEY]
    simp only [Qr]
    have hlen:(List.drop (i + 1) c).length = c.length - (i + 1):=by simp
    cases hc:Zal c[i] with
    | true =>
     simp only [Bool.not_true,cond_false]
     rw [QL hi (by omega),hL ()]
     simp only [List.all_cons,hc,Bool.true_and,List.takeWhile_cons,if_true,List.length_cons,hlen]
     split
     ·rfl
     ·congr 3; omega
    | false =>
     simp only [Bool.not_false,cond_true,List.all_cons,hc,Bool.false_and,Bool.false_eq_true,if_false,List.takeWhile_cons,List.length_cons,hlen,List.length_nil]
     congr 3; omega) k 0 () (by omega) (Nat.zero_le _)
  rw [List.drop_zero] at this
  refine ⟨_,this,?_⟩
  cases c.all Zal <;> simp
 obtain ⟨i,h1,h2⟩:=key
 rw [h1]
 simp only [Qr]
 cases hc:c.all Zal with
 | false => rw [QS (h2.2 hc)]; rfl
 | true => rw [QG (fun h => by have:=h2.1 h; rw [hc] at this; cases this)]; rfl
theorem ZkH (k:Nat) (x:Int):Zhg k (x,()) = some (Qi x,()):=by
 show ZfO k _ = _
 simp only [ZfO]
 unfold Qi
 by_cases h:x ≤ -2147483648
 ·rw [Zb h,QS (.inl h)]
 ·rw [Ze h]
  by_cases h2:2147483648 ≤ x
  ·rw [QS h2,QS (.inr h2)]
  ·rw [QG h2,QG (by omega)]
theorem ZaR (k:Nat) (c:List Int) (hk:c.length < k) (hn:c.length < 4294967296):Kh k (c,(),()) = some (c.any Qi,()):=by
 show ZaQ k _ = _
 simp only [ZaQ]
 have key:∃ i:Int,ZdR k (c,(),()) = some (i,()) ∧ (0 ≤ i ↔ c.any Qi = true):=by
  have:=XK (A:=Unit) (R:=Int × Unit) (step:=fun L1 => Km k L1) (fun i _ => (Int.ofNat c.length,Int.ofNat i,c)) c
   (fun l _ => some (if l.any Qi then Int.ofNat (c.length - l.length + (l.takeWhile (fun x => !Qi x)).length) else -1,()))
   (fun L _ => by simp only [Km]; rw [Ze (We _)]; rfl)
   (fun L i hi _ hL => by
    simp only [Km]
    rw [Zb (ltR hi),Zb (Y2 hi),ZO hi,ZkH]
    simp only [Qr]
    have hlen:(List.drop (i + 1) c).length = c.length - (i + 1):=by simp
    cases hc:Qi c[i] with
    | false =>
     simp only [cond_false]
     rw [QL hi (by omega),hL ()]
     simp only [List.any_cons,hc,Bool.false_or,List.takeWhile_cons,Bool.not_false,if_true,List.length_cons,hlen]
     split
     ·congr 3; omega
     ·rfl
    | true =>
     simp only [cond_true,List.any_cons,hc,Bool.true_or,if_true,List.takeWhile_cons,Bool.not_true,Bool.false_eq_true,if_false,List.length_cons,hlen,List.length_nil]
     congr 3; omega) k 0 () (by omega) (Nat.zero_le _)
  rw [List.drop_zero] at this
  refine ⟨_,this,?_⟩
  cases c.any Qi <;> simp
 obtain ⟨i,h1,h2⟩:=key
 rw [h1]
 simp only [Qr]
 cases hc:c.any Qi with
 | true => rw [QS (h2.2 hc)]
 | false => rw [QG (fun h => by have:=h2.1 h; rw [hc] at this; cases this)]
theorem ZrK (k:Nat) (c:List Int) (sh:Int) (hk:10 < k):ZkO k ((c,sh,()),()) = some (if Y5 c sh then 0 else 2,()):=by
 show Zf4 k _ = _
 simp only [Zf4]
 unfold Y5
 by_cases h1:(8:Int) < Int.ofNat c.length
 ·simp only [Z8] at h1
  rw [Zb (by simp only [Z8]; omega),QG (by omega)]; rfl
 ·simp only [Z8] at h1
  rw [Ze (by simp only [Z8]; omega)]
  by_cases h2:sh < 0
  ·rw [Zb h2,QG (by omega)]; rfl
  ·rw [Ze h2]
   by_cases h3:15 < sh
   ·rw [Zb h3,QG (by omega)]; rfl
   ·rw [Ze h3,ZwF k c (by omega) (by omega),QS (by omega)]
    simp only [Qr]
    cases c.all Zal <;> rfl
def ZSV (c a:List Int):Int:=Zgz ((c.zip a.reverse).map fun x => x.1 * x.2)
def Zbb (c:List Int) (sh:Int) (a:List Int):Int:=(ZSV c a).fdiv (2 ^ sh.toNat)
theorem ZFt {x y:Int} (hx : -2048 ≤ x ∧ x ≤ 2047) (hy : -2147483648 < y ∧ y < 2147483648) : -4398046511104 ≤ x * y ∧ x * y ≤ 4398046511104:=by
 have h1:(x * y).natAbs ≤ 2048 * 2147483648:=by
  rw [Int.natAbs_mul]
  exact Nat.mul_le_mul (by omega) (by omega)
 omega
theorem ZBm {l:List Int} {b:Int} (h:∀ x ∈ l,-b ≤ x ∧ x ≤ b) : -((l.length:Int) * b) ≤ Zgz l ∧ Zgz l ≤ (l.length:Int) * b:=by
 induction l with
 | nil => simp [Zgz]
 | cons x l ih =>
  have h1:=h x (List.mem_cons_self ..)
  have h2:=ih fun y hy => h y (List.mem_cons_of_mem _ hy)
  simp only [Zgz,List.length_cons]
  push_cast
  rw [Int.add_mul]
  omega
def Zwn (x:Int):Prop := -2048 ≤ x ∧ x ≤ 2047
def ZV (x:Int):Prop := -2147483648 < x ∧ x < 2147483648
theorem Zke {c a:List Int} (hc:∀ x ∈ c,Zwn x) (ha:∀ x ∈ a,ZV x):∀ x ∈ (c.zip a.reverse).map fun x => x.1 * x.2,-4398046511104 ≤ x ∧ x ≤ 4398046511104:=by
 intro x hx
 obtain ⟨⟨u,v⟩,h,rfl⟩:=List.mem_map.1 hx
 exact ZFt (hc _ (List.of_mem_zip h).1) (ha _ (by simpa using (List.of_mem_zip h).2))
theorem Zpx {x:Int} {b:Int} (p:Nat) (h : -b ≤ x ∧ x ≤ b) (hb:0 ≤ b) : -b ≤ x.fdiv (2 ^ p) ∧ x.fdiv (2 ^ p) ≤ b:=by
 have hp:(0:Int) < 2 ^ p:=Int.pow_pos (by omega)
 rw [Int.fdiv_eq_ediv_of_nonneg _ (by omega)]
 constructor
 ·rw [Int.le_ediv_iff_mul_le hp]
  have:b * 1 ≤ b * 2 ^ p:=Int.mul_le_mul_of_nonneg_left (by omega) hb
  rw [Int.neg_mul]
  omega
 ·by_cases hx:0 ≤ x
  ·exact Int.le_trans (Int.ediv_le_self _ hx) h.2
  ·have:x / 2 ^ p < 0:=Int.ediv_neg_of_neg_of_pos (by omega) hp
   omega
theorem ZeQ {c a:List Int} {sh:Int} (hc:∀ x ∈ c,Zwn x) (ha:∀ x ∈ a,ZV x) (hl:c.length ≤ 8) : -35184372088832 ≤ Zbb c sh a ∧ Zbb c sh a ≤ 35184372088832:=by
 unfold Zbb ZSV
 have h1:=ZBm (Zke hc ha)
 have h2:((c.zip a.reverse).map fun x => x.1 * x.2).length ≤ 8:=by simp; omega
 exact Zpx _ (by omega) (by omega)
theorem ZrL (k:Nat) {c a:List Int} {sh:Int} (hk:c.length < k) (hl:c.length ≤ 8) (hla:c.length ≤ a.length) (hn:a.length ≤ 4294967296) (hsh:0 ≤ sh ∧ sh ≤ 15) (hc:∀ x ∈ c,Zwn x) (ha:∀ x ∈ a,ZV x) :
  ZkP k ((c,sh,()),a,()) = some (Zbb c sh a,()):=by
 show Zf5 k (Znc k) _ = _
 simp only [Zf5]
 have hzl:(c.zip a.reverse).length = c.length:=by simp; omega
 have hterm:=Zke hc ha
 have:=ZI (A:=Int) (step:=fun L1 => Zb6 k L1) (fun i acc => (Int.ofNat c.length,Int.ofNat i,c,acc,a,c,sh)) (c.zip a.reverse)
  (fun l acc => some ((acc + Zgz (l.map fun x => x.1 * x.2)).fdiv (2 ^ sh.toNat),())) (fun i acc => -((i:Int) * 4398046511104) ≤ acc ∧ acc ≤ (i:Int) * 4398046511104)
  (fun L acc _ => by
   simp only [Zb6]
   rw [hzl,Ze (We _),Zb hsh.1,Nat.min_eq_left (by omega)]
   simp [Zgz])
  (fun L i hi acc hacc hL => by
   have hi2:i < c.length:=by omega
   have hi3:i < a.reverse.length:=by simp; omega
   simp only [Zb6]
   have e1:IntKind.i64.wrap (IntKind.i64.wrap (Int.ofNat a.length - 1) - Int.ofNat i) = ((a.length - 1 - i:Nat):Int):=by
    simp only [Z8]
    rw [ZT (n:=(a.length:Int) - 1) (by omega),ZT (by omega)]; omega
   rw [Zb (ltR hi2),Zb (Y2 hi2),e1,Zb (by simp only [Z8]; omega),ZO hi2,QZ]
   have e2:a.getD (a.length - 1 - i) 0 = a.reverse[i]:=by
    rw [List.getElem_reverse,Wt (by omega)]
   rw [e2]
   have hz:(c.zip a.reverse)[i] = (c[i],a.reverse[i]):=by simp
   have ht:=hterm (c[i] * a.reverse[i]) (List.mem_map.2 ⟨(c[i],a.reverse[i]),by rw [← hz]; exact List.getElem_mem _,rfl⟩)
   have hi8:(i:Int) ≤ 8:=by omega
   rw [ZT (n:=c[i] * a.reverse[i]) (by omega),ZT (n:=acc + c[i] * a.reverse[i]) (by omega),QL hi2 (by omega)]
   rw [hL _ ⟨by push_cast; omega,by push_cast; omega⟩,hz]
   simp only [List.map_cons,Zgz]
   rw [Int.add_assoc]) k 0 0 ⟨by omega,by omega⟩ (by omega) (Nat.zero_le _)
 refine Eq.trans this ?_
 rw [List.drop_zero,Int.zero_add]
 rfl
def ZyS (c:List Int) (sh:Int) (s:List Int) (i:Nat):Int:=s.getD i 0 - Zbb c sh (s.take i)
def ZvI (c:List Int) (sh:Int) (s:List Int):Nat → Nat → List Int
 | 0,_ => []
 | d + 1,i => ZyS c sh s i :: ZvI c sh s d (i + 1)
def Zc5 (c:List Int) (sh:Int) (s:List Int):List Int:=ZvI c sh s (s.length - c.length) c.length
def Q4 (c:List Int) (sh:Int) (s:List Int):List Int × Int :=
 if Y5 c sh = false then ([],2) else if s.length < c.length then ([],1) else if s.any Qi then ([],12)
 else if (Zc5 c sh s).any Qi then ([],12) else (Zc5 c sh s,0)
theorem Zqi (c:List Int) (sh:Int) (s:List Int):∀ d i,(ZvI c sh s d i).length = d
 | 0,_ => rfl
 | d + 1,i => by simp [ZvI,Zqi c sh s d (i + 1)]
theorem Za7 {c:List Int} {sh:Int} (h:Y5 c sh = true):c.length ≤ 8 ∧ (0 ≤ sh ∧ sh ≤ 15) ∧ ∀ x ∈ c,Zwn x:=by
 unfold Y5 at h
 simp only [Bool.and_eq_true,decide_eq_true_eq] at h
 refine ⟨h.1.1,h.1.2,fun x hx => ?_⟩
 have:=List.all_eq_true.1 h.2 x hx
 unfold Zal at this
 rw [decide_eq_true_eq] at this
 exact this
theorem Yr {s:List Int} (h:s.any Qi = false):∀ x ∈ s,ZV x:=by
 intro x hx
 rw [List.any_eq_false] at h
 have:=h x hx
 unfold Qi at this
 simp only [decide_eq_true_eq] at this
 unfold ZV
 omega
theorem Zrz (k:Nat) (c:List Int) (sh:Int) (s:List Int) (hk:s.length + 10 < k) (hn:s.length ≤ 8192):ZkF k ((c,sh,()),s,()) = some (((Q4 c sh s).1,(Q4 c sh s).2,()),()):=by
 show ZfM k (ZmV k) _ = _
 simp only [ZfM]
 rw [ZrK k c sh (by omega)]
 simp only [Qr]
 unfold Q4
 cases hm:Y5 c sh with
 | false => simp only [Bool.false_eq_true,if_false,if_true]; rfl
 | true =>
  simp only [if_true,Bool.true_eq_false,if_false]
  rw [show ((0:Int) != (0:Int)) = false from rfl]
  simp only [cond_false,Z8]
  by_cases hl:s.length < c.length
  ·rw [Zb (by omega),if_pos hl]
  ·rw [Ze (by omega),if_neg hl,ZaR k s (by omega) (by omega)]
   simp only [Qr]
   cases hw:s.any Qi with
   | true => simp only [cond_true,if_true]
   | false =>
    simp only [cond_false,Bool.false_eq_true,if_false]
    obtain ⟨hc8,hsh,hcR⟩:=Za7 hm
    have hnar:=Yr hw
    suffices H:∀ (d i m:Nat) (acc:List Int),i + d = s.length → c.length ≤ i → d < m → acc.length + d ≤ 8192 →
      Zp (fun L1 => ZbX k L1) m ((i:Int),s,c,sh,acc) = some (if (ZvI c sh s d i).any Qi then (([],12,()),()) else ((acc ++ ZvI c sh s d i,0,()),())) by
     have:=H (s.length - c.length) c.length k [] (by omega) (by omega) (by omega) (by simp; omega)
     refine Eq.trans this ?_
     unfold Zc5
     cases (ZvI c sh s (s.length - c.length) c.length).any Qi <;> simp
    intro d
    induction d with
    | zero =>
     intro i m acc hi hci hm _
     obtain ⟨m,rfl⟩:=Zk hm
     rw [Zg]
     simp only [ZbX]
     rw [Ze (by simp only [Z8]; omega)]
     simp [ZvI]
    | succ d ih =>
     intro i m acc hi hci hm hacc
     obtain ⟨m,rfl⟩:=Zk (show 0 < m by omega)
     rw [Zg]
     simp only [ZbX]
     have hi2:i < s.length:=by omega
     rw [Zb (by simp only [Z8]; omega),Zb (by simp only [Z8]; omega),Zb (by simp only [Z8]; omega),QZ,List.drop_zero]
     have htl:(s.take i).length = i:=by simp; omega
     have htn:∀ x ∈ s.take i,ZV x:=fun x hx => hnar x (List.mem_of_mem_take hx)
     rw [ZrL k (by omega) hc8 (by omega) (by omega) hsh hcR htn]
     simp only [Qr]
     have hpb:=ZeQ (sh:=sh) hcR htn hc8
     have hsi:s.getD i 0 = s[i]:=Wt hi2
     have hsn:=hnar s[i] (List.getElem_mem hi2)
     unfold ZV at hsn
     have e1:IntKind.i64.wrap (s.getD i 0 - Zbb c sh (s.take i)) = ZyS c sh s i:=by unfold ZyS; rw [hsi]; exact ZT (by omega)
     rw [e1,ZkH]
     simp only [Qr,ZvI,List.any_cons]
     by_cases hwi:Qi (ZyS c sh s i) = true
     ·simp only [hwi,cond_true,Bool.true_or,if_true]
     ·have hwi:Qi (ZyS c sh s i) = false:=by simpa using hwi
      simp only [hwi,cond_false,Bool.false_or]
      rw [Zb (by simp; omega),show IntKind.i64.wrap ((i:Int) + 1) = ((i + 1:Nat):Int) from by rw [ZT (by omega)]; omega]
      rw [ih (i + 1) m _ (by omega) (by omega) (by omega) (by simp; omega)]
      simp
def KS (c:List Int) (sh:Int) (s:List Int):Int × Int:=(Zgz ((Q4 c sh s).1.map fun x => (x.natAbs:Int)),(Q4 c sh s).2)
theorem X5 (c:List Int) (sh:Int) (s:List Int):∀ x ∈ (Q4 c sh s).1,ZV x:=by
 unfold Q4
 split
 ·simp
 ·split
  ·simp
  ·split
   ·simp
   ·split
    ·simp
    ·rename_i h
     exact Yr (by simpa using h)
theorem ZBe (c:List Int) (sh:Int) (s:List Int):(Q4 c sh s).1.length ≤ s.length:=by
 unfold Q4
 split
 ·simp
 ·split
  ·simp
  ·split
   ·simp
   ·split
    ·simp
    ·simp [Zc5,Zqi]
theorem ZrC (k:Nat) (c:List Int) (sh:Int) (s:List Int) (hk:s.length + 10 < k) (hn:s.length ≤ 8192):ZkI k ((c,sh,()),s,()) = some (((KS c sh s).1,(KS c sh s).2,()),()):=by
 show ZfP k (ZmZ k) _ = _
 simp only [ZfP]
 rw [Zrz k c sh s hk hn]
 simp only [Qr]
 have hnar:=X5 c sh s
 have hlen:=ZBe c sh s
 unfold KS
 generalize (Q4 c sh s).2 = e
 generalize (Q4 c sh s).1 = l at hnar hlen
 have:=ZI (A:=Int) (step:=fun L1 => ZbZ k L1) (fun i acc => (Int.ofNat l.length,Int.ofNat i,l,acc,e)) l
  (fun l' acc => some ((acc + Zgz (l'.map fun x => (x.natAbs:Int)),e,()),())) (fun i acc => 0 ≤ acc ∧ acc ≤ (i:Int) * 2147483648)
  (fun L acc _ => by simp only [ZbZ]; rw [Ze (We _)]; simp [Zgz])
  (fun L i hi acc hacc hL => by
   have hx:=hnar l[i] (List.getElem_mem hi)
   unfold ZV at hx
   simp only [ZbZ]
   rw [Zb (ltR hi),Zb (Y2 hi),ZO hi,QL hi (by omega),ZT (n:=0 - l[i]) (by omega)]
   have e1:(if l[i] < 0 - l[i] then 0 - l[i] else l[i]) = (l[i].natAbs:Int):=by split <;> omega
   have hi8:(i:Int) ≤ 8192:=by omega
   rw [e1,ZT (n:=acc + (l[i].natAbs:Int)) (by omega),hL _ ⟨by omega,by push_cast; omega⟩]
   simp only [List.map_cons,Zgz]
   rw [Int.add_assoc]) k 0 0 ⟨by omega,by omega⟩ (by omega) (Nat.zero_le _)
 exact Eq.trans this (by rw [List.drop_zero,Int.zero_add])
def Yc (o:Nat):List Int:=match o with
 | 1 => [1]
 | 2 => [2,-1]
 | 3 => [3,-3,1]
 | 4 => [4,-6,4,-1]
 | _ => []
theorem Zkk (k:Nat) (o:Nat) (ho:o ≤ 4) (hk:20 < k):ZdH k ((o:Int),()) = some (((Yc o,0,()),0,()),()):=by
 obtain ⟨k,rfl⟩:∃ m,k = m + 20:=⟨k - 20,by omega⟩
 match o,ho with
 | 0,_ => rfl
 | 1,_ => rfl
 | 2,_ => rfl
 | 3,_ => rfl
 | 4,_ => rfl
def WT (o:Nat):List Int:=match o with
 | 2 => [32,-16]
 | 4 => [64,-96,64,-16]
 | 8 => [64,-96,64,-16,0,0,0,0]
 | _ => []
theorem ZEA (k:Nat) (o:Nat) (ho:o = 2 ∨ o = 4 ∨ o = 8) (hk:40 < k):Zoz k ((o:Int),()) = some ((WT o,4,()),()):=by
 obtain ⟨k,rfl⟩:∃ m,k = m + 40:=⟨k - 40,by omega⟩
 rcases ho with rfl | rfl | rfl
 ·rfl
 ·rfl
 ·rfl
abbrev Mdl:=List Int × Int × Bool
def Zl1 (s:List Int) (by_:Int) (j:Nat) (M:Mdl):Mdl :=
 if (KS (M.1.set j (M.1.getD j 0 + by_)) 4 s).2 = 0 ∧ (M.2.2 = false ∨ (KS (M.1.set j (M.1.getD j 0 + by_)) 4 s).1 < M.2.1)
 then (M.1.set j (M.1.getD j 0 + by_),(KS (M.1.set j (M.1.getD j 0 + by_)) 4 s).1,true) else M
def Zwf (s:List Int) (st:Int) (j:Nat) (M:Mdl):Mdl:=Zl1 s (-st) j (Zl1 s st j M)
def ZyT (s:List Int) (st:Int):Nat → Nat → Mdl → Mdl
 | 0,_,M => M
 | d + 1,j,M => ZyT s st d (j + 1) (Zwf s st j M)
def ZyU (s:List Int) (st:Int) (o:Nat) (M:Mdl):Mdl:=ZyT s st o 0 M
def ZOa (s:List Int) (o:Nat):Mdl:=ZyU s 1 o (ZyU s 2 o (ZyU s 4 o (ZyU s 8 o (WT o,(KS (WT o) 4 s).1,(KS (WT o) 4 s).2 == 0))))
def Zc9 (s:List Int) (o:Nat):List Int:=(ZOa s o).1
structure MOk (o:Nat) (b:Int) (M:Mdl):Prop where
 len:M.1.length = o
 bd:∀ x ∈ M.1,-b ≤ x ∧ x ≤ b
theorem Zqt {s:List Int} {o:Nat} {b by_:Int} {j:Nat} {M:Mdl} (h:MOk o b M) (hj:j < o) (hby : -8 ≤ by_ ∧ by_ ≤ 8):MOk o (b + 8) (Zl1 s by_ j M):=by
 unfold Zl1
 split
 ·refine ⟨by simp [h.len],fun x hx => ?_⟩
  have hg:M.1.getD j 0 ∈ M.1:=by rw [Wt (by rw [h.len]; exact hj)]; exact List.getElem_mem _
  rcases List.mem_or_eq_of_mem_set hx with hx | rfl
  ·have:=h.bd x hx; omega
  ·have:=h.bd _ hg; omega
 ·exact ⟨h.len,fun x hx => by have:=h.bd x hx; omega⟩
theorem Zwg {s:List Int} {o:Nat} {b st:Int} {j:Nat} {M:Mdl} (h:MOk o b M) (hj:j < o) (hst : -8 ≤ st ∧ st ≤ 8):MOk o (b + 16) (Zwf s st j M):=by
 have:=Zqt (s:=s) (Zqt (s:=s) h hj hst) hj (by_ := -st) (by omega)
 rw [show b + 8 + 8 = b + 16 by omega] at this
 exact this
theorem ZCX {s:List Int} {o:Nat} {st:Int} (hst : -8 ≤ st ∧ st ≤ 8):∀ (d j:Nat) (b:Int) (M:Mdl),MOk o b M → j + d ≤ o → MOk o (b + 16 * (d:Int)) (ZyT s st d j M)
 | 0,j,b,M,h,_ => by simpa [ZyT] using h
 | d + 1,j,b,M,h,hj => by
  simp only [ZyT]
  have hb:=Zwg (s:=s) (j:=j) (st:=st) h (show j < o by omega) hst
  have:=ZCX (s:=s) hst d (j + 1) (b + 16) _ hb (show j + 1 + d ≤ o by omega)
  refine ⟨this.len,fun x hx => ?_⟩
  have:=this.bd x hx
  push_cast
  omega
theorem Zc7 {s:List Int} {o:Nat} {st b:Int} (hst : -8 ≤ st ∧ st ≤ 8) (ho:o ≤ 8) {M:Mdl} (h:MOk o b M):MOk o (b + 128) (ZyU s st o M):=by
 have:=ZCX (s:=s) hst o 0 b M h (by omega)
 refine ⟨this.len,fun x hx => ?_⟩
 have:=this.bd x hx
 omega
theorem ZDL (k:Nat) (s:List Int) (hk:s.length + 20 < k) (hn:s.length ≤ 8192) (L1:Int × Int × List Int × Bool × Int × List Int × Int × Int → Option (((List Int × Int × Unit) × Int × Unit) × Unit)) (L2:Int × Int × Int × List Int × Bool × Int × Int × List Int × Int × Int → Option (((List Int × Int × Unit) × Int × Unit) × Unit))
  {o j:Nat} {st:Int} {M:Mdl} {v13:Int} (hM:MOk o 1000 M) (hj:j < o) (ho:o ≤ 8) (hst:0 ≤ st ∧ st ≤ 8) :
  Zfe k L1 L2 (0,st,IntKind.i64.wrap (0 - st),(j:Int),s,M.2.2,M.2.1,(j:Int),(o:Int),st,(o:Int),M.1,4,v13) =
   L2 ((o:Int),((j + 1:Nat):Int),st,s,(Zwf s st j M).2.2,(Zwf s st j M).2.1,(o:Int),(Zwf s st j M).1,4,v13):=by
 obtain ⟨k,rfl⟩:∃ m,k = m + 3:=⟨k - 3,by omega⟩
 have e0:IntKind.i64.wrap (0 - st) = -st:=by rw [ZT (by omega)]; omega
 rw [e0]
 have one:∀ (i:Nat) (by_:Int) (L3:Int × Int × Int × Int × List Int × Bool × Int × Int × Int × Int × Int × List Int × Int × Int → Option (((List Int × Int × Unit) × Int × Unit) × Unit)) (M:Mdl),i < 2 → [st,-st].getD i 0 = by_ → -8 ≤ by_ ∧ by_ ≤ 8 → MOk o 1008 M →
   YW (k + 3) L1 L2 L3 ((i:Int),st,-st,(j:Int),s,M.2.2,M.2.1,(j:Int),(o:Int),st,(o:Int),M.1,4,v13) =
    L3 (((i + 1:Nat):Int),st,-st,(j:Int),s,(Zl1 s by_ j M).2.2,(Zl1 s by_ j M).2.1,(j:Int),(o:Int),st,(o:Int),(Zl1 s by_ j M).1,4,v13):=by
  intro i by_ L3 M hi hg hb hM
  simp only [YW]
  rw [Zb (by omega),Zb (by omega)]
  have hl:=hM.len
  rw [show ZkJ (k + 3) (M.1,()) = some (M.1,()) from by show KH _ = _; unfold KH; rw [Zb (by rw [hl]; omega)]]
  simp only [Qr,QZ,Z8]
  rw [Zb (by omega),Zb (by omega),Zb (by omega),Zb (by omega),hg]
  have hx:=hM.bd (M.1.getD j 0) (by rw [Wt (by omega)]; exact List.getElem_mem _)
  rw [ZT (n:=M.1.getD j 0 + by_) (by omega),ZrC (k + 3) _ 4 s (by omega) hn]
  simp only [Qr]
  rw [show IntKind.i64.wrap ((i:Int) + 1) = ((i + 1:Nat):Int) from by rw [ZT (by omega)]; omega]
  unfold Zl1
  rw [Zw]
  by_cases h1:(KS (M.1.set j (M.1.getD j 0 + by_)) 4 s).2 = 0
  ·rw [Zb h1]
   cases h2:M.2.2 with
   | false => rw [if_pos ⟨h1,.inl rfl⟩]; rfl
   | true =>
    simp only [Bool.not_true,cond_false]
    by_cases h3:(KS (M.1.set j (M.1.getD j 0 + by_)) 4 s).1 < M.2.1
    ·rw [Zb h3,if_pos ⟨h1,.inr h3⟩]
    ·rw [Ze h3,if_neg (by rintro ⟨_,h | h⟩; cases h; exact h3 h),h2]
  ·rw [Ze h1,if_neg (fun h => h1 h.1)]
 show Zp (fun L3 => YW (k + 3) L1 L2 L3) (k + 3) ((0:Nat),st,-st,(j:Int),s,M.2.2,M.2.1,(j:Int),(o:Int),st,(o:Int),M.1,4,v13) = _
 rw [Zg,one 0 st _ M (by omega) rfl (by omega) ⟨hM.len,fun x hx => by have:=hM.bd x hx; omega⟩]
 have h2:=Zqt (s:=s) hM hj (by_:=st) (by omega)
 rw [Zg,one 1 (-st) _ _ (by omega) rfl (by omega) h2,Zg]
 simp only [YW]
 rw [Ze (by omega),show IntKind.i64.wrap ((j:Int) + 1) = ((j + 1:Nat):Int) from by rw [ZT (by omega)]; omega]
 rfl
theorem ZGI (k:Nat) (s:List Int) (hk:s.length + 20 < k) (hn:s.length ≤ 8192) (L1:Int × Int × List Int × Bool × Int × List Int × Int × Int → Option (((List Int × Int × Unit) × Int × Unit) × Unit))
  {o:Nat} {st:Int} {v9:Int} (ho:o ≤ 8) (hst:0 ≤ st ∧ st ≤ 8):∀ (d j m:Nat) (b:Int) (M:Mdl),j + d = o → d < m → MOk o b M → b + 16 * (d:Int) ≤ 1000 →
  Zp (fun L2 => K9 k (Zfe k L1 L2) L1 L2) m ((o:Int),(j:Int),st,s,M.2.2,M.2.1,(o:Int),M.1,4,v9) =
   L1 (IntKind.i64.wrap (st.tdiv 2),(o:Int),s,(ZyT s st d j M).2.2,(ZyT s st d j M).2.1,(ZyT s st d j M).1,4,v9):=by
 intro d
 induction d with
 | zero =>
  intro j m b M hj hm hM hb
  obtain ⟨m,rfl⟩:=Zk hm
  rw [Zg]
  simp only [K9]
  rw [Ze (by omega)]
  rfl
 | succ d ih =>
  intro j m b M hj hm hM hb
  obtain ⟨m,rfl⟩:=Zk (show 0 < m by omega)
  rw [Zg]
  simp only [K9]
  rw [Zb (by omega)]
  rw [ZDL k s hk hn L1 _ (M:=M) ⟨hM.len,fun x hx => by have:=hM.bd x hx; omega⟩ (by omega) ho hst]
  rw [ih (j + 1) m (b + 16) _ (by omega) (by omega) (Zwg hM (by omega) (by omega)) (by push_cast at hb; omega)]
  rfl
theorem ZDP (k:Nat) (s:List Int) (o:Nat) (ho:o = 2 ∨ o = 4 ∨ o = 8) (hos:o ≤ s.length) (hs:∀ x ∈ s,ZV x) (hk:s.length + 60 < k) (hn:s.length ≤ 8192) :
  Zoc k (s,(o:Int),()) = some (((Zc9 s o,4,()),0,()),()):=by
 show Zff k (Zmr k) _ = _
 simp only [Zff]
 have hw:s.any Qi = false:=by
  rw [List.any_eq_false]
  intro x hx
  have:=hs x hx
  unfold ZV at this
  unfold Qi
  simp only [decide_eq_true_eq]
  omega
 rw [Ze (by omega),Ze (by omega),Ze (by simp only [Z8]; omega),ZaR k s (by omega) (by omega),hw]
 simp only [Qr,cond_false]
 rw [ZEA k o ho (by omega)]
 simp only [Qr]
 rw [ZrC k _ 4 s (by omega) hn]
 simp only [Qr]
 have hM0:MOk o 96 (WT o,(KS (WT o) 4 s).1,(KS (WT o) 4 s).2 == 0):=by
  rcases ho with rfl | rfl | rfl
  ·exact ⟨rfl,show ∀ x ∈ WT 2,-96 ≤ x ∧ x ≤ 96 by decide⟩
  ·exact ⟨rfl,show ∀ x ∈ WT 4,-96 ≤ x ∧ x ≤ 96 by decide⟩
  ·exact ⟨rfl,show ∀ x ∈ WT 8,-96 ≤ x ∧ x ≤ 96 by decide⟩
 have ho8:o ≤ 8:=by omega
 have h1:=Zc7 (s:=s) (st:=8) (by omega) ho8 hM0
 have h2:=Zc7 (s:=s) (st:=4) (by omega) ho8 h1
 have h3:=Zc7 (s:=s) (st:=2) (by omega) ho8 h2
 obtain ⟨k',rfl⟩:∃ m,k = m + 5:=⟨k - 5,by omega⟩
 have row:∀ (L1:Int × Int × List Int × Bool × Int × List Int × Int × Int → Option (((List Int × Int × Unit) × Int × Unit) × Unit)) (st:Int) (b:Int) (M:Mdl),0 < st → st ≤ 8 → MOk o b M → b + 128 ≤ 1000 →
   K8 (k' + 5) (Zh4 (k' + 5) L1) L1 (st,(o:Int),s,M.2.2,M.2.1,M.1,4,0) = L1 (IntKind.i64.wrap (st.tdiv 2),(o:Int),s,(ZyU s st o M).2.2,(ZyU s st o M).2.1,(ZyU s st o M).1,4,0):=by
  intro L1 st b M h0 h8 hM hb
  simp only [K8]
  rw [Zb h0]
  exact ZGI (k' + 5) s (by omega) hn L1 ho8 (by omega) o 0 (k' + 5) b M (by omega) (by omega) hM (by omega)
 show Zp (fun L1 => K8 (k' + 5) (Zh4 (k' + 5) L1) L1) (k' + 5) _ = _
 rw [Zg]
 refine (row _ 8 96 (WT o,(KS (WT o) 4 s).1,(KS (WT o) 4 s).2 == 0) (by omega) (by omega) hM0 (by omega)).trans ?_
 rw [show IntKind.i64.wrap ((8:Int).tdiv 2) = 4 from by decide,Zg]
 refine (row _ 4 _ _ (by omega) (by omega) h1 (by omega)).trans ?_
 rw [show IntKind.i64.wrap ((4:Int).tdiv 2) = 2 from by decide,Zg]
 refine (row _ 2 _ _ (by omega) (by omega) h2 (by omega)).trans ?_
 rw [show IntKind.i64.wrap ((2:Int).tdiv 2) = 1 from by decide,Zg]
 refine (row _ 1 _ _ (by omega) (by omega) h3 (by omega)).trans ?_
 rw [show IntKind.i64.wrap ((1:Int).tdiv 2) = 0 from by decide,Zg]
 simp only [K8]
 rw [Ze (by omega)]
 rfl
theorem Zqo (s:List Int) (o:Nat) (ho:o = 2 ∨ o = 4 ∨ o = 8):(Zc9 s o).length = o ∧ ∀ x ∈ Zc9 s o,-1000 ≤ x ∧ x ≤ 1000:=by
 have hM0:MOk o 96 (WT o,(KS (WT o) 4 s).1,(KS (WT o) 4 s).2 == 0):=by
  rcases ho with rfl | rfl | rfl
  ·exact ⟨rfl,show ∀ x ∈ WT 2,-96 ≤ x ∧ x ≤ 96 by decide⟩
  ·exact ⟨rfl,show ∀ x ∈ WT 4,-96 ≤ x ∧ x ≤ 96 by decide⟩
  ·exact ⟨rfl,show ∀ x ∈ WT 8,-96 ≤ x ∧ x ≤ 96 by decide⟩
 have ho8:o ≤ 8:=by omega
 have h:=Zc7 (s:=s) (st:=1) (by omega) ho8 (Zc7 (s:=s) (st:=2) (by omega) ho8 (Zc7 (s:=s) (st:=4) (by omega) ho8 (Zc7 (s:=s) (st:=8) (by omega) ho8 hM0)))
 exact ⟨h.len,fun x hx => by have:=h.bd x hx; omega⟩
end Go.Sh
