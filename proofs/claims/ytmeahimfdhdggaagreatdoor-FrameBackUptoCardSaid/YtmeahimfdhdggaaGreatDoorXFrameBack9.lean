/-
  What the row needs, part 9.
-/
import Derived.Test.YtmeahimfdhdggaaGreatDoorXFrameBack8
import Derived.IntWalk
set_option linter.unusedSimpArgs false
set_option linter.unusedVariables false
set_option linter.unusedSectionVars false
namespace Go.Sh
open Go
theorem QW (n:Nat):Int.ofNat n = (n:Int):=rfl
theorem Qq {α β:Type} (a:α) (f:α → Option β):(some a).bind f = f a:=rfl
theorem WS (n:Nat):((n:Int)).toNat = n:=rfl
theorem Wm {α:Type} {as0 bs0:List α}:(as0 ++ bs0).length = as0.length + bs0.length:=List.length_append
theorem WG {p:Prop} [inst:Decidable p] (h:¬p):decide p = false:=decide_eq_false h
theorem WH {p:Prop} [inst:Decidable p] (h:p):decide p = true:=decide_eq_true h
theorem Qp {n:Int} (h : -9223372036854775808 ≤ n ∧ n ≤ 9223372036854775807):IntKind.i64.wrap n = n:=IntWalk.i64_in n h
theorem wu8 {n:Int} (h:0 ≤ n ∧ n ≤ 255):IntKind.u8.wrap n = n:=IntWalk.u8_in n h
theorem Zj {V R:Type} (step:(V → Option R) → V → Option R) (n:Nat) (v:V):Zs step (n + 1) v = step (Zs step n) v:=rfl
theorem Zv {a k:Nat} (h:a < k):∃ m,k = m + 1:=⟨k - 1,by omega⟩
theorem toList_eq (s:ByteArray):s.toList = s.data.toList:=ByteArray.toList_eq s
theorem ZIN {a b:ByteArray} (h:a.data.toList = b.data.toList):a = b:=ByteArray.ext (Array.toList_inj.1 h)
theorem Zn5 {a b:ByteArray}:a.toList = b.toList ↔ a = b:=by
 rw [toList_eq,toList_eq]
 exact ⟨ZIN,fun h => by rw [h]⟩
theorem ZIM (a b:ByteArray):(a.toList == b.toList) = decide (a = b):=by
 rw [Bool.eq_iff_iff]; simp [Zn5]
theorem Zc {p:Prop} [Decidable p] {α:Type} {a b:α} (h:p):(bif decide p then a else b) = a:=by simp [h]
theorem Zk {p:Prop} [Decidable p] {α:Type} {a b:α} (h:¬ p):(bif decide p then a else b) = b:=by simp [h]
theorem ZP (a b:Int):(a == b) = decide (a = b):=rfl
theorem ZY (a b:Int):(a != b) = decide (¬ a = b):=by rw [bne,ZP]; simp
theorem YZ {α:Type} {l:List α} {i:Nat} {d:α} (h:i < l.length):l.getD i d = l[i]:=by
 simp [List.getD_eq_getElem?_getD,h]
end Go.Sh
namespace Go.Sh
open Go
theorem WA {V R α A:Type} {step:(V → Option R) → V → Option R} (at_:Nat → A → V) (xs:List α) (G:List α → A → Option R)
  (h0:∀ L a,step L (at_ xs.length a) = G [] a)
  (h1:∀ L i (hi:i < xs.length) a,(∀ a',L (at_ (i + 1) a') = G (xs.drop (i + 1)) a') → step L (at_ i a) = G (xs[i] :: xs.drop (i + 1)) a) :
  ∀ k i a,xs.length < k + i → i ≤ xs.length → Zs step k (at_ i a) = G (xs.drop i) a
 | 0,i,a,hk,hi => by omega
 | k + 1,i,a,hk,hi => by
  rw [Zj]
  by_cases he:i = xs.length
  ·subst he
   rw [h0,List.drop_length]
  ·have hi':i < xs.length:=by omega
   rw [h1 _ i hi' a fun a' => WA at_ xs G h0 h1 k (i + 1) a' (by omega) hi',List.drop_eq_getElem_cons hi']
theorem ZF {V R α A:Type} {step:(V → Option R) → V → Option R} (at_:Nat → A → V) (xs:List α) (G:List α → A → Option R) (I:Nat → A → Prop)
  (h0:∀ L a,I xs.length a → step L (at_ xs.length a) = G [] a)
  (h1:∀ L i (hi:i < xs.length) a,I i a → (∀ a',I (i + 1) a' → L (at_ (i + 1) a') = G (xs.drop (i + 1)) a') → step L (at_ i a) = G (xs[i] :: xs.drop (i + 1)) a) :
  ∀ k i a,I i a → xs.length < k + i → i ≤ xs.length → Zs step k (at_ i a) = G (xs.drop i) a
 | 0,i,a,_,hk,hi => by omega
 | k + 1,i,a,hI,hk,hi => by
  rw [Zj]
  by_cases he:i = xs.length
  ·subst he
   rw [h0 _ _ hI,List.drop_length]
  ·have hi':i < xs.length:=by omega
   rw [h1 _ i hi' a hI fun a' ha' => ZF at_ xs G I h0 h1 k (i + 1) a' ha' (by omega) hi',List.drop_eq_getElem_cons hi']
theorem Zi1 {V R α:Type} {step:(V → Option R) → V → Option R} (at_:Nat → V) (xs:List α) (p:α → Bool) (out last:Option R)
  (h0:∀ L,step L (at_ xs.length) = last)
  (h1:∀ L i (hi:i < xs.length),step L (at_ i) = bif p xs[i] then L (at_ (i + 1)) else out)
  (k:Nat) (hk:xs.length < k):Zs step k (at_ 0) = bif xs.all p then last else out:=by
 have:=WA (A:=Unit) (fun i _ => at_ i) xs (fun l _ => bif l.all p then last else out) (fun L _ => h0 L) (fun L i hi _ hL => by
  rw [h1 L i hi,hL ()]
  simp only [List.all_cons]
  cases p xs[i] <;> rfl) k 0 () (by omega) (Nat.zero_le _)
 simpa using this
theorem ZW {α:Type} {l:List α} {i:Nat} {d:α} (h:i < l.length):l.getD (Int.toNat (Int.ofNat i)) d = l[i]:=by
 simp [List.getD_eq_getElem?_getD,h]
theorem QZ {i n:Nat} (h:i < n) (hn:n ≤ 4294967296):IntKind.i64.wrap (Int.ofNat i + 1) = Int.ofNat (i + 1):=by
 rw [Qp (by simp only [QW]; omega)]; rfl
theorem inR {i n:Nat} (h:i < n):(0:Int) ≤ Int.ofNat i ∧ Int.ofNat i < Int.ofNat n:=by simp only [QW]; omega
theorem ltR {i n:Nat} (h:i < n):Int.ofNat i < Int.ofNat n:=by simp only [QW]; omega
theorem W2 (n:Nat):¬ Int.ofNat n < Int.ofNat n:=by simp only [QW]; omega
end Go.Sh
namespace Go.Sh
open Go Go.Proofs
def Zb (n:Nat):Nat → List Bool
 | 0 => []
 | w + 1 => n.testBit w :: Zb n w
theorem Zp (n:Nat):∀ w,(Zb n w).length = w
 | 0 => rfl
 | w + 1 => by simp [Zb,Zp n w]
def YB (f:Nat → Bool):Nat:=(f 0).toNat * 128 + (f 1).toNat * 64 + (f 2).toNat * 32 + (f 3).toNat * 16 + (f 4).toNat * 8 + (f 5).toNat * 4 + (f 6).toNat * 2 + (f 7).toNat
def QV (bs:List Bool) (i:Nat):Nat:=YB fun j => bs.getD (8 * i + j) false
def ZL (bs:List Bool):List Int:=(List.range ((bs.length + 7) / 8)).map fun i => ((QV bs i:Nat):Int)
theorem Qc (bs:List Bool):(ZL bs).length = (bs.length + 7) / 8:=by simp [ZL]
theorem XS {bs:List Bool} {i:Nat} (h:i < (ZL bs).length):(ZL bs)[i] = ((QV bs i:Nat):Int):=by simp [ZL]
theorem Zs5 (f:Nat → Bool):YB f < 256:=by
 unfold YB
 cases f 0 <;> cases f 1 <;> cases f 2 <;> cases f 3 <;> cases f 4 <;> cases f 5 <;> cases f 6 <;> cases f 7 <;> decide
abbrev wst (bs:List Bool):List Int × Int × Unit:=(ZL bs,(bs.length:Int),())
def orB (v:Int) (r:Nat) (x:Int):Int:=IntKind.u8.wrap (Int.ofNat (BitVec.ofInt 8 v ||| BitVec.ofInt 8 (IntKind.u8.wrap (IntKind.i64.wrap (x * (2:Int) ^ min (7 - r) 64)))).toNat)
theorem ZHN:∀ (r:Fin 8) (v:Fin 256) (c:Bool),v.val % 2 ^ (8 - r.val) = 0 → orB (v.val:Int) r.val (if c then 1 else 0) = ((v.val + c.toNat * 2 ^ (7 - r.val):Nat):Int):=by
 decide +kernel
theorem Zzd {f:Nat → Bool} {r:Nat} (hr:r < 8) (hf:∀ j,r ≤ j → f j = false):YB f % 2 ^ (8 - r) = 0:=by
 unfold YB
 match r,hr with
 | 0,_ => rw [hf 0 (by omega),hf 1 (by omega),hf 2 (by omega),hf 3 (by omega),hf 4 (by omega),hf 5 (by omega),hf 6 (by omega),hf 7 (by omega)]; rfl
 | 1,_ => rw [hf 1 (by omega),hf 2 (by omega),hf 3 (by omega),hf 4 (by omega),hf 5 (by omega),hf 6 (by omega),hf 7 (by omega)]; simp <;> omega
 | 2,_ => rw [hf 2 (by omega),hf 3 (by omega),hf 4 (by omega),hf 5 (by omega),hf 6 (by omega),hf 7 (by omega)]; simp <;> omega
 | 3,_ => rw [hf 3 (by omega),hf 4 (by omega),hf 5 (by omega),hf 6 (by omega),hf 7 (by omega)]; simp <;> omega
 | 4,_ => rw [hf 4 (by omega),hf 5 (by omega),hf 6 (by omega),hf 7 (by omega)]; simp <;> omega
 | 5,_ => rw [hf 5 (by omega),hf 6 (by omega),hf 7 (by omega)]; simp <;> omega
 | 6,_ => rw [hf 6 (by omega),hf 7 (by omega)]; simp <;> omega
 | 7,_ => rw [hf 7 (by omega)]; simp <;> omega
theorem Zze {f:Nat → Bool} {r:Nat} (hr:r < 8) (hf:f r = false) (c:Bool):YB (fun j => if j = r then c else f j) = YB f + c.toNat * 2 ^ (7 - r):=by
 unfold YB
 match r,hr with
 | 0,_ => simp [hf]; omega
 | 1,_ => simp [hf]; omega
 | 2,_ => simp [hf]; omega
 | 3,_ => simp [hf]; omega
 | 4,_ => simp [hf]; omega
 | 5,_ => simp [hf]; omega
 | 6,_ => simp [hf]; omega
 | 7,_ => simp [hf]
theorem Zlr {bs:List Bool} (c:Bool) {i:Nat} (h:8 * i + 8 ≤ bs.length):QV (bs ++ [c]) i = QV bs i:=by
 unfold QV YB
 have:∀ j,j < 8 → (bs ++ [c]).getD (8 * i + j) false = bs.getD (8 * i + j) false:=by
  intro j hj
  simp only [List.getD_eq_getElem?_getD]
  rw [List.getElem?_append_left (by omega)]
 simp only []
 rw [this 0 (by omega),this 1 (by omega),this 2 (by omega),this 3 (by omega),this 4 (by omega),this 5 (by omega),this 6 (by omega),this 7 (by omega)]
theorem Zlq {bs:List Bool} (c:Bool) {i r:Nat} (hr:r < 8) (h:bs.length = 8 * i + r):QV (bs ++ [c]) i = QV bs i + c.toNat * 2 ^ (7 - r):=by
 have h2:(bs.getD (8 * i + r) false) = false:=by rw [List.getD_eq_getElem?_getD,List.getElem?_eq_none (by omega)]; rfl
 unfold QV
 rw [← Zze (f:=fun j => bs.getD (8 * i + j) false) hr h2 c]
 congr 1
 funext j
 simp only [List.getD_eq_getElem?_getD]
 by_cases hj:j = r
 ·subst hj; simp [← h]
 ·rw [if_neg hj]
  by_cases hlt:8 * i + j < bs.length
  ·rw [List.getElem?_append_left hlt]
  ·rw [List.getElem?_eq_none (by simp; omega),List.getElem?_eq_none (by omega)]
theorem ZvY {bs:List Bool} {i r:Nat} (hr:r < 8) (h:bs.length = 8 * i + r):QV bs i % 2 ^ (8 - r) = 0:=by
 refine Zzd hr fun j hj => ?_
 rw [List.getD_eq_getElem?_getD,List.getElem?_eq_none (by omega)]; rfl
theorem Zp7 (n:Nat):((n:Int)).tdiv 8 = ((n / 8:Nat):Int):=by rw [Int.tdiv_eq_ediv_of_nonneg (by omega)]; omega
theorem ZII (n:Nat):((n:Int)).tmod 8 = ((n % 8:Nat):Int):=by rw [Int.tmod_eq_emod_of_nonneg (by omega)]; omega
theorem Zoi {bs:List Bool} (c:Bool) {q r:Nat} (hr:r < 8) (h0:r ≠ 0) (h:bs.length = 8 * q + r) :
  ZL (bs ++ [c]) = (ZL bs).set q ((QV bs q + c.toNat * 2 ^ (7 - r):Nat):Int):=by
 have hl1:(ZL bs).length = q + 1:=by rw [Qc]; omega
 have hl2:(ZL (bs ++ [c])).length = q + 1:=by rw [Qc,Wm,List.length_singleton]; omega
 apply List.ext_getElem
 ·rw [List.length_set,hl1,hl2]
 ·intro i h1 h2
  rw [XS,List.getElem_set]
  split
  ·rename_i e; subst e; rw [Zlq c hr h]
  ·rw [XS,Zlr c (by omega)]
theorem Zoh {bs:List Bool} (c:Bool) {q:Nat} (h:bs.length = 8 * q) :
  ZL (bs ++ [c]) = (ZL bs ++ [0]).set q ((c.toNat * 2 ^ 7:Nat):Int):=by
 have hl1:(ZL bs).length = q:=by rw [Qc]; omega
 have hl2:(ZL (bs ++ [c])).length = q + 1:=by rw [Qc,Wm,List.length_singleton]; omega
 have hz:QV bs q = 0:=by
  unfold QV YB
  have:∀ j,bs.getD (8 * q + j) false = false:=by intro j; rw [List.getD_eq_getElem?_getD,List.getElem?_eq_none (by omega)]; rfl
  simp only [this]
  rfl
 apply List.ext_getElem
 ·rw [List.length_set,Wm,hl1,hl2]; rfl
 ·intro i h1 h2
  rw [XS,List.getElem_set]
  split
  ·rename_i e; subst e
   rw [Zlq c (r:=0) (by omega) (by omega),hz]; simp
  ·rw [List.getElem_append_left (by omega),XS,Zlr c (by omega)]
theorem Zin (k:Nat) (bs:List Bool) (hb:bs.length < 4294967296) (x:Int) (c:Bool) (hx:x = if c then 1 else 0):ZfG k (wst bs,x,()) = some ((),wst (bs ++ [c]),()):=by
 show Zd1 k _ = _
 obtain ⟨q,r,hr,hq⟩:∃ q r,r < 8 ∧ bs.length = 8 * q + r:=⟨bs.length / 8,bs.length % 8,Nat.mod_lt _ (by omega),by omega⟩
 have e1:IntKind.i64.wrap (((bs.length:Nat):Int).tdiv 8) = ((q:Nat):Int):=by rw [Zp7,Qp (by omega)]; omega
 have e2:((bs.length:Nat):Int).tmod 8 = ((r:Nat):Int):=by rw [ZII]; omega
 have e3:IntKind.i64.wrap ((7:Int) - (r:Int)) = ((7 - r:Nat):Int):=by rw [Qp (by omega)]; omega
 have e4:IntKind.i64.wrap (((bs.length:Nat):Int) + 1) = (((bs ++ [c]).length:Nat):Int):=by rw [Qp (by omega),Wm]; simp
 have e5:∀ v:Nat,v < 256 → v % 2 ^ (8 - r) = 0 → IntKind.u8.wrap (Int.ofNat (BitVec.ofInt 8 (v:Int) ||| BitVec.ofInt 8 (IntKind.u8.wrap (IntKind.i64.wrap (x * (2:Int) ^ min ((7 - r:Nat):Int).toNat 64)))).toNat) = ((v + c.toNat * 2 ^ (7 - r):Nat):Int):=by
  intro v hv hm
  have:=ZHN ⟨r,hr⟩ ⟨v,hv⟩ c hm
  rw [← hx] at this
  simpa only [orB,WS] using this
 simp only [Zd1,e1,e2,e3,WS]
 by_cases h0:r = 0
 ·subst h0
  have hlen:(ZL bs).length = q:=by rw [Qc]; omega
  rw [show ((((0:Nat):Int)) == (0:Int)) = true from rfl]
  simp only [cond_true]
  have hl:(ZL bs ++ [(0:Int)]).length = q + 1:=by simp [hlen]
  rw [Zc (by rw [hlen]; omega),Zc (by rw [hl]; simp only [QW]; omega),Zc (by omega),Zc (by omega),Zc (by rw [hl]; simp only [QW]; omega),Zc (by omega)]
  have hg:(ZL bs ++ [(0:Int)]).getD q (OfNat.ofNat 0) = ((0:Nat):Int):=by rw [List.getD_eq_getElem?_getD,List.getElem?_append_right (by omega),hlen]; simp
  have h5:=e5 0 (by omega) (by simp)
  simp only [WS] at h5
  rw [hg,h5,e4]
  show _ = some ((),(ZL (bs ++ [c]),_,()),())
  rw [Zoh c (by omega)]
  simp
 ·rw [show ((((r:Nat):Int)) == (0:Int)) = false from by rw [ZP]; simp; omega]
  simp only [cond_false]
  have hlen:(ZL bs).length = q + 1:=by rw [Qc]; omega
  rw [Zc (by rw [hlen]; simp only [QW]; omega),Zc (by omega),Zc (by omega),Zc (by rw [hlen]; simp only [QW]; omega),Zc (by omega)]
  have hg:(ZL bs).getD q (OfNat.ofNat 0) = ((QV bs q:Nat):Int):=by rw [List.getD_eq_getElem?_getD,List.getElem?_eq_getElem (by omega),XS]; rfl
  have h5:=e5 _ (Zs5 _) (ZvY hr hq)
  simp only [WS] at h5
  rw [hg]
  rw [show YB (fun j => bs.getD (8 * q + j) false) = QV bs q from rfl] at h5
  rw [h5,e4]
  show _ = some ((),(ZL (bs ++ [c]),_,()),())
  rw [Zoi c hr h0 hq]
end Go.Sh
namespace Go.Sh
open Go Go.Proofs
theorem Zds (n j:Nat):((n:Nat):Int).fdiv ((2:Int) ^ j) = ((n / 2 ^ j:Nat):Int):=by
 have h0:(0:Int) ≤ (2:Int) ^ j:=Int.pow_nonneg (by omega)
 rw [Int.fdiv_eq_ediv_of_nonneg _ h0]
 have:((2:Int) ^ j) = ((2 ^ j:Nat):Int):=by rw [Int.natCast_pow]; rfl
 rw [this]; rfl
theorem ZMs (n j:Nat) (hj:j < 64):IntKind.i64.wrap (IntKind.u64.wrap (Int.ofNat (BitVec.ofInt 64 (((n:Nat):Int).fdiv ((2:Int) ^ min (j:Int).toNat 64)) &&& BitVec.ofInt 64 1).toNat)) = if n.testBit j then 1 else 0:=by
 rw [WS,Nat.min_eq_left (by omega),Zds,BitVec.ofInt_natCast,show BitVec.ofInt 64 1 = 1#64 from rfl,BitVec.toNat_and,BitVec.toNat_ofNat]
 rw [show (1#64).toNat = 1 from rfl,Nat.and_one_is_mod,Nat.mod_mod_of_dvd _ (by decide:2 ∣ 2 ^ 64)]
 have h2:n.testBit j = decide (n / 2 ^ j % 2 = 1):=Nat.testBit_eq_decide_div_mod_eq
 rw [h2]
 have:n / 2 ^ j % 2 < 2:=Nat.mod_lt _ (by omega)
 generalize n / 2 ^ j % 2 = m at this ⊢
 match m,this with
 | 0,_ => rfl
 | 1,_ => rfl
theorem ZuA (k:Nat):∀ (w:Nat) (bs:List Bool) (n:Nat),w < k → w ≤ 64 → bs.length + w < 4294967296 →
  Zcv k (wst bs,(n:Int),(w:Int),()) = some ((),wst (bs ++ Zb n w),()):=by
 intro w bs n hk hw hb
 show Zhi k (ZrQ k) _ = _
 simp only [Zhi]
 suffices H:∀ (w:Nat) (m:Nat) (bs:List Bool),w < m → w ≤ 64 → bs.length + w < 4294967296 →
   Zs (fun L1 => Zdi k L1) m (IntKind.i64.wrap ((w:Int) - 1),(n:Int),(bs.length:Int),ZL bs) = some ((),wst (bs ++ Zb n w),()) from H w k bs hk hw hb
 intro w
 induction w with
 | zero =>
  intro m bs hm _ _
  obtain ⟨m,rfl⟩:=Zv hm
  rw [Zj]
  rw [show IntKind.i64.wrap (((0:Nat):Int) - 1) = -1 from by rw [Qp (by omega)]; rfl]
  simp only [Zdi]
  rw [Zk (by omega)]
  simp [Zb]
 | succ w ih =>
  intro m bs hm hw hb
  obtain ⟨m,rfl⟩:=Zv (show 0 < m by omega)
  rw [Zj]
  have e1:IntKind.i64.wrap (((w + 1:Nat):Int) - 1) = (w:Int):=by rw [Qp (by omega)]; omega
  rw [e1]
  simp only [Zdi]
  rw [Zc (by omega)]
  simp only [Zc (show (0:Int) ≤ (w:Int) by omega)]
  rw [ZMs n w (by omega)]
  rw [show ((ZL bs,((bs.length:Nat):Int),()):List Int × Int × Unit) = wst bs from rfl,Zin k bs (by omega) _ (n.testBit w) rfl]
  simp only [Qq]
  rw [ih m (bs ++ [n.testBit w]) (by omega) (by omega) (by simp; omega)]
  simp [Zb]
theorem ZmN (k w:Nat) (h:w ≤ 32):ZmM k ((w:Int),()) = some (false,()):=by
 show Zhh k _ = _
 simp only [Zhh]
 rw [Zk (by omega),WG (by omega)]
theorem QL (k:Nat) (bs:List Bool) (n w:Nat) (hk:64 < k) (hw:w ≤ 32) (hn:n < 2 ^ w) (hb:bs.length + w < 4294967296) :
  QJ k (wst bs,(n:Int),(w:Int),()) = some (0,wst (bs ++ Zb n w),()):=by
 show Zg0 k _ = _
 have h32:n < 2 ^ 32:=Nat.lt_of_lt_of_le hn (Nat.pow_le_pow_right (by omega) hw)
 simp only [Zg0]
 rw [ZmN k w hw]
 simp only [Qq,cond_false]
 rw [Zk (by omega),Zc (by omega),WS,Nat.min_eq_left (by omega),Zds,Nat.div_eq_of_lt hn]
 rw [show ((((0:Nat):Int)) != (0:Int)) = false from rfl]
 simp only [cond_false]
 rw [show IntKind.u64.wrap (n:Int) = (n:Int) from by rw [IntKind.wrap_u64]; omega]
 rw [show ((ZL bs,((bs.length:Nat):Int),()):List Int × Int × Unit) = wst bs from rfl,ZuA k w bs n (by omega) (by omega) hb]
 rfl
def W9 (n:Int) (w:Nat):Bool:=if w = 0 then n = 0 else -(2 ^ (w - 1):Int) ≤ n ∧ n < 2 ^ (w - 1)
def Wl (n:Int) (w:Nat):List Bool:=Zb (n % 2 ^ w).toNat w
theorem Zlm (n v:Nat):∀ w,w ≤ v → Zb (n % 2 ^ v) w = Zb n w
 | 0,_ => rfl
 | w + 1,h => by
  simp only [Zb]
  rw [Zlm n v w (by omega),Nat.testBit_mod_two_pow]
  simp [show w < v by omega]
theorem KU (n:Int) (w:Nat):(Wl n w).length = w:=Zp _ _
theorem ZjG (n:Int) (w v:Nat) (h:w ≤ v):(n % 2 ^ v).toNat % 2 ^ w = (n % 2 ^ w).toNat:=by
 have hv:(0:Int) < 2 ^ v:=Int.pow_pos (by omega)
 have hw:(0:Int) < 2 ^ w:=Int.pow_pos (by omega)
 have h1:0 ≤ n % 2 ^ v:=Int.emod_nonneg _ (by omega)
 have h2:0 ≤ n % 2 ^ w:=Int.emod_nonneg _ (by omega)
 have hd:((2:Int) ^ w) ∣ 2 ^ v:=⟨2 ^ (v - w),by rw [← Int.pow_add]; congr 1; omega⟩
 apply Int.ofNat.inj
 show (((n % 2 ^ v).toNat % 2 ^ w:Nat):Int) = ((n % 2 ^ w).toNat:Int)
 rw [Int.natCast_emod,Int.toNat_of_nonneg h1,Int.toNat_of_nonneg h2,Int.natCast_pow]
 exact Int.emod_emod_of_dvd n hd
theorem Zqo (n:Int) (w v:Nat) (h:w ≤ v):Zb (n % 2 ^ v).toNat w = Wl n w:=by
 unfold Wl
 rw [← ZjG n w v h,Zlm _ _ _ (Nat.le_refl w)]
theorem ZuP {n:Int} {w:Nat} (hw:0 < w) (h:W9 n w = true):n.fdiv (2 ^ (w - 1)) = 0 ∨ n.fdiv (2 ^ (w - 1)) = -1:=by
 unfold W9 at h
 rw [if_neg (by omega)] at h
 obtain ⟨h1,h2⟩:=of_decide_eq_true h
 have hp:(0:Int) < 2 ^ (w - 1):=Int.pow_pos (by omega)
 rw [Int.fdiv_eq_ediv_of_nonneg _ (by omega)]
 rcases Int.lt_or_le n 0 with hn | hn
 ·right
  rw [Int.ediv_eq_iff_of_pos hp]
  constructor <;> omega
 ·left
  exact Int.ediv_eq_zero_of_lt hn h2
theorem ZoI (k:Nat) (bs:List Bool) (n:Int) (w:Nat) (hk:64 < k) (hw:w ≤ 32) (hn:W9 n w = true) (hb:bs.length + w < 4294967296) :
  Ziq k (wst bs,n,(w:Int),()) = some (0,wst (bs ++ Wl n w),()):=by
 show Zeb k _ = _
 have hput:Zcv k ((ZL bs,((bs.length:Nat):Int),()),IntKind.u64.wrap n,(w:Int),()) = some ((),wst (bs ++ Wl n w),()):=by
  rw [show IntKind.u64.wrap n = (((n % 2 ^ 64).toNat:Nat):Int) from by
   rw [IntKind.wrap_u64]
   have:0 ≤ n % 2 ^ 64:=Int.emod_nonneg _ (by decide)
   rw [Int.toNat_of_nonneg this]; rfl]
  rw [show ((ZL bs,((bs.length:Nat):Int),()):List Int × Int × Unit) = wst bs from rfl,ZuA k w bs _ (by omega) (by omega) hb,Zqo n w 64 (by omega)]
 simp only [Zeb]
 rw [ZmN k w hw]
 simp only [Qq,cond_false,hput]
 by_cases h0:w = 0
 ·subst h0
  unfold W9 at hn
  simp at hn
  subst hn
  rw [show ((((0:Nat):Int)) == (0:Int)) = true from rfl]
  simp only [cond_true]
  rw [show (((0:Int)) != (0:Int)) = false from rfl]
  simp only [cond_false]
  rw [Zk (by omega)]
 ·rw [show ((((w:Nat):Int)) == (0:Int)) = false from by rw [ZP]; simp; omega]
  simp only [cond_false]
  have e1:IntKind.i64.wrap ((w:Int) - 1) = ((w - 1:Nat):Int):=by rw [Qp (by omega)]; omega
  rw [e1]
  simp only [WS,Nat.min_eq_left (show w - 1 ≤ 64 by omega)]
  rw [Zc (by omega),Zc (by omega)]
  rcases ZuP (by omega) hn with h | h
  ·rw [h]
   rw [show (((0:Int)) != (0:Int)) = false from rfl]
   rfl
  ·rw [h]
   rw [show (((-1:Int)) != (0:Int)) = true from rfl]
   simp only [cond_true]
   rw [Zc (by omega),show (((-1:Int)) != (-1:Int)) = false from rfl]
   rfl
theorem ZuD (k:Nat) (bs:List Bool) (n:Nat) (hk:n < k) (hn:n ≤ 65536) (hb:bs.length + n + 1 < 4294967296) :
  ZjA k (wst bs,(n:Int),()) = some (0,wst (bs ++ (List.replicate n false ++ [true])),()):=by
 show Zho k (ZrZ k) _ = _
 simp only [Zho]
 rw [Zk (by omega),Zk (by omega)]
 suffices H:∀ (r i m:Nat) (bs:List Bool),n = i + r → r < m → bs.length + r + 1 < 4294967296 →
   Zs (fun L1 => Zdl k L1) m ((n:Int),(i:Int),(bs.length:Int),ZL bs) = some (0,wst (bs ++ (List.replicate r false ++ [true])),()) from H n 0 k bs (by omega) hk hb
 intro r
 induction r with
 | zero =>
  intro i m bs he hm hb
  obtain ⟨m,rfl⟩:=Zv hm
  rw [Zj]
  simp only [Zdl]
  rw [Zk (by omega),show ((ZL bs,((bs.length:Nat):Int),()):List Int × Int × Unit) = wst bs from rfl,Zin k bs (by omega) 1 true rfl]
  simp
 | succ r ih =>
  intro i m bs he hm hb
  obtain ⟨m,rfl⟩:=Zv (show 0 < m by omega)
  rw [Zj]
  simp only [Zdl]
  rw [Zc (by omega),show ((ZL bs,((bs.length:Nat):Int),()):List Int × Int × Unit) = wst bs from rfl,Zin k bs (by omega) 0 false rfl]
  simp only [Qq]
  rw [show IntKind.i64.wrap ((i:Int) + 1) = ((i + 1:Nat):Int) from by rw [Qp (by omega)]; omega]
  rw [ih (i + 1) m (bs ++ [false]) (by omega) (by omega) (by simp; omega)]
  simp [List.replicate_succ]
def Ky (n:Nat):Nat:=(8 - n % 8) % 8
theorem ZvZ (bs:List Bool) (m i:Nat):QV (bs ++ List.replicate m false) i = QV bs i:=by
 unfold QV
 congr 1
 funext j
 simp only [List.getD_eq_getElem?_getD]
 by_cases h:8 * i + j < bs.length
 ·rw [List.getElem?_append_left h]
 ·rw [List.getElem?_eq_none (by omega:bs.length ≤ 8 * i + j),List.getElem?_append_right (by omega),List.getElem?_replicate]
  split <;> rfl
theorem ZEL (bs:List Bool):ZL (bs ++ List.replicate (Ky bs.length) false) = ZL bs:=by
 unfold ZL
 rw [show ((bs ++ List.replicate (Ky bs.length) false).length + 7) / 8 = (bs.length + 7) / 8 from by simp [Ky]; omega]
 apply List.map_congr_left
 intro i _
 rw [ZvZ]
theorem ZMr (n:Nat) (h:n < 4294967296):IntKind.i64.wrap (Int.ofNat (BitVec.ofInt 64 (IntKind.i64.wrap ((0:Int) - (n:Int))) &&& BitVec.ofInt 64 7).toNat) = ((Ky n:Nat):Int):=by
 rw [Qp (n:=(0:Int) - (n:Int)) (by omega)]
 have e:BitVec.ofInt 64 ((0:Int) - (n:Int)) = BitVec.ofNat 64 (18446744073709551616 - n):=by
  apply BitVec.eq_of_toNat_eq
  rw [BitVec.toNat_ofInt,BitVec.toNat_ofNat]
  omega
 rw [e,show BitVec.ofInt 64 7 = 7#64 from rfl,BitVec.toNat_and,BitVec.toNat_ofNat,show (7#64).toNat = 2 ^ 3 - 1 from rfl,Nat.and_two_pow_sub_one_eq_mod]
 have:(18446744073709551616 - n) % 2 ^ 64 % 2 ^ 3 = Ky n:=by unfold Ky; omega
 rw [this,Qp (by unfold Ky; simp only [QW]; omega)]
 rfl
theorem ZDA (k:Nat) (bs:List Bool) (hb:bs.length < 4294967000):Zum k (wst bs,()) = some (((Ky bs.length:Nat):Int),wst (bs ++ List.replicate (Ky bs.length) false),()):=by
 show Zg6 k _ = _
 simp only [Zg6]
 rw [ZMr _ (by omega)]
 have h8:Ky bs.length < 8:=by unfold Ky; omega
 rw [show IntKind.i64.wrap (((bs.length:Nat):Int) + ((Ky bs.length:Nat):Int)) = (((bs ++ List.replicate (Ky bs.length) false).length:Nat):Int) from by rw [Qp (by omega)]; simp]
 show _ = some (_,(ZL (bs ++ List.replicate (Ky bs.length) false),_,()),())
 rw [ZEL]
theorem ZmD (k:Nat) (bs:List Bool) (hb:bs.length < 4294967296):ZmC k (wst bs,()) = some (ZL bs,wst bs,()):=by
 show Zg3 k _ = _
 simp only [Zg3]
 have:(ZL bs).length < 2147483648:=by rw [Qc]; omega
 rw [show Zpm k (ZL bs,()) = some (ZL bs,()) from by show Kt _ = _; unfold Kt; rw [Zc this]]
 rfl
theorem ZDt (k:Nat):Zmy k () = some (wst [],()):=rfl
end Go.Sh
namespace Go.Sh
open Go Go.Proofs
theorem ZnZ {n:Nat} (h:n < 18446744073709551616):IntKind.u64.wrap (n:Int) = (n:Int):=by rw [IntKind.wrap_u64]; omega
theorem Zs4 {a:Nat} (ha:a < 18446744073709551616):(BitVec.ofInt 64 (a:Int)).toNat = a:=by rw [BitVec.ofInt_natCast,BitVec.toNat_ofNat,Nat.mod_eq_of_lt ha]
theorem Zy5 {a b:Nat} (ha:a < 18446744073709551616) (hb:b < 18446744073709551616):Int.ofNat (BitVec.ofInt 64 (a:Int) &&& BitVec.ofInt 64 (b:Int)).toNat = ((a &&& b:Nat):Int):=by
 rw [BitVec.toNat_and,Zs4 ha,Zs4 hb]; rfl
theorem orN {a b:Nat} (ha:a < 18446744073709551616) (hb:b < 18446744073709551616):Int.ofNat (BitVec.ofInt 64 (a:Int) ||| BitVec.ofInt 64 (b:Int)).toNat = ((a ||| b:Nat):Int):=by
 rw [BitVec.toNat_or,Zs4 ha,Zs4 hb]; rfl
theorem ZMm {a b:Nat} (ha:a < 18446744073709551616) (hb:b < 18446744073709551616):Int.ofNat (BitVec.ofInt 64 (a:Int) ^^^ BitVec.ofInt 64 (b:Int)).toNat = ((a ^^^ b:Nat):Int):=by
 rw [BitVec.toNat_xor,Zs4 ha,Zs4 hb]; rfl
theorem Wi (j:Nat):((2:Int) ^ j) = ((2 ^ j:Nat):Int):=by rw [Int.natCast_pow]; rfl
def Zlz (s p r:Nat):Nat:=(2 * r) % 2 ^ s ^^^ (r / 2 ^ (s - 1) % 2) * p
def Zgu (s p:Nat):Nat → Nat → Nat
 | 0,r => r
 | n + 1,r => Zgu s p n (Zlz s p r)
def Zgv (s p r x:Nat):Nat:=Zgu s p 8 (r ^^^ x * 2 ^ (s - 8))
def ZFm (s p:Nat) (l:List Nat):Nat:=l.foldl (Zgv s p) 0
def ZM (l:List Int):Bool:=l.all fun x => decide (0 ≤ x) && decide (x < 256)
def Znh (l:List Int):List Nat:=l.map Int.toNat
theorem Zih {s p r:Nat} (hp:p < 2 ^ s):Zlz s p r < 2 ^ s:=by
 unfold Zlz
 refine Nat.xor_lt_two_pow (Nat.mod_lt _ (Nat.pow_pos (by omega))) ?_
 have:r / 2 ^ (s - 1) % 2 < 2:=Nat.mod_lt _ (by omega)
 generalize r / 2 ^ (s - 1) % 2 = b at this
 have h0:0 < 2 ^ s:=Nat.pow_pos (by omega)
 match b,this with
 | 0,_ => simpa using h0
 | 1,_ => simpa using hp
theorem ZlA {s p:Nat} (hp:p < 2 ^ s):∀ (n r:Nat),r < 2 ^ s → Zgu s p n r < 2 ^ s
 | 0,r,h => h
 | n + 1,r,h => ZlA hp n _ (Zih hp)
theorem ZlB {s p r x:Nat} (hs:8 ≤ s) (hp:p < 2 ^ s) (hr:r < 2 ^ s) (hx:x < 256):Zgv s p r x < 2 ^ s:=by
 refine ZlA hp _ _ (Nat.xor_lt_two_pow hr ?_)
 have h1:2 ^ s = 2 ^ 8 * 2 ^ (s - 8):=by rw [← Nat.pow_add]; congr 1; omega
 have:x * 2 ^ (s - 8) < 256 * 2 ^ (s - 8):=Nat.mul_lt_mul_of_pos_right hx (Nat.pow_pos (by omega))
 rw [h1]; exact this
theorem ZfC {s p:Nat} (hs:8 ≤ s) (hp:p < 2 ^ s):∀ (l:List Nat) (r:Nat),(∀ x ∈ l,x < 256) → r < 2 ^ s → l.foldl (Zgv s p) r < 2 ^ s
 | [],r,_,h => h
 | x :: l,r,hl,h => by
  simp only [List.foldl_cons]
  exact ZfC hs hp l _ (fun y hy => hl y (List.mem_cons_of_mem _ hy)) (ZlB hs hp h (hl x (List.mem_cons_self ..)))
theorem ZFk {s p r:Nat} (hs:8 ≤ s) (hs':s ≤ 16) (hp:p < 2 ^ s) (hr:r < 2 ^ s) :
  IntKind.u64.wrap (Int.ofNat (BitVec.ofInt 64 (IntKind.u64.wrap (Int.ofNat (BitVec.ofInt 64 (IntKind.u64.wrap ((r:Int) * (2:Int))) &&& BitVec.ofInt 64 (IntKind.u64.wrap (IntKind.u64.wrap ((1:Int) * (2:Int) ^ min (s:Int).toNat 64) - (1:Int)))).toNat)) ^^^
   BitVec.ofInt 64 (IntKind.u64.wrap (IntKind.u64.wrap (Int.ofNat (BitVec.ofInt 64 ((r:Int).fdiv ((2:Int) ^ min (IntKind.i64.wrap ((s:Int) - (1:Int))).toNat 64)) &&& BitVec.ofInt 64 (1:Int)).toNat) * (p:Int)))).toNat) = ((Zlz s p r:Nat):Int):=by
 have hpow:2 ^ s ≤ 2 ^ 16:=Nat.pow_le_pow_right (by omega) hs'
 have hpos:0 < 2 ^ s:=Nat.pow_pos (by omega)
 rw [show IntKind.i64.wrap ((s:Int) - 1) = ((s - 1:Nat):Int) from by rw [Qp (by omega)]; omega]
 rw [WS,WS,Nat.min_eq_left (by omega),Nat.min_eq_left (by omega),Zds,Int.one_mul,Wi]
 rw [ZnZ (n:=2 ^ s) (by omega),show ((2 ^ s:Nat):Int) - 1 = ((2 ^ s - 1:Nat):Int) from by omega,ZnZ (n:=2 ^ s - 1) (by omega)]
 rw [show (r:Int) * 2 = ((2 * r:Nat):Int) from by omega,ZnZ (n:=2 * r) (by omega)]
 rw [Zy5 (by omega) (by omega),Nat.and_two_pow_sub_one_eq_mod]
 have hm:2 * r % 2 ^ s < 2 ^ s:=Nat.mod_lt _ hpos
 rw [ZnZ (n:=2 * r % 2 ^ s) (by omega)]
 have hdl:r / 2 ^ (s - 1) ≤ r:=Nat.div_le_self _ _
 rw [show ((1:Int)) = ((1:Nat):Int) from rfl,Zy5 (by omega) (by omega),Nat.and_one_is_mod]
 have hb:r / 2 ^ (s - 1) % 2 < 2:=Nat.mod_lt _ (by omega)
 have hbp:r / 2 ^ (s - 1) % 2 * p < 2 ^ s:=by
  generalize r / 2 ^ (s - 1) % 2 = b at hb
  match b,hb with
  | 0,_ => simpa using hpos
  | 1,_ => simpa using hp
 rw [ZnZ (n:=r / 2 ^ (s - 1) % 2) (by omega),← Int.natCast_mul,ZnZ (n:=r / 2 ^ (s - 1) % 2 * p) (by omega),ZMm (by omega) (by omega)]
 have:=Zih (s:=s) (p:=p) (r:=r) hp
 unfold Zlz at this ⊢
 rw [ZnZ (by omega)]
theorem ZBD {s r x:Nat} (hs:8 ≤ s) (hs':s ≤ 16) (hr:r < 2 ^ s) (hx:x < 256) :
  IntKind.u64.wrap (Int.ofNat (BitVec.ofInt 64 (r:Int) ^^^ BitVec.ofInt 64 (IntKind.u64.wrap (IntKind.u64.wrap (x:Int) * (2:Int) ^ min (IntKind.i64.wrap ((s:Int) - (8:Int))).toNat 64))).toNat) = ((r ^^^ x * 2 ^ (s - 8):Nat):Int):=by
 have hpow:2 ^ s ≤ 2 ^ 16:=Nat.pow_le_pow_right (by omega) hs'
 have h1:2 ^ s = 2 ^ 8 * 2 ^ (s - 8):=by rw [← Nat.pow_add]; congr 1; omega
 have hxp:x * 2 ^ (s - 8) < 2 ^ s:=by
  rw [h1]; exact Nat.mul_lt_mul_of_pos_right hx (Nat.pow_pos (by omega))
 rw [show IntKind.i64.wrap ((s:Int) - 8) = ((s - 8:Nat):Int) from by rw [Qp (by omega)]; omega]
 rw [WS,Nat.min_eq_left (by omega),Wi,ZnZ (n:=x) (by omega),← Int.natCast_mul,ZnZ (n:=x * 2 ^ (s - 8)) (by omega),ZMm (by omega) (by omega)]
 have:r ^^^ x * 2 ^ (s - 8) < 2 ^ s:=Nat.xor_lt_two_pow hr hxp
 rw [ZnZ (by omega)]
theorem ZAF (k:Nat) {s p:Nat} (hs:8 ≤ s) (hs':s ≤ 16) (hp:p < 2 ^ s) (L1:Int × Int × List Int × Int × Int × Int → Option (Int × Unit)) (v4 v5:Int) (v6:List Int) :
  ∀ (n m i r:Nat),i + n = 8 → n < m → r < 2 ^ s →
  Zs (fun L2 => Zbz k L1 L2) m ((i:Int),(r:Int),(s:Int),(p:Int),v4,v5,v6) = L1 (v5,IntKind.i64.wrap (v4 + 1),v6,((Zgu s p n r:Nat):Int),(s:Int),(p:Int)):=by
 intro n
 induction n with
 | zero =>
  intro m i r hi hm hr
  obtain ⟨m,rfl⟩:=Zv hm
  rw [Zj]
  simp only [Zbz]
  rw [Zk (by omega)]
  rfl
 | succ n ih =>
  intro m i r hi hm hr
  obtain ⟨m,rfl⟩:=Zv (show 0 < m by omega)
  rw [Zj]
  simp only [Zbz]
  rw [Zc (by omega),Zc (by rw [Qp (by omega)]; omega),Zc (by omega),ZFk hs hs' hp hr]
  rw [show IntKind.i64.wrap ((i:Int) + 1) = ((i + 1:Nat):Int) from by rw [Qp (by omega)]; omega]
  rw [ih m (i + 1) _ (by omega) (by omega) (Zih hp)]
  rfl
theorem KY {l:List Int} (h:ZM l = true) {i:Nat} (hi:i < l.length):∃ x:Nat,x < 256 ∧ l[i] = (x:Int):=by
 have:=List.all_eq_true.1 h l[i] (List.getElem_mem hi)
 simp only [Bool.and_eq_true,decide_eq_true_eq] at this
 exact ⟨l[i].toNat,by omega,by omega⟩
theorem ZpJ {l:List Int} (h:ZM l = true):∀ x ∈ Znh l,x < 256:=by
 intro x hx
 obtain ⟨y,hy,rfl⟩:=List.mem_map.1 hx
 have:=List.all_eq_true.1 h y hy
 simp only [Bool.and_eq_true,decide_eq_true_eq] at this
 omega
theorem ZuB (k:Nat) (l:List Int) {s p:Nat} (hs:8 ≤ s) (hs':s ≤ 16) (hp:p < 2 ^ s) (hl:ZM l = true) (hk:l.length + 8 < k) (hk':l.length < 4294967296) :
  Zff k (l,(s:Int),(p:Int),()) = some (((ZFm s p (Znh l):Nat):Int),()):=by
 show Zhl k (ZrS k) _ = _
 simp only [Zhl]
 have h16:2 ^ s ≤ 2 ^ 16:=Nat.pow_le_pow_right (by omega) hs'
 have:=ZF (A:=Nat) (step:=fun L1 => Zdj k (ZrT k L1) L1) (fun i r => (Int.ofNat l.length,Int.ofNat i,l,(r:Int),(s:Int),(p:Int))) l
  (fun l' r => some (((l'.foldl (fun r x => Zgv s p r x.toNat) r:Nat):Int),())) (fun i r => r < 2 ^ s)
  (fun L r hr => by
   simp only [Zdj]
   rw [Zk (W2 _),Qp (by omega)]; rfl)
  (fun L i hi r hr hL => by
   obtain ⟨x,hx,hxe⟩:=KY hl hi
   simp only [Zdj]
   rw [Zc (ltR hi),Zc (inR hi),Zc (by rw [Qp (by omega)]; omega),ZW hi,hxe,ZBD hs hs' hr hx]
   have hx2:r ^^^ x * 2 ^ (s - 8) < 2 ^ s:=Nat.xor_lt_two_pow hr (by
    have h1:2 ^ s = 2 ^ 8 * 2 ^ (s - 8):=by rw [← Nat.pow_add]; congr 1; omega
    rw [h1]; exact Nat.mul_lt_mul_of_pos_right hx (Nat.pow_pos (by omega)))
   have hin:=ZAF k hs hs' hp L (Int.ofNat i) (Int.ofNat l.length) l 8 k 0 (r ^^^ x * 2 ^ (s - 8)) rfl (by omega) hx2
   refine Eq.trans hin ?_
   rw [QZ hi (by omega)]
   rw [show Zgu s p 8 (r ^^^ x * 2 ^ (s - 8)) = Zgv s p r x from rfl]
   rw [hL _ (ZlB hs hp hr hx)]
   rw [List.foldl_cons,WS]) k 0 0 (Nat.pow_pos (by omega)) (by omega) (Nat.zero_le _)
 refine Eq.trans this ?_
 rw [List.drop_zero]
 unfold ZFm Znh
 rw [List.foldl_map]
theorem Zzb (bs:List Bool) (i:Nat):QV bs i < 256:=Zs5 _
theorem Xk (bs:List Bool):ZM (ZL bs) = true:=by
 refine List.all_eq_true.2 fun x hx => ?_
 obtain ⟨i,_,rfl⟩:=List.mem_map.1 hx
 have h:=Zzb bs i
 generalize QV bs i = n at h
 rw [Bool.and_eq_true,decide_eq_true_eq,decide_eq_true_eq]
 omega
def Zb5 (l:List Int):Nat:=ZFm 8 7 (Znh l)
def Y4 (l:List Int):Nat:=ZFm 16 32773 (Znh l)
theorem Zqx {l:List Int} (h:ZM l = true):Zb5 l < 2 ^ 8:=ZfC (by omega) (by omega) _ _ (ZpJ h) (by omega)
theorem Ztc {l:List Int} (h:ZM l = true):Y4 l < 2 ^ 16:=ZfC (by omega) (by omega) _ _ (ZpJ h) (by omega)
theorem Zuj (k:Nat) (l:List Int) (hl:ZM l = true) (hk:l.length + 8 < k) (hk':l.length < 4294967296):Zpf k (l,()) = some (((Zb5 l:Nat):Int),()):=by
 show Zg2 k _ = _
 simp only [Zg2]
 have:=ZuB k l (s:=8) (p:=7) (by omega) (by omega) (by omega) hl hk hk'
 rw [show Zff k (l,8,7,()) = Zff k (l,((8:Nat):Int),((7:Nat):Int),()) from rfl,this]
 rfl
theorem Zun (k:Nat) (l:List Int) (hl:ZM l = true) (hk:l.length + 8 < k) (hk':l.length < 4294967296):Zpi k (l,()) = some (((Y4 l:Nat):Int),()):=by
 show Zg7 k _ = _
 simp only [Zg7]
 have:=ZuB k l (s:=16) (p:=32773) (by omega) (by omega) (by omega) hl hk hk'
 rw [show Zff k (l,16,32773,()) = Zff k (l,((16:Nat):Int),((32773:Nat):Int),()) from rfl,this]
 rfl
def XV (k:Nat):Nat:=if k = 1 then 7 else 5 * k + 1
def WF:Nat → Nat → List Nat
 | _,0 => []
 | n,i + 1 => WF (n / 64) i ++ [128 + n % 64]
def K8 (n:Nat):Nat:=if n < 2 ^ 7 then 1 else if n < 2 ^ 11 then 2 else if n < 2 ^ 16 then 3 else if n < 2 ^ 21 then 4 else if n < 2 ^ 26 then 5 else if n < 2 ^ 31 then 6 else 7
def Za0 (k m:Nat):Nat:=(65280 / 2 ^ k % 256) ||| m
def Z2 (n:Nat):List Nat:=if n < 128 then [n] else Za0 (K8 n) (n / 64 ^ (K8 n - 1)) :: WF n (K8 n - 1)
def Qr (l:List Nat):List Int:=l.map fun (n:Nat) => (n:Int)
theorem ZHO:∀ m:Fin 64,IntKind.u8.wrap (Int.ofNat (BitVec.ofInt 8 (128:Int) ||| BitVec.ofInt 8 (IntKind.u8.wrap (IntKind.i64.wrap (m.val:Int)))).toNat) = ((128 + m.val:Nat):Int):=by decide +kernel
theorem ZEK:∀ (k:Fin 8) (m:Fin 64),2 ≤ k.val → IntKind.u8.wrap (Int.ofNat (BitVec.ofInt 8 (IntKind.u8.wrap (Int.fdiv (65280:Int) ((2:Int) ^ min (k.val:Int).toNat 64))) ||| BitVec.ofInt 8 (IntKind.u8.wrap (m.val:Int))).toNat) = ((Za0 k.val m.val:Nat):Int):=by decide +kernel
theorem ZAB (k:Nat) {kk:Nat} (h2:2 ≤ kk) (h7:kk ≤ 7):∀ (i m n:Nat) (suf:List Int),i < m → i < kk → n < 18446744073709551616 → n / 64 ^ i < 64 →
  Zs (fun L2 => Zda k L2) m ((i:Int),(n:Int),(kk:Int),List.replicate (i + 1) 0 ++ suf) = some ((Qr (Za0 kk (n / 64 ^ i) :: WF n i) ++ suf,0,()),()):=by
 intro i
 induction i with
 | zero =>
  intro m n suf hm hi hn hq
  obtain ⟨m,rfl⟩:=Zv hm
  rw [Zj]
  simp only [Zda]
  rw [Zk (by omega),Zc (by omega),Zc (by simp only [QW,Wm,List.length_replicate]; omega),Zc (by simp)]
  rw [Nat.pow_zero,Nat.div_one] at hq ⊢
  have:=ZEK ⟨kk,by omega⟩ ⟨n,hq⟩ h2
  simp only at this
  rw [this]
  rfl
 | succ i ih =>
  intro m n suf hm hi hn hq
  obtain ⟨m,rfl⟩:=Zv (show 0 < m by omega)
  rw [Zj]
  simp only [Zda]
  have hl:(List.replicate (i + 1 + 1) (0:Int) ++ suf).length = i + 2 + suf.length:=by simp
  rw [Zc (by omega),Zc (by rw [hl]; simp only [QW]; omega),Zc (by rw [hl]; omega)]
  rw [show (63:Int) = ((63:Nat):Int) from rfl,Zy5 hn (by omega)]
  have h63:n &&& 63 = n % 64:=Nat.and_two_pow_sub_one_eq_mod n 6
  have:=ZHO ⟨n % 64,Nat.mod_lt _ (by omega)⟩
  simp only at this
  rw [h63,this]
  rw [show IntKind.i64.wrap (((i + 1:Nat):Int) - 1) = (i:Int) from by rw [Qp (by omega)]; omega]
  rw [show ((n:Int)).fdiv 64 = ((n / 64:Nat):Int) from by rw [Int.fdiv_eq_ediv_of_nonneg _ (by omega)]; rfl]
  have hset:(List.replicate (i + 1 + 1) (0:Int) ++ suf).set (((i + 1:Nat):Int)).toNat ((128 + n % 64:Nat):Int) = List.replicate (i + 1) 0 ++ (((128 + n % 64:Nat):Int) :: suf):=by
   rw [WS,List.replicate_succ' (n:=i + 1),List.append_assoc,List.set_append_right _ _ (by simp)]
   simp
  rw [hset,ih m (n / 64) _ (by omega) (by omega) (by omega) (by rw [Nat.div_div_eq_div_mul,Nat.mul_comm,← Nat.pow_succ]; exact hq)]
  rw [Nat.div_div_eq_div_mul,Nat.mul_comm,← Nat.pow_succ]
  simp only [Qr,WF,List.map_cons,List.map_append,List.map_nil,List.append_assoc,List.cons_append,List.nil_append]
theorem ZmP (k kk:Nat) (h:kk ≤ 8):Zpl k ((kk:Int),()) = some (((XV kk:Nat):Int),()):=by
 show Zhj k _ = _
 simp only [Zhj]
 unfold XV
 by_cases h1:kk = 1
 ·subst h1; rfl
 ·rw [show (((kk:Nat):Int) == (1:Int)) = false from by rw [ZP]; simp; omega,if_neg h1]
  simp only [cond_false]
  rw [Qp (n:=5 * (kk:Int)) (by omega),Qp (by omega)]
  congr 2
theorem ZnK:XV 2 = 11 ∧ XV 3 = 16 ∧ XV 4 = 21 ∧ XV 5 = 26 ∧ XV 6 = 31 ∧ XV 7 = 36:=by decide
theorem ZHy {kk n:Nat} (h2:2 ≤ kk) (h7:kk ≤ 7) (hlt:n < 2 ^ XV kk) (hge:2 < kk → 2 ^ XV (kk - 1) ≤ n) (h128:128 ≤ n):K8 n = kk:=by
 obtain ⟨r2,r3,r4,r5,r6,r7⟩:=ZnK
 obtain rfl | rfl | rfl | rfl | rfl | rfl:kk = 2 ∨ kk = 3 ∨ kk = 4 ∨ kk = 5 ∨ kk = 6 ∨ kk = 7:=by omega
 ·rw [r2] at hlt
  unfold K8
  rw [if_neg (by omega),if_pos hlt]
 ·have hge:=hge (by omega)
  rw [Nat.add_sub_cancel (n:=2) (m:=1),r2] at hge
  rw [r3] at hlt
  unfold K8
  rw [if_neg (by omega),if_neg (by omega),if_pos hlt]
 ·have hge:=hge (by omega)
  rw [Nat.add_sub_cancel (n:=3) (m:=1),r3] at hge
  rw [r4] at hlt
  unfold K8
  rw [if_neg (by omega),if_neg (by omega),if_neg (by omega),if_pos hlt]
 ·have hge:=hge (by omega)
  rw [Nat.add_sub_cancel (n:=4) (m:=1),r4] at hge
  rw [r5] at hlt
  unfold K8
  rw [if_neg (by omega),if_neg (by omega),if_neg (by omega),if_neg (by omega),if_pos hlt]
 ·have hge:=hge (by omega)
  rw [Nat.add_sub_cancel (n:=5) (m:=1),r5] at hge
  rw [r6] at hlt
  unfold K8
  rw [if_neg (by omega),if_neg (by omega),if_neg (by omega),if_neg (by omega),if_neg (by omega),if_pos hlt]
 ·have hge:=hge (by omega)
  rw [Nat.add_sub_cancel (n:=6) (m:=1),r6] at hge
  unfold K8
  rw [if_neg (by omega),if_neg (by omega),if_neg (by omega),if_neg (by omega),if_neg (by omega),if_neg (by omega)]
theorem Zce {kk n:Nat} (h2:2 ≤ kk) (h7:kk ≤ 7) (hlt:n < 2 ^ XV kk):n / 64 ^ (kk - 1) < 64:=by
 have h64:(64:Nat) = 2 ^ 6:=rfl
 rw [Nat.div_lt_iff_lt_mul (Nat.pow_pos (by omega))]
 refine Nat.lt_of_lt_of_le hlt ?_
 rw [h64,← Nat.pow_mul,← Nat.pow_add]
 refine Nat.pow_le_pow_right (by omega) ?_
 unfold XV
 rw [if_neg (by omega)]
 omega
theorem Zui (k:Nat) (hk:20 < k) {n:Nat} (hn:n < 2 ^ 36) (kk:Nat) (h2:2 ≤ kk) (h7:kk ≤ 7) (hlt:n < 2 ^ XV kk) (hge:2 < kk → 2 ^ XV (kk - 1) ≤ n) (h128:128 ≤ n) :
  ZmA k (IntKind.i64.wrap ((kk:Int) - 1),(n:Int),(kk:Int),List.replicate (kk:Int).toNat (0:Int)) = some ((Qr (Z2 n),0,()),()):=by
 have hlen:=ZHy h2 h7 hlt hge h128
 have hq:=Zce h2 h7 hlt
 have hn':n < 18446744073709551616:=Nat.lt_trans hn (by decide)
 have:=ZAB k h2 h7 (kk - 1) k n [] (by omega) (by omega) hn' hq
 rw [show IntKind.i64.wrap ((kk:Int) - 1) = ((kk - 1:Nat):Int) from by rw [Qp (by omega)]; omega,WS]
 rw [show kk - 1 + 1 = kk by omega,List.append_nil,List.append_nil] at this
 refine Eq.trans this ?_
 unfold Z2
 rw [if_neg (by omega),hlen]
theorem ZAC (k:Nat) (hk:20 < k) {n:Nat} (hn:n < 2 ^ 36):∀ (d kk m:Nat),d < m → kk + d = 7 → 2 ≤ kk → (2 < kk → 2 ^ XV (kk - 1) ≤ n) → 128 ≤ n →
  Zs (fun L1 => Zc9 k (ZmA k) L1) m ((n:Int),(kk:Int)) = some ((Qr (Z2 n),0,()),()):=by
 intro d
 induction d with
 | zero =>
  intro kk m hm hkk h2 hge h128
  obtain rfl:kk = 7:=by omega
  obtain ⟨m,rfl⟩:=Zv hm
  rw [Zj]
  simp only [Zc9]
  rw [ZmP k 7 (by omega)]
  simp only [Qq]
  rw [Zc (by omega),WS,Nat.min_eq_left (show XV 7 ≤ 64 by decide),Zds,Nat.div_eq_of_lt (show n < 2 ^ XV 7 from hn),Zk (by omega),Zc (by omega)]
  exact Zui k hk hn 7 (by omega) (by omega) hn hge h128
 | succ d ih =>
  intro kk m hm hkk h2 hge h128
  obtain ⟨m,rfl⟩:=Zv (show 0 < m by omega)
  rw [Zj]
  simp only [Zc9]
  rw [ZmP k kk (by omega)]
  simp only [Qq]
  have hroom:XV kk ≤ 64:=by unfold XV; split <;> omega
  rw [Zc (by omega),WS,Nat.min_eq_left hroom,Zds]
  by_cases hlt:n < 2 ^ XV kk
  ·rw [Nat.div_eq_of_lt hlt,Zk (by omega),Zc (by omega)]
   exact Zui k hk hn kk h2 (by omega) hlt hge h128
  ·have hpos:0 < n / 2 ^ XV kk:=Nat.div_pos (by omega) (Nat.pow_pos (by omega))
   rw [Zc (by omega),show IntKind.i64.wrap ((kk:Int) + 1) = ((kk + 1:Nat):Int) from by rw [Qp (by omega)]; omega]
   exact ih (kk + 1) m (by omega) (by omega) (by omega) (fun _ => by rw [Nat.add_sub_cancel]; omega) h128
theorem ZDy (k:Nat) (hk:20 < k) {n:Nat} (hn:n < 2 ^ 36):Zmz k ((n:Int),()) = some ((Qr (Z2 n),0,()),()):=by
 show Zg1 k (Zrw k) _ = _
 simp only [Zg1]
 rw [Zk (by omega),Zk (by omega)]
 by_cases h:n < 128
 ·rw [Zc (by omega),wu8 (by omega)]
  unfold Z2
  rw [if_pos h]
  rfl
 ·rw [Zk (by omega)]
  exact ZAC k hk hn 5 2 k (by omega) (by omega) (by omega) (fun h => by omega) (by omega)
end Go.Sh
namespace Go.Sh
open Go Go.Proofs
abbrev YC:=Ieee.double
theorem ZfD:YC.binade = 4503599627370496:=by decide
theorem Zqy:YC.infRung = 9218868437227405312:=by decide
theorem Zgy:YC.signWeight = 9223372036854775808:=by decide
theorem Zik:YC.leastPlace = -1074:=by decide
theorem ZBH:YC.fractionBits = 52:=rfl
theorem ZA6 (s:Bool) {R:Nat} (h0:4503599627370496 ≤ R) (h1:R < 9218868437227405312) :
  YC.read (YC.word s R) = .number s (4503599627370496 + R % 4503599627370496) (-1074 + (R / 4503599627370496 - 1:Nat)):=by
 have e1:YC.word s R / 9223372036854775808 % 2 = s.toNat:=by
  unfold Ieee.Format.word
  rw [Zgy]
  cases s <;> simp <;> omega
 have e2:YC.word s R % 9223372036854775808 = R:=by
  unfold Ieee.Format.word
  rw [Zgy]
  cases s <;> simp <;> omega
 unfold Ieee.Format.read
 simp only [Zgy,ZfD,Zqy,Zik,e1,e2]
 rw [if_neg (by omega),if_pos h1]
 cases s <;> rfl
theorem ZpT (s:Bool):YC.read (YC.word s 0) = .number s 0 (-1074):=by cases s <;> decide
theorem ZhL (s:Bool) {m K L:Nat} {e:Int} (hm:m ≠ 0) (hL:L ≤ 52) (hl:(m.log2:Int) = L - 1 - e)
  (hcut:Ieee.Toward.even.cut s (m <<< (e - ((L:Int) - 53)).toNat) ((L:Int) - 53 - e).toNat = K) (hK:4503599627370496 ≤ K) (hK2:K < 9007199254740992) :
  YC.read (YC.nearest s m e) = .number s K ((L:Int) - 53):=by
 unfold Ieee.Format.nearest
 rw [if_neg hm]
 simp only [ZBH,Zik,ZfD,Zqy]
 have hlast:max (e + (m.log2:Int) - ((52:Nat):Int)) (-1074) = (L:Int) - 53:=by omega
 rw [hlast,hcut]
 have h1:((L:Int) - 53 - -1074).toNat = L + 1021:=by omega
 rw [h1,Nat.min_eq_left (by omega)]
 rw [ZA6 s (by omega) (by omega)]
 have h2:((L + 1021) * 4503599627370496 + K) % 4503599627370496 = K - 4503599627370496:=by omega
 have h3:((L + 1021) * 4503599627370496 + K) / 4503599627370496 = L + 1022:=by omega
 rw [h2,h3,show 4503599627370496 + (K - 4503599627370496) = K by omega,show (-1074 + ((L + 1022 - 1:Nat):Int)) = (L:Int) - 53 by omega]
theorem ZlC (s:Bool) {n d q:Nat} (hd:d ≤ n.log2 + 2) (h:n = q * 2 ^ d):Ieee.Toward.even.cut s n d = q:=by
 unfold Ieee.Toward.cut
 simp only [Nat.min_eq_left hd,Nat.one_shiftLeft]
 have hp:0 < 2 ^ d:=Nat.pow_pos (by omega)
 rw [h,Nat.mul_div_cancel _ hp,Nat.mul_mod_left]
 simp
theorem Yt {N:Nat} (h:N ≠ 0) (t:Nat):(N * 2 ^ t).log2 = N.log2 + t:=by
 have hp:0 < 2 ^ t:=Nat.pow_pos (by omega)
 rw [Nat.log2_eq_iff (Nat.mul_ne_zero h (by omega))]
 obtain ⟨h1,h2⟩:=(Nat.log2_eq_iff h).1 rfl
 constructor
 ·rw [Nat.pow_add]; exact Nat.mul_le_mul_right _ h1
 ·rw [show N.log2 + t + 1 = (N.log2 + 1) + t by omega,Nat.pow_add]; exact Nat.mul_lt_mul_of_pos_right h2 hp
theorem ZhI {N:Nat} (h:N ≠ 0) (h':N < 9007199254740992):N.log2 ≤ 52:=by
 have:=(Nat.log2_lt h (k:=53)).2 h'
 omega
theorem Zm2 {N:Nat} (h:N ≠ 0) (h':N < 9007199254740992):4503599627370496 ≤ N * 2 ^ (52 - N.log2) ∧ N * 2 ^ (52 - N.log2) < 9007199254740992:=by
 have hL:=ZhI h h'
 obtain ⟨h1,h2⟩:=(Nat.log2_eq_iff h).1 rfl
 have hp:0 < 2 ^ (52 - N.log2):=Nat.pow_pos (by omega)
 have e1:2 ^ N.log2 * 2 ^ (52 - N.log2) = 4503599627370496:=by rw [← Nat.pow_add,show N.log2 + (52 - N.log2) = 52 by omega]
 have e2:2 ^ (N.log2 + 1) * 2 ^ (52 - N.log2) = 9007199254740992:=by rw [← Nat.pow_add,show N.log2 + 1 + (52 - N.log2) = 53 by omega]
 constructor
 ·rw [← e1]; exact Nat.mul_le_mul_right _ h1
 ·rw [← e2]; exact Nat.mul_lt_mul_of_pos_right h2 hp
theorem Zsm (s:Bool) {N t:Nat} (h:N ≠ 0) (h':N < 9007199254740992) :
  YC.read (YC.nearest s (N * 2 ^ t) (-1 - (t:Int))) = .number s (N * 2 ^ (52 - N.log2)) ((N.log2:Int) - 53):=by
 have hL:=ZhI h h'
 obtain ⟨f1,f2⟩:=Zm2 h h'
 have hp:0 < 2 ^ t:=Nat.pow_pos (by omega)
 refine ZhL s (Nat.mul_ne_zero h (by omega)) hL (by rw [Yt h]; omega) ?_ f1 f2
 by_cases hc:52 - N.log2 ≤ t
 ·have e1:((-1 - (t:Int)) - ((N.log2:Int) - 53)).toNat = 0:=by omega
  have e2:((N.log2:Int) - 53 - (-1 - (t:Int))).toNat = t - (52 - N.log2):=by omega
  rw [e1,e2,Nat.shiftLeft_zero]
  refine ZlC s (by rw [Yt h]; omega) ?_
  rw [Nat.mul_assoc,← Nat.pow_add]
  congr 2; omega
 ·have e1:((-1 - (t:Int)) - ((N.log2:Int) - 53)).toNat = 52 - N.log2 - t:=by omega
  have e2:((N.log2:Int) - 53 - (-1 - (t:Int))).toNat = 0:=by omega
  rw [e1,e2]
  refine ZlC s (by omega) ?_
  rw [Nat.shiftLeft_eq,Nat.mul_assoc,← Nat.pow_add,Nat.pow_zero,Nat.mul_one]
  congr 2; omega
theorem Zfi (s:Bool) {N:Nat} (h:N ≠ 0) (h':N < 4503599627370496) :
  YC.read (YC.nearest s N 0) = .number s (2 * N * 2 ^ (52 - (2 * N).log2)) (((2 * N).log2:Int) - 53):=by
 have hl:(2 * N).log2 = N.log2 + 1:=by rw [Nat.mul_comm]; exact Yt h 1
 have h2:2 * N ≠ 0:=by omega
 have hL:=ZhI h2 (by omega)
 obtain ⟨f1,f2⟩:=Zm2 h2 (by omega)
 refine ZhL s h hL (by rw [hl]; omega) ?_ f1 f2
 have e1:((0:Int) - (((2 * N).log2:Int) - 53)).toNat = 53 - (2 * N).log2:=by omega
 have e2:(((2 * N).log2:Int) - 53 - 0).toNat = 0:=by omega
 rw [e1,e2]
 refine ZlC s (by omega) ?_
 rw [Nat.shiftLeft_eq,Nat.pow_zero,Nat.mul_one,show 53 - (2 * N).log2 = 1 + (52 - (2 * N).log2) by omega,Nat.pow_add]
 rw [← Nat.mul_assoc]; congr 1; omega
def KN (x:Nat) (n:Int):Prop:=n.natAbs < 9007199254740992 ∧
 ((n = 0 ∧ ∃ s,YC.read x = .number s 0 (-1074)) ∨ (n ≠ 0 ∧ YC.read x = .number (decide (n < 0)) (n.natAbs * 2 ^ (52 - n.natAbs.log2)) ((n.natAbs.log2:Int) - 53)))
theorem ZE0 (n:Int):(if decide (n < 0) = true then -(n.natAbs:Int) else (n.natAbs:Int)) = n:=by
 by_cases h:n < 0
 ·rw [WH h,if_pos rfl]; omega
 ·rw [WG h,if_neg (by simp)]; omega
theorem KN.num {x:Nat} {n:Int} (h:KN x n):∃ s m e,YC.read x = .number s m e ∧ e ≤ -1 ∧ -1074 ≤ e ∧ ∀ (b:Int),b ≤ e → Ieee.signed s m (e - b).toNat = n * 2 ^ (-1 - b).toNat:=by
 obtain ⟨hb,⟨rfl,s,hr⟩ | ⟨hn,hr⟩⟩:=h
 ·refine ⟨s,0,_,hr,by omega,by omega,fun b hb => ?_⟩
  unfold Ieee.signed
  cases s <;> simp
 ·have h0:n.natAbs ≠ 0:=by omega
  have hL:=ZhI h0 hb
  refine ⟨_,_,_,hr,by omega,by omega,fun b hb => ?_⟩
  unfold Ieee.signed
  have e1:(n.natAbs * 2 ^ (52 - n.natAbs.log2)) <<< ((n.natAbs.log2:Int) - 53 - b).toNat = n.natAbs * 2 ^ (-1 - b).toNat:=by
   rw [Nat.shiftLeft_eq,Nat.mul_assoc,← Nat.pow_add]
   congr 2; omega
  rw [e1]
  have e2:((n.natAbs * 2 ^ (-1 - b).toNat:Nat):Int) = (n.natAbs:Int) * 2 ^ (-1 - b).toNat:=by rw [Int.natCast_mul,Int.natCast_pow]; rfl
  rw [e2]
  have hs:=ZE0 n
  by_cases hlt:n < 0
  ·rw [WH hlt] at hs ⊢
   simp only [if_true] at hs ⊢
   rw [← Int.neg_mul]; congr 1
  ·rw [WG hlt] at hs ⊢
   simp only [Bool.false_eq_true,if_false] at hs ⊢
   congr 1
theorem ZbY {s:Bool} {m:Nat} {e:Int} {n:Int} {t:Nat} (he:e = -1 - (t:Int)) (hm:m = n.natAbs * 2 ^ t) (hs:n ≠ 0 → s = decide (n < 0)) (hb:n.natAbs < 9007199254740992):KN (YC.write (.number s m e)) n:=by
 refine ⟨hb,?_⟩
 show _ ∨ (_ ∧ YC.read (YC.nearest s m e) = _)
 by_cases hn:n = 0
 ·left
  refine ⟨hn,s,?_⟩
  show YC.read (YC.nearest s m e) = _
  subst hn
  rw [show m = 0 by rw [hm]; simp]
  unfold Ieee.Format.nearest
  rw [if_pos rfl]
  exact ZpT s
 ·right
  refine ⟨hn,?_⟩
  rw [hm,he,← hs hn]
  exact Zsm s (by omega) hb
theorem ZjI (n:Int) (hb:n.natAbs < 4503599627370496):KN (FloatKind.f64.nearest n) (2 * n):=by
 show KN (YC.nearest (decide (n < 0)) n.natAbs 0) (2 * n)
 refine ⟨by omega,?_⟩
 by_cases hn:n = 0
 ·left
  subst hn
  exact ⟨rfl,false,by decide⟩
 ·right
  refine ⟨by omega,?_⟩
  rw [Zfi _ (by omega) hb]
  have e1:(2 * n).natAbs = 2 * n.natAbs:=by omega
  have e2:decide (2 * n < 0) = decide (n < 0):=by by_cases h:n < 0 <;> simp [h] <;> omega
  rw [e1,e2]
theorem Zs8 {a b:Int} {p:Int} (hp:0 < p):compare (a * p) (b * p) = compare a b:=by
 rcases Int.lt_trichotomy a b with h | h | h
 ·have:=Int.mul_lt_mul_of_pos_right h hp
  rw [Int.compare_eq_lt.2 h,Int.compare_eq_lt.2 this]
 ·subst h; simp
 ·have:=Int.mul_lt_mul_of_pos_right h hp
  rw [Int.compare_eq_gt.2 h,Int.compare_eq_gt.2 this]
theorem Zjb {x y:Nat} {a b:Int} (hx:KN x a) (hy:KN y b):FloatKind.f64.format.order x y = some (compare a b):=by
 obtain ⟨s,m,i,h1,h2,_,h3⟩:=hx.num
 obtain ⟨t,n,j,g1,g2,_,g3⟩:=hy.num
 show (YC.read x).order (YC.read y) = _
 rw [h1,g1]
 unfold Ieee.Datum.order
 simp only
 rw [h3 _ (Int.min_le_left i j),g3 _ (Int.min_le_right i j),Zs8 (Int.pow_pos (by omega))]
theorem ZxE {x y:Nat} {a b:Int} (hx:KN x a) (hy:KN y b) (hb:(a + b).natAbs < 9007199254740992):∃ z,floatBits .add .f64 x y = some z ∧ KN z (a + b):=by
 obtain ⟨s,m,i,h1,h2,h2',h3⟩:=hx.num
 obtain ⟨t,n,j,g1,g2,g2',g3⟩:=hy.num
 show ∃ z,((YC.read x).sum (YC.read y)).map YC.write = some z ∧ _
 rw [h1,g1]
 unfold Ieee.Datum.sum
 simp only
 rw [h3 _ (Int.min_le_left i j),g3 _ (Int.min_le_right i j),← Int.add_mul]
 refine ⟨_,rfl,?_⟩
 have hp:(0:Int) < 2 ^ (-1 - min i j).toNat:=Int.pow_pos (by omega)
 refine ZbY (t:=(-1 - min i j).toNat) (by omega) ?_ (fun hn => ?_) hb
 ·rw [Int.natAbs_mul,Int.natAbs_pow]; rfl
 ·rw [if_neg (by intro h; rcases Int.mul_eq_zero.1 h with h | h <;> omega)]
  by_cases hlt:a + b < 0
  ·rw [WH hlt,WH (Int.mul_neg_of_neg_of_pos hlt hp)]
  ·rw [WG hlt,WG (by
    have:=Int.mul_nonneg (show 0 ≤ a + b by omega) (Int.le_of_lt hp)
    omega)]
theorem ZHK {x:Nat} {n:Int} (h:KN x n):∃ s m e,(YC.read x).opposite = .number s m e ∧ e ≤ -1 ∧ ∀ (b:Int),b ≤ e → Ieee.signed s m (e - b).toNat = -n * 2 ^ (-1 - b).toNat:=by
 obtain ⟨s,m,e,h1,h2,_,h3⟩:=h.num
 refine ⟨!s,m,e,by rw [h1]; rfl,h2,fun b hb => ?_⟩
 have:=h3 b hb
 unfold Ieee.signed at this ⊢
 rw [Int.neg_mul,← this]
 cases s <;> simp
theorem ZHV {x y:Nat} {a b:Int} (hx:KN x a) (hy:KN y b) (hb:(a - b).natAbs < 9007199254740992):∃ z,floatBits .sub .f64 x y = some z ∧ KN z (a - b):=by
 obtain ⟨s,m,i,h1,h2,h2',h3⟩:=hx.num
 obtain ⟨t,n,j,g1,g2,g3⟩:=ZHK hy
 show ∃ z,((YC.read x).sum (YC.read y).opposite).map YC.write = some z ∧ _
 rw [h1,g1]
 unfold Ieee.Datum.sum
 simp only
 rw [h3 _ (Int.min_le_left i j),g3 _ (Int.min_le_right i j),← Int.add_mul,← Int.sub_eq_add_neg]
 refine ⟨_,rfl,?_⟩
 have hp:(0:Int) < 2 ^ (-1 - min i j).toNat:=Int.pow_pos (by omega)
 refine ZbY (t:=(-1 - min i j).toNat) (by omega) ?_ (fun hn => ?_) hb
 ·rw [Int.natAbs_mul,Int.natAbs_pow]; rfl
 ·rw [if_neg (by intro h; rcases Int.mul_eq_zero.1 h with h | h <;> omega)]
  by_cases hlt:a - b < 0
  ·rw [WH hlt,WH (Int.mul_neg_of_neg_of_pos hlt hp)]
  ·rw [WG hlt,WG (by
    have:=Int.mul_nonneg (show 0 ≤ a - b by omega) (Int.le_of_lt hp)
    omega)]
end Go.Sh
namespace Go.Sh
open Go Go.Proofs
theorem ZEG (s:Bool) (m:Nat):(Ieee.Datum.number s 0 (-1074)) = Ieee.Datum.number s ((0:Int).natAbs * m) (-((1074:Nat):Int)):=by
 rw [show (0:Int).natAbs * m = 0 from Nat.zero_mul m]
 rfl
theorem KN.nat {x:Nat} {n:Int} (h:KN x n):∃ (s:Bool) (t:Nat),YC.read x = .number s (n.natAbs * 2 ^ (t - 1)) (-(t:Int)) ∧ 1 ≤ t ∧ (n ≠ 0 → s = decide (n < 0) ∧ (n.natAbs * 2 ^ (t - 1)).log2 = 52):=by
 obtain ⟨hb,⟨rfl,s,hr⟩ | ⟨hn,hr⟩⟩:=h
 ·exact ⟨s,1074,hr.trans (ZEG s _),by omega,fun h => absurd rfl h⟩
 ·have h0:n.natAbs ≠ 0:=by omega
  have hL:=ZhI h0 hb
  refine ⟨_,53 - n.natAbs.log2,hr.trans ?_,by omega,fun _ => ⟨rfl,?_⟩⟩
  ·rw [show 53 - n.natAbs.log2 - 1 = 52 - n.natAbs.log2 by omega]
   congr 1
   omega
  ·rw [Yt h0]; omega
theorem ZEI:YC.read 4607182418800017408 = .number false 4503599627370496 (-52):=by decide
theorem ZFb:YC.read 4611686018427387904 = .number false 4503599627370496 (-51):=by decide
theorem ZjH {x:Nat} {a:Int} (hx:KN x a):∃ z,floatBits .mul .f64 x 4607182418800017408 = some z ∧ KN z a:=by
 obtain ⟨s,t,hr,h1,hs⟩:=hx.nat
 show ∃ z,((YC.read x).product (YC.read 4607182418800017408)).map YC.write = some z ∧ _
 rw [hr,ZEI]
 refine ⟨_,rfl,ZbY (t:=t + 51) (by omega) ?_ (fun hn => by rw [(hs hn).1]; simp) hx.1⟩
 rw [Nat.mul_assoc,show (4503599627370496:Nat) = 2 ^ 52 from rfl,← Nat.pow_add]
 congr 2; omega
theorem ZEq {x:Nat} {c:Int} (hx:KN x (2 * c)):∃ z,floatBits .quo .f64 x 4611686018427387904 = some z ∧ KN z c:=by
 obtain ⟨s,t,hr,h1,hs⟩:=hx.nat
 show ∃ z,((YC.read x).quotient 54 (YC.read 4611686018427387904)).map YC.write = some z ∧ _
 rw [hr,ZFb]
 unfold Ieee.Datum.quotient
 simp only
 rw [if_neg (by omega)]
 refine ⟨_,rfl,?_⟩
 have hb:=hx.1
 by_cases hn:c = 0
 ·subst hn
  simp only [Int.mul_zero,Int.natAbs_zero,Nat.zero_mul,Nat.zero_shiftLeft,Nat.zero_div,Nat.zero_mod]
  have e1:(4503599627370496:Nat).log2 = 52:=by decide
  have e2:(0:Nat).log2 = 0:=by decide
  rw [e1,e2]
  exact ZbY (t:=t + 55) (by simp; omega) (by simp) (fun h => absurd rfl h) (by simp)
 ·obtain ⟨h2,h3⟩:=hs (by omega)
  rw [h3,show (4503599627370496:Nat).log2 = 52 from by decide,show 54 + 52 - 52 = 54 from rfl,Nat.shiftLeft_eq]
  have e0:(2 ^ 54:Nat) = 4 * 4503599627370496:=by decide
  rw [e0,← Nat.mul_assoc,Nat.mul_div_cancel _ (by omega),Nat.mul_mod_left]
  refine ZbY (t:=t + 3) (by omega) ?_ (fun _ => ?_) (by omega)
  ·have e1:(2 * c).natAbs = 2 * c.natAbs:=by omega
   rw [e1]
   have e2:2 ^ (t + 3) = 2 ^ (t - 1) * 16:=by rw [show t + 3 = (t - 1) + 4 by omega,Nat.pow_add]
   rw [e2]
   simp
   rw [← Nat.mul_assoc]
   generalize 2 ^ (t - 1) = P
   rw [Nat.mul_assoc 2 c.natAbs P,← Nat.mul_assoc c.natAbs P 16]
   generalize c.natAbs * P = Q
   omega
  ·rw [h2]
   by_cases hlt:c < 0
   ·rw [WH hlt,WH (by omega)]; rfl
   ·rw [WG hlt,WG (by omega)]; rfl
theorem ZjQ {s:Bool} {q:Nat} {n:Int} (hq:q = n.natAbs) (hs:n ≠ 0 → s = decide (n < 0)) (hb:n.natAbs < 4503599627370496):KN (YC.write (.number s q 0)) (2 * n):=by
 subst hq
 refine ⟨by omega,?_⟩
 show _ ∨ (_ ∧ YC.read (YC.nearest s n.natAbs 0) = _)
 by_cases hn:n = 0
 ·left
  refine ⟨by omega,s,?_⟩
  show YC.read (YC.nearest s n.natAbs 0) = _
  subst hn
  unfold Ieee.Format.nearest
  rw [if_pos (by rfl)]
  exact ZpT s
 ·right
  refine ⟨by omega,?_⟩
  rw [Zfi _ (by omega) hb,hs hn]
  have e1:(2 * n).natAbs = 2 * n.natAbs:=by omega
  have e2:decide (2 * n < 0) = decide (n < 0):=by by_cases h:n < 0 <;> simp [h] <;> omega
  rw [e1,e2]
theorem Zij {s:Bool} {a t:Nat} (way:Ieee.Toward) (hway:way = .down ∨ way = .zero) (ht:1 ≤ t) (hl:a ≠ 0 → (a * 2 ^ (t - 1)).log2 = 52) (ht':a ≠ 0 → t ≤ 53) :
  way.cut s (a * 2 ^ (t - 1)) t = a / 2 + (if way = .down then (s && decide (a % 2 ≠ 0)).toNat else 0):=by
 by_cases h0:a = 0
 ·subst h0
  rcases hway with rfl | rfl <;> simp [Ieee.Toward.cut]
 ·unfold Ieee.Toward.cut
  have h1:=hl h0
  have h2:=ht' h0
  simp only [Nat.min_eq_left (show t ≤ (a * 2 ^ (t - 1)).log2 + 2 by omega),Nat.one_shiftLeft]
  have hp:0 < 2 ^ (t - 1):=Nat.pow_pos (by omega)
  have e1:2 ^ t = 2 * 2 ^ (t - 1):=by rw [show t = (t - 1) + 1 by omega,Nat.pow_succ,Nat.add_sub_cancel]; omega
  rw [e1,Nat.mul_div_mul_right _ _ hp,Nat.mul_mod_mul_right]
  have e2:(a % 2 * 2 ^ (t - 1) != 0) = decide (a % 2 ≠ 0):=by
   have:a % 2 < 2:=Nat.mod_lt _ (by omega)
   generalize a % 2 = b at this
   match b,this with
   | 0,_ => simp
   | 1,_ => simp [bne]
  rcases hway with rfl | rfl
  ·simp [e2]
  ·simp
theorem ZsI {x:Nat} {n:Int} {s:Bool} {t:Nat} (h:n.natAbs ≠ 0) (ht:1 ≤ t) (hl:(n.natAbs * 2 ^ (t - 1)).log2 = 52):t ≤ 53:=by
 rw [Yt h] at hl; omega
theorem ZAJ {x:Nat} {n:Int} (hx:KN x n) (hb:n.natAbs < 4503599627370496):∃ z,Wp .down x = some z ∧ KN z (2 * (n / 2)):=by
 obtain ⟨s,t,hr,h1,hs⟩:=hx.nat
 unfold Wp
 have hd:FloatKind.f64.decode x = .number s (n.natAbs * 2 ^ (t - 1)) (-(t:Int)):=hr
 rw [hd]
 refine ⟨_,rfl,?_⟩
 show KN (YC.write (Ieee.Datum.integral .down (.number s (n.natAbs * 2 ^ (t - 1)) (-(t:Int))))) _
 unfold Ieee.Datum.integral
 simp only [Int.neg_neg,WS,show (-(t:Int)).toNat = 0 by omega,Nat.shiftLeft_zero]
 rw [Zij .down (.inl rfl) h1 (fun h => (hs (by omega)).2) (fun h => ZsI (x:=x) (s:=s) h h1 (hs (by omega)).2),if_pos rfl]
 refine ZjQ ?_ (fun hne => ?_) (by omega)
 ·by_cases h0:n = 0
  ·subst h0; simp
  ·rw [(hs h0).1]
   by_cases hlt:n < 0
   ·rw [WH hlt]
    by_cases ho:n.natAbs % 2 = 0
    ·simp [ho]; omega
    ·simp [ho]; omega
   ·rw [WG hlt]; simp; omega
 ·have h0:n ≠ 0:=by omega
  rw [(hs h0).1]
  by_cases hlt:n < 0
  ·rw [WH hlt,WH (by omega)]
  ·rw [WG hlt,WG (by omega)]
theorem ZBf {x:Nat} {v:Int} (hx:KN x (2 * v)) (hb:v.natAbs < 1125899906842624):∃ z,Wp .zero x = some z ∧ KN z (2 * v):=by
 obtain ⟨s,t,hr,h1,hs⟩:=hx.nat
 unfold Wp
 have hd:FloatKind.f64.decode x = .number s ((2 * v).natAbs * 2 ^ (t - 1)) (-(t:Int)):=hr
 rw [hd]
 refine ⟨_,rfl,?_⟩
 show KN (YC.write (Ieee.Datum.integral .zero (.number s ((2 * v).natAbs * 2 ^ (t - 1)) (-(t:Int))))) _
 unfold Ieee.Datum.integral
 simp only [Int.neg_neg,WS,show (-(t:Int)).toNat = 0 by omega,Nat.shiftLeft_zero]
 rw [Zij .zero (.inr rfl) h1 (fun h => (hs (by omega)).2) (fun h => ZsI (x:=x) (s:=s) h h1 (hs (by omega)).2),if_neg (by decide)]
 refine ZjQ (by omega) (fun hne => ?_) (by omega)
 rw [(hs (by omega)).1]
 by_cases hlt:v < 0
 ·rw [WH hlt,WH (by omega)]
 ·rw [WG hlt,WG (by omega)]
theorem ZaF {x:Nat} {v:Int} (hx:KN x (2 * v)) (hb:v.natAbs < 1125899906842624):floatToIntVal .f64 x .i64 = some v:=by
 obtain ⟨s,t,hr,h1,hs⟩:=hx.nat
 unfold floatToIntVal
 have hd:FloatKind.f64.decode x = .number s ((2 * v).natAbs * 2 ^ (t - 1)) (-(t:Int)):=hr
 rw [hd]
 have:Ieee.Datum.toInt .zero (.number s ((2 * v).natAbs * 2 ^ (t - 1)) (-(t:Int))) = some v:=by
  unfold Ieee.Datum.toInt Ieee.Datum.integral
  simp only [Int.neg_neg,WS,show (-(t:Int)).toNat = 0 by omega,Nat.shiftLeft_zero]
  rw [Zij .zero (.inr rfl) h1 (fun h => (hs (by omega)).2) (fun h => ZsI (x:=x) (s:=s) h h1 (hs (by omega)).2),if_neg (by decide)]
  unfold Ieee.signed
  simp only [Nat.shiftLeft_zero,Nat.add_zero]
  by_cases h0:v = 0
  ·subst h0; simp
  ·rw [(hs (by omega)).1]
   by_cases hlt:v < 0
   ·rw [WH (by omega),if_pos rfl]; congr 1; omega
   ·rw [WG (by omega),if_neg (by simp)]; congr 1; omega
 rw [this]
 simp only
 rw [if_pos]
 simp only [IntKind.min,IntKind.max,IntKind.signed,IntKind.bits]
 constructor <;> simp <;> omega
theorem ZEQ (x:Nat):YC.read (x % 9223372036854775808) = match YC.read x with | .number _ m e => .number false m e | .infinity _ => .infinity false | .nan _ f => .nan false f:=by
 unfold Ieee.Format.read
 simp only [Zgy,ZfD,Zqy,Zik]
 have e1:x % 9223372036854775808 / 9223372036854775808 = 0:=Nat.div_eq_of_lt (Nat.mod_lt _ (by omega))
 rw [e1,Nat.mod_mod]
 split
 ·rfl
 ·split
  ·rfl
  ·split <;> rfl
theorem Zqf {x:Nat} {n:Int} (hx:KN x n):KN (x % 9223372036854775808) (n.natAbs:Int):=by
 obtain ⟨hb,h⟩:=hx
 refine ⟨by simpa using hb,?_⟩
 rw [ZEQ]
 rcases h with ⟨rfl,s,hr⟩ | ⟨hn,hr⟩
 ·left
  rw [hr]
  exact ⟨rfl,false,rfl⟩
 ·right
  rw [hr]
  refine ⟨by omega,?_⟩
  simp only [Int.natAbs_natCast]
  rw [WG (by omega)]
theorem ZlX (k x:Nat):ZcW k (x,()) = some (x % 9223372036854775808,()):=by
 show Zev k _ = _
 simp only [Zev]
 congr 2
 have e1:BitVec.ofInt 64 (Int.ofNat x) &&& ~~~BitVec.ofInt 64 (9223372036854775808:Int) = BitVec.ofNat 64 (x % 9223372036854775808):=by
  apply BitVec.eq_of_getLsbD_eq
  intro i hi
  have h1:BitVec.ofInt 64 (Int.ofNat x) = BitVec.ofNat 64 x:=BitVec.ofInt_natCast ..
  have h2:BitVec.ofInt 64 (9223372036854775808:Int) = BitVec.twoPow 64 63:=by decide
  rw [h1,h2]
  simp only [BitVec.getLsbD_and,BitVec.getLsbD_not,BitVec.getLsbD_ofNat,BitVec.getLsbD_twoPow,show (9223372036854775808:Nat) = 2 ^ 63 from rfl,Nat.testBit_mod_two_pow]
  by_cases h63:i = 63
  ·subst h63; simp
  ·simp [hi,show i < 63 by omega]
   omega
 rw [e1,BitVec.toNat_ofNat]
 have:x % 9223372036854775808 < 9223372036854775808:=Nat.mod_lt _ (by omega)
 rw [Nat.mod_eq_of_lt (by omega)]
 show (IntKind.u64.wrap ((x % 9223372036854775808:Nat):Int)).toNat = _
 rw [ZnZ (by omega),WS]
end Go.Sh
namespace Go.Sh
open Go Go.Proofs
def Qj (n:Int):Prop := -16777216 ≤ n ∧ n ≤ 16777216
def PV2 (p:Nat × Nat) (l r:Int):Prop:=KN p.1 (2 * l) ∧ KN p.2 (2 * r) ∧ Qj l ∧ Qj r
structure PP (p:List (Nat × Nat)) (L R:List Int):Prop where
 hl:p.length = L.length
 hr:p.length = R.length
 at_:∀ i (h:i < p.length),PV2 p[i] (L[i]'(hl ▸ h)) (R[i]'(hr ▸ h))
def ZdA (L R:List Int):List (Nat × Nat):=(L.zip R).map fun x => (FloatKind.f64.nearest x.1,FloatKind.f64.nearest x.2)
theorem Zu4 {L R:List Int} (h:L.length = R.length) (hL:∀ x ∈ L,Qj x) (hR:∀ x ∈ R,Qj x):PP (ZdA L R) L R where
 hl:=by simp [ZdA,h]
 hr:=by simp [ZdA,h]
 at_:=fun i hi => by
  simp only [ZdA,List.length_map,List.length_zip] at hi
  have h1:=hL L[i] (List.getElem_mem (by omega))
  have h2:=hR R[i] (List.getElem_mem (by omega))
  simp only [ZdA,List.getElem_map,List.getElem_zip]
  exact ⟨ZjI _ (by unfold Qj at h1; omega),ZjI _ (by unfold Qj at h2; omega),h1,h2⟩
theorem ZDP (k:Nat) {L R:List Int} (hk:L.length < k) (h:L.length = R.length) (hn:L.length ≤ 8192) (hL:∀ x ∈ L,Qj x) (hR:∀ x ∈ R,Qj x) :
  ZmH k (L,R,()) = some ((ZdA L R,0,()),()):=by
 show Zbx k (ZmI k) _ = _
 simp only [Zbx]
 rw [show (Int.ofNat L.length != Int.ofNat R.length) = false from by rw [h]; simp]
 simp only [cond_false]
 rw [Zk (by simp only [QW]; omega)]
 have:=ZF (A:=List (Nat × Nat)) (step:=fun L1 => Kf k L1) (fun i acc => (Int.ofNat L.length,Int.ofNat i,L,R,acc)) (L.zip R)
  (fun l acc => some ((acc ++ l.map (fun x => (FloatKind.f64.nearest x.1,FloatKind.f64.nearest x.2)),0,()),())) (fun i acc => acc.length = i)
  (fun L1 acc ha => by
   simp only [Kf]
   rw [List.length_zip,← h,Nat.min_self,Zk (W2 _)]
   simp)
  (fun L1 i hi acc ha hL1 => by
   have hi2:i < L.length:=by simp at hi; omega
   have hi3:i < R.length:=by omega
   have b1:=hL L[i] (List.getElem_mem hi2)
   have b2:=hR R[i] (List.getElem_mem hi3)
   unfold Qj at b1 b2
   simp only [Kf]
   rw [Zc (ltR hi2),Zc (inR hi2),Zc (inR hi3),ZW hi2,ZW hi3]
   rw [Zk (by omega),Zk (by omega),Zk (by omega),Zk (by omega),Zc (by simp; omega),QZ hi2 (by omega)]
   rw [hL1 _ (by simp [ha])]
   simp) k 0 [] rfl (by simp; omega) (Nat.zero_le _)
 exact Eq.trans this (by rw [List.drop_zero]; rfl)
theorem ZlJ (k:Nat) {x y:Nat} {a b:Int} (hx:KN x a) (hy:KN y b) (hb:(a - b).natAbs < 9007199254740992) (hb2:(a + b).natAbs < 9007199254740992):∃ z,ZfF k ((x,y),()) = some (z,()) ∧ KN z (a - b):=by
 show ∃ z,ZdZ k _ = _ ∧ _
 simp only [ZdZ]
 unfold cMulBits
 obtain ⟨z1,e1,v1⟩:=ZjH hx
 obtain ⟨z2,e2,v2⟩:=ZjH hy
 obtain ⟨z3,e3,v3⟩:=ZHV v1 v2 hb
 obtain ⟨z4,e4,v4⟩:=ZxE v1 v2 hb2
 refine ⟨z3,?_,v3⟩
 simp only [e1,e2,e3,e4,Qq]
theorem ZBQ (k:Nat) {x:Nat} {n:Int} (hx:KN x n) (hb:n.natAbs < 4503599627370496):∃ z,ZlK k (x,()) = some (z,()) ∧ KN z (2 * (n / 2)):=by
 obtain ⟨z,e,v⟩:=ZAJ hx hb
 refine ⟨z,?_,v⟩
 show Zd0 k _ = _
 simp only [Zd0,e,Qq]
theorem ZtI (k:Nat) {x:Nat} {v:Int} (hx:KN x (2 * v)) (hb:v.natAbs < 1125899906842624):∃ z,ZcV k (x,()) = some (z,()) ∧ KN z (2 * v):=by
 obtain ⟨z,e,w⟩:=ZBf hx hb
 refine ⟨z,?_,w⟩
 show Zet k _ = _
 simp only [Zet,e,Qq]
theorem ZEB:YC.read 9218868437227405311 = .number false 9007199254740991 971:=by decide
theorem ZHF {x:Nat} {n:Int} (hx:KN x n) (h0:0 ≤ n):(FloatKind.f64.format.order x 9218868437227405311 == some Ordering.gt) = false:=by
 obtain ⟨s,m,i,h1,h2,h2',h3⟩:=hx.num
 have:FloatKind.f64.format.order x 9218868437227405311 = some Ordering.lt:=by
  show (YC.read x).order (YC.read 9218868437227405311) = _
  rw [h1,ZEB]
  unfold Ieee.Datum.order
  simp only
  have hmin:min i 971 = i:=by omega
  rw [hmin,h3 i (Int.le_refl _)]
  congr 1
  rw [Int.compare_eq_lt]
  unfold Ieee.signed
  simp only [Bool.false_eq_true,if_false]
  rw [Nat.shiftLeft_eq,Int.natCast_mul]
  have hp:(0:Int) < 2 ^ (-1 - i).toNat:=Int.pow_pos (by omega)
  obtain ⟨d,hd,hd1⟩:∃ d:Nat,(971 - i).toNat = (-1 - i).toNat + d ∧ d ≠ 0:=⟨972,by omega,by omega⟩
  have hq:(((2 ^ (971 - i).toNat:Nat):Int)) = 2 ^ (-1 - i).toNat * ((2 ^ d:Nat):Int):=by
   rw [hd,Nat.pow_add,Int.natCast_mul,Int.natCast_pow]; rfl
  rw [hq]
  have hb:=hx.1
  have hQ:1 < 2 ^ d:=Nat.one_lt_two_pow hd1
  have e1:n * 2 ^ (-1 - i).toNat ≤ 9007199254740991 * 2 ^ (-1 - i).toNat:=Int.mul_le_mul_of_nonneg_right (by omega) (Int.le_of_lt hp)
  generalize hP:(2:Int) ^ (-1 - i).toNat = P at hp e1
  generalize 2 ^ d = Q at hQ
  have e2:P * 1 < P * (Q:Int):=Int.mul_lt_mul_of_pos_left (by omega) hp
  have e3:(9007199254740991:Int) * P < 9007199254740991 * (P * (Q:Int)):=Int.mul_lt_mul_of_pos_left (by omega) (by omega)
  show _ < ((9007199254740991:Nat):Int) * (P * (Q:Int))
  omega
 rw [this]; rfl
theorem ZtK (k:Nat) {x:Nat} {n:Int} (hx:KN x n):Ziy k (x,0,()) = some (false,()):=by
 show Zeu k _ = _
 simp only [Zeu]
 rw [show ((0:Int) == (0:Int)) = true from rfl]
 simp only [cond_true,ZlX,Qq]
 rw [ZHF (Zqf hx) (by omega)]
theorem ZHt:KN 4715268809856909312 33554432:=by
 refine ⟨by decide,.inr ⟨by decide,by decide⟩⟩
theorem ZHB {x y:Nat} {a b:Int} (hx:KN x a) (hy:KN y b):∃ z,Zu9 .f64 x y = some z ∧ KN z (max a b):=by
 unfold Zu9
 rw [Zjb hx hy]
 rcases Int.lt_trichotomy a b with h | h | h
 ·rw [Int.compare_eq_lt.2 h]; exact ⟨y,rfl,by rw [Int.max_eq_right (by omega)]; exact hy⟩
 ·subst h
  have:compare a a = Ordering.eq:=by simp
  rw [this]
  refine ⟨_,rfl,?_⟩
  rw [Int.max_self]
  split
  ·exact hy
  ·exact hx
 ·rw [Int.compare_eq_gt.2 h]; exact ⟨x,rfl,by rw [Int.max_eq_left (by omega)]; exact hx⟩
theorem Zvb {x y:Nat} {a:Int} (hx:KN x a) (hy:KN y a):(FloatKind.f64.format.order x y != some Ordering.eq) = false:=by
 rw [Zjb hx hy]; simp
theorem ZA1 {x:Nat} {a:Int} (hx:KN x a) (h:a ≤ 33554432):(FloatKind.f64.format.order x 4715268809856909312 == some Ordering.gt) = false:=by
 rw [Zjb hx ZHt]
 have:compare a 33554432 ≠ Ordering.gt:=by
  intro h2
  have:=Int.compare_eq_gt.1 h2
  omega
 cases hc:compare a 33554432 <;> first | rfl | exact absurd hc this
theorem Zv4 (k:Nat) (hk:4 < k) (L1:Int × Int × List (Nat × Nat) × List (Nat × Nat) → Option (Int × Unit)) {x y:Nat} {l r:Int} (h:PV2 (x,y) l r) (v3 v4:Int) (v5 v6:List (Nat × Nat)) :
  ZgA k L1 (0,x,y,v3,v4,v5,v6) = L1 (v4,IntKind.i64.wrap (v3 + 1),v5,v6):=by
 obtain ⟨hx,hy,b1,b2⟩:=h
 unfold Qj at b1 b2
 obtain ⟨k,rfl⟩:∃ m,k = m + 3:=⟨k - 3,by omega⟩
 obtain ⟨z1,e1,w1⟩:=ZtI (k + 3) hx (by omega)
 obtain ⟨z2,e2,w2⟩:=ZtI (k + 3) hy (by omega)
 show Zs (fun L2 => YG (k + 3) L1 L2) (k + 3) _ = _
 rw [Zj]
 simp only [YG]
 rw [Zc (by omega),Zc (by omega)]
 show ((ZcV (k + 3) (x,())).bind _) = _
 rw [e1]
 simp only [Qq]
 rw [show [x,y].getD (0:Int).toNat (0:Nat) = x from rfl,Zvb w1 hx]
 simp only [cond_false]
 rw [ZtK _ hx]
 simp only [Qq,cond_false]
 rw [show IntKind.i64.wrap ((0:Int) + 1) = 1 from by rw [Qp (by omega)]; rfl,Zj]
 simp only [YG]
 rw [Zc (by omega),Zc (by omega)]
 show ((ZcV (k + 3) (y,())).bind _) = _
 rw [e2]
 simp only [Qq]
 rw [show [x,y].getD (1:Int).toNat (0:Nat) = y from rfl,Zvb w2 hy]
 simp only [cond_false]
 rw [ZtK _ hy]
 simp only [Qq,cond_false]
 rw [show IntKind.i64.wrap ((1:Int) + 1) = 2 from by rw [Qp (by omega)]; rfl,Zj]
 simp only [YG]
 rw [Zk (by omega)]
theorem Zzq (k:Nat) {p:List (Nat × Nat)} {L R:List Int} (hp:PP p L R) (hk:p.length + 4 < k) (hn:p.length ≤ 8192):ZlI k (p,()) = some (0,()):=by
 show ZdY k (Zj5 k) _ = _
 simp only [ZdY]
 rw [Zk (by simp only [QW]; omega)]
 have h3:ZgB k (Int.ofNat p.length,(0:Int),p) = some (0,()):=by
  have:=WA (A:=Unit) (step:=fun L3 => Za8 k L3) (fun i _ => (Int.ofNat p.length,Int.ofNat i,p)) p (fun _ _ => some (0,()))
   (fun L _ => by simp only [Za8]; rw [Zk (W2 _)])
   (fun L i hi _ hL => by
    obtain ⟨hx,hy,b1,b2⟩:=hp.at_ i hi
    unfold Qj at b1 b2
    simp only [Za8]
    rw [Zc (ltR hi),Zc (inR hi),ZW hi,ZlX,ZlX]
    simp only [Qq]
    obtain ⟨z,e,w⟩:=ZHB (Zqf hx) (Zqf hy)
    rw [e]
    simp only [Qq]
    rw [ZA1 w (by omega)]
    simp only [cond_false]
    rw [QZ hi (by omega),hL ()]) k 0 () (by omega) (Nat.zero_le _)
  exact this
 have:=WA (A:=Unit) (step:=fun L1 => Za7 k (ZgA k L1) (ZgB k) L1) (fun i _ => (Int.ofNat p.length,Int.ofNat i,p,p)) p (fun _ _ => some (0,()))
  (fun L _ => by simp only [Za7]; rw [Zk (W2 _)]; exact h3)
  (fun L i hi _ hL => by
   simp only [Za7]
   rw [Zc (ltR hi),Zc (inR hi),ZW hi]
   rw [Zv4 k (by omega) L (x:=p[i].1) (y:=p[i].2) (hp.at_ i hi),QZ hi (by omega),hL ()]) k 0 () (by omega) (Nat.zero_le _)
 exact this
def apA (m l r:Int):Int:=if m = 9 then l - r else if m = 10 then (l + r) / 2 else l
def apB (m l r:Int):Int:=if m = 8 then l - r else if m = 10 then l - r else r
def ZhH (m:Int):Prop:=m = 0 ∨ m = 8 ∨ m = 9 ∨ m = 10
def Ww (m:Int) (L R:List Int):List Int:=(L.zip R).map fun x => apA m x.1 x.2
def Wx (m:Int) (L R:List Int):List Int:=(L.zip R).map fun x => apB m x.1 x.2
theorem ZuM (k:Nat) {m:Int} (h:ZhH m):Zpr k (m,()) = some (true,()):=by
 rcases h with rfl | rfl | rfl | rfl <;> rfl
theorem ZmL (k:Nat) {p:List (Nat × Nat)} {L R:List Int} (hp:PP p L R) (hk:p.length + 4 < k) (hn:p.length ≤ 8192) {m:Int} (hm:ZhH m) :
  ZmJ k (p,m,()) = some ((Ww m L R,Wx m L R,0,()),()):=by
 show Zhg k (ZrM k) _ = _
 simp only [Zhg]
 rw [ZuM k hm]
 simp only [Qq,Bool.not_true,cond_false]
 rw [Zzq k hp hk hn]
 simp only [Qq]
 rw [show ((0:Int) != (0:Int)) = false from rfl]
 simp only [cond_false]
 have hl:=hp.hl
 have hr:=hp.hr
 have:=ZF (A:=List Int × List Int) (step:=fun L1 => Zdh k L1) (fun i a => (Int.ofNat p.length,Int.ofNat i,p,m,a.1,a.2)) (L.zip R)
  (fun l a => some ((a.1 ++ l.map (fun x => apA m x.1 x.2),a.2 ++ l.map (fun x => apB m x.1 x.2),0,()),())) (fun i a => a.1.length = i ∧ a.2.length = i)
  (fun L1 a ha => by
   simp only [Zdh]
   rw [List.length_zip,← hl,← hr,Nat.min_self,Zk (W2 _)]
   simp)
  (fun L1 i hi a ha hL1 => by
   have hi2:i < p.length:=by simp at hi; omega
   obtain ⟨hx,hy,b1,b2⟩:=hp.at_ i hi2
   unfold Qj at b1 b2
   simp only [Zdh]
   rw [Zc (ltR hi2),Zc (inR hi2),ZW hi2]
   have s1:(a.1.length + [(0:Int)].length < 2147483648):=by simp; omega
   have s2:(a.2.length + [(0:Int)].length < 2147483648):=by simp; omega
   have hz:(L.zip R)[i] = (L[i]'(by omega),R[i]'(by omega)):=by simp
   rw [hz]
   have fin:∀ (u v:Int),u = apA m (L[i]'(by omega)) (R[i]'(by omega)) → v = apB m (L[i]'(by omega)) (R[i]'(by omega)) →
     L1 (Int.ofNat p.length,IntKind.i64.wrap (Int.ofNat i + 1),p,m,a.1 ++ [u],a.2 ++ [v]) = some ((a.1 ++ List.map (fun x => apA m x.1 x.2) ((L[i]'(by omega),R[i]'(by omega)) :: List.drop (i + 1) (L.zip R)),a.2 ++ List.map (fun x => apB m x.1 x.2) ((L[i]'(by omega),R[i]'(by omega)) :: List.drop (i + 1) (L.zip R)),0,()),()):=by
    intro u v hu hv
    rw [QZ hi2 (by omega)]
    have:=hL1 (a.1 ++ [u],a.2 ++ [v]) ⟨by simp [ha.1],by simp [ha.2]⟩
    simp only at this
    rw [this,hu,hv]
    simp
   rcases hm with rfl | rfl | rfl | rfl
   ·rw [show ((0:Int) == (8:Int)) = false from rfl,show ((0:Int) == (9:Int)) = false from rfl,show ((0:Int) == (10:Int)) = false from rfl]
    simp only [cond_false]
    rw [ZaF hx (by omega)]
    simp only [Qq]
    rw [Zc (by simp; omega),ZaF hy (by omega)]
    simp only [Qq]
    rw [Zc (by simp; omega)]
    exact fin _ _ rfl rfl
   ·rw [show ((8:Int) == (8:Int)) = true from rfl]
    simp only [cond_true]
    obtain ⟨z,e,w⟩:=ZlJ k hx hy (by omega) (by omega)
    rw [← Int.mul_sub] at w
    rw [e]
    simp only [Qq]
    rw [ZaF hx (by omega)]
    simp only [Qq]
    rw [Zc (by simp; omega),ZaF w (by omega)]
    simp only [Qq]
    rw [Zc (by simp; omega)]
    exact fin _ _ rfl rfl
   ·rw [show ((9:Int) == (8:Int)) = false from rfl,show ((9:Int) == (9:Int)) = true from rfl]
    simp only [cond_true,cond_false]
    obtain ⟨z,e,w⟩:=ZlJ k hx hy (by omega) (by omega)
    rw [← Int.mul_sub] at w
    rw [e]
    simp only [Qq]
    rw [ZaF w (by omega)]
    simp only [Qq]
    rw [Zc (by simp; omega),ZaF hy (by omega)]
    simp only [Qq]
    rw [Zc (by simp; omega)]
    exact fin _ _ rfl rfl
   ·rw [show ((10:Int) == (8:Int)) = false from rfl,show ((10:Int) == (9:Int)) = false from rfl,show ((10:Int) == (10:Int)) = true from rfl]
    simp only [cond_true,cond_false]
    obtain ⟨z1,e1,w1⟩:=ZxE hx hy (by omega)
    rw [← Int.mul_add] at w1
    obtain ⟨z2,e2,w2⟩:=ZEq w1
    obtain ⟨z3,e3,w3⟩:=ZBQ k w2 (by omega)
    obtain ⟨z,e,w⟩:=ZlJ k hx hy (by omega) (by omega)
    rw [← Int.mul_sub] at w
    rw [e1]
    simp only [Qq]
    rw [e2]
    simp only [Qq]
    rw [e3]
    simp only [Qq]
    rw [e]
    simp only [Qq]
    rw [ZaF w3 (by omega)]
    simp only [Qq]
    rw [Zc (by simp; omega),ZaF w (by omega)]
    simp only [Qq]
    rw [Zc (by simp; omega)]
    exact fin _ _ rfl rfl) k 0 ([],[]) ⟨rfl,rfl⟩ (by simp; omega) (Nat.zero_le _)
 exact Eq.trans this (by rw [List.drop_zero]; rfl)
end Go.Sh
namespace Go.Sh
open Go Go.Proofs
theorem Zvn (x:Int) {w:Nat} (hw:0 < w):W9 x w = (x.fdiv (2 ^ (w - 1)) == 0 || x.fdiv (2 ^ (w - 1)) == -1):=by
 rw [Bool.eq_iff_iff]
 constructor
 ·intro h
  rcases ZuP hw h with h | h
  ·rw [h]; rfl
  ·rw [h]; rfl
 ·intro h
  unfold W9
  rw [if_neg (by omega),decide_eq_true_eq]
  have hp:(0:Int) < 2 ^ (w - 1):=Int.pow_pos (by omega)
  rw [Int.fdiv_eq_ediv_of_nonneg _ (by omega)] at h
  have h1:=Int.mul_ediv_add_emod x (2 ^ (w - 1))
  have h2:=Int.emod_nonneg x (show (2:Int) ^ (w - 1) ≠ 0 by omega)
  have h3:=Int.emod_lt_of_pos x hp
  simp only [Bool.or_eq_true,beq_iff_eq] at h
  generalize (2:Int) ^ (w - 1) = P at *
  rcases h with h | h
  ·rw [h] at h1; constructor <;> omega
  ·rw [h] at h1; constructor <;> omega
def Zf5:List Int → Int → Int → Int
 | [],n,_ => n
 | x :: l,n,last => Zf5 l (n + ((x - last).natAbs:Int)) x
def Za3 (l:List Int):Int:=Zf5 l 0 0
def Qt (n:Int):Prop := -67108864 ≤ n ∧ n ≤ 67108864
theorem ZuN (k:Nat) (l:List Int) (hk:l.length < k) (hn:l.length ≤ 8192) (hl:∀ x ∈ l,Qt x):Zps k (l,()) = some (Za3 l,()):=by
 show ZhC k (Zsb k) _ = _
 simp only [ZhC]
 have:=ZF (A:=Int × Int) (step:=fun L1 => Zdr k L1) (fun i a => (Int.ofNat l.length,Int.ofNat i,l,a.1,a.2)) l
  (fun l' a => some (Zf5 l' a.1 a.2,())) (fun i a => 0 ≤ a.1 ∧ a.1 ≤ (i:Int) * 268435456 ∧ Qt a.2)
  (fun L a _ => by simp only [Zdr]; rw [Zk (W2 _)]; rfl)
  (fun L i hi a ha hL => by
   have hx:=hl _ (List.getElem_mem hi)
   unfold Qt at hx ha
   simp only [Zdr]
   rw [Zc (ltR hi),Zc (inR hi),ZW hi,QZ hi (by omega)]
   have e1:IntKind.i64.wrap (l[i] - a.2) = l[i] - a.2:=Qp (by omega)
   have e2:IntKind.i64.wrap (a.2 - l[i]) = a.2 - l[i]:=Qp (by omega)
   rw [e1,e2]
   have e3:(if l[i] - a.2 < a.2 - l[i] then a.2 - l[i] else l[i] - a.2) = (((l[i] - a.2).natAbs:Nat):Int):=by split <;> omega
   rw [e3]
   have hi':(i:Int) ≤ 8192:=by omega
   have e4:IntKind.i64.wrap (a.1 + (((l[i] - a.2).natAbs:Nat):Int)) = a.1 + (((l[i] - a.2).natAbs:Nat):Int):=Qp (by omega)
   rw [e4,hL (a.1 + (((l[i] - a.2).natAbs:Nat):Int),l[i]) ⟨by omega,by push_cast; omega,hx⟩]
   rfl) k 0 (0,0) ⟨by omega,by omega,by unfold Qt; omega⟩ (by omega) (Nat.zero_le _)
 exact this
theorem ZhU:∀ (l:List Int) (n last:Int),(∀ x ∈ l,Qt x) → Qt last → n ≤ Zf5 l n last ∧ Zf5 l n last ≤ n + (l.length:Int) * 134217728
 | [],n,last,_,_ => by simp [Zf5]
 | x :: l,n,last,h,hb => by
  have hx:=h x (List.mem_cons_self ..)
  have:=ZhU l (n + ((x - last).natAbs:Int)) x (fun y hy => h y (List.mem_cons_of_mem _ hy)) hx
  unfold Qt at hx hb
  simp only [Zf5,List.length_cons]
  push_cast
  omega
theorem ZhV {l:List Int} (h:∀ x ∈ l,Qt x) (hn:l.length ≤ 8192):0 ≤ Za3 l ∧ Za3 l ≤ 1099511627776:=by
 have:=ZhU l 0 0 h (by unfold Qt; omega)
 unfold Za3
 omega
theorem ZsV {m l r:Int} (hl:Qj l) (hr:Qj r):Qt (apA m l r) ∧ Qt (apB m l r):=by
 unfold Qj at hl hr
 unfold Qt apA apB
 constructor
 ·split
  ·omega
  ·split <;> omega
 ·split
  ·omega
  ·split <;> omega
theorem ZsW {m:Int} {L R:List Int} (hL:∀ x ∈ L,Qj x) (hR:∀ x ∈ R,Qj x):(∀ x ∈ Ww m L R,Qt x) ∧ (∀ x ∈ Wx m L R,Qt x):=by
 constructor
 ·intro x hx
  obtain ⟨⟨l,r⟩,h,rfl⟩:=List.mem_map.1 hx
  exact (ZsV (hL _ (List.of_mem_zip h).1) (hR _ (List.of_mem_zip h).2)).1
 ·intro x hx
  obtain ⟨⟨l,r⟩,h,rfl⟩:=List.mem_map.1 hx
  exact (ZsV (hL _ (List.of_mem_zip h).1) (hR _ (List.of_mem_zip h).2)).2
theorem ZdU {m:Int} {L R:List Int} (h:L.length = R.length):(Ww m L R).length = L.length ∧ (Wx m L R).length = L.length:=by
 unfold Ww Wx
 simp [h]
def ZBG (L R:List Int) (m:Int):Int:=Za3 (Ww m L R) + Za3 (Wx m L R)
def ZhN (L R:List Int) (b:Int × Int) (m:Int):Int × Int:=if b.1 < 0 ∨ ZBG L R m < b.1 then (ZBG L R m,m) else b
def Z8 (L R:List Int):Int:=(ZhN L R (ZhN L R (ZhN L R (ZhN L R (-1,0) 0) 8) 9) 10).2
theorem ZhO {L R:List Int} {b:Int × Int} {m:Int} (hb:ZhH b.2) (hm:ZhH m):ZhH (ZhN L R b m).2:=by
 unfold ZhN; split
 ·exact hm
 ·exact hb
theorem ZfA (L R:List Int):ZhH (Z8 L R):=by
 unfold Z8
 exact ZhO (ZhO (ZhO (ZhO (.inl rfl) (.inl rfl)) (.inr (.inl rfl))) (.inr (.inr (.inl rfl)))) (.inr (.inr (.inr rfl)))
theorem Zhf (k:Nat) (L1:Int × Int × Int × Int × Int × List (Nat × Nat) × Int × Int → Option ((Int × Int × Unit) × Unit)) {p:List (Nat × Nat)} {L R:List Int} (hp:PP p L R) (hLR:L.length = R.length) (hL:∀ x ∈ L,Qj x) (hR:∀ x ∈ R,Qj x)
  (hk:p.length + 4 < k) (hn:p.length ≤ 8192) (j:Nat) (hj:j < 4) (m:Int) (hm:ZhH m) (hg:[(0:Int),8,9,10].getD j 0 = m) (b:Int × Int) :
  Zby k L1 ((j:Int),0,8,9,10,p,b.1,b.2) = L1 (((j + 1:Nat):Int),0,8,9,10,p,(ZhN L R b m).1,(ZhN L R b m).2):=by
 have hl:=hp.hl
 obtain ⟨sA,sB⟩:=ZsW (m:=m) hL hR
 obtain ⟨lA,lB⟩:=ZdU (m:=m) hLR
 have bA:=ZhV sA (by omega)
 have bB:=ZhV sB (by omega)
 simp only [Zby]
 rw [Zc (by omega),Zc (by omega),WS,hg,ZmL k hp hk hn hm]
 simp only [Qq]
 rw [show ((0:Int) != (0:Int)) = false from rfl]
 simp only [cond_false]
 rw [ZuN k _ (by omega) (by omega) sA]
 simp only [Qq]
 rw [ZuN k _ (by omega) (by omega) sB]
 simp only [Qq]
 rw [Qp (n:=Za3 (Ww m L R) + Za3 (Wx m L R)) (by omega),Qp (n:=(j:Int) + 1) (by omega)]
 unfold ZhN ZBG
 by_cases h1:b.1 < 0
 ·rw [Zc h1,if_pos (.inl h1)]
  push_cast; rfl
 ·rw [Zk h1]
  by_cases h2:Za3 (Ww m L R) + Za3 (Wx m L R) < b.1
  ·rw [Zc h2,if_pos (.inr h2)]
   push_cast; rfl
  ·rw [Zk h2,if_neg (by omega)]
   push_cast; rfl
theorem ZDU (k:Nat) {p:List (Nat × Nat)} {L R:List Int} (hp:PP p L R) (hLR:L.length = R.length) (hL:∀ x ∈ L,Qj x) (hR:∀ x ∈ R,Qj x)
  (hk:p.length + 8 < k) (hn:p.length ≤ 8192):Zuy k (p,()) = some ((Z8 L R,0,()),()):=by
 obtain ⟨k,rfl⟩:∃ m,k = m + 5:=⟨k - 5,by omega⟩
 show Zs (fun L1 => Zby (k + 5) L1) (k + 5) ((0:Nat),0,8,9,10,p,(-1,(0:Int)).1,(-1,(0:Int)).2) = _
 rw [Zj,Zhf (k + 5) _ hp hLR hL hR (by omega) hn 0 (by omega) 0 (.inl rfl) rfl]
 rw [Zj,Zhf (k + 5) _ hp hLR hL hR (by omega) hn 1 (by omega) 8 (.inr (.inl rfl)) rfl]
 rw [Zj,Zhf (k + 5) _ hp hLR hL hR (by omega) hn 2 (by omega) 9 (.inr (.inr (.inl rfl))) rfl]
 rw [Zj,Zhf (k + 5) _ hp hLR hL hR (by omega) hn 3 (by omega) 10 (.inr (.inr (.inr rfl))) rfl]
 rw [Zj]
 simp only [Zby]
 rw [Zk (by omega)]
 rfl
def Yr (ch:List (List Int)):List (List Int) × Int:=match ch with
 | [L,R] => ([Ww (Z8 L R) L R,Wx (Z8 L R) L R],if Z8 L R = 0 then 1 else Z8 L R)
 | ch => (ch,0)
theorem ZDs (k:Nat) (n:Int) (ch:List (List Int)) (hk:9000 < k) (h:ch.length = 1 ∨ (∃ L R,ch = [L,R] ∧ L.length = R.length ∧ L.length ≤ 8192 ∧ (∀ x ∈ L,Qj x) ∧ ∀ x ∈ R,Qj x)) :
  Zuf k ((n,ch,()),()) = some (((Yr ch).1,(Yr ch).2,0,()),()):=by
 show ZgZ k _ = _
 simp only [ZgZ]
 rcases h with h | ⟨L,R,rfl,hLR,hn,hL,hR⟩
 ·match ch,h with
  | [L],_ => rfl
 ·rw [show (Int.ofNat [L,R].length == (1:Int)) = false from rfl]
  simp only [cond_false]
  rw [Zc (by simp),Zc (by simp)]
  have hp:=Zu4 hLR hL hR
  have hpl:(ZdA L R).length ≤ 8192:=by rw [hp.hl]; exact hn
  rw [show [L,R].getD 0 [] = L from rfl,show [L,R].getD 1 [] = R from rfl,ZDP k (by omega) hLR hn hL hR]
  simp only [Qq]
  rw [show ((0:Int) != (0:Int)) = false from rfl]
  simp only [cond_false]
  rw [ZDU k hp hLR hL hR (by omega) hpl]
  simp only [Qq]
  rw [show ((0:Int) != (0:Int)) = false from rfl]
  simp only [cond_false]
  rw [ZmL k hp (by omega) hpl (ZfA L R)]
  simp only [Qq]
  rw [ZP]
  show (bif decide (Z8 L R = 0) then _ else _) = some ((([_,_],if Z8 L R = 0 then 1 else Z8 L R,0,()),()))
  by_cases h0:Z8 L R = 0
  ·rw [Zc h0,if_pos h0]
  ·rw [Zk h0,if_neg h0]
def Qd (c d m:Int):List Int:=if c = 1 then [d] else if m = 8 ∨ m = 10 then [d,d + 1] else if m = 9 then [d + 1,d] else [d,d]
theorem Zuk (k:Nat) {c d r m:Int} (hc:c = 1 ∧ m = 0 ∨ c = 2) (hd:0 ≤ d ∧ d ≤ 24):Zpg k ((c,d,r,()),m,()) = some (Qd c d m,()):=by
 show Zg4 k _ = _
 simp only [Zg4]
 have e:IntKind.i64.wrap (d + 1) = d + 1:=Qp (by omega)
 unfold Qd
 rcases hc with ⟨rfl,rfl⟩ | rfl
 ·rw [Zc (by simp)]
  rfl
 ·rw [Zc (by simp),if_neg (by omega)]
  simp only [ZP]
  by_cases h8:m = 8
  ·rw [Zc h8,if_pos (.inl h8),Zc (by simp),Zc (by simp),Zc (by simp)]
   simp [e]
  ·rw [Zk h8]
   by_cases h10:m = 10
   ·rw [Zc h10,if_pos (.inr h10),Zc (by simp),Zc (by simp),Zc (by simp)]
    simp [e]
   ·rw [Zk h10,if_neg (by omega)]
    by_cases h9:m = 9
    ·rw [Zc h9,if_pos h9,Zc (by simp),Zc (by simp),Zc (by simp)]
     simp [e]
    ·rw [Zk h9,if_neg h9,Zc (by simp)]
     rfl
def Zcn (c d r:Int):Bool:=decide (1 ≤ c ∧ c ≤ 2 ∧ 4 ≤ d ∧ d ≤ 24 ∧ 1 ≤ r ∧ r ≤ 655350)
theorem Ztw (k:Nat) (c d r:Int):ZoT k ((c,d,r,()),()) = some (if Zcn c d r then 0 else 2,()):=by
 show ZgM k _ = _
 simp only [ZgM]
 unfold Zcn
 by_cases h1:c < 1
 ·rw [Zc h1,WG (by omega)]; rfl
 ·rw [Zk h1]
  by_cases h2:2 < c
  ·rw [Zc h2,WG (by omega)]; rfl
  ·rw [Zk h2]
   by_cases h3:d < 4
   ·rw [Zc h3,WG (by omega)]; rfl
   ·rw [Zk h3]
    by_cases h4:24 < d
    ·rw [Zc h4,WG (by omega)]; rfl
    ·rw [Zk h4]
     by_cases h5:r < 1
     ·rw [Zc h5,WG (by omega)]; rfl
     ·rw [Zk h5]
      by_cases h6:655350 < r
      ·rw [Zc h6,WG (by omega)]; rfl
      ·rw [Zk h6,WH (by omega)]; rfl
def Zi3 (n:Nat) (l:List Int):Bool:=decide (l.length = n ∧ 1 ≤ n ∧ n ≤ 512)
def Xc (c d r n:Int) (ch:List (List Int)):Int :=
 if Zcn c d r = false then 2 else if n < 0 ∨ 2147483647 < n ∨ (ch.length:Int) ≠ c then 1
 else if ch.all (Zi3 (ch.headD []).length) = false then 1
 else if ch.all (fun l => l.all fun x => W9 x d.toNat) = false then 12 else 0
theorem Zue (k:Nat) (c d r n:Int) (ch:List (List Int)) (hk:1000 < k):Zfc k ((c,d,r,()),(n,ch,()),()) = some (Xc c d r n ch,()):=by
 show ZgY k (Zmw k) _ = _
 simp only [ZgY]
 rw [Ztw]
 simp only [Qq]
 unfold Xc
 cases hs:Zcn c d r with
 | false => simp only [if_true,Bool.false_eq_true,if_false]; rfl
 | true =>
  simp only [if_true,Bool.true_eq_false,if_false]
  rw [show ((0:Int) != (0:Int)) = false from rfl]
  simp only [cond_false]
  have hs:=of_decide_eq_true hs
  by_cases h1:n < 0
  ·rw [Zc h1,if_pos (.inl h1)]
  ·rw [Zk h1]
   by_cases h2:2147483647 < n
   ·rw [Zc h2,if_pos (.inr (.inl h2))]
   ·rw [Zk h2,ZY]
    by_cases h3:Int.ofNat ch.length = c
    ·rw [Zk (by simpa using h3),if_neg (by simp only [QW] at h3; omega)]
     simp only [QW] at h3
     have hch:ch.length ≤ 2:=by omega
     rw [Zc (by simp only [QW]; omega)]
     have hhd:ch.getD 0 [] = ch.headD []:=by cases ch <;> rfl
     rw [hhd]
     generalize hN:(ch.headD []).length = N
     have hstep2:ch.all (Zi3 N) = true → Zc6 k (Int.ofNat ch.length,(0:Int),ch,c,d,r) = some (if ch.all (fun l => l.all fun x => W9 x d.toNat) = false then 12 else 0,()):=by
      intro hall
      have:=Zi1 (step:=fun L2 => Zbu k (Zmx k L2) L2) (fun i => (Int.ofNat ch.length,Int.ofNat i,ch,c,d,r)) ch (fun l => l.all fun x => W9 x d.toNat) (some ((12:Int),())) (some ((0:Int),()))
       (fun L => by simp only [Zbu]; rw [Zk (W2 _)])
       (fun L i hi => by
        simp only [Zbu]
        rw [Zc (ltR hi),Zc (inR hi),ZW hi]
        have hlen:=of_decide_eq_true (List.all_eq_true.1 hall ch[i] (List.getElem_mem hi))
        have:=Zi1 (step:=fun L3 => Zbv k L L3) (fun j => (Int.ofNat ch[i].length,Int.ofNat j,ch[i],Int.ofNat i,Int.ofNat ch.length,ch,c,d,r)) ch[i] (fun x => W9 x d.toNat) (some ((12:Int),()))
         (L (Int.ofNat ch.length,Int.ofNat (i + 1),ch,c,d,r))
         (fun L3 => by simp only [Zbv]; rw [Zk (W2 _),QZ hi (by omega)])
         (fun L3 j hj => by
          simp only [Zbv]
          rw [Zc (ltR hj),Zc (inR hj),ZW hj]
          have ew:IntKind.i64.wrap (d - 1) = ((d.toNat - 1:Nat):Int):=by rw [Qp (by omega)]; omega
          simp only [ew,WS,Nat.min_eq_left (show d.toNat - 1 ≤ 64 by omega)]
          rw [Zc (by omega),Zvn _ (by omega),QZ hj (by omega)]
          simp only [bne]
          cases h5:(ch[i][j].fdiv (2 ^ (d.toNat - 1)) == 0) with
          | true => rfl
          | false =>
           cases h6:(ch[i][j].fdiv (2 ^ (d.toNat - 1)) == -1) <;> rfl) k (by omega)
        rw [← this]
        rfl) k (by omega)
      rw [show Zc6 k (Int.ofNat ch.length,(0:Int),ch,c,d,r) = Zs (fun L2 => Zbu k (Zmx k L2) L2) k (Int.ofNat ch.length,Int.ofNat 0,ch,c,d,r) from rfl,this]
      cases ch.all (fun l => l.all fun x => W9 x d.toNat) <;> rfl
     have:=Zi1 (step:=fun L1 => Zbt k (Zc6 k) L1) (fun i => (Int.ofNat ch.length,Int.ofNat i,ch,Int.ofNat N,n,ch,c,d,r)) ch (Zi3 N) (some ((1:Int),()))
      (Zc6 k (Int.ofNat ch.length,(0:Int),ch,c,d,r))
      (fun L => by simp only [Zbt]; rw [Zk (W2 _)])
      (fun L i hi => by
       simp only [Zbt]
       rw [Zc (ltR hi),Zc (inR hi),ZW hi,ZY]
       unfold Zi3
       simp only [QW]
       by_cases e1:ch[i].length = N
       ·rw [Zk (by omega)]
        by_cases e2:N < 1
        ·rw [Zc (by omega),WG (by omega)]; rfl
        ·rw [Zk (by omega)]
         by_cases e3:512 < N
         ·rw [Zc (by omega),WG (by omega)]; rfl
         ·rw [Zk (by omega),WH (by omega),Qp (by omega)]; rfl
       ·rw [Zc (by omega),WG (by omega)]; rfl) k (by omega)
     rw [show Zmw k (Int.ofNat ch.length,(0:Int),ch,Int.ofNat N,n,ch,c,d,r) = Zs (fun L1 => Zbt k (Zc6 k) L1) k (Int.ofNat ch.length,Int.ofNat 0,ch,Int.ofNat N,n,ch,c,d,r) from rfl,this]
     cases hall:ch.all (Zi3 N) with
     | false => simp
     | true =>
      simp only [cond_true,Bool.true_eq_false,if_false]
      exact hstep2 hall
    ·rw [Zc h3,if_pos (.inr (.inr h3))]
end Go.Sh
namespace Go.Sh
open Go Go.Proofs
def Zjm:List Int → Int
 | [] => 0
 | x :: l => x + Zjm l
def Zcu (x:Int):Bool:=decide (-2048 ≤ x ∧ x ≤ 2047)
def Qo (x:Int):Bool:=decide (x ≤ -2147483648 ∨ 2147483648 ≤ x)
def Zaa (c:List Int) (sh:Int):Bool:=decide (c.length ≤ 8 ∧ 0 ≤ sh ∧ sh ≤ 15) && c.all Zcu
theorem ZAz (k:Nat) (x:Int):Zmr k (x,()) = some (!Zcu x,()):=by
 show ZeU k _ = _
 simp only [ZeU]
 unfold Zcu
 by_cases h:x < -2048
 ·rw [Zc h,WG (by omega)]; rfl
 ·rw [Zk h]
  by_cases h2:2047 < x
  ·rw [WH h2,WG (by omega)]; rfl
  ·rw [WG h2,WH (by omega)]; rfl
theorem Ztm (k:Nat) (c:List Int) (hk:c.length < k) (hn:c.length < 4294967296):ZcS k (c,(),()) = some (!c.all Zcu,()):=by
 show Zaw k _ = _
 simp only [Zaw]
 have key:∃ i:Int,Zc1 k (c,(),()) = some (i,()) ∧ (0 ≤ i ↔ c.all Zcu = false):=by
  have:=WA (A:=Unit) (R:=Int × Unit) (step:=fun L1 => Kc k L1) (fun i _ => (Int.ofNat c.length,Int.ofNat i,c)) c
   (fun l _ => some (if l.all Zcu then -1 else Int.ofNat (c.length - l.length + (l.takeWhile Zcu).length),()))
   (fun L _ => by simp only [Kc]; rw [Zk (W2 _)]; rfl)
   (fun L i hi _ hL => by
    simp only [Kc]
    rw [Zc (ltR hi),Zc (inR hi),ZW hi,ZAz]
    simp only [Qq]
    have hlen:(List.drop (i + 1) c).length = c.length - (i + 1):=by simp
    cases hc:Zcu c[i] with
    | true =>
     simp only [Bool.not_true,cond_false]
     rw [QZ hi (by omega),hL ()]
     simp only [List.all_cons,hc,Bool.true_and,List.takeWhile_cons,if_true,List.length_cons,hlen]
     split
     ·rfl
     ·congr 3; omega
    | false =>
     simp only [Bool.not_false,cond_true,List.all_cons,hc,Bool.false_and,Bool.false_eq_true,if_false,List.takeWhile_cons,List.length_cons,hlen,List.length_nil]
     congr 3; omega) k 0 () (by omega) (Nat.zero_le _)
  rw [List.drop_zero] at this
  refine ⟨_,this,?_⟩
  cases c.all Zcu <;> simp
 obtain ⟨i,h1,h2⟩:=key
 rw [h1]
 simp only [Qq]
 cases hc:c.all Zcu with
 | false => rw [WH (h2.2 hc)]; rfl
 | true => rw [WG (fun h => by have:=h2.1 h; rw [hc] at this; cases this)]; rfl
theorem ZiH (k:Nat) (x:Int):ZfO k (x,()) = some (Qo x,()):=by
 show ZeA k _ = _
 simp only [ZeA]
 unfold Qo
 by_cases h:x ≤ -2147483648
 ·rw [Zc h,WH (.inl h)]
 ·rw [Zk h]
  by_cases h2:2147483648 ≤ x
  ·rw [WH h2,WH (.inr h2)]
  ·rw [WG h2,WG (by omega)]
theorem Zau (k:Nat) (c:List Int) (hk:c.length < k) (hn:c.length < 4294967296):Y5 k (c,(),()) = some (c.any Qo,()):=by
 show Zat k _ = _
 simp only [Zat]
 have key:∃ i:Int,ZcZ k (c,(),()) = some (i,()) ∧ (0 ≤ i ↔ c.any Qo = true):=by
  have:=WA (A:=Unit) (R:=Int × Unit) (step:=fun L1 => Ka k L1) (fun i _ => (Int.ofNat c.length,Int.ofNat i,c)) c
   (fun l _ => some (if l.any Qo then Int.ofNat (c.length - l.length + (l.takeWhile (fun x => !Qo x)).length) else -1,()))
   (fun L _ => by simp only [Ka]; rw [Zk (W2 _)]; rfl)
   (fun L i hi _ hL => by
    simp only [Ka]
    rw [Zc (ltR hi),Zc (inR hi),ZW hi,ZiH]
    simp only [Qq]
    have hlen:(List.drop (i + 1) c).length = c.length - (i + 1):=by simp
    cases hc:Qo c[i] with
    | false =>
     simp only [cond_false]
     rw [QZ hi (by omega),hL ()]
     simp only [List.any_cons,hc,Bool.false_or,List.takeWhile_cons,Bool.not_false,if_true,List.length_cons,hlen]
     split
     ·congr 3; omega
     ·rfl
    | true =>
     simp only [cond_true,List.any_cons,hc,Bool.true_or,if_true,List.takeWhile_cons,Bool.not_true,Bool.false_eq_true,if_false,List.length_cons,hlen,List.length_nil]
     congr 3; omega) k 0 () (by omega) (Nat.zero_le _)
  rw [List.drop_zero] at this
  refine ⟨_,this,?_⟩
  cases c.any Qo <;> simp
 obtain ⟨i,h1,h2⟩:=key
 rw [h1]
 simp only [Qq]
 cases hc:c.any Qo with
 | true => rw [WH (h2.2 hc)]
 | false => rw [WG (fun h => by have:=h2.1 h; rw [hc] at this; cases this)]
theorem Zo7 (k:Nat) (c:List Int) (sh:Int) (hk:10 < k):ZiN k ((c,sh,()),()) = some (if Zaa c sh then 0 else 2,()):=by
 show ZeM k _ = _
 simp only [ZeM]
 unfold Zaa
 by_cases h1:(8:Int) < Int.ofNat c.length
 ·simp only [QW] at h1
  rw [Zc (by simp only [QW]; omega),WG (by omega)]; rfl
 ·simp only [QW] at h1
  rw [Zk (by simp only [QW]; omega)]
  by_cases h2:sh < 0
  ·rw [Zc h2,WG (by omega)]; rfl
  ·rw [Zk h2]
   by_cases h3:15 < sh
   ·rw [Zc h3,WG (by omega)]; rfl
   ·rw [Zk h3,Ztm k c (by omega) (by omega),WH (by omega)]
    simp only [Qq]
    cases c.all Zcu <;> rfl
def ZLu (c a:List Int):Int:=Zjm ((c.zip a.reverse).map fun x => x.1 * x.2)
def Zcx (c:List Int) (sh:Int) (a:List Int):Int:=(ZLu c a).fdiv (2 ^ sh.toNat)
theorem ZAY {x y:Int} (hx : -2048 ≤ x ∧ x ≤ 2047) (hy : -2147483648 < y ∧ y < 2147483648) : -4398046511104 ≤ x * y ∧ x * y ≤ 4398046511104:=by
 have h1:(x * y).natAbs ≤ 2048 * 2147483648:=by
  rw [Int.natAbs_mul]
  exact Nat.mul_le_mul (by omega) (by omega)
 omega
theorem Zxw {l:List Int} {b:Int} (h:∀ x ∈ l,-b ≤ x ∧ x ≤ b) : -((l.length:Int) * b) ≤ Zjm l ∧ Zjm l ≤ (l.length:Int) * b:=by
 induction l with
 | nil => simp [Zjm]
 | cons x l ih =>
  have h1:=h x (List.mem_cons_self ..)
  have h2:=ih fun y hy => h y (List.mem_cons_of_mem _ hy)
  simp only [Zjm,List.length_cons]
  push_cast
  rw [Int.add_mul]
  omega
def ZxK (x:Int):Prop := -2048 ≤ x ∧ x ≤ 2047
def ZI (x:Int):Prop := -2147483648 < x ∧ x < 2147483648
theorem ZoA {c a:List Int} (hc:∀ x ∈ c,ZxK x) (ha:∀ x ∈ a,ZI x):∀ x ∈ (c.zip a.reverse).map fun x => x.1 * x.2,-4398046511104 ≤ x ∧ x ≤ 4398046511104:=by
 intro x hx
 obtain ⟨⟨u,v⟩,h,rfl⟩:=List.mem_map.1 hx
 exact ZAY (hc _ (List.of_mem_zip h).1) (ha _ (by simpa using (List.of_mem_zip h).2))
theorem ZwZ {x:Int} {b:Int} (p:Nat) (h : -b ≤ x ∧ x ≤ b) (hb:0 ≤ b) : -b ≤ x.fdiv (2 ^ p) ∧ x.fdiv (2 ^ p) ≤ b:=by
 have hp:(0:Int) < 2 ^ p:=Int.pow_pos (by omega)
 rw [Int.fdiv_eq_ediv_of_nonneg _ (by omega)]
 constructor
 ·rw [Int.le_ediv_iff_mul_le hp]
  have:b * 1 ≤ b * 2 ^ p:=Int.mul_le_mul_of_nonneg_left (by omega) hb
  rw [Int.neg_mul]
  omega
 ·by_cases hx:0 ≤ x
  ·exact Int.le_trans (Int.ediv_le_self _ hx) h.2
  ·have:x / 2 ^ p < 0:=Int.ediv_neg_of_neg_of_pos (by omega) hp
   omega
theorem ZjL {c a:List Int} {sh:Int} (hc:∀ x ∈ c,ZxK x) (ha:∀ x ∈ a,ZI x) (hl:c.length ≤ 8) : -35184372088832 ≤ Zcx c sh a ∧ Zcx c sh a ≤ 35184372088832:=by
 unfold Zcx ZLu
 have h1:=Zxw (ZoA hc ha)
 have h2:((c.zip a.reverse).map fun x => x.1 * x.2).length ≤ 8:=by simp; omega
 exact ZwZ _ (by omega) (by omega)
theorem Zo8 (k:Nat) {c a:List Int} {sh:Int} (hk:c.length < k) (hl:c.length ≤ 8) (hla:c.length ≤ a.length) (hn:a.length ≤ 4294967296) (hsh:0 ≤ sh ∧ sh ≤ 15) (hc:∀ x ∈ c,ZxK x) (ha:∀ x ∈ a,ZI x) :
  ZiO k ((c,sh,()),a,()) = some (Zcx c sh a,()):=by
 show ZeN k (ZkP k) _ = _
 simp only [ZeN]
 have hzl:(c.zip a.reverse).length = c.length:=by simp; omega
 have hterm:=ZoA hc ha
 have:=ZF (A:=Int) (step:=fun L1 => Zbs k L1) (fun i acc => (Int.ofNat c.length,Int.ofNat i,c,acc,a,c,sh)) (c.zip a.reverse)
  (fun l acc => some ((acc + Zjm (l.map fun x => x.1 * x.2)).fdiv (2 ^ sh.toNat),())) (fun i acc => -((i:Int) * 4398046511104) ≤ acc ∧ acc ≤ (i:Int) * 4398046511104)
  (fun L acc _ => by
   simp only [Zbs]
   rw [hzl,Zk (W2 _),Zc hsh.1,Nat.min_eq_left (by omega)]
   simp [Zjm])
  (fun L i hi acc hacc hL => by
   have hi2:i < c.length:=by omega
   have hi3:i < a.reverse.length:=by simp; omega
   simp only [Zbs]
   have e1:IntKind.i64.wrap (IntKind.i64.wrap (Int.ofNat a.length - 1) - Int.ofNat i) = ((a.length - 1 - i:Nat):Int):=by
    simp only [QW]
    rw [Qp (n:=(a.length:Int) - 1) (by omega),Qp (by omega)]; omega
   rw [Zc (ltR hi2),Zc (inR hi2),e1,Zc (by simp only [QW]; omega),ZW hi2,WS]
   have e2:a.getD (a.length - 1 - i) 0 = a.reverse[i]:=by
    rw [List.getElem_reverse,YZ (by omega)]
   rw [e2]
   have hz:(c.zip a.reverse)[i] = (c[i],a.reverse[i]):=by simp
   have ht:=hterm (c[i] * a.reverse[i]) (List.mem_map.2 ⟨(c[i],a.reverse[i]),by rw [← hz]; exact List.getElem_mem _,rfl⟩)
   have hi8:(i:Int) ≤ 8:=by omega
   rw [Qp (n:=c[i] * a.reverse[i]) (by omega),Qp (n:=acc + c[i] * a.reverse[i]) (by omega),QZ hi2 (by omega)]
   rw [hL _ ⟨by push_cast; omega,by push_cast; omega⟩,hz]
   simp only [List.map_cons,Zjm]
   rw [Int.add_assoc]) k 0 0 ⟨by omega,by omega⟩ (by omega) (Nat.zero_le _)
 refine Eq.trans this ?_
 rw [List.drop_zero,Int.zero_add]
 rfl
def ZnE (c:List Int) (sh:Int) (s:List Int) (i:Nat):Int:=s.getD i 0 - Zcx c sh (s.take i)
def ZnF (c:List Int) (sh:Int) (s:List Int):Nat → Nat → List Int
 | 0,_ => []
 | d + 1,i => ZnE c sh s i :: ZnF c sh s d (i + 1)
def XE (c:List Int) (sh:Int) (s:List Int):List Int:=ZnF c sh s (s.length - c.length) c.length
def QK (c:List Int) (sh:Int) (s:List Int):List Int × Int :=
 if Zaa c sh = false then ([],2) else if s.length < c.length then ([],1) else if s.any Qo then ([],12)
 else if (XE c sh s).any Qo then ([],12) else (XE c sh s,0)
theorem ZnG (c:List Int) (sh:Int) (s:List Int):∀ d i,(ZnF c sh s d i).length = d
 | 0,_ => rfl
 | d + 1,i => by simp [ZnF,ZnG c sh s d (i + 1)]
theorem ZdC {c:List Int} {sh:Int} (h:Zaa c sh = true):c.length ≤ 8 ∧ (0 ≤ sh ∧ sh ≤ 15) ∧ ∀ x ∈ c,ZxK x:=by
 unfold Zaa at h
 simp only [Bool.and_eq_true,decide_eq_true_eq] at h
 refine ⟨h.1.1,h.1.2,fun x hx => ?_⟩
 have:=List.all_eq_true.1 h.2 x hx
 unfold Zcu at this
 rw [decide_eq_true_eq] at this
 exact this
theorem YR {s:List Int} (h:s.any Qo = false):∀ x ∈ s,ZI x:=by
 intro x hx
 rw [List.any_eq_false] at h
 have:=h x hx
 unfold Qo at this
 simp only [decide_eq_true_eq] at this
 unfold ZI
 omega
theorem ZoW (k:Nat) (c:List Int) (sh:Int) (s:List Int) (hk:s.length + 10 < k) (hn:s.length ≤ 8192):ZiF k ((c,sh,()),s,()) = some (((QK c sh s).1,(QK c sh s).2,()),()):=by
 show Zey k (ZkE k) _ = _
 simp only [Zey]
 rw [Zo7 k c sh (by omega)]
 simp only [Qq]
 unfold QK
 cases hm:Zaa c sh with
 | false => simp only [Bool.false_eq_true,if_false,if_true]; rfl
 | true =>
  simp only [if_true,Bool.true_eq_false,if_false]
  rw [show ((0:Int) != (0:Int)) = false from rfl]
  simp only [cond_false,QW]
  by_cases hl:s.length < c.length
  ·rw [Zc (by omega),if_pos hl]
  ·rw [Zk (by omega),if_neg hl,Zau k s (by omega) (by omega)]
   simp only [Qq]
   cases hw:s.any Qo with
   | true => simp only [cond_true,if_true]
   | false =>
    simp only [cond_false,Bool.false_eq_true,if_false]
    obtain ⟨hc8,hsh,hcR⟩:=ZdC hm
    have hnar:=YR hw
    suffices H:∀ (d i m:Nat) (acc:List Int),i + d = s.length → c.length ≤ i → d < m → acc.length + d ≤ 8192 →
      Zs (fun L1 => Zbl k L1) m ((i:Int),s,c,sh,acc) = some (if (ZnF c sh s d i).any Qo then (([],12,()),()) else ((acc ++ ZnF c sh s d i,0,()),())) by
     have:=H (s.length - c.length) c.length k [] (by omega) (by omega) (by omega) (by simp; omega)
     refine Eq.trans this ?_
     unfold XE
     cases (ZnF c sh s (s.length - c.length) c.length).any Qo <;> simp
    intro d
    induction d with
    | zero =>
     intro i m acc hi hci hm _
     obtain ⟨m,rfl⟩:=Zv hm
     rw [Zj]
     simp only [Zbl]
     rw [Zk (by simp only [QW]; omega)]
     simp [ZnF]
    | succ d ih =>
     intro i m acc hi hci hm hacc
     obtain ⟨m,rfl⟩:=Zv (show 0 < m by omega)
     rw [Zj]
     simp only [Zbl]
     have hi2:i < s.length:=by omega
     rw [Zc (by simp only [QW]; omega),Zc (by simp only [QW]; omega),Zc (by simp only [QW]; omega),WS,List.drop_zero]
     have htl:(s.take i).length = i:=by simp; omega
     have htn:∀ x ∈ s.take i,ZI x:=fun x hx => hnar x (List.mem_of_mem_take hx)
     rw [Zo8 k (by omega) hc8 (by omega) (by omega) hsh hcR htn]
     simp only [Qq]
     have hpb:=ZjL (sh:=sh) hcR htn hc8
     have hsi:s.getD i 0 = s[i]:=YZ hi2
     have hsn:=hnar s[i] (List.getElem_mem hi2)
     unfold ZI at hsn
     have e1:IntKind.i64.wrap (s.getD i 0 - Zcx c sh (s.take i)) = ZnE c sh s i:=by unfold ZnE; rw [hsi]; exact Qp (by omega)
     rw [e1,ZiH]
     simp only [Qq,ZnF,List.any_cons]
     by_cases hwi:Qo (ZnE c sh s i) = true
     ·simp only [hwi,cond_true,Bool.true_or,if_true]
     ·have hwi:Qo (ZnE c sh s i) = false:=by simpa using hwi
      simp only [hwi,cond_false,Bool.false_or]
      rw [Zc (by simp; omega),show IntKind.i64.wrap ((i:Int) + 1) = ((i + 1:Nat):Int) from by rw [Qp (by omega)]; omega]
      rw [ih (i + 1) m _ (by omega) (by omega) (by omega) (by simp; omega)]
      simp
def KA (c:List Int) (sh:Int) (s:List Int):Int × Int:=(Zjm ((QK c sh s).1.map fun x => (x.natAbs:Int)),(QK c sh s).2)
theorem XU (c:List Int) (sh:Int) (s:List Int):∀ x ∈ (QK c sh s).1,ZI x:=by
 unfold QK
 split
 ·simp
 ·split
  ·simp
  ·split
   ·simp
   ·split
    ·simp
    ·rename_i h
     exact YR (by simpa using h)
theorem Zxl (c:List Int) (sh:Int) (s:List Int):(QK c sh s).1.length ≤ s.length:=by
 unfold QK
 split
 ·simp
 ·split
  ·simp
  ·split
   ·simp
   ·split
    ·simp
    ·simp [XE,ZnG]
theorem Zo0 (k:Nat) (c:List Int) (sh:Int) (s:List Int) (hk:s.length + 10 < k) (hn:s.length ≤ 8192):ZiI k ((c,sh,()),s,()) = some (((KA c sh s).1,(KA c sh s).2,()),()):=by
 show ZeB k (ZkI k) _ = _
 simp only [ZeB]
 rw [ZoW k c sh s hk hn]
 simp only [Qq]
 have hnar:=XU c sh s
 have hlen:=Zxl c sh s
 unfold KA
 generalize (QK c sh s).2 = e
 generalize (QK c sh s).1 = l at hnar hlen
 have:=ZF (A:=Int) (step:=fun L1 => Zbn k L1) (fun i acc => (Int.ofNat l.length,Int.ofNat i,l,acc,e)) l
  (fun l' acc => some ((acc + Zjm (l'.map fun x => (x.natAbs:Int)),e,()),())) (fun i acc => 0 ≤ acc ∧ acc ≤ (i:Int) * 2147483648)
  (fun L acc _ => by simp only [Zbn]; rw [Zk (W2 _)]; simp [Zjm])
  (fun L i hi acc hacc hL => by
   have hx:=hnar l[i] (List.getElem_mem hi)
   unfold ZI at hx
   simp only [Zbn]
   rw [Zc (ltR hi),Zc (inR hi),ZW hi,QZ hi (by omega),Qp (n:=0 - l[i]) (by omega)]
   have e1:(if l[i] < 0 - l[i] then 0 - l[i] else l[i]) = (l[i].natAbs:Int):=by split <;> omega
   have hi8:(i:Int) ≤ 8192:=by omega
   rw [e1,Qp (n:=acc + (l[i].natAbs:Int)) (by omega),hL _ ⟨by omega,by push_cast; omega⟩]
   simp only [List.map_cons,Zjm]
   rw [Int.add_assoc]) k 0 0 ⟨by omega,by omega⟩ (by omega) (Nat.zero_le _)
 exact Eq.trans this (by rw [List.drop_zero,Int.zero_add])
def Xh (o:Nat):List Int:=match o with
 | 1 => [1]
 | 2 => [2,-1]
 | 3 => [3,-3,1]
 | 4 => [4,-6,4,-1]
 | _ => []
theorem Zip (k:Nat) (o:Nat) (ho:o ≤ 4) (hk:20 < k):ZcT k ((o:Int),()) = some (((Xh o,0,()),0,()),()):=by
 obtain ⟨k,rfl⟩:∃ m,k = m + 20:=⟨k - 20,by omega⟩
 match o,ho with
 | 0,_ => rfl
 | 1,_ => rfl
 | 2,_ => rfl
 | 3,_ => rfl
 | 4,_ => rfl
def WK (o:Nat):List Int:=match o with
 | 2 => [32,-16]
 | 4 => [64,-96,64,-16]
 | 8 => [64,-96,64,-16,0,0,0,0]
 | _ => []
theorem ZAk (k:Nat) (o:Nat) (ho:o = 2 ∨ o = 4 ∨ o = 8) (hk:40 < k):Zmb k ((o:Int),()) = some ((WK o,4,()),()):=by
 obtain ⟨k,rfl⟩:∃ m,k = m + 40:=⟨k - 40,by omega⟩
 rcases ho with rfl | rfl | rfl
 ·rfl
 ·rfl
 ·rfl
abbrev Mdl:=List Int × Int × Bool
def ZjN (s:List Int) (by_:Int) (j:Nat) (M:Mdl):Mdl :=
 if (KA (M.1.set j (M.1.getD j 0 + by_)) 4 s).2 = 0 ∧ (M.2.2 = false ∨ (KA (M.1.set j (M.1.getD j 0 + by_)) 4 s).1 < M.2.1)
 then (M.1.set j (M.1.getD j 0 + by_),(KA (M.1.set j (M.1.getD j 0 + by_)) 4 s).1,true) else M
def Zs2 (s:List Int) (st:Int) (j:Nat) (M:Mdl):Mdl:=ZjN s (-st) j (ZjN s st j M)
def Zvi (s:List Int) (st:Int):Nat → Nat → Mdl → Mdl
 | 0,_,M => M
 | d + 1,j,M => Zvi s st d (j + 1) (Zs2 s st j M)
def Zvj (s:List Int) (st:Int) (o:Nat) (M:Mdl):Mdl:=Zvi s st o 0 M
def ZHT (s:List Int) (o:Nat):Mdl:=Zvj s 1 o (Zvj s 2 o (Zvj s 4 o (Zvj s 8 o (WK o,(KA (WK o) 4 s).1,(KA (WK o) 4 s).2 == 0))))
def ZaO (s:List Int) (o:Nat):List Int:=(ZHT s o).1
structure MOk (o:Nat) (b:Int) (M:Mdl):Prop where
 len:M.1.length = o
 bd:∀ x ∈ M.1,-b ≤ x ∧ x ≤ b
theorem ZnQ {s:List Int} {o:Nat} {b by_:Int} {j:Nat} {M:Mdl} (h:MOk o b M) (hj:j < o) (hby : -8 ≤ by_ ∧ by_ ≤ 8):MOk o (b + 8) (ZjN s by_ j M):=by
 unfold ZjN
 split
 ·refine ⟨by simp [h.len],fun x hx => ?_⟩
  have hg:M.1.getD j 0 ∈ M.1:=by rw [YZ (by rw [h.len]; exact hj)]; exact List.getElem_mem _
  rcases List.mem_or_eq_of_mem_set hx with hx | rfl
  ·have:=h.bd x hx; omega
  ·have:=h.bd _ hg; omega
 ·exact ⟨h.len,fun x hx => by have:=h.bd x hx; omega⟩
theorem Zs3 {s:List Int} {o:Nat} {b st:Int} {j:Nat} {M:Mdl} (h:MOk o b M) (hj:j < o) (hst : -8 ≤ st ∧ st ≤ 8):MOk o (b + 16) (Zs2 s st j M):=by
 have:=ZnQ (s:=s) (ZnQ (s:=s) h hj hst) hj (by_ := -st) (by omega)
 rw [show b + 8 + 8 = b + 16 by omega] at this
 exact this
theorem ZyS {s:List Int} {o:Nat} {st:Int} (hst : -8 ≤ st ∧ st ≤ 8):∀ (d j:Nat) (b:Int) (M:Mdl),MOk o b M → j + d ≤ o → MOk o (b + 16 * (d:Int)) (Zvi s st d j M)
 | 0,j,b,M,h,_ => by simpa [Zvi] using h
 | d + 1,j,b,M,h,hj => by
  simp only [Zvi]
  have hb:=Zs3 (s:=s) (j:=j) (st:=st) h (show j < o by omega) hst
  have:=ZyS (s:=s) hst d (j + 1) (b + 16) _ hb (show j + 1 + d ≤ o by omega)
  refine ⟨this.len,fun x hx => ?_⟩
  have:=this.bd x hx
  push_cast
  omega
theorem Zcl {s:List Int} {o:Nat} {st b:Int} (hst : -8 ≤ st ∧ st ≤ 8) (ho:o ≤ 8) {M:Mdl} (h:MOk o b M):MOk o (b + 128) (Zvj s st o M):=by
 have:=ZyS (s:=s) hst o 0 b M h (by omega)
 refine ⟨this.len,fun x hx => ?_⟩
 have:=this.bd x hx
 omega
theorem ZzE (k:Nat) (s:List Int) (hk:s.length + 20 < k) (hn:s.length ≤ 8192) (L1:Int × Int × List Int × Bool × Int × List Int × Int × Int → Option (((List Int × Int × Unit) × Int × Unit) × Unit)) (L2:Int × Int × Int × List Int × Bool × Int × Int × List Int × Int × Int → Option (((List Int × Int × Unit) × Int × Unit) × Unit))
  {o j:Nat} {st:Int} {M:Mdl} {v13:Int} (hM:MOk o 1000 M) (hj:j < o) (ho:o ≤ 8) (hst:0 ≤ st ∧ st ≤ 8) :
  Zd9 k L1 L2 (0,st,IntKind.i64.wrap (0 - st),(j:Int),s,M.2.2,M.2.1,(j:Int),(o:Int),st,(o:Int),M.1,4,v13) =
   L2 ((o:Int),((j + 1:Nat):Int),st,s,(Zs2 s st j M).2.2,(Zs2 s st j M).2.1,(o:Int),(Zs2 s st j M).1,4,v13):=by
 obtain ⟨k,rfl⟩:∃ m,k = m + 3:=⟨k - 3,by omega⟩
 have e0:IntKind.i64.wrap (0 - st) = -st:=by rw [Qp (by omega)]; omega
 rw [e0]
 have one:∀ (i:Nat) (by_:Int) (L3:Int × Int × Int × Int × List Int × Bool × Int × Int × Int × Int × Int × List Int × Int × Int → Option (((List Int × Int × Unit) × Int × Unit) × Unit)) (M:Mdl),i < 2 → [st,-st].getD i 0 = by_ → -8 ≤ by_ ∧ by_ ≤ 8 → MOk o 1008 M →
   YH (k + 3) L1 L2 L3 ((i:Int),st,-st,(j:Int),s,M.2.2,M.2.1,(j:Int),(o:Int),st,(o:Int),M.1,4,v13) =
    L3 (((i + 1:Nat):Int),st,-st,(j:Int),s,(ZjN s by_ j M).2.2,(ZjN s by_ j M).2.1,(j:Int),(o:Int),st,(o:Int),(ZjN s by_ j M).1,4,v13):=by
  intro i by_ L3 M hi hg hb hM
  simp only [YH]
  rw [Zc (by omega),Zc (by omega)]
  have hl:=hM.len
  rw [show ZiJ (k + 3) (M.1,()) = some (M.1,()) from by show Kt _ = _; unfold Kt; rw [Zc (by rw [hl]; omega)]]
  simp only [Qq,WS,QW]
  rw [Zc (by omega),Zc (by omega),Zc (by omega),Zc (by omega),hg]
  have hx:=hM.bd (M.1.getD j 0) (by rw [YZ (by omega)]; exact List.getElem_mem _)
  rw [Qp (n:=M.1.getD j 0 + by_) (by omega),Zo0 (k + 3) _ 4 s (by omega) hn]
  simp only [Qq]
  rw [show IntKind.i64.wrap ((i:Int) + 1) = ((i + 1:Nat):Int) from by rw [Qp (by omega)]; omega]
  unfold ZjN
  rw [ZP]
  by_cases h1:(KA (M.1.set j (M.1.getD j 0 + by_)) 4 s).2 = 0
  ·rw [Zc h1]
   cases h2:M.2.2 with
   | false => rw [if_pos ⟨h1,.inl rfl⟩]; rfl
   | true =>
    simp only [Bool.not_true,cond_false]
    by_cases h3:(KA (M.1.set j (M.1.getD j 0 + by_)) 4 s).1 < M.2.1
    ·rw [Zc h3,if_pos ⟨h1,.inr h3⟩]
    ·rw [Zk h3,if_neg (by rintro ⟨_,h | h⟩; cases h; exact h3 h),h2]
  ·rw [Zk h1,if_neg (fun h => h1 h.1)]
 show Zs (fun L3 => YH (k + 3) L1 L2 L3) (k + 3) ((0:Nat),st,-st,(j:Int),s,M.2.2,M.2.1,(j:Int),(o:Int),st,(o:Int),M.1,4,v13) = _
 rw [Zj,one 0 st _ M (by omega) rfl (by omega) ⟨hM.len,fun x hx => by have:=hM.bd x hx; omega⟩]
 have h2:=ZnQ (s:=s) hM hj (by_:=st) (by omega)
 rw [Zj,one 1 (-st) _ _ (by omega) rfl (by omega) h2,Zj]
 simp only [YH]
 rw [Zk (by omega),show IntKind.i64.wrap ((j:Int) + 1) = ((j + 1:Nat):Int) from by rw [Qp (by omega)]; omega]
 rfl
theorem ZB8 (k:Nat) (s:List Int) (hk:s.length + 20 < k) (hn:s.length ≤ 8192) (L1:Int × Int × List Int × Bool × Int × List Int × Int × Int → Option (((List Int × Int × Unit) × Int × Unit) × Unit))
  {o:Nat} {st:Int} {v9:Int} (ho:o ≤ 8) (hst:0 ≤ st ∧ st ≤ 8):∀ (d j m:Nat) (b:Int) (M:Mdl),j + d = o → d < m → MOk o b M → b + 16 * (d:Int) ≤ 1000 →
  Zs (fun L2 => KQ k (Zd9 k L1 L2) L1 L2) m ((o:Int),(j:Int),st,s,M.2.2,M.2.1,(o:Int),M.1,4,v9) =
   L1 (IntKind.i64.wrap (st.tdiv 2),(o:Int),s,(Zvi s st d j M).2.2,(Zvi s st d j M).2.1,(Zvi s st d j M).1,4,v9):=by
 intro d
 induction d with
 | zero =>
  intro j m b M hj hm hM hb
  obtain ⟨m,rfl⟩:=Zv hm
  rw [Zj]
  simp only [KQ]
  rw [Zk (by omega)]
  rfl
 | succ d ih =>
  intro j m b M hj hm hM hb
  obtain ⟨m,rfl⟩:=Zv (show 0 < m by omega)
  rw [Zj]
  simp only [KQ]
  rw [Zc (by omega)]
  rw [ZzE k s hk hn L1 _ (M:=M) ⟨hM.len,fun x hx => by have:=hM.bd x hx; omega⟩ (by omega) ho hst]
  rw [ih (j + 1) m (b + 16) _ (by omega) (by omega) (Zs3 hM (by omega) (by omega)) (by push_cast at hb; omega)]
  rfl
theorem ZzI (k:Nat) (s:List Int) (o:Nat) (ho:o = 2 ∨ o = 4 ∨ o = 8) (hos:o ≤ s.length) (hs:∀ x ∈ s,ZI x) (hk:s.length + 60 < k) (hn:s.length ≤ 8192) :
  ZlS k (s,(o:Int),()) = some (((ZaO s o,4,()),0,()),()):=by
 show Zea k (Zkg k) _ = _
 simp only [Zea]
 have hw:s.any Qo = false:=by
  rw [List.any_eq_false]
  intro x hx
  have:=hs x hx
  unfold ZI at this
  unfold Qo
  simp only [decide_eq_true_eq]
  omega
 rw [Zk (by omega),Zk (by omega),Zk (by simp only [QW]; omega),Zau k s (by omega) (by omega),hw]
 simp only [Qq,cond_false]
 rw [ZAk k o ho (by omega)]
 simp only [Qq]
 rw [Zo0 k _ 4 s (by omega) hn]
 simp only [Qq]
 have hM0:MOk o 96 (WK o,(KA (WK o) 4 s).1,(KA (WK o) 4 s).2 == 0):=by
  rcases ho with rfl | rfl | rfl
  ·exact ⟨rfl,show ∀ x ∈ WK 2,-96 ≤ x ∧ x ≤ 96 by decide⟩
  ·exact ⟨rfl,show ∀ x ∈ WK 4,-96 ≤ x ∧ x ≤ 96 by decide⟩
  ·exact ⟨rfl,show ∀ x ∈ WK 8,-96 ≤ x ∧ x ≤ 96 by decide⟩
 have ho8:o ≤ 8:=by omega
 have h1:=Zcl (s:=s) (st:=8) (by omega) ho8 hM0
 have h2:=Zcl (s:=s) (st:=4) (by omega) ho8 h1
 have h3:=Zcl (s:=s) (st:=2) (by omega) ho8 h2
 obtain ⟨k',rfl⟩:∃ m,k = m + 5:=⟨k - 5,by omega⟩
 have row:∀ (L1:Int × Int × List Int × Bool × Int × List Int × Int × Int → Option (((List Int × Int × Unit) × Int × Unit) × Unit)) (st:Int) (b:Int) (M:Mdl),0 < st → st ≤ 8 → MOk o b M → b + 128 ≤ 1000 →
   KP (k' + 5) (ZgH (k' + 5) L1) L1 (st,(o:Int),s,M.2.2,M.2.1,M.1,4,0) = L1 (IntKind.i64.wrap (st.tdiv 2),(o:Int),s,(Zvj s st o M).2.2,(Zvj s st o M).2.1,(Zvj s st o M).1,4,0):=by
  intro L1 st b M h0 h8 hM hb
  simp only [KP]
  rw [Zc h0]
  exact ZB8 (k' + 5) s (by omega) hn L1 ho8 (by omega) o 0 (k' + 5) b M (by omega) (by omega) hM (by omega)
 show Zs (fun L1 => KP (k' + 5) (ZgH (k' + 5) L1) L1) (k' + 5) _ = _
 rw [Zj]
 refine (row _ 8 96 (WK o,(KA (WK o) 4 s).1,(KA (WK o) 4 s).2 == 0) (by omega) (by omega) hM0 (by omega)).trans ?_
 rw [show IntKind.i64.wrap ((8:Int).tdiv 2) = 4 from by decide,Zj]
 refine (row _ 4 _ _ (by omega) (by omega) h1 (by omega)).trans ?_
 rw [show IntKind.i64.wrap ((4:Int).tdiv 2) = 2 from by decide,Zj]
 refine (row _ 2 _ _ (by omega) (by omega) h2 (by omega)).trans ?_
 rw [show IntKind.i64.wrap ((2:Int).tdiv 2) = 1 from by decide,Zj]
 refine (row _ 1 _ _ (by omega) (by omega) h3 (by omega)).trans ?_
 rw [show IntKind.i64.wrap ((1:Int).tdiv 2) = 0 from by decide,Zj]
 simp only [KP]
 rw [Zk (by omega)]
 rfl
theorem Zga (s:List Int) (o:Nat) (ho:o = 2 ∨ o = 4 ∨ o = 8):(ZaO s o).length = o ∧ ∀ x ∈ ZaO s o,-1000 ≤ x ∧ x ≤ 1000:=by
 have hM0:MOk o 96 (WK o,(KA (WK o) 4 s).1,(KA (WK o) 4 s).2 == 0):=by
  rcases ho with rfl | rfl | rfl
  ·exact ⟨rfl,show ∀ x ∈ WK 2,-96 ≤ x ∧ x ≤ 96 by decide⟩
  ·exact ⟨rfl,show ∀ x ∈ WK 4,-96 ≤ x ∧ x ≤ 96 by decide⟩
  ·exact ⟨rfl,show ∀ x ∈ WK 8,-96 ≤ x ∧ x ≤ 96 by decide⟩
 have ho8:o ≤ 8:=by omega
 have h:=Zcl (s:=s) (st:=1) (by omega) ho8 (Zcl (s:=s) (st:=2) (by omega) ho8 (Zcl (s:=s) (st:=4) (by omega) ho8 (Zcl (s:=s) (st:=8) (by omega) ho8 hM0)))
 exact ⟨h.len,fun x hx => by have:=h.bd x hx; omega⟩
end Go.Sh
