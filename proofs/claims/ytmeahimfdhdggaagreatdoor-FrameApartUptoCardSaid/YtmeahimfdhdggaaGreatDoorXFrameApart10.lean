/-
  What the row needs, part 10.
-/
import Derived.Test.YtmeahimfdhdggaaGreatDoorXFrameApart9
import Derived.IntWalk
set_option linter.unusedSimpArgs false
set_option linter.unusedVariables false
set_option linter.unusedSectionVars false
open BitVec renaming ofInt→UJ,ofNat→Hj,toNat_ofNat→Hk,ofInt_natCast→HB,toNat_and→HC
open Bool renaming false_eq_true→JJ,not_true→Hl,and_eq_true→Jh,eq_iff_iff→HD,true_eq_false→HE
open Eq renaming trans→U8
open Go.FloatKind renaming f64→Je
open Int renaming ofNat→UI,pow_pos→U6,compare_eq_lt→Hm,emod_nonneg→Hn,fdiv_eq_ediv_of_nonneg→Ho,le_of_lt→Hp,min_le_left→Hq,min_le_right→Hr,mul_sub→Hs,natAbs_mul→Ht,natCast_mul→Hu,neg_neg→Hv,compare_eq_gt→HF,mul_lt_mul_of_pos_right→HG,mul_neg_of_neg_of_pos→HH,toNat_of_nonneg→HI
open Go.IntKind renaming i64→Jx,u64→UK,u8→UM
open List renaming replicate→Jd,getElem_mem→U5,drop_zero→U9,length_cons→JF,mem_map→VG,of_mem_zip→Vy,all_eq_true→Vf,drop→UO,takeWhile_cons→Hf,all_cons→UA,any_cons→Hw,getD_eq_getElem?_getD→VS,mem_cons_of_mem→Jn,mem_cons_self→Jm,any_eq_false→Uk,append_assoc→Ju,append_nil→Vg,drop_eq_getElem_cons→Ul,drop_length→HJ,ext_getElem→HK,foldl_cons→HL,getElem_set→HM,length_nil→HN,length_singleton→Us
open Nat renaming pow_pos→U2,pow_add→U3,min_eq_left→U4,zero_le→UU,mod_lt→U7,add_sub_cancel→Ha,mul_assoc→Hb,mul_lt_mul_of_pos_right→Hc,pow_le_pow_right→Hd,shiftLeft_eq→He,div_eq_of_lt→Hg,shiftLeft_zero→Hh,xor_lt_two_pow→Hi,and_two_pow_sub_one_eq_mod→Hx,log2_eq_iff→Hy,mul_comm→Ua,pow_succ→Hz,pow_zero→HA,and_one_is_mod→HO,div_div_eq_div_mul→HP,lt_of_lt_of_le→V0,mul_le_mul_right→Jk,one_shiftLeft→HQ,testBit_mod_two_pow→HR
namespace Go.Sh
open Go
theorem Xb (n:Nat):UI n = (n:Int):=rfl
theorem Qt {α β:Type} (a:α) (f:α → Option β):(some a).bind f = f a:=rfl
theorem WV (n:Nat):((n:Int)).toNat = n:=rfl
theorem XH {α:Type} {as0 bs0:List α}:(as0 ++ bs0).length = as0.length + bs0.length:=List.length_append
theorem dFa {p:Prop} [inst:Decidable p] (h:¬p):decide p = false:=decide_eq_false h
theorem dTr {p:Prop} [inst:Decidable p] (h:p):decide p = true:=decide_eq_true h
theorem Qk {n:Int} (h : -9223372036854775808 ≤ n ∧ n ≤ 9223372036854775807):Jx.wrap n = n:=IntWalk.i64_in n h
theorem wu8 {n:Int} (h:0 ≤ n ∧ n ≤ 255):UM.wrap n = n:=IntWalk.u8_in n h
theorem Ze {V R:Type} (step:(V → Option R) → V → Option R) (n:Nat) (v:V):Zn step (n + 1) v = step (Zn step n) v:=rfl
theorem Zq {a k:Nat} (h:a < k):∃ m,k = m + 1:=⟨k - 1,by omega⟩
theorem toList_eq (s:ByteArray):s.toList = s.data.toList:=ByteArray.toList_eq s
theorem ZGS {a b:ByteArray} (h:a.data.toList = b.data.toList):a = b:=ByteArray.ext (Array.toList_inj.1 h)
theorem Zmq {a b:ByteArray}:a.toList = b.toList ↔ a = b:=by
 rw [toList_eq,toList_eq]
 exact ⟨ZGS,fun h => by rw [h]⟩
theorem ZGR (a b:ByteArray):(a.toList == b.toList) = decide (a = b):=by
 rw [HD]; simp [Zmq]
theorem Zc {p:Prop} [Decidable p] {α:Type} {a b:α} (h:p):(bif decide p then a else b) = a:=by simp [h]
theorem Zr {p:Prop} [Decidable p] {α:Type} {a b:α} (h:¬ p):(bif decide p then a else b) = b:=by simp [h]
theorem ZP (a b:Int):(a == b) = decide (a = b):=rfl
theorem ZR (a b:Int):(a != b) = decide (¬ a = b):=by rw [bne,ZP]; simp
theorem K2 {α:Type} {l:List α} {i:Nat} {d:α} (h:i < l.length):l.getD i d = l[i]:=by
 simp [VS,h]
end Go.Sh
namespace Go.Sh
open Go
theorem Wv {V R α A:Type} {step:(V → Option R) → V → Option R} (at_:Nat → A → V) (xs:List α) (G:List α → A → Option R)
  (h0:∀ L a,step L (at_ xs.length a) = G [] a)
  (h1:∀ L i (hi:i < xs.length) a,(∀ a',L (at_ (i + 1) a') = G (xs.drop (i + 1)) a') → step L (at_ i a) = G (xs[i] :: xs.drop (i + 1)) a) :
  ∀ k i a,xs.length < k + i → i ≤ xs.length → Zn step k (at_ i a) = G (xs.drop i) a
 | 0,i,a,hk,hi => by omega
 | k + 1,i,a,hk,hi => by
  rw [Ze]
  by_cases he:i = xs.length
  ·subst he
   rw [h0,HJ]
  ·have hi':i < xs.length:=by omega
   rw [h1 _ i hi' a fun a' => Wv at_ xs G h0 h1 k (i + 1) a' (by omega) hi',Ul hi']
theorem ZC {V R α A:Type} {step:(V → Option R) → V → Option R} (at_:Nat → A → V) (xs:List α) (G:List α → A → Option R) (I:Nat → A → Prop)
  (h0:∀ L a,I xs.length a → step L (at_ xs.length a) = G [] a)
  (h1:∀ L i (hi:i < xs.length) a,I i a → (∀ a',I (i + 1) a' → L (at_ (i + 1) a') = G (xs.drop (i + 1)) a') → step L (at_ i a) = G (xs[i] :: xs.drop (i + 1)) a) :
  ∀ k i a,I i a → xs.length < k + i → i ≤ xs.length → Zn step k (at_ i a) = G (xs.drop i) a
 | 0,i,a,_,hk,hi => by omega
 | k + 1,i,a,hI,hk,hi => by
  rw [Ze]
  by_cases he:i = xs.length
  ·subst he
   rw [h0 _ _ hI,HJ]
  ·have hi':i < xs.length:=by omega
   rw [h1 _ i hi' a hI fun a' ha' => ZC at_ xs G I h0 h1 k (i + 1) a' ha' (by omega) hi',Ul hi']
theorem ZhK {V R α:Type} {step:(V → Option R) → V → Option R} (at_:Nat → V) (xs:List α) (p:α → Bool) (out last:Option R)
  (h0:∀ L,step L (at_ xs.length) = last)
  (h1:∀ L i (hi:i < xs.length),step L (at_ i) = bif p xs[i] then L (at_ (i + 1)) else out)
  (k:Nat) (hk:xs.length < k):Zn step k (at_ 0) = bif xs.all p then last else out:=by
 have:=Wv (A:=Unit) (fun i _ => at_ i) xs (fun l _ => bif l.all p then last else out) (fun L _ => h0 L) (fun L i hi _ hL => by
  rw [h1 L i hi,hL ()]
  simp only [UA]
  cases p xs[i] <;> rfl) k 0 () (by omega) (UU _)
 simpa using this
theorem ZQ {α:Type} {l:List α} {i:Nat} {d:α} (h:i < l.length):l.getD (Int.toNat (UI i)) d = l[i]:=by
 simp [VS,h]
theorem Q1 {i n:Nat} (h:i < n) (hn:n ≤ 4294967296):Jx.wrap (UI i + 1) = UI (i + 1):=by
 rw [Qk (by simp only [Xb]; omega)]; rfl
theorem inR {i n:Nat} (h:i < n):(0:Int) ≤ UI i ∧ UI i < UI n:=by simp only [Xb]; omega
theorem ltR {i n:Nat} (h:i < n):UI i < UI n:=by simp only [Xb]; omega
theorem ZeL (n:Nat):¬ UI n < UI n:=by simp only [Xb]; omega
end Go.Sh
namespace Go.Sh
open Go Go.Proofs
def Za (n:Nat):Nat → List Bool
 | 0 => []
 | w + 1 => n.testBit w :: Za n w
theorem Zk (n:Nat):∀ w,(Za n w).length = w
 | 0 => rfl
 | w + 1 => by simp [Za,Zk n w]
def Yk (f:Nat → Bool):Nat:=(f 0).toNat * 128 + (f 1).toNat * 64 + (f 2).toNat * 32 + (f 3).toNat * 16 + (f 4).toNat * 8 + (f 5).toNat * 4 + (f 6).toNat * 2 + (f 7).toNat
def QX (bs:List Bool) (i:Nat):Nat:=Yk fun j => bs.getD (8 * i + j) false
def ZK (bs:List Bool):List Int:=(List.range ((bs.length + 7) / 8)).map fun i => ((QX bs i:Nat):Int)
theorem Z9 (bs:List Bool):(ZK bs).length = (bs.length + 7) / 8:=by simp [ZK]
theorem XB {bs:List Bool} {i:Nat} (h:i < (ZK bs).length):(ZK bs)[i] = ((QX bs i:Nat):Int):=by simp [ZK]
theorem ZqK (f:Nat → Bool):Yk f < 256:=by
 unfold Yk
 cases f 0 <;> cases f 1 <;> cases f 2 <;> cases f 3 <;> cases f 4 <;> cases f 5 <;> cases f 6 <;> cases f 7 <;> decide
abbrev wst (bs:List Bool):List Int × Int × Unit:=(ZK bs,(bs.length:Int),())
def orB (v:Int) (r:Nat) (x:Int):Int:=UM.wrap (UI (UJ 8 v ||| UJ 8 (UM.wrap (Jx.wrap (x * (2:Int) ^ min (7 - r) 64)))).toNat)
theorem ZFx:∀ (r:Fin 8) (v:Fin 256) (c:Bool),v.val % 2 ^ (8 - r.val) = 0 → orB (v.val:Int) r.val (if c then 1 else 0) = ((v.val + c.toNat * 2 ^ (7 - r.val):Nat):Int):=by
 decide +kernel
theorem Zxl {f:Nat → Bool} {r:Nat} (hr:r < 8) (hf:∀ j,r ≤ j → f j = false):Yk f % 2 ^ (8 - r) = 0:=by
 unfold Yk
 grind
theorem Zxm {f:Nat → Bool} {r:Nat} (hr:r < 8) (hf:f r = false) (c:Bool):Yk (fun j => if j = r then c else f j) = Yk f + c.toNat * 2 ^ (7 - r):=by
 unfold Yk
 grind
theorem Zj4 {bs:List Bool} (c:Bool) {i:Nat} (h:8 * i + 8 ≤ bs.length):QX (bs ++ [c]) i = QX bs i:=by
 unfold QX Yk
 grind
theorem Zj3 {bs:List Bool} (c:Bool) {i r:Nat} (hr:r < 8) (h:bs.length = 8 * i + r):QX (bs ++ [c]) i = QX bs i + c.toNat * 2 ^ (7 - r):=by
 have h2:(bs.getD (8 * i + r) false) = false:=by simp_all
 unfold QX
 rw [← Zxm (f:=fun j => bs.getD (8 * i + j) false) hr h2 c]
 grind
theorem Ztv {bs:List Bool} {i r:Nat} (hr:r < 8) (h:bs.length = 8 * i + r):QX bs i % 2 ^ (8 - r) = 0:=by
 refine Zxl hr fun j hj => ?_
 simp_all
theorem Zn0 (n:Nat):((n:Int)).tdiv 8 = ((n / 8:Nat):Int):=by rfl
theorem ZGJ (n:Nat):((n:Int)).tmod 8 = ((n % 8:Nat):Int):=by rfl
theorem ZmC {bs:List Bool} (c:Bool) {q r:Nat} (hr:r < 8) (h0:r ≠ 0) (h:bs.length = 8 * q + r) :
  ZK (bs ++ [c]) = (ZK bs).set q ((QX bs q + c.toNat * 2 ^ (7 - r):Nat):Int):=by
 have hl1:(ZK bs).length = q + 1:=by rw [Z9]; omega
 have hl2:(ZK (bs ++ [c])).length = q + 1:=by rw [Z9,XH,Us]; omega
 apply HK
 ·rw [List.length_set,hl1,hl2]
 ·intro i h1 h2
  rw [XB,HM]
  split
  ·rename_i e; subst e; rw [Zj3 c hr h]
  ·rw [XB,Zj4 c (by omega)]
theorem ZmB {bs:List Bool} (c:Bool) {q:Nat} (h:bs.length = 8 * q) :
  ZK (bs ++ [c]) = (ZK bs ++ [0]).set q ((c.toNat * 2 ^ 7:Nat):Int):=by
 have hl1:(ZK bs).length = q:=by rw [Z9]; omega
 have hl2:(ZK (bs ++ [c])).length = q + 1:=by rw [Z9,XH,Us]; omega
 have hz:QX bs q = 0:=by
  unfold QX Yk
  simp_all
 apply HK
 ·simp_all
 ·intro i h1 h2
  rw [XB,HM]
  split
  ·rename_i e; subst e
   rw [Zj3 c (r:=0) (by omega) (by omega),hz]; simp
  ·rw [List.getElem_append_left (by omega),XB,Zj4 c (by omega)]
theorem ZgI (k:Nat) (bs:List Bool) (hb:bs.length < 4294967296) (x:Int) (c:Bool) (hx:x = if c then 1 else 0):Zkn k (wst bs,x,()) = some ((),wst (bs ++ [c]),()):=by
 show ZgH k _ = _
 obtain ⟨q,r,hr,hq⟩:∃ q r,r < 8 ∧ bs.length = 8 * q + r:=⟨bs.length / 8,bs.length % 8,U7 _ (by omega),by omega⟩
 have e1:Jx.wrap (((bs.length:Nat):Int).tdiv 8) = ((q:Nat):Int):=by rw [Zn0,Qk (by omega)]; omega
 have e2:((bs.length:Nat):Int).tmod 8 = ((r:Nat):Int):=by rw [ZGJ]; omega
 have e3:Jx.wrap ((7:Int) - (r:Int)) = ((7 - r:Nat):Int):=by rw [Qk (by omega)]; omega
 have e4:Jx.wrap (((bs.length:Nat):Int) + 1) = (((bs ++ [c]).length:Nat):Int):=by rw [Qk (by omega),XH]; simp
 have e5:∀ v:Nat,v < 256 → v % 2 ^ (8 - r) = 0 → UM.wrap (UI (UJ 8 (v:Int) ||| UJ 8 (UM.wrap (Jx.wrap (x * (2:Int) ^ min ((7 - r:Nat):Int).toNat 64)))).toNat) = ((v + c.toNat * 2 ^ (7 - r):Nat):Int):=by
  intro v hv hm
  have:=ZFx ⟨r,hr⟩ ⟨v,hv⟩ c hm
  grind [orB,WV]
 simp only [ZgH,e1,e2,e3,WV]
 by_cases h0:r = 0
 ·subst h0
  have hlen:(ZK bs).length = q:=by rw [Z9]; omega
  rw [show ((((0:Nat):Int)) == (0:Int)) = true from rfl]
  simp only [cond_true]
  have hl:(ZK bs ++ [(0:Int)]).length = q + 1:=by simp [hlen]
  rw [Zc (by rw [hlen]; omega),Zc (by grind),Zc (by omega),Zc (by omega),Zc (by grind),Zc (by omega)]
  have hg:(ZK bs ++ [(0:Int)]).getD q (OfNat.ofNat 0) = ((0:Nat):Int):=by simp_all
  have h5:=e5 0 (by omega) (by simp)
  simp only [WV] at h5
  rw [hg,h5,e4]
  show _ = some ((),(ZK (bs ++ [c]),_,()),())
  rw [ZmB c (by omega)]
  simp
 ·rw [show ((((r:Nat):Int)) == (0:Int)) = false from by rw [ZP]; simp; omega]
  simp only [cond_false]
  have hlen:(ZK bs).length = q + 1:=by rw [Z9]; omega
  rw [Zc (by grind),Zc (by omega),Zc (by omega),Zc (by grind),Zc (by omega)]
  have hg:(ZK bs).getD q (OfNat.ofNat 0) = ((QX bs q:Nat):Int):=by rw [VS,List.getElem?_eq_getElem (by omega),XB]; rfl
  have h5:=e5 _ (ZqK _) (Ztv hr hq)
  simp only [WV] at h5
  rw [hg]
  rw [show Yk (fun j => bs.getD (8 * q + j) false) = QX bs q from rfl] at h5
  rw [h5,e4]
  show _ = some ((),(ZK (bs ++ [c]),_,()),())
  rw [ZmC c hr h0 hq]
end Go.Sh
namespace Go.Sh
open Go Go.Proofs
theorem ZcP (n j:Nat):((n:Nat):Int).fdiv ((2:Int) ^ j) = ((n / 2 ^ j:Nat):Int):=by
 grind
theorem ZJW (n j:Nat) (hj:j < 64):Jx.wrap (UK.wrap (UI (UJ 64 (((n:Nat):Int).fdiv ((2:Int) ^ min (j:Int).toNat 64)) &&& UJ 64 1).toNat)) = if n.testBit j then 1 else 0:=by
 rw [WV,U4 (by omega),ZcP,HB,show UJ 64 1 = 1#64 from rfl,HC,Hk]
 rw [show (1#64).toNat = 1 from rfl,HO,Nat.mod_mod_of_dvd _ (by decide:2 ∣ 2 ^ 64)]
 have h2:n.testBit j = decide (n / 2 ^ j % 2 = 1):=Nat.testBit_eq_decide_div_mod_eq
 rw [h2]
 have:n / 2 ^ j % 2 < 2:=U7 _ (by omega)
 generalize n / 2 ^ j % 2 = m at this ⊢
 match m,this with
 | 0,_ => rfl
 | 1,_ => rfl
theorem Zr0 (k:Nat):∀ (w:Nat) (bs:List Bool) (n:Nat),w < k → w ≤ 64 → bs.length + w < 4294967296 →
  Zee k (wst bs,(n:Int),(w:Int),()) = some ((),wst (bs ++ Za n w),()):=by
 intro w bs n hk hw hb
 show ZfL k (Zpx k) _ = _
 simp only [ZfL]
 suffices H:∀ (w:Nat) (m:Nat) (bs:List Bool),w < m → w ≤ 64 → bs.length + w < 4294967296 →
   Zn (fun L1 => ZcF k L1) m (Jx.wrap ((w:Int) - 1),(n:Int),(bs.length:Int),ZK bs) = some ((),wst (bs ++ Za n w),()) from H w k bs hk hw hb
 intro w
 induction w with
 | zero =>
  intro m bs hm _ _
  obtain ⟨m,rfl⟩:=Zq hm
  rw [Ze]
  rw [show Jx.wrap (((0:Nat):Int) - 1) = -1 from by rw [Qk (by omega)]; rfl]
  grind [ZcF,Za]
 | succ w ih =>
  intro m bs hm hw hb
  obtain ⟨m,rfl⟩:=Zq (show 0 < m by omega)
  rw [Ze]
  have e1:Jx.wrap (((w + 1:Nat):Int) - 1) = (w:Int):=by rw [Qk (by omega)]; omega
  rw [e1]
  simp only [ZcF]
  rw [Zc (by omega)]
  simp only [Zc (show (0:Int) ≤ (w:Int) by omega)]
  rw [ZJW n w (by omega)]
  rw [show ((ZK bs,((bs.length:Nat):Int),()):List Int × Int × Unit) = wst bs from rfl,ZgI k bs (by omega) _ (n.testBit w) rfl]
  grind [Za]
theorem Zk4 (k w:Nat) (h:w ≤ 32):ZrZ k ((w:Int),()) = some (false,()):=by
 show Zk3 k _ = _
 grind [Zk3]
theorem QE (k:Nat) (bs:List Bool) (n w:Nat) (hk:64 < k) (hw:w ≤ 32) (hn:n < 2 ^ w) (hb:bs.length + w < 4294967296) :
  QH k (wst bs,(n:Int),(w:Int),()) = some (0,wst (bs ++ Za n w),()):=by
 show ZkQ k _ = _
 have h32:n < 2 ^ 32:=V0 hn (Hd (by omega) hw)
 simp only [ZkQ]
 rw [Zk4 k w hw]
 simp only [Qt,cond_false]
 rw [Zr (by omega),Zc (by omega),WV,U4 (by omega),ZcP,Hg hn]
 rw [show ((((0:Nat):Int)) != (0:Int)) = false from rfl]
 simp only [cond_false]
 rw [show UK.wrap (n:Int) = (n:Int) from by rw [IntKind.wrap_u64]; omega]
 rw [show ((ZK bs,((bs.length:Nat):Int),()):List Int × Int × Unit) = wst bs from rfl,Zr0 k w bs n (by omega) (by omega) hb]
 rfl
def Xk (n:Int) (w:Nat):Bool:=if w = 0 then n = 0 else -(2 ^ (w - 1):Int) ≤ n ∧ n < 2 ^ (w - 1)
def Wh (n:Int) (w:Nat):List Bool:=Za (n % 2 ^ w).toNat w
theorem ZjZ (n v:Nat):∀ w,w ≤ v → Za (n % 2 ^ v) w = Za n w
 | 0,_ => rfl
 | w + 1,h => by
  simp only [Za]
  rw [ZjZ n v w (by omega),HR]
  simp [show w < v by omega]
theorem Ko (n:Int) (w:Nat):(Wh n w).length = w:=Zk _ _
theorem Zir (n:Int) (w v:Nat) (h:w ≤ v):(n % 2 ^ v).toNat % 2 ^ w = (n % 2 ^ w).toNat:=by
 have hv:(0:Int) < 2 ^ v:=U6 (by omega)
 have hw:(0:Int) < 2 ^ w:=U6 (by omega)
 have h1:0 ≤ n % 2 ^ v:=Hn _ (by omega)
 have h2:0 ≤ n % 2 ^ w:=Hn _ (by omega)
 have hd:((2:Int) ^ w) ∣ 2 ^ v:=⟨2 ^ (v - w),by rw [← Int.pow_add]; congr 1; omega⟩
 apply UI.inj
 show (((n % 2 ^ v).toNat % 2 ^ w:Nat):Int) = ((n % 2 ^ w).toNat:Int)
 rw [Int.natCast_emod,HI h1,HI h2,Int.natCast_pow]
 exact Int.emod_emod_of_dvd n hd
theorem Zoh (n:Int) (w v:Nat) (h:w ≤ v):Za (n % 2 ^ v).toNat w = Wh n w:=by
 unfold Wh
 rw [← Zir n w v h,ZjZ _ _ _ (Nat.le_refl w)]
theorem Zsd {n:Int} {w:Nat} (hw:0 < w) (h:Xk n w = true):n.fdiv (2 ^ (w - 1)) = 0 ∨ n.fdiv (2 ^ (w - 1)) = -1:=by
 unfold Xk at h
 rw [if_neg (by omega)] at h
 obtain ⟨h1,h2⟩:=of_decide_eq_true h
 have hp:(0:Int) < 2 ^ (w - 1):=U6 (by omega)
 rw [Ho _ (by omega)]
 rcases Int.lt_or_le n 0 with hn | hn
 ·right
  rw [Int.ediv_eq_iff_of_pos hp]
  constructor <;> omega
 ·left
  exact Int.ediv_eq_zero_of_lt hn h2
theorem Zm4 (k:Nat) (bs:List Bool) (n:Int) (w:Nat) (hk:64 < k) (hw:w ≤ 32) (hn:Xk n w = true) (hb:bs.length + w < 4294967296) :
  ZoF k (wst bs,n,(w:Int),()) = some (0,wst (bs ++ Wh n w),()):=by
 show ZgO k _ = _
 have hput:Zee k ((ZK bs,((bs.length:Nat):Int),()),UK.wrap n,(w:Int),()) = some ((),wst (bs ++ Wh n w),()):=by
  rw [show UK.wrap n = (((n % 2 ^ 64).toNat:Nat):Int) from by
   rw [IntKind.wrap_u64]
   omega]
  rw [show ((ZK bs,((bs.length:Nat):Int),()):List Int × Int × Unit) = wst bs from rfl,Zr0 k w bs _ (by omega) (by omega) hb,Zoh n w 64 (by omega)]
 simp only [ZgO]
 rw [Zk4 k w hw]
 simp only [Qt,cond_false,hput]
 by_cases h0:w = 0
 ·subst h0
  unfold Xk at hn
  simp_all
 ·rw [show ((((w:Nat):Int)) == (0:Int)) = false from by rw [ZP]; simp; omega]
  simp only [cond_false]
  have e1:Jx.wrap ((w:Int) - 1) = ((w - 1:Nat):Int):=by rw [Qk (by omega)]; omega
  rw [e1]
  simp only [WV,U4 (show w - 1 ≤ 64 by omega)]
  rw [Zc (by omega),Zc (by omega)]
  rcases Zsd (by omega) hn with h | h
  ·simp_all
  simp_all
theorem Zr3 (k:Nat) (bs:List Bool) (n:Nat) (hk:n < k) (hn:n ≤ 65536) (hb:bs.length + n + 1 < 4294967296) :
  Znq k (wst bs,(n:Int),()) = some (0,wst (bs ++ (Jd n false ++ [true])),()):=by
 show ZfO k (ZpH k) _ = _
 simp only [ZfO]
 rw [Zr (by omega),Zr (by omega)]
 suffices H:∀ (r i m:Nat) (bs:List Bool),n = i + r → r < m → bs.length + r + 1 < 4294967296 →
   Zn (fun L1 => ZcJ k L1) m ((n:Int),(i:Int),(bs.length:Int),ZK bs) = some (0,wst (bs ++ (Jd r false ++ [true])),()) from H n 0 k bs (by omega) hk hb
 intro r
 induction r with
 | zero =>
  intro i m bs he hm hb
  obtain ⟨m,rfl⟩:=Zq hm
  rw [Ze]
  simp only [ZcJ]
  rw [Zr (by omega),show ((ZK bs,((bs.length:Nat):Int),()):List Int × Int × Unit) = wst bs from rfl,ZgI k bs (by omega) 1 true rfl]
  simp
 | succ r ih =>
  intro i m bs he hm hb
  obtain ⟨m,rfl⟩:=Zq (show 0 < m by omega)
  rw [Ze]
  simp only [ZcJ]
  rw [Zc (by omega),show ((ZK bs,((bs.length:Nat):Int),()):List Int × Int × Unit) = wst bs from rfl,ZgI k bs (by omega) 0 false rfl]
  simp only [Qt]
  rw [show Jx.wrap ((i:Int) + 1) = ((i + 1:Nat):Int) from by rw [Qk (by omega)]; omega]
  rw [ih (i + 1) m (bs ++ [false]) (by omega) (by omega) (by simp; omega)]
  simp [List.replicate_succ]
def Kh (n:Nat):Nat:=(8 - n % 8) % 8
theorem Ztw (bs:List Bool) (m i:Nat):QX (bs ++ Jd m false) i = QX bs i:=by
 unfold QX
 grind
theorem ZDA (bs:List Bool):ZK (bs ++ Jd (Kh bs.length) false) = ZK bs:=by
 unfold ZK
 rw [show ((bs ++ Jd (Kh bs.length) false).length + 7) / 8 = (bs.length + 7) / 8 from by simp [Kh]; omega]
 apply List.map_congr_left
 intro i _
 rw [Ztw]
theorem ZJQ (n:Nat) (h:n < 4294967296):Jx.wrap (UI (UJ 64 (Jx.wrap ((0:Int) - (n:Int))) &&& UJ 64 7).toNat) = ((Kh n:Nat):Int):=by
 rw [Qk (n:=(0:Int) - (n:Int)) (by omega)]
 have e:UJ 64 ((0:Int) - (n:Int)) = Hj 64 (18446744073709551616 - n):=by
  apply BitVec.eq_of_toNat_eq
  simp_all <;> omega
 rw [e,show UJ 64 7 = 7#64 from rfl,HC,Hk,show (7#64).toNat = 2 ^ 3 - 1 from rfl,Hx]
 have:(18446744073709551616 - n) % 2 ^ 64 % 2 ^ 3 = Kh n:=by unfold Kh; omega
 rw [this,Qk (by grind)]
 rfl
theorem ZBT (k:Nat) (bs:List Bool) (hb:bs.length < 4294967000):ZBS k (wst bs,()) = some (((Kh bs.length:Nat):Int),wst (bs ++ Jd (Kh bs.length) false),()):=by
 show ZkW k _ = _
 simp only [ZkW]
 rw [ZJQ _ (by omega)]
 have h8:Kh bs.length < 8:=by unfold Kh; omega
 rw [show Jx.wrap (((bs.length:Nat):Int) + ((Kh bs.length:Nat):Int)) = (((bs ++ Jd (Kh bs.length) false).length:Nat):Int) from by rw [Qk (by omega)]; simp]
 show _ = some (_,(ZK (bs ++ Jd (Kh bs.length) false),_,()),())
 rw [ZDA]
theorem ZkU (k:Nat) (bs:List Bool) (hb:bs.length < 4294967296):ZrO k (wst bs,()) = some (ZK bs,wst bs,()):=by
 show ZkT k _ = _
 simp only [ZkT]
 have:(ZK bs).length < 2147483648:=by rw [Z9]; omega
 rw [show Znp k (ZK bs,()) = some (ZK bs,()) from by show Y2 _ = _; unfold Y2; rw [Zc this]]
 rfl
theorem ZBF (k:Nat):ZrK k () = some (wst [],()):=rfl
end Go.Sh
namespace Go.Sh
open Go Go.Proofs
theorem Zmg {n:Nat} (h:n < 18446744073709551616):UK.wrap (n:Int) = (n:Int):=by rw [IntKind.wrap_u64]; omega
theorem ZIW {a:Nat} (ha:a < 18446744073709551616):(UJ 64 (a:Int)).toNat = a:=by simp_all
theorem Zxb {a b:Nat} (ha:a < 18446744073709551616) (hb:b < 18446744073709551616):UI (UJ 64 (a:Int) &&& UJ 64 (b:Int)).toNat = ((a &&& b:Nat):Int):=by
 grind
theorem orN {a b:Nat} (ha:a < 18446744073709551616) (hb:b < 18446744073709551616):UI (UJ 64 (a:Int) ||| UJ 64 (b:Int)).toNat = ((a ||| b:Nat):Int):=by
 grind
theorem ZJJ {a b:Nat} (ha:a < 18446744073709551616) (hb:b < 18446744073709551616):UI (UJ 64 (a:Int) ^^^ UJ 64 (b:Int)).toNat = ((a ^^^ b:Nat):Int):=by
 grind
theorem WP (j:Nat):((2:Int) ^ j) = ((2 ^ j:Nat):Int):=by rw [Int.natCast_pow]; rfl
def Zkd (s p r:Nat):Nat:=(2 * r) % 2 ^ s ^^^ (r / 2 ^ (s - 1) % 2) * p
def Zfg (s p:Nat):Nat → Nat → Nat
 | 0,r => r
 | n + 1,r => Zfg s p n (Zkd s p r)
def Zfh (s p r x:Nat):Nat:=Zfg s p 8 (r ^^^ x * 2 ^ (s - 8))
def ZEi (s p:Nat) (l:List Nat):Nat:=l.foldl (Zfh s p) 0
def ZM (l:List Int):Bool:=l.all fun x => decide (0 ≤ x) && decide (x < 256)
def ZlE (l:List Int):List Nat:=l.map Int.toNat
theorem Zgz {s p r:Nat} (hp:p < 2 ^ s):Zkd s p r < 2 ^ s:=by
 unfold Zkd
 refine Hi (U7 _ (U2 (by omega))) ?_
 have:r / 2 ^ (s - 1) % 2 < 2:=U7 _ (by omega)
 generalize r / 2 ^ (s - 1) % 2 = b at this
 have h0:0 < 2 ^ s:=U2 (by omega)
 match b,this with
 | 0,_ => simpa using h0
 | 1,_ => simpa using hp
theorem Zke {s p:Nat} (hp:p < 2 ^ s):∀ (n r:Nat),r < 2 ^ s → Zfg s p n r < 2 ^ s
 | 0,r,h => h
 | n + 1,r,h => Zke hp n _ (Zgz hp)
theorem Zkf {s p r x:Nat} (hs:8 ≤ s) (hp:p < 2 ^ s) (hr:r < 2 ^ s) (hx:x < 256):Zfh s p r x < 2 ^ s:=by
 refine Zke hp _ _ (Hi hr ?_)
 have h1:2 ^ s = 2 ^ 8 * 2 ^ (s - 8):=by rw [← U3]; congr 1; omega
 have:x * 2 ^ (s - 8) < 256 * 2 ^ (s - 8):=Hc hx (U2 (by omega))
 rw [h1]; exact this
theorem Zey {s p:Nat} (hs:8 ≤ s) (hp:p < 2 ^ s):∀ (l:List Nat) (r:Nat),(∀ x ∈ l,x < 256) → r < 2 ^ s → l.foldl (Zfh s p) r < 2 ^ s
 | [],r,_,h => h
 | x :: l,r,hl,h => by
  simp only [HL]
  exact Zey hs hp l _ (fun y hy => hl y (Jn _ hy)) (Zkf hs hp h (hl x (Jm ..)))
theorem ZEf {s p r:Nat} (hs:8 ≤ s) (hs':s ≤ 16) (hp:p < 2 ^ s) (hr:r < 2 ^ s) :
  UK.wrap (UI (UJ 64 (UK.wrap (UI (UJ 64 (UK.wrap ((r:Int) * (2:Int))) &&& UJ 64 (UK.wrap (UK.wrap ((1:Int) * (2:Int) ^ min (s:Int).toNat 64) - (1:Int)))).toNat)) ^^^
   UJ 64 (UK.wrap (UK.wrap (UI (UJ 64 ((r:Int).fdiv ((2:Int) ^ min (Jx.wrap ((s:Int) - (1:Int))).toNat 64)) &&& UJ 64 (1:Int)).toNat) * (p:Int)))).toNat) = ((Zkd s p r:Nat):Int):=by
 have hpow:2 ^ s ≤ 2 ^ 16:=Hd (by omega) hs'
 have hpos:0 < 2 ^ s:=U2 (by omega)
 rw [show Jx.wrap ((s:Int) - 1) = ((s - 1:Nat):Int) from by rw [Qk (by omega)]; omega]
 rw [WV,WV,U4 (by omega),U4 (by omega),ZcP,Int.one_mul,WP]
 rw [Zmg (n:=2 ^ s) (by omega),show ((2 ^ s:Nat):Int) - 1 = ((2 ^ s - 1:Nat):Int) from by omega,Zmg (n:=2 ^ s - 1) (by omega)]
 rw [show (r:Int) * 2 = ((2 * r:Nat):Int) from by omega,Zmg (n:=2 * r) (by omega)]
 rw [Zxb (by omega) (by omega),Hx]
 have hm:2 * r % 2 ^ s < 2 ^ s:=U7 _ hpos
 rw [Zmg (n:=2 * r % 2 ^ s) (by omega)]
 have hdl:r / 2 ^ (s - 1) ≤ r:=Nat.div_le_self _ _
 rw [show ((1:Int)) = ((1:Nat):Int) from rfl,Zxb (by omega) (by omega),HO]
 have hb:r / 2 ^ (s - 1) % 2 < 2:=U7 _ (by omega)
 have hbp:r / 2 ^ (s - 1) % 2 * p < 2 ^ s:=by
  generalize r / 2 ^ (s - 1) % 2 = b at hb
  match b,hb with
  | 0,_ => simpa using hpos
  | 1,_ => simpa using hp
 rw [Zmg (n:=r / 2 ^ (s - 1) % 2) (by omega),← Hu,Zmg (n:=r / 2 ^ (s - 1) % 2 * p) (by omega),ZJJ (by omega) (by omega)]
 have:=Zgz (s:=s) (p:=p) (r:=r) hp
 unfold Zkd at this ⊢
 rw [Zmg (by omega)]
theorem ZzZ {s r x:Nat} (hs:8 ≤ s) (hs':s ≤ 16) (hr:r < 2 ^ s) (hx:x < 256) :
  UK.wrap (UI (UJ 64 (r:Int) ^^^ UJ 64 (UK.wrap (UK.wrap (x:Int) * (2:Int) ^ min (Jx.wrap ((s:Int) - (8:Int))).toNat 64))).toNat) = ((r ^^^ x * 2 ^ (s - 8):Nat):Int):=by
 have hpow:2 ^ s ≤ 2 ^ 16:=Hd (by omega) hs'
 have h1:2 ^ s = 2 ^ 8 * 2 ^ (s - 8):=by rw [← U3]; congr 1; omega
 have hxp:x * 2 ^ (s - 8) < 2 ^ s:=by
  rw [h1]; exact Hc hx (U2 (by omega))
 rw [show Jx.wrap ((s:Int) - 8) = ((s - 8:Nat):Int) from by rw [Qk (by omega)]; omega]
 rw [WV,U4 (by omega),WP,Zmg (n:=x) (by omega),← Hu,Zmg (n:=x * 2 ^ (s - 8)) (by omega),ZJJ (by omega) (by omega)]
 have:r ^^^ x * 2 ^ (s - 8) < 2 ^ s:=Hi hr hxp
 rw [Zmg (by omega)]
theorem ZyT (k:Nat) {s p:Nat} (hs:8 ≤ s) (hs':s ≤ 16) (hp:p < 2 ^ s) (L1:Int × Int × List Int × Int × Int × Int → Option (Int × Unit)) (v4 v5:Int) (v6:List Int) :
  ∀ (n m i r:Nat),i + n = 8 → n < m → r < 2 ^ s →
  Zn (fun L2 => ZcH k L1 L2) m ((i:Int),(r:Int),(s:Int),(p:Int),v4,v5,v6) = L1 (v5,Jx.wrap (v4 + 1),v6,((Zfg s p n r:Nat):Int),(s:Int),(p:Int)):=by
 intro n
 induction n with
 | zero =>
  intro m i r hi hm hr
  obtain ⟨m,rfl⟩:=Zq hm
  rw [Ze]
  simp only [ZcH]
  rw [Zr (by omega)]
  rfl
 | succ n ih =>
  intro m i r hi hm hr
  obtain ⟨m,rfl⟩:=Zq (show 0 < m by omega)
  rw [Ze]
  simp only [ZcH]
  rw [Zc (by omega),Zc (by rw [Qk (by omega)]; omega),Zc (by omega),ZEf hs hs' hp hr]
  rw [show Jx.wrap ((i:Int) + 1) = ((i + 1:Nat):Int) from by rw [Qk (by omega)]; omega]
  rw [ih m (i + 1) _ (by omega) (by omega) (Zgz hp)]
  rfl
theorem Ks {l:List Int} (h:ZM l = true) {i:Nat} (hi:i < l.length):∃ x:Nat,x < 256 ∧ l[i] = (x:Int):=by
 have:=Vf.1 h l[i] (U5 hi)
 simp only [Jh,decide_eq_true_eq] at this
 exact ⟨l[i].toNat,by omega,by omega⟩
theorem ZnE {l:List Int} (h:ZM l = true):∀ x ∈ ZlE l,x < 256:=by
 intro x hx
 obtain ⟨y,hy,rfl⟩:=VG.1 hx
 have:=Vf.1 h y hy
 simp_all
theorem Zr1 (k:Nat) (l:List Int) {s p:Nat} (hs:8 ≤ s) (hs':s ≤ 16) (hp:p < 2 ^ s) (hl:ZM l = true) (hk:l.length + 8 < k) (hk':l.length < 4294967296) :
  Zik k (l,(s:Int),(p:Int),()) = some (((ZEi s p (ZlE l):Nat):Int),()):=by
 show ZfM k (Zpz k) _ = _
 simp only [ZfM]
 have h16:2 ^ s ≤ 2 ^ 16:=Hd (by omega) hs'
 have:=ZC (A:=Nat) (step:=fun L1 => ZcG k (ZpA k L1) L1) (fun i r => (UI l.length,UI i,l,(r:Int),(s:Int),(p:Int))) l
  (fun l' r => some (((l'.foldl (fun r x => Zfh s p r x.toNat) r:Nat):Int),())) (fun i r => r < 2 ^ s)
  (fun L r hr => by
   simp only [ZcG]
   rw [Zr (ZeL _),Qk (by omega)]; rfl)
  (fun L i hi r hr hL => by
   obtain ⟨x,hx,hxe⟩:=Ks hl hi
   simp only [ZcG]
   rw [Zc (ltR hi),Zc (inR hi),Zc (by rw [Qk (by omega)]; omega),ZQ hi,hxe,ZzZ hs hs' hr hx]
   have hx2:r ^^^ x * 2 ^ (s - 8) < 2 ^ s:=Hi hr (by
    have h1:2 ^ s = 2 ^ 8 * 2 ^ (s - 8):=by rw [← U3]; congr 1; omega
    rw [h1]; exact Hc hx (U2 (by omega)))
   have hin:=ZyT k hs hs' hp L (UI i) (UI l.length) l 8 k 0 (r ^^^ x * 2 ^ (s - 8)) rfl (by omega) hx2
   refine U8 hin ?_
   rw [Q1 hi (by omega)]
   rw [show Zfg s p 8 (r ^^^ x * 2 ^ (s - 8)) = Zfh s p r x from rfl]
   rw [hL _ (Zkf hs hp hr hx)]
   rw [HL,WV]) k 0 0 (U2 (by omega)) (by omega) (UU _)
 refine U8 this ?_
 rw [U9]
 unfold ZEi ZlE
 rw [List.foldl_map]
theorem Zxj (bs:List Bool) (i:Nat):QX bs i < 256:=ZqK _
theorem Yw (bs:List Bool):ZM (ZK bs) = true:=by
 refine Vf.2 fun x hx => ?_
 obtain ⟨i,_,rfl⟩:=VG.1 hx
 have h:=Zxj bs i
 grind
def Zd1 (l:List Int):Nat:=ZEi 8 7 (ZlE l)
def Zay (l:List Int):Nat:=ZEi 16 32773 (ZlE l)
theorem Zve {l:List Int} (h:ZM l = true):Zd1 l < 2 ^ 8:=Zey (by omega) (by omega) _ _ (ZnE h) (by omega)
theorem ZqS {l:List Int} (h:ZM l = true):Zay l < 2 ^ 16:=Zey (by omega) (by omega) _ _ (ZnE h) (by omega)
theorem ZrN (k:Nat) (l:List Int) (hl:ZM l = true) (hk:l.length + 8 < k) (hk':l.length < 4294967296):Zv6 k (l,()) = some (((Zd1 l:Nat):Int),()):=by
 show ZkS k _ = _
 simp only [ZkS]
 have:=Zr1 k l (s:=8) (p:=7) (by omega) (by omega) (by omega) hl hk hk'
 rw [show Zik k (l,8,7,()) = Zik k (l,((8:Nat):Int),((7:Nat):Int),()) from rfl,this]
 rfl
theorem ZrQ (k:Nat) (l:List Int) (hl:ZM l = true) (hk:l.length + 8 < k) (hk':l.length < 4294967296):Zv9 k (l,()) = some (((Zay l:Nat):Int),()):=by
 show ZkX k _ = _
 simp only [ZkX]
 have:=Zr1 k l (s:=16) (p:=32773) (by omega) (by omega) (by omega) hl hk hk'
 rw [show Zik k (l,16,32773,()) = Zik k (l,((16:Nat):Int),((32773:Nat):Int),()) from rfl,this]
 rfl
def XQ (k:Nat):Nat:=if k = 1 then 7 else 5 * k + 1
def Xs:Nat → Nat → List Nat
 | _,0 => []
 | n,i + 1 => Xs (n / 64) i ++ [128 + n % 64]
def KO (n:Nat):Nat:=if n < 2 ^ 7 then 1 else if n < 2 ^ 11 then 2 else if n < 2 ^ 16 then 3 else if n < 2 ^ 21 then 4 else if n < 2 ^ 26 then 5 else if n < 2 ^ 31 then 6 else 7
def ZbJ (k m:Nat):Nat:=(65280 / 2 ^ k % 256) ||| m
def Qi (n:Nat):List Nat:=if n < 128 then [n] else ZbJ (KO n) (n / 64 ^ (KO n - 1)) :: Xs n (KO n - 1)
def QP (l:List Nat):List Int:=l.map fun (n:Nat) => (n:Int)
theorem ZFy:∀ m:Fin 64,UM.wrap (UI (UJ 8 (128:Int) ||| UJ 8 (UM.wrap (Jx.wrap (m.val:Int)))).toNat) = ((128 + m.val:Nat):Int):=by decide +kernel
theorem ZDz:∀ (k:Fin 8) (m:Fin 64),2 ≤ k.val → UM.wrap (UI (UJ 8 (UM.wrap (Int.fdiv (65280:Int) ((2:Int) ^ min (k.val:Int).toNat 64))) ||| UJ 8 (UM.wrap (m.val:Int))).toNat) = ((ZbJ k.val m.val:Nat):Int):=by decide +kernel
theorem ZyP (k:Nat) {kk:Nat} (h2:2 ≤ kk) (h7:kk ≤ 7):∀ (i m n:Nat) (suf:List Int),i < m → i < kk → n < 18446744073709551616 → n / 64 ^ i < 64 →
  Zn (fun L2 => Zcz k L2) m ((i:Int),(n:Int),(kk:Int),Jd (i + 1) 0 ++ suf) = some ((QP (ZbJ kk (n / 64 ^ i) :: Xs n i) ++ suf,0,()),()):=by
 intro i
 induction i with
 | zero =>
  intro m n suf hm hi hn hq
  obtain ⟨m,rfl⟩:=Zq hm
  rw [Ze]
  simp only [Zcz]
  rw [Zr (by omega),Zc (by omega),Zc (by simp_all),Zc (by simp)]
  rw [HA,Nat.div_one] at hq ⊢
  have:=ZDz ⟨kk,by omega⟩ ⟨n,hq⟩ h2
  simp only at this
  rw [this]
  rfl
 | succ i ih =>
  intro m n suf hm hi hn hq
  obtain ⟨m,rfl⟩:=Zq (show 0 < m by omega)
  rw [Ze]
  simp only [Zcz]
  have hl:(Jd (i + 1 + 1) (0:Int) ++ suf).length = i + 2 + suf.length:=by simp
  rw [Zc (by omega),Zc (by grind),Zc (by rw [hl]; omega)]
  rw [show (63:Int) = ((63:Nat):Int) from rfl,Zxb hn (by omega)]
  have h63:n &&& 63 = n % 64:=Hx n 6
  have:=ZFy ⟨n % 64,U7 _ (by omega)⟩
  simp only at this
  rw [h63,this]
  rw [show Jx.wrap (((i + 1:Nat):Int) - 1) = (i:Int) from by rw [Qk (by omega)]; omega]
  rw [show ((n:Int)).fdiv 64 = ((n / 64:Nat):Int) from by grind]
  have hset:(Jd (i + 1 + 1) (0:Int) ++ suf).set (((i + 1:Nat):Int)).toNat ((128 + n % 64:Nat):Int) = Jd (i + 1) 0 ++ (((128 + n % 64:Nat):Int) :: suf):=by
   rw [WV,List.replicate_succ' (n:=i + 1),Ju,List.set_append_right _ _ (by simp)]
   simp
  rw [hset,ih m (n / 64) _ (by omega) (by omega) (by omega) (by rw [HP,Ua,← Hz]; exact hq)]
  rw [HP,Ua,← Hz]
  simp only [QP,Xs,List.map_cons,List.map_append,List.map_nil,Ju,List.cons_append,List.nil_append]
theorem Zk6 (k kk:Nat) (h:kk ≤ 8):Zwk k ((kk:Int),()) = some (((XQ kk:Nat):Int),()):=by
 show Zk5 k _ = _
 simp only [Zk5]
 unfold XQ
 by_cases h1:kk = 1
 ·subst h1; rfl
 ·rw [show (((kk:Nat):Int) == (1:Int)) = false from by rw [ZP]; simp; omega,if_neg h1]
  simp only [cond_false]
  rw [Qk (n:=5 * (kk:Int)) (by omega),Qk (by omega)]
  congr 2
theorem Zl3:XQ 2 = 11 ∧ XQ 3 = 16 ∧ XQ 4 = 21 ∧ XQ 5 = 26 ∧ XQ 6 = 31 ∧ XQ 7 = 36:=by decide
theorem ZFi {kk n:Nat} (h2:2 ≤ kk) (h7:kk ≤ 7) (hlt:n < 2 ^ XQ kk) (hge:2 < kk → 2 ^ XQ (kk - 1) ≤ n) (h128:128 ≤ n):KO n = kk:=by
 obtain ⟨r2,r3,r4,r5,r6,r7⟩:=Zl3
 obtain rfl | rfl | rfl | rfl | rfl | rfl:kk = 2 ∨ kk = 3 ∨ kk = 4 ∨ kk = 5 ∨ kk = 6 ∨ kk = 7:=by omega
 ·rw [r2] at hlt
  unfold KO
  rw [if_neg (by omega),if_pos hlt]
 ·have hge:=hge (by omega)
  rw [Ha (n:=2) (m:=1),r2] at hge
  rw [r3] at hlt
  unfold KO
  grind
 ·have hge:=hge (by omega)
  rw [Ha (n:=3) (m:=1),r3] at hge
  rw [r4] at hlt
  unfold KO
  grind
 ·have hge:=hge (by omega)
  rw [Ha (n:=4) (m:=1),r4] at hge
  rw [r5] at hlt
  unfold KO
  grind
 ·have hge:=hge (by omega)
  rw [Ha (n:=5) (m:=1),r5] at hge
  rw [r6] at hlt
  unfold KO
  grind
 ·have hge:=hge (by omega)
  rw [Ha (n:=6) (m:=1),r6] at hge
  unfold KO
  grind
theorem ZeH {kk n:Nat} (h2:2 ≤ kk) (h7:kk ≤ 7) (hlt:n < 2 ^ XQ kk):n / 64 ^ (kk - 1) < 64:=by
 have h64:(64:Nat) = 2 ^ 6:=rfl
 rw [Nat.div_lt_iff_lt_mul (U2 (by omega))]
 refine V0 hlt ?_
 rw [h64,← Nat.pow_mul,← U3]
 refine Hd (by omega) ?_
 unfold XQ
 rw [if_neg (by omega)]
 omega
theorem ZrM (k:Nat) (hk:20 < k) {n:Nat} (hn:n < 2 ^ 36) (kk:Nat) (h2:2 ≤ kk) (h7:kk ≤ 7) (hlt:n < 2 ^ XQ kk) (hge:2 < kk → 2 ^ XQ (kk - 1) ≤ n) (h128:128 ≤ n) :
  ZkR k (Jx.wrap ((kk:Int) - 1),(n:Int),(kk:Int),Jd (kk:Int).toNat (0:Int)) = some ((QP (Qi n),0,()),()):=by
 have hlen:=ZFi h2 h7 hlt hge h128
 have hq:=ZeH h2 h7 hlt
 have hn':n < 18446744073709551616:=Nat.lt_trans hn (by decide)
 have:=ZyP k h2 h7 (kk - 1) k n [] (by omega) (by omega) hn' hq
 rw [show Jx.wrap ((kk:Int) - 1) = ((kk - 1:Nat):Int) from by rw [Qk (by omega)]; omega,WV]
 rw [show kk - 1 + 1 = kk by omega,Vg,Vg] at this
 refine U8 this ?_
 unfold Qi
 rw [if_neg (by omega),hlen]
theorem ZyQ (k:Nat) (hk:20 < k) {n:Nat} (hn:n < 2 ^ 36):∀ (d kk m:Nat),d < m → kk + d = 7 → 2 ≤ kk → (2 < kk → 2 ^ XQ (kk - 1) ≤ n) → 128 ≤ n →
  Zn (fun L1 => Zcy k (ZkR k) L1) m ((n:Int),(kk:Int)) = some ((QP (Qi n),0,()),()):=by
 intro d
 induction d with
 | zero =>
  intro kk m hm hkk h2 hge h128
  obtain rfl:kk = 7:=by omega
  obtain ⟨m,rfl⟩:=Zq hm
  rw [Ze]
  simp only [Zcy]
  rw [Zk6 k 7 (by omega)]
  simp only [Qt]
  rw [Zc (by omega),WV,U4 (show XQ 7 ≤ 64 by decide),ZcP,Hg (show n < 2 ^ XQ 7 from hn),Zr (by omega),Zc (by omega)]
  exact ZrM k hk hn 7 (by omega) (by omega) hn hge h128
 | succ d ih =>
  intro kk m hm hkk h2 hge h128
  obtain ⟨m,rfl⟩:=Zq (show 0 < m by omega)
  rw [Ze]
  simp only [Zcy]
  rw [Zk6 k kk (by omega)]
  simp only [Qt]
  have hroom:XQ kk ≤ 64:=by unfold XQ; split <;> omega
  rw [Zc (by omega),WV,U4 hroom,ZcP]
  by_cases hlt:n < 2 ^ XQ kk
  ·rw [Hg hlt,Zr (by omega),Zc (by omega)]
   exact ZrM k hk hn kk h2 (by omega) hlt hge h128
  ·have hpos:0 < n / 2 ^ XQ kk:=Nat.div_pos (by omega) (U2 (by omega))
   rw [Zc (by omega),show Jx.wrap ((kk:Int) + 1) = ((kk + 1:Nat):Int) from by rw [Qk (by omega)]; omega]
   exact ih (kk + 1) m (by omega) (by omega) (by omega) (fun _ => by rw [Ha]; omega) h128
theorem ZBN (k:Nat) (hk:20 < k) {n:Nat} (hn:n < 2 ^ 36):ZrL k ((n:Int),()) = some ((QP (Qi n),0,()),()):=by
 show ZfD k (Zpf k) _ = _
 simp only [ZfD]
 rw [Zr (by omega),Zr (by omega)]
 by_cases h:n < 128
 ·rw [Zc (by omega),wu8 (by omega)]
  unfold Qi
  rw [if_pos h]
  rfl
 ·rw [Zr (by omega)]
  exact ZyQ k hk hn 5 2 k (by omega) (by omega) (by omega) (fun h => by omega) (by omega)
end Go.Sh
namespace Go.Sh
open Go Go.Proofs
abbrev Yl:=Ieee.double
theorem Zez:Yl.binade = 4503599627370496:=by decide
theorem Zop:Yl.infRung = 9218868437227405312:=by decide
theorem Zfk:Yl.signWeight = 9223372036854775808:=by decide
theorem ZgC:Yl.leastPlace = -1074:=by decide
theorem Zz2:Yl.fractionBits = 52:=rfl
theorem Zzr (s:Bool) {R:Nat} (h0:4503599627370496 ≤ R) (h1:R < 9218868437227405312) :
  Yl.read (Yl.word s R) = .number s (4503599627370496 + R % 4503599627370496) (-1074 + (R / 4503599627370496 - 1:Nat)):=by
 have e1:Yl.word s R / 9223372036854775808 % 2 = s.toNat:=by
  unfold Ieee.Format.word
  rw [Zfk]
  cases s <;> simp <;> omega
 have e2:Yl.word s R % 9223372036854775808 = R:=by
  unfold Ieee.Format.word
  rw [Zfk]
  cases s <;> simp <;> omega
 unfold Ieee.Format.read
 simp only [Zfk,Zez,Zop,ZgC,e1,e2]
 rw [if_neg (by omega),if_pos h1]
 cases s <;> rfl
theorem ZnN (s:Bool):Yl.read (Yl.word s 0) = .number s 0 (-1074):=by cases s <;> decide
theorem Zf3 (s:Bool) {m K L:Nat} {e:Int} (hm:m ≠ 0) (hL:L ≤ 52) (hl:(m.log2:Int) = L - 1 - e)
  (hcut:Ieee.Toward.even.cut s (m <<< (e - ((L:Int) - 53)).toNat) ((L:Int) - 53 - e).toNat = K) (hK:4503599627370496 ≤ K) (hK2:K < 9007199254740992) :
  Yl.read (Yl.nearest s m e) = .number s K ((L:Int) - 53):=by
 unfold Ieee.Format.nearest
 rw [if_neg hm]
 simp only [Zz2,ZgC,Zez,Zop]
 have hlast:max (e + (m.log2:Int) - ((52:Nat):Int)) (-1074) = (L:Int) - 53:=by omega
 rw [hlast,hcut]
 have h1:((L:Int) - 53 - -1074).toNat = L + 1021:=by omega
 rw [h1,U4 (by omega)]
 rw [Zzr s (by omega) (by omega)]
 simp_all <;> omega
theorem Zkg (s:Bool) {n d q:Nat} (hd:d ≤ n.log2 + 2) (h:n = q * 2 ^ d):Ieee.Toward.even.cut s n d = q:=by
 unfold Ieee.Toward.cut
 simp only [U4 hd,HQ]
 have hp:0 < 2 ^ d:=U2 (by omega)
 simp_all
theorem Yd {N:Nat} (h:N ≠ 0) (t:Nat):(N * 2 ^ t).log2 = N.log2 + t:=by
 have hp:0 < 2 ^ t:=U2 (by omega)
 rw [Hy (Nat.mul_ne_zero h (by omega))]
 obtain ⟨h1,h2⟩:=(Hy h).1 rfl
 constructor
 ·rw [U3]; exact Jk _ h1
 ·rw [show N.log2 + t + 1 = (N.log2 + 1) + t by omega,U3]; exact Hc h2 hp
theorem Zf0 {N:Nat} (h:N ≠ 0) (h':N < 9007199254740992):N.log2 ≤ 52:=by
 have:=(Nat.log2_lt h (k:=53)).2 h'
 omega
theorem Zlo {N:Nat} (h:N ≠ 0) (h':N < 9007199254740992):4503599627370496 ≤ N * 2 ^ (52 - N.log2) ∧ N * 2 ^ (52 - N.log2) < 9007199254740992:=by
 have hL:=Zf0 h h'
 obtain ⟨h1,h2⟩:=(Hy h).1 rfl
 have hp:0 < 2 ^ (52 - N.log2):=U2 (by omega)
 have e1:2 ^ N.log2 * 2 ^ (52 - N.log2) = 4503599627370496:=by rw [← U3,show N.log2 + (52 - N.log2) = 52 by omega]
 have e2:2 ^ (N.log2 + 1) * 2 ^ (52 - N.log2) = 9007199254740992:=by grind
 constructor
 ·rw [← e1]; exact Jk _ h1
 ·rw [← e2]; exact Hc h2 hp
theorem Zp4 (s:Bool) {N t:Nat} (h:N ≠ 0) (h':N < 9007199254740992) :
  Yl.read (Yl.nearest s (N * 2 ^ t) (-1 - (t:Int))) = .number s (N * 2 ^ (52 - N.log2)) ((N.log2:Int) - 53):=by
 have hL:=Zf0 h h'
 obtain ⟨f1,f2⟩:=Zlo h h'
 have hp:0 < 2 ^ t:=U2 (by omega)
 refine Zf3 s (Nat.mul_ne_zero h (by omega)) hL (by rw [Yd h]; omega) ?_ f1 f2
 by_cases hc:52 - N.log2 ≤ t
 ·have e1:((-1 - (t:Int)) - ((N.log2:Int) - 53)).toNat = 0:=by omega
  have e2:((N.log2:Int) - 53 - (-1 - (t:Int))).toNat = t - (52 - N.log2):=by omega
  rw [e1,e2,Hh]
  refine Zkg s (by rw [Yd h]; omega) ?_
  rw [Hb,← U3]
  congr 2; omega
 ·have e1:((-1 - (t:Int)) - ((N.log2:Int) - 53)).toNat = 52 - N.log2 - t:=by omega
  have e2:((N.log2:Int) - 53 - (-1 - (t:Int))).toNat = 0:=by omega
  rw [e1,e2]
  refine Zkg s (by omega) ?_
  rw [He,Hb,← U3,HA,Nat.mul_one]
  congr 2; omega
theorem Zeg (s:Bool) {N:Nat} (h:N ≠ 0) (h':N < 4503599627370496) :
  Yl.read (Yl.nearest s N 0) = .number s (2 * N * 2 ^ (52 - (2 * N).log2)) (((2 * N).log2:Int) - 53):=by
 have hl:(2 * N).log2 = N.log2 + 1:=by rw [Ua]; exact Yd h 1
 have h2:2 * N ≠ 0:=by omega
 have hL:=Zf0 h2 (by omega)
 obtain ⟨f1,f2⟩:=Zlo h2 (by omega)
 refine Zf3 s h hL (by rw [hl]; omega) ?_ f1 f2
 have e1:((0:Int) - (((2 * N).log2:Int) - 53)).toNat = 53 - (2 * N).log2:=by omega
 have e2:(((2 * N).log2:Int) - 53 - 0).toNat = 0:=by omega
 rw [e1,e2]
 refine Zkg s (by omega) ?_
 rw [He,HA,Nat.mul_one,show 53 - (2 * N).log2 = 1 + (52 - (2 * N).log2) by omega,U3]
 rw [← Hb]; congr 1; omega
def Kk (x:Nat) (n:Int):Prop:=n.natAbs < 9007199254740992 ∧
 ((n = 0 ∧ ∃ s,Yl.read x = .number s 0 (-1074)) ∨ (n ≠ 0 ∧ Yl.read x = .number (decide (n < 0)) (n.natAbs * 2 ^ (52 - n.natAbs.log2)) ((n.natAbs.log2:Int) - 53)))
theorem Kk.num {x:Nat} {n:Int} (h:Kk x n):∃ s m e,Yl.read x = .number s m e ∧ e ≤ -1 ∧ -1074 ≤ e ∧ ∀ (b:Int),b ≤ e → Ieee.signed s m (e - b).toNat = n * 2 ^ (-1 - b).toNat:=by
 obtain ⟨hb,⟨rfl,s,hr⟩ | ⟨hn,hr⟩⟩:=h
 ·refine ⟨s,0,_,hr,by omega,by omega,fun b hb => ?_⟩
  unfold Ieee.signed
  cases s <;> simp
 ·have h0:n.natAbs ≠ 0:=by omega
  have hL:=Zf0 h0 hb
  refine ⟨_,_,_,hr,by omega,by omega,fun b hb => ?_⟩
  unfold Ieee.signed
  have e1:(n.natAbs * 2 ^ (52 - n.natAbs.log2)) <<< ((n.natAbs.log2:Int) - 53 - b).toNat = n.natAbs * 2 ^ (-1 - b).toNat:=by
   rw [He,Hb,← U3]
   congr 2; omega
  rw [e1]
  grind
theorem Zbx {s:Bool} {m:Nat} {e:Int} {n:Int} {t:Nat} (he:e = -1 - (t:Int)) (hm:m = n.natAbs * 2 ^ t) (hs:n ≠ 0 → s = decide (n < 0)) (hb:n.natAbs < 9007199254740992):Kk (Yl.write (.number s m e)) n:=by
 refine ⟨hb,?_⟩
 show _ ∨ (_ ∧ Yl.read (Yl.nearest s m e) = _)
 by_cases hn:n = 0
 ·left
  refine ⟨hn,s,?_⟩
  show Yl.read (Yl.nearest s m e) = _
  subst hn
  rw [show m = 0 by rw [hm]; simp]
  unfold Ieee.Format.nearest
  rw [if_pos rfl]
  exact ZnN s
 ·right
  refine ⟨hn,?_⟩
  rw [hm,he,← hs hn]
  exact Zp4 s (by omega) hb
theorem Zit (n:Int) (hb:n.natAbs < 4503599627370496):Kk (Je.nearest n) (2 * n):=by
 show Kk (Yl.nearest (decide (n < 0)) n.natAbs 0) (2 * n)
 refine ⟨by omega,?_⟩
 by_cases hn:n = 0
 ·left
  subst hn
  exact ⟨rfl,false,by decide⟩
 ·right
  refine ⟨by omega,?_⟩
  rw [Zeg _ (by omega) hb]
  have e1:(2 * n).natAbs = 2 * n.natAbs:=by omega
  simp_all <;> omega
theorem ZqO {a b:Int} {p:Int} (hp:0 < p):compare (a * p) (b * p) = compare a b:=by
 rcases Int.lt_trichotomy a b with h | h | h
 ·have:=HG h hp
  rw [Hm.2 h,Hm.2 this]
 ·subst h; simp
 ·have:=HG h hp
  rw [HF.2 h,HF.2 this]
theorem ZhS {x y:Nat} {a b:Int} (hx:Kk x a) (hy:Kk y b):Je.format.order x y = some (compare a b):=by
 obtain ⟨s,m,i,h1,h2,_,h3⟩:=hx.num
 obtain ⟨t,n,j,g1,g2,_,g3⟩:=hy.num
 show (Yl.read x).order (Yl.read y) = _
 rw [h1,g1]
 unfold Ieee.Datum.order
 simp only
 rw [h3 _ (Hq i j),g3 _ (Hr i j),ZqO (U6 (by omega))]
theorem Zu7 {x y:Nat} {a b:Int} (hx:Kk x a) (hy:Kk y b) (hb:(a + b).natAbs < 9007199254740992):∃ z,floatBits .add .f64 x y = some z ∧ Kk z (a + b):=by
 obtain ⟨s,m,i,h1,h2,h2',h3⟩:=hx.num
 obtain ⟨t,n,j,g1,g2,g2',g3⟩:=hy.num
 show ∃ z,((Yl.read x).sum (Yl.read y)).map Yl.write = some z ∧ _
 rw [h1,g1]
 unfold Ieee.Datum.sum
 simp only
 rw [h3 _ (Hq i j),g3 _ (Hr i j),← Int.add_mul]
 refine ⟨_,rfl,?_⟩
 have hp:(0:Int) < 2 ^ (-1 - min i j).toNat:=U6 (by omega)
 refine Zbx (t:=(-1 - min i j).toNat) (by omega) ?_ (fun hn => ?_) hb
 ·rw [Ht,Int.natAbs_pow]; rfl
 ·rw [if_neg (by simp_all <;> omega)]
  by_cases hlt:a + b < 0
  ·rw [dTr hlt,dTr (HH hlt hp)]
  ·rw [dFa hlt,dFa (by
    have:=Int.mul_nonneg (show 0 ≤ a + b by omega) (Hp hp)
    omega)]
theorem ZFu {x:Nat} {n:Int} (h:Kk x n):∃ s m e,(Yl.read x).opposite = .number s m e ∧ e ≤ -1 ∧ ∀ (b:Int),b ≤ e → Ieee.signed s m (e - b).toNat = -n * 2 ^ (-1 - b).toNat:=by
 obtain ⟨s,m,e,h1,h2,_,h3⟩:=h.num
 refine ⟨!s,m,e,by rw [h1]; rfl,h2,fun b hb => ?_⟩
 have:=h3 b hb
 unfold Ieee.signed at this ⊢
 grind
theorem ZFH {x y:Nat} {a b:Int} (hx:Kk x a) (hy:Kk y b) (hb:(a - b).natAbs < 9007199254740992):∃ z,floatBits .sub .f64 x y = some z ∧ Kk z (a - b):=by
 obtain ⟨s,m,i,h1,h2,h2',h3⟩:=hx.num
 obtain ⟨t,n,j,g1,g2,g3⟩:=ZFu hy
 show ∃ z,((Yl.read x).sum (Yl.read y).opposite).map Yl.write = some z ∧ _
 rw [h1,g1]
 unfold Ieee.Datum.sum
 simp only
 rw [h3 _ (Hq i j),g3 _ (Hr i j),← Int.add_mul,← Int.sub_eq_add_neg]
 refine ⟨_,rfl,?_⟩
 have hp:(0:Int) < 2 ^ (-1 - min i j).toNat:=U6 (by omega)
 refine Zbx (t:=(-1 - min i j).toNat) (by omega) ?_ (fun hn => ?_) hb
 ·rw [Ht,Int.natAbs_pow]; rfl
 ·rw [if_neg (by simp_all <;> omega)]
  by_cases hlt:a - b < 0
  ·rw [dTr hlt,dTr (HH hlt hp)]
  ·rw [dFa hlt,dFa (by
    have:=Int.mul_nonneg (show 0 ≤ a - b by omega) (Hp hp)
    omega)]
end Go.Sh
namespace Go.Sh
open Go Go.Proofs
theorem ZDu (s:Bool) (m:Nat):(Ieee.Datum.number s 0 (-1074)) = Ieee.Datum.number s ((0:Int).natAbs * m) (-((1074:Nat):Int)):=by
 simp_all
theorem Kk.nat {x:Nat} {n:Int} (h:Kk x n):∃ (s:Bool) (t:Nat),Yl.read x = .number s (n.natAbs * 2 ^ (t - 1)) (-(t:Int)) ∧ 1 ≤ t ∧ (n ≠ 0 → s = decide (n < 0) ∧ (n.natAbs * 2 ^ (t - 1)).log2 = 52):=by
 obtain ⟨hb,⟨rfl,s,hr⟩ | ⟨hn,hr⟩⟩:=h
 ·exact ⟨s,1074,hr.trans (ZDu s _),by omega,fun h => absurd rfl h⟩
 ·have h0:n.natAbs ≠ 0:=by omega
  have hL:=Zf0 h0 hb
  refine ⟨_,53 - n.natAbs.log2,hr.trans ?_,by omega,fun _ => ⟨rfl,?_⟩⟩
  ·grind
  ·rw [Yd h0]; omega
theorem ZDx:Yl.read 4607182418800017408 = .number false 4503599627370496 (-52):=by decide
theorem ZD3:Yl.read 4611686018427387904 = .number false 4503599627370496 (-51):=by decide
theorem Zis {x:Nat} {a:Int} (hx:Kk x a):∃ z,floatBits .mul .f64 x 4607182418800017408 = some z ∧ Kk z a:=by
 obtain ⟨s,t,hr,h1,hs⟩:=hx.nat
 show ∃ z,((Yl.read x).product (Yl.read 4607182418800017408)).map Yl.write = some z ∧ _
 rw [hr,ZDx]
 refine ⟨_,rfl,Zbx (t:=t + 51) (by omega) ?_ (fun hn => by rw [(hs hn).1]; simp) hx.1⟩
 rw [Hb,show (4503599627370496:Nat) = 2 ^ 52 from rfl,← U3]
 congr 2; omega
theorem ZC9 {x:Nat} {c:Int} (hx:Kk x (2 * c)):∃ z,floatBits .quo .f64 x 4611686018427387904 = some z ∧ Kk z c:=by
 obtain ⟨s,t,hr,h1,hs⟩:=hx.nat
 show ∃ z,((Yl.read x).quotient 54 (Yl.read 4611686018427387904)).map Yl.write = some z ∧ _
 rw [hr,ZD3]
 unfold Ieee.Datum.quotient
 simp only
 rw [if_neg (by omega)]
 refine ⟨_,rfl,?_⟩
 have hb:=hx.1
 by_cases hn:c = 0
 ·subst hn
  simp only [Int.mul_zero,Int.natAbs_zero,Nat.zero_mul,Nat.zero_shiftLeft,Nat.zero_div,Nat.zero_mod]
  have e1:(4503599627370496:Nat).log2 = 52:=by decide
  have e2:(0:Nat).log2 = 0:=by decide
  rw [e1,e2]
  exact Zbx (t:=t + 55) (by simp; omega) (by simp) (fun h => absurd rfl h) (by simp)
 ·obtain ⟨h2,h3⟩:=hs (by omega)
  rw [h3,show (4503599627370496:Nat).log2 = 52 from by decide,show 54 + 52 - 52 = 54 from rfl,He]
  have e0:(2 ^ 54:Nat) = 4 * 4503599627370496:=by decide
  rw [e0,← Hb,Nat.mul_div_cancel _ (by omega),Nat.mul_mod_left]
  refine Zbx (t:=t + 3) (by omega) ?_ (fun _ => ?_) (by omega)
  ·have e1:(2 * c).natAbs = 2 * c.natAbs:=by omega
   rw [e1]
   have e2:2 ^ (t + 3) = 2 ^ (t - 1) * 16:=by rw [show t + 3 = (t - 1) + 4 by omega,U3]
   grind
  grind
theorem ZiC {s:Bool} {q:Nat} {n:Int} (hq:q = n.natAbs) (hs:n ≠ 0 → s = decide (n < 0)) (hb:n.natAbs < 4503599627370496):Kk (Yl.write (.number s q 0)) (2 * n):=by
 subst hq
 refine ⟨by omega,?_⟩
 show _ ∨ (_ ∧ Yl.read (Yl.nearest s n.natAbs 0) = _)
 by_cases hn:n = 0
 ·left
  refine ⟨by omega,s,?_⟩
  show Yl.read (Yl.nearest s n.natAbs 0) = _
  subst hn
  unfold Ieee.Format.nearest
  rw [if_pos (by rfl)]
  exact ZnN s
 ·right
  refine ⟨by omega,?_⟩
  rw [Zeg _ (by omega) hb,hs hn]
  have e1:(2 * n).natAbs = 2 * n.natAbs:=by omega
  simp_all <;> omega
theorem ZgB {s:Bool} {a t:Nat} (way:Ieee.Toward) (hway:way = .down ∨ way = .zero) (ht:1 ≤ t) (hl:a ≠ 0 → (a * 2 ^ (t - 1)).log2 = 52) (ht':a ≠ 0 → t ≤ 53) :
  way.cut s (a * 2 ^ (t - 1)) t = a / 2 + (if way = .down then (s && decide (a % 2 ≠ 0)).toNat else 0):=by
 by_cases h0:a = 0
 ·subst h0
  rcases hway with rfl | rfl <;> simp [Ieee.Toward.cut]
 ·unfold Ieee.Toward.cut
  have h1:=hl h0
  have h2:=ht' h0
  simp only [U4 (show t ≤ (a * 2 ^ (t - 1)).log2 + 2 by omega),HQ]
  have hp:0 < 2 ^ (t - 1):=U2 (by omega)
  have e1:2 ^ t = 2 * 2 ^ (t - 1):=by rw [show t = (t - 1) + 1 by omega,Hz,Ha]; omega
  rw [e1,Nat.mul_div_mul_right _ _ hp,Nat.mul_mod_mul_right]
  have e2:(a % 2 * 2 ^ (t - 1) != 0) = decide (a % 2 ≠ 0):=by
   grind
  grind
theorem Zqq {x:Nat} {n:Int} {s:Bool} {t:Nat} (h:n.natAbs ≠ 0) (ht:1 ≤ t) (hl:(n.natAbs * 2 ^ (t - 1)).log2 = 52):t ≤ 53:=by
 rw [Yd h] at hl; omega
theorem Zy0 {x:Nat} {n:Int} (hx:Kk x n) (hb:n.natAbs < 4503599627370496):∃ z,Wm .down x = some z ∧ Kk z (2 * (n / 2)):=by
 obtain ⟨s,t,hr,h1,hs⟩:=hx.nat
 unfold Wm
 have hd:Je.decode x = .number s (n.natAbs * 2 ^ (t - 1)) (-(t:Int)):=hr
 rw [hd]
 refine ⟨_,rfl,?_⟩
 show Kk (Yl.write (Ieee.Datum.integral .down (.number s (n.natAbs * 2 ^ (t - 1)) (-(t:Int))))) _
 unfold Ieee.Datum.integral
 simp only [Hv,WV,show (-(t:Int)).toNat = 0 by omega,Hh]
 rw [ZgB .down (.inl rfl) h1 (fun h => (hs (by omega)).2) (fun h => Zqq (x:=x) (s:=s) h h1 (hs (by omega)).2),if_pos rfl]
 refine ZiC ?_ (fun hne => ?_) (by omega)
 ·by_cases h0:n = 0
  ·subst h0; simp
  ·rw [(hs h0).1]
   by_cases hlt:n < 0
   ·rw [dTr hlt]
    by_cases ho:n.natAbs % 2 = 0
    ·simp [ho]; omega
    ·simp [ho]; omega
   grind
 grind
theorem ZzB {x:Nat} {v:Int} (hx:Kk x (2 * v)) (hb:v.natAbs < 1125899906842624):∃ z,Wm .zero x = some z ∧ Kk z (2 * v):=by
 obtain ⟨s,t,hr,h1,hs⟩:=hx.nat
 unfold Wm
 have hd:Je.decode x = .number s ((2 * v).natAbs * 2 ^ (t - 1)) (-(t:Int)):=hr
 rw [hd]
 refine ⟨_,rfl,?_⟩
 show Kk (Yl.write (Ieee.Datum.integral .zero (.number s ((2 * v).natAbs * 2 ^ (t - 1)) (-(t:Int))))) _
 unfold Ieee.Datum.integral
 simp only [Hv,WV,show (-(t:Int)).toNat = 0 by omega,Hh]
 rw [ZgB .zero (.inr rfl) h1 (fun h => (hs (by omega)).2) (fun h => Zqq (x:=x) (s:=s) h h1 (hs (by omega)).2),if_neg (by decide)]
 refine ZiC (by omega) (fun hne => ?_) (by omega)
 grind
theorem K6 {x:Nat} {v:Int} (hx:Kk x (2 * v)) (hb:v.natAbs < 1125899906842624):floatToIntVal .f64 x .i64 = some v:=by
 obtain ⟨s,t,hr,h1,hs⟩:=hx.nat
 unfold floatToIntVal
 have hd:Je.decode x = .number s ((2 * v).natAbs * 2 ^ (t - 1)) (-(t:Int)):=hr
 rw [hd]
 have:Ieee.Datum.toInt .zero (.number s ((2 * v).natAbs * 2 ^ (t - 1)) (-(t:Int))) = some v:=by
  unfold Ieee.Datum.toInt Ieee.Datum.integral
  simp only [Hv,WV,show (-(t:Int)).toNat = 0 by omega,Hh]
  rw [ZgB .zero (.inr rfl) h1 (fun h => (hs (by omega)).2) (fun h => Zqq (x:=x) (s:=s) h h1 (hs (by omega)).2),if_neg (by decide)]
  unfold Ieee.signed
  grind
 grind [IntKind.min,IntKind.max,IntKind.signed,IntKind.bits]
theorem ZDJ (x:Nat):Yl.read (x % 9223372036854775808) = match Yl.read x with | .number _ m e => .number false m e | .infinity _ => .infinity false | .nan _ f => .nan false f:=by
 unfold Ieee.Format.read
 simp only [Zfk,Zez,Zop,ZgC]
 have e1:x % 9223372036854775808 / 9223372036854775808 = 0:=Hg (U7 _ (by omega))
 rw [e1,Nat.mod_mod]
 grind
theorem Zn6 {x:Nat} {n:Int} (hx:Kk x n):Kk (x % 9223372036854775808) (n.natAbs:Int):=by
 obtain ⟨hb,h⟩:=hx
 refine ⟨by simpa using hb,?_⟩
 rw [ZDJ]
 grind
theorem Zkx (k x:Nat):Zg1 k (x,()) = some (x % 9223372036854775808,()):=by
 show Zg2 k _ = _
 simp only [Zg2]
 congr 2
 have e1:UJ 64 (UI x) &&& ~~~UJ 64 (9223372036854775808:Int) = Hj 64 (x % 9223372036854775808):=by
  apply BitVec.eq_of_getLsbD_eq
  intro i hi
  have h1:UJ 64 (UI x) = Hj 64 x:=HB ..
  have h2:UJ 64 (9223372036854775808:Int) = BitVec.twoPow 64 63:=by decide
  rw [h1,h2]
  simp only [BitVec.getLsbD_and,BitVec.getLsbD_not,BitVec.getLsbD_ofNat,BitVec.getLsbD_twoPow,show (9223372036854775808:Nat) = 2 ^ 63 from rfl,HR]
  grind
 rw [e1,Hk]
 have:x % 9223372036854775808 < 9223372036854775808:=U7 _ (by omega)
 rw [Nat.mod_eq_of_lt (by omega)]
 show (UK.wrap ((x % 9223372036854775808:Nat):Int)).toNat = _
 rw [Zmg (by omega),WV]
end Go.Sh
namespace Go.Sh
open Go Go.Proofs
def Z5 (n:Int):Prop := -16777216 ≤ n ∧ n ≤ 16777216
def PV2 (p:Nat × Nat) (l r:Int):Prop:=Kk p.1 (2 * l) ∧ Kk p.2 (2 * r) ∧ Z5 l ∧ Z5 r
structure PP (p:List (Nat × Nat)) (L R:List Int):Prop where
 hl:p.length = L.length
 hr:p.length = R.length
 at_:∀ i (h:i < p.length),PV2 p[i] (L[i]'(hl ▸ h)) (R[i]'(hr ▸ h))
def ZcY (L R:List Int):List (Nat × Nat):=(L.zip R).map fun x => (Je.nearest x.1,Je.nearest x.2)
theorem Zsp {L R:List Int} (h:L.length = R.length) (hL:∀ x ∈ L,Z5 x) (hR:∀ x ∈ R,Z5 x):PP (ZcY L R) L R where
 hl:=by simp [ZcY,h]
 hr:=by simp [ZcY,h]
 at_:=fun i hi => by
  simp only [ZcY,List.length_map,List.length_zip] at hi
  have h1:=hL L[i] (U5 (by omega))
  have h2:=hR R[i] (U5 (by omega))
  simp only [ZcY,List.getElem_map,List.getElem_zip]
  exact ⟨Zit _ (by unfold Z5 at h1; omega),Zit _ (by unfold Z5 at h2; omega),h1,h2⟩
theorem ZCh (k:Nat) {L R:List Int} (hk:L.length < k) (h:L.length = R.length) (hn:L.length ≤ 8192) (hL:∀ x ∈ L,Z5 x) (hR:∀ x ∈ R,Z5 x) :
  ZrW k (L,R,()) = some ((ZcY L R,0,()),()):=by
 show Za6 k (Zk1 k) _ = _
 simp only [Za6]
 rw [show (UI L.length != UI R.length) = false from by rw [h]; simp]
 simp only [cond_false]
 rw [Zr (by simp only [Xb]; omega)]
 have:=ZC (A:=List (Nat × Nat)) (step:=fun L1 => YO k L1) (fun i acc => (UI L.length,UI i,L,R,acc)) (L.zip R)
  (fun l acc => some ((acc ++ l.map (fun x => (Je.nearest x.1,Je.nearest x.2)),0,()),())) (fun i acc => acc.length = i)
  (fun L1 acc ha => by
   grind [YO])
  (fun L1 i hi acc ha hL1 => by
   have hi2:i < L.length:=by simp at hi; omega
   have hi3:i < R.length:=by omega
   have b1:=hL L[i] (U5 hi2)
   have b2:=hR R[i] (U5 hi3)
   unfold Z5 at b1 b2
   simp only [YO]
   rw [Zc (ltR hi2),Zc (inR hi2),Zc (inR hi3),ZQ hi2,ZQ hi3]
   rw [Zr (by omega),Zr (by omega),Zr (by omega),Zr (by omega),Zc (by simp; omega),Q1 hi2 (by omega)]
   rw [hL1 _ (by simp [ha])]
   simp) k 0 [] rfl (by simp; omega) (UU _)
 exact U8 this (by rw [U9]; rfl)
theorem Zkm (k:Nat) {x y:Nat} {a b:Int} (hx:Kk x a) (hy:Kk y b) (hb:(a - b).natAbs < 9007199254740992) (hb2:(a + b).natAbs < 9007199254740992):∃ z,Zkl k ((x,y),()) = some (z,()) ∧ Kk z (a - b):=by
 show ∃ z,ZgF k _ = _ ∧ _
 simp only [ZgF]
 unfold cMulBits
 obtain ⟨z1,e1,v1⟩:=Zis hx
 obtain ⟨z2,e2,v2⟩:=Zis hy
 obtain ⟨z3,e3,v3⟩:=ZFH v1 v2 hb
 obtain ⟨z4,e4,v4⟩:=Zu7 v1 v2 hb2
 simp_all
theorem Zz9 (k:Nat) {x:Nat} {n:Int} (hx:Kk x n) (hb:n.natAbs < 4503599627370496):∃ z,ZtG k (x,()) = some (z,()) ∧ Kk z (2 * (n / 2)):=by
 obtain ⟨z,e,v⟩:=Zy0 hx hb
 refine ⟨z,?_,v⟩
 show ZgG k _ = _
 simp only [ZgG,e,Qt]
theorem Zri (k:Nat) {x:Nat} {v:Int} (hx:Kk x (2 * v)) (hb:v.natAbs < 1125899906842624):∃ z,ZgY k (x,()) = some (z,()) ∧ Kk z (2 * v):=by
 obtain ⟨z,e,w⟩:=ZzB hx hb
 refine ⟨z,?_,w⟩
 show ZgZ k _ = _
 simp only [ZgZ,e,Qt]
theorem ZDp:Yl.read 9218868437227405311 = .number false 9007199254740991 971:=by decide
theorem ZFp {x:Nat} {n:Int} (hx:Kk x n) (h0:0 ≤ n):(Je.format.order x 9218868437227405311 == some Ordering.gt) = false:=by
 obtain ⟨s,m,i,h1,h2,h2',h3⟩:=hx.num
 have:Je.format.order x 9218868437227405311 = some Ordering.lt:=by
  show (Yl.read x).order (Yl.read 9218868437227405311) = _
  rw [h1,ZDp]
  unfold Ieee.Datum.order
  simp only
  have hmin:min i 971 = i:=by omega
  rw [hmin,h3 i (Int.le_refl _)]
  congr 1
  rw [Hm]
  unfold Ieee.signed
  simp only [JJ,if_false]
  rw [He,Hu]
  have hp:(0:Int) < 2 ^ (-1 - i).toNat:=U6 (by omega)
  obtain ⟨d,hd,hd1⟩:∃ d:Nat,(971 - i).toNat = (-1 - i).toNat + d ∧ d ≠ 0:=⟨972,by omega,by omega⟩
  have hq:(((2 ^ (971 - i).toNat:Nat):Int)) = 2 ^ (-1 - i).toNat * ((2 ^ d:Nat):Int):=by
   grind
  rw [hq]
  have hb:=hx.1
  have hQ:1 < 2 ^ d:=Nat.one_lt_two_pow hd1
  have e1:n * 2 ^ (-1 - i).toNat ≤ 9007199254740991 * 2 ^ (-1 - i).toNat:=Int.mul_le_mul_of_nonneg_right (by omega) (Hp hp)
  grind
 rw [this]; rfl
theorem Zrj (k:Nat) {x:Nat} {n:Int} (hx:Kk x n):ZoO k (x,0,()) = some (false,()):=by
 show Zg0 k _ = _
 simp only [Zg0]
 rw [show ((0:Int) == (0:Int)) = true from rfl]
 simp only [cond_true,Zkx,Qt]
 rw [ZFp (Zn6 hx) (by omega)]
theorem ZFb:Kk 4715268809856909312 33554432:=by
 refine ⟨by decide,.inr ⟨by decide,by decide⟩⟩
theorem ZFl {x y:Nat} {a b:Int} (hx:Kk x a) (hy:Kk y b):∃ z,Zst .f64 x y = some z ∧ Kk z (max a b):=by
 unfold Zst
 rw [ZhS hx hy]
 grind
theorem Zsv {x y:Nat} {a:Int} (hx:Kk x a) (hy:Kk y a):(Je.format.order x y != some Ordering.eq) = false:=by
 rw [ZhS hx hy]; simp
theorem Zzi {x:Nat} {a:Int} (hx:Kk x a) (h:a ≤ 33554432):(Je.format.order x 4715268809856909312 == some Ordering.gt) = false:=by
 rw [ZhS hx ZFb]
 grind
theorem ZtF (k:Nat) (hk:4 < k) (L1:Int × Int × List (Nat × Nat) × List (Nat × Nat) → Option (Int × Unit)) {x y:Nat} {l r:Int} (h:PV2 (x,y) l r) (v3 v4:Int) (v5 v6:List (Nat × Nat)) :
  Zfm k L1 (0,x,y,v3,v4,v5,v6) = L1 (v4,Jx.wrap (v3 + 1),v5,v6):=by
 obtain ⟨hx,hy,b1,b2⟩:=h
 unfold Z5 at b1 b2
 obtain ⟨k,rfl⟩:∃ m,k = m + 3:=⟨k - 3,by omega⟩
 obtain ⟨z1,e1,w1⟩:=Zri (k + 3) hx (by omega)
 obtain ⟨z2,e2,w2⟩:=Zri (k + 3) hy (by omega)
 show Zn (fun L2 => ZaC (k + 3) L1 L2) (k + 3) _ = _
 rw [Ze]
 simp only [ZaC]
 rw [Zc (by omega),Zc (by omega)]
 show ((ZgY (k + 3) (x,())).bind _) = _
 rw [e1]
 simp only [Qt]
 rw [show [x,y].getD (0:Int).toNat (0:Nat) = x from rfl,Zsv w1 hx]
 simp only [cond_false]
 rw [Zrj _ hx]
 simp only [Qt,cond_false]
 rw [show Jx.wrap ((0:Int) + 1) = 1 from by rw [Qk (by omega)]; rfl,Ze]
 simp only [ZaC]
 rw [Zc (by omega),Zc (by omega)]
 show ((ZgY (k + 3) (y,())).bind _) = _
 rw [e2]
 simp only [Qt]
 rw [show [x,y].getD (1:Int).toNat (0:Nat) = y from rfl,Zsv w2 hy]
 simp only [cond_false]
 rw [Zrj _ hy]
 rfl
theorem ZxA (k:Nat) {p:List (Nat × Nat)} {L R:List Int} (hp:PP p L R) (hk:p.length + 4 < k) (hn:p.length ≤ 8192):ZtE k (p,()) = some (0,()):=by
 show Zdq k (ZiQ k) _ = _
 simp only [Zdq]
 rw [Zr (by simp only [Xb]; omega)]
 have h3:Zfn k (UI p.length,(0:Int),p) = some (0,()):=by
  have:=Wv (A:=Unit) (step:=fun L3 => ZaD k L3) (fun i _ => (UI p.length,UI i,p)) p (fun _ _ => some (0,()))
   (fun L _ => by grind [ZaD])
   (fun L i hi _ hL => by
    obtain ⟨hx,hy,b1,b2⟩:=hp.at_ i hi
    unfold Z5 at b1 b2
    simp only [ZaD]
    rw [Zc (ltR hi),Zc (inR hi),ZQ hi,Zkx,Zkx]
    simp only [Qt]
    obtain ⟨z,e,w⟩:=ZFl (Zn6 hx) (Zn6 hy)
    rw [e]
    simp only [Qt]
    rw [Zzi w (by omega)]
    simp only [cond_false]
    rw [Q1 hi (by omega),hL ()]) k 0 () (by omega) (UU _)
  exact this
 have:=Wv (A:=Unit) (step:=fun L1 => ZaB k (Zfm k L1) (Zfn k) L1) (fun i _ => (UI p.length,UI i,p,p)) p (fun _ _ => some (0,()))
  (fun L _ => by grind [ZaB])
  (fun L i hi _ hL => by
   simp only [ZaB]
   rw [Zc (ltR hi),Zc (inR hi),ZQ hi]
   rw [ZtF k (by omega) L (x:=p[i].1) (y:=p[i].2) (hp.at_ i hi),Q1 hi (by omega),hL ()]) k 0 () (by omega) (UU _)
 exact this
def apA (m l r:Int):Int:=if m = 9 then l - r else if m = 10 then (l + r) / 2 else l
def apB (m l r:Int):Int:=if m = 8 then l - r else if m = 10 then l - r else r
def ZfZ (m:Int):Prop:=m = 0 ∨ m = 8 ∨ m = 9 ∨ m = 10
def WF (m:Int) (L R:List Int):List Int:=(L.zip R).map fun x => apA m x.1 x.2
def WG (m:Int) (L R:List Int):List Int:=(L.zip R).map fun x => apB m x.1 x.2
theorem Zsa (k:Nat) {m:Int} (h:ZfZ m):ZwB k (m,()) = some (true,()):=by
 rcases h with rfl | rfl | rfl | rfl <;> rfl
theorem Zk2 (k:Nat) {p:List (Nat × Nat)} {L R:List Int} (hp:PP p L R) (hk:p.length + 4 < k) (hn:p.length ≤ 8192) {m:Int} (hm:ZfZ m) :
  ZrY k (p,m,()) = some ((WF m L R,WG m L R,0,()),()):=by
 show ZfK k (Zpv k) _ = _
 simp only [ZfK]
 rw [Zsa k hm]
 simp only [Qt,Hl,cond_false]
 rw [ZxA k hp hk hn]
 simp only [Qt]
 rw [show ((0:Int) != (0:Int)) = false from rfl]
 simp only [cond_false]
 have hl:=hp.hl
 have hr:=hp.hr
 have:=ZC (A:=List Int × List Int) (step:=fun L1 => ZcE k L1) (fun i a => (UI p.length,UI i,p,m,a.1,a.2)) (L.zip R)
  (fun l a => some ((a.1 ++ l.map (fun x => apA m x.1 x.2),a.2 ++ l.map (fun x => apB m x.1 x.2),0,()),())) (fun i a => a.1.length = i ∧ a.2.length = i)
  (fun L1 a ha => by
   grind [ZcE])
  (fun L1 i hi a ha hL1 => by
   have hi2:i < p.length:=by simp at hi; omega
   obtain ⟨hx,hy,b1,b2⟩:=hp.at_ i hi2
   unfold Z5 at b1 b2
   simp only [ZcE]
   rw [Zc (ltR hi2),Zc (inR hi2),ZQ hi2]
   have s1:(a.1.length + [(0:Int)].length < 2147483648):=by simp; omega
   have s2:(a.2.length + [(0:Int)].length < 2147483648):=by simp; omega
   have hz:(L.zip R)[i] = (L[i]'(by omega),R[i]'(by omega)):=by simp
   rw [hz]
   have fin:∀ (u v:Int),u = apA m (L[i]'(by omega)) (R[i]'(by omega)) → v = apB m (L[i]'(by omega)) (R[i]'(by omega)) →
     L1 (UI p.length,Jx.wrap (UI i + 1),p,m,a.1 ++ [u],a.2 ++ [v]) = some ((a.1 ++ List.map (fun x => apA m x.1 x.2) ((L[i]'(by omega),R[i]'(by omega)) :: UO (i + 1) (L.zip R)),a.2 ++ List.map (fun x => apB m x.1 x.2) ((L[i]'(by omega),R[i]'(by omega)) :: UO (i + 1) (L.zip R)),0,()),()):=by
    intro u v hu hv
    rw [Q1 hi2 (by omega)]
    simp_all
   rcases hm with rfl | rfl | rfl | rfl
   ·rw [show ((0:Int) == (8:Int)) = false from rfl,show ((0:Int) == (9:Int)) = false from rfl,show ((0:Int) == (10:Int)) = false from rfl]
    simp only [cond_false]
    rw [K6 hx (by omega)]
    simp only [Qt]
    rw [Zc (by simp; omega),K6 hy (by omega)]
    simp only [Qt]
    rw [Zc (by simp; omega)]
    exact fin _ _ rfl rfl
   ·rw [show ((8:Int) == (8:Int)) = true from rfl]
    simp only [cond_true]
    obtain ⟨z,e,w⟩:=Zkm k hx hy (by omega) (by omega)
    rw [← Hs] at w
    rw [e]
    simp only [Qt]
    rw [K6 hx (by omega)]
    simp only [Qt]
    rw [Zc (by simp; omega),K6 w (by omega)]
    simp only [Qt]
    rw [Zc (by simp; omega)]
    exact fin _ _ rfl rfl
   ·rw [show ((9:Int) == (8:Int)) = false from rfl,show ((9:Int) == (9:Int)) = true from rfl]
    simp only [cond_true,cond_false]
    obtain ⟨z,e,w⟩:=Zkm k hx hy (by omega) (by omega)
    rw [← Hs] at w
    rw [e]
    simp only [Qt]
    rw [K6 w (by omega)]
    simp only [Qt]
    rw [Zc (by simp; omega),K6 hy (by omega)]
    simp only [Qt]
    rw [Zc (by simp; omega)]
    exact fin _ _ rfl rfl
   ·rw [show ((10:Int) == (8:Int)) = false from rfl,show ((10:Int) == (9:Int)) = false from rfl,show ((10:Int) == (10:Int)) = true from rfl]
    simp only [cond_true,cond_false]
    obtain ⟨z1,e1,w1⟩:=Zu7 hx hy (by omega)
    rw [← Int.mul_add] at w1
    obtain ⟨z2,e2,w2⟩:=ZC9 w1
    obtain ⟨z3,e3,w3⟩:=Zz9 k w2 (by omega)
    obtain ⟨z,e,w⟩:=Zkm k hx hy (by omega) (by omega)
    rw [← Hs] at w
    rw [e1]
    simp only [Qt]
    rw [e2]
    simp only [Qt]
    rw [e3]
    simp only [Qt]
    rw [e]
    simp only [Qt]
    rw [K6 w3 (by omega)]
    simp only [Qt]
    rw [Zc (by simp; omega),K6 w (by omega)]
    simp only [Qt]
    rw [Zc (by simp; omega)]
    exact fin _ _ rfl rfl) k 0 ([],[]) ⟨rfl,rfl⟩ (by simp; omega) (UU _)
 exact U8 this (by rw [U9]; rfl)
end Go.Sh
namespace Go.Sh
open Go Go.Proofs
theorem ZsO (x:Int) {w:Nat} (hw:0 < w):Xk x w = (x.fdiv (2 ^ (w - 1)) == 0 || x.fdiv (2 ^ (w - 1)) == -1):=by
 rw [HD]
 constructor
 ·intro h
  rcases Zsd hw h with h | h
  ·rw [h]; rfl
  ·rw [h]; rfl
 ·intro h
  unfold Xk
  rw [if_neg (by omega),decide_eq_true_eq]
  have hp:(0:Int) < 2 ^ (w - 1):=U6 (by omega)
  rw [Ho _ (by omega)] at h
  have h1:=Int.mul_ediv_add_emod x (2 ^ (w - 1))
  have h2:=Hn x (show (2:Int) ^ (w - 1) ≠ 0 by omega)
  have h3:=Int.emod_lt_of_pos x hp
  grind
def ZeR:List Int → Int → Int → Int
 | [],n,_ => n
 | x :: l,n,last => ZeR l (n + ((x - last).natAbs:Int)) x
def Zdg (l:List Int):Int:=ZeR l 0 0
def Qg (n:Int):Prop := -67108864 ≤ n ∧ n ≤ 67108864
theorem Zsb (k:Nat) (l:List Int) (hk:l.length < k) (hn:l.length ≤ 8192) (hl:∀ x ∈ l,Qg x):ZwC k (l,()) = some (Zdg l,()):=by
 show ZfS k (ZpP k) _ = _
 simp only [ZfS]
 have:=ZC (A:=Int × Int) (step:=fun L1 => ZcO k L1) (fun i a => (UI l.length,UI i,l,a.1,a.2)) l
  (fun l' a => some (ZeR l' a.1 a.2,())) (fun i a => 0 ≤ a.1 ∧ a.1 ≤ (i:Int) * 268435456 ∧ Qg a.2)
  (fun L a _ => by simp only [ZcO]; rw [Zr (ZeL _)]; rfl)
  (fun L i hi a ha hL => by
   have hx:=hl _ (U5 hi)
   unfold Qg at hx ha
   simp only [ZcO]
   rw [Zc (ltR hi),Zc (inR hi),ZQ hi,Q1 hi (by omega)]
   have e1:Jx.wrap (l[i] - a.2) = l[i] - a.2:=Qk (by omega)
   have e2:Jx.wrap (a.2 - l[i]) = a.2 - l[i]:=Qk (by omega)
   rw [e1,e2]
   have e3:(if l[i] - a.2 < a.2 - l[i] then a.2 - l[i] else l[i] - a.2) = (((l[i] - a.2).natAbs:Nat):Int):=by split <;> omega
   rw [e3]
   have hi':(i:Int) ≤ 8192:=by omega
   have e4:Jx.wrap (a.1 + (((l[i] - a.2).natAbs:Nat):Int)) = a.1 + (((l[i] - a.2).natAbs:Nat):Int):=Qk (by omega)
   rw [e4,hL (a.1 + (((l[i] - a.2).natAbs:Nat):Int),l[i]) ⟨by omega,by push_cast; omega,hx⟩]
   rfl) k 0 (0,0) ⟨by omega,by omega,by unfold Qg; omega⟩ (by omega) (UU _)
 exact this
theorem Zgf:∀ (l:List Int) (n last:Int),(∀ x ∈ l,Qg x) → Qg last → n ≤ ZeR l n last ∧ ZeR l n last ≤ n + (l.length:Int) * 134217728
 | [],n,last,_,_ => by simp [ZeR]
 | x :: l,n,last,h,hb => by
  have hx:=h x (Jm ..)
  have:=Zgf l (n + ((x - last).natAbs:Int)) x (fun y hy => h y (Jn _ hy)) hx
  unfold Qg at hx hb
  grind [ZeR,JF]
theorem Zgg {l:List Int} (h:∀ x ∈ l,Qg x) (hn:l.length ≤ 8192):0 ≤ Zdg l ∧ Zdg l ≤ 1099511627776:=by
 have:=Zgf l 0 0 h (by unfold Qg; omega)
 unfold Zdg
 omega
theorem ZqB {m l r:Int} (hl:Z5 l) (hr:Z5 r):Qg (apA m l r) ∧ Qg (apB m l r):=by
 unfold Z5 at hl hr
 unfold Qg apA apB
 omega
theorem ZqD {m:Int} {L R:List Int} (hL:∀ x ∈ L,Z5 x) (hR:∀ x ∈ R,Z5 x):(∀ x ∈ WF m L R,Qg x) ∧ (∀ x ∈ WG m L R,Qg x):=by
 constructor
 ·intro x hx
  obtain ⟨⟨l,r⟩,h,rfl⟩:=VG.1 hx
  exact (ZqB (hL _ (Vy h).1) (hR _ (Vy h).2)).1
 ·intro x hx
  obtain ⟨⟨l,r⟩,h,rfl⟩:=VG.1 hx
  exact (ZqB (hL _ (Vy h).1) (hR _ (Vy h).2)).2
theorem Zdm {m:Int} {L R:List Int} (h:L.length = R.length):(WF m L R).length = L.length ∧ (WG m L R).length = L.length:=by
 unfold WF WG
 simp [h]
def Zz1 (L R:List Int) (m:Int):Int:=Zdg (WF m L R) + Zdg (WG m L R)
def Zf6 (L R:List Int) (b:Int × Int) (m:Int):Int × Int:=if b.1 < 0 ∨ Zz1 L R m < b.1 then (Zz1 L R m,m) else b
def ZW (L R:List Int):Int:=(Zf6 L R (Zf6 L R (Zf6 L R (Zf6 L R (-1,0) 0) 8) 9) 10).2
theorem Zf7 {L R:List Int} {b:Int × Int} {m:Int} (hb:ZfZ b.2) (hm:ZfZ m):ZfZ (Zf6 L R b m).2:=by
 unfold Zf6; split
 ·exact hm
 ·exact hb
theorem Zex (L R:List Int):ZfZ (ZW L R):=by
 unfold ZW
 exact Zf7 (Zf7 (Zf7 (Zf7 (.inl rfl) (.inl rfl)) (.inr (.inl rfl))) (.inr (.inr (.inl rfl)))) (.inr (.inr (.inr rfl)))
theorem ZfJ (k:Nat) (L1:Int × Int × Int × Int × Int × List (Nat × Nat) × Int × Int → Option ((Int × Int × Unit) × Unit)) {p:List (Nat × Nat)} {L R:List Int} (hp:PP p L R) (hLR:L.length = R.length) (hL:∀ x ∈ L,Z5 x) (hR:∀ x ∈ R,Z5 x)
  (hk:p.length + 4 < k) (hn:p.length ≤ 8192) (j:Nat) (hj:j < 4) (m:Int) (hm:ZfZ m) (hg:[(0:Int),8,9,10].getD j 0 = m) (b:Int × Int) :
  ZcD k L1 ((j:Int),0,8,9,10,p,b.1,b.2) = L1 (((j + 1:Nat):Int),0,8,9,10,p,(Zf6 L R b m).1,(Zf6 L R b m).2):=by
 have hl:=hp.hl
 obtain ⟨sA,sB⟩:=ZqD (m:=m) hL hR
 obtain ⟨lA,lB⟩:=Zdm (m:=m) hLR
 have bA:=Zgg sA (by omega)
 have bB:=Zgg sB (by omega)
 simp only [ZcD]
 rw [Zc (by omega),Zc (by omega),WV,hg,Zk2 k hp hk hn hm]
 simp only [Qt]
 rw [show ((0:Int) != (0:Int)) = false from rfl]
 simp only [cond_false]
 rw [Zsb k _ (by omega) (by omega) sA]
 simp only [Qt]
 rw [Zsb k _ (by omega) (by omega) sB]
 simp only [Qt]
 rw [Qk (n:=Zdg (WF m L R) + Zdg (WG m L R)) (by omega),Qk (n:=(j:Int) + 1) (by omega)]
 unfold Zf6 Zz1
 grind
theorem ZCl (k:Nat) {p:List (Nat × Nat)} {L R:List Int} (hp:PP p L R) (hLR:L.length = R.length) (hL:∀ x ∈ L,Z5 x) (hR:∀ x ∈ R,Z5 x)
  (hk:p.length + 8 < k) (hn:p.length ≤ 8192):ZCi k (p,()) = some ((ZW L R,0,()),()):=by
 obtain ⟨k,rfl⟩:∃ m,k = m + 5:=⟨k - 5,by omega⟩
 show Zn (fun L1 => ZcD (k + 5) L1) (k + 5) ((0:Nat),0,8,9,10,p,(-1,(0:Int)).1,(-1,(0:Int)).2) = _
 rw [Ze,ZfJ (k + 5) _ hp hLR hL hR (by omega) hn 0 (by omega) 0 (.inl rfl) rfl]
 rw [Ze,ZfJ (k + 5) _ hp hLR hL hR (by omega) hn 1 (by omega) 8 (.inr (.inl rfl)) rfl]
 rw [Ze,ZfJ (k + 5) _ hp hLR hL hR (by omega) hn 2 (by omega) 9 (.inr (.inr (.inl rfl))) rfl]
 rw [Ze,ZfJ (k + 5) _ hp hLR hL hR (by omega) hn 3 (by omega) 10 (.inr (.inr (.inr rfl))) rfl]
 rfl
def Yb (ch:List (List Int)):List (List Int) × Int:=match ch with
 | [L,R] => ([WF (ZW L R) L R,WG (ZW L R) L R],if ZW L R = 0 then 1 else ZW L R)
 | ch => (ch,0)
theorem ZBD (k:Nat) (n:Int) (ch:List (List Int)) (hk:9000 < k) (h:ch.length = 1 ∨ (∃ L R,ch = [L,R] ∧ L.length = R.length ∧ L.length ≤ 8192 ∧ (∀ x ∈ L,Z5 x) ∧ ∀ x ∈ R,Z5 x)) :
  ZBC k ((n,ch,()),()) = some (((Yb ch).1,(Yb ch).2,0,()),()):=by
 show ZkP k _ = _
 simp only [ZkP]
 rcases h with h | ⟨L,R,rfl,hLR,hn,hL,hR⟩
 ·match ch,h with
  | [L],_ => rfl
 ·rw [show (UI [L,R].length == (1:Int)) = false from rfl]
  simp only [cond_false]
  rw [Zc (by simp),Zc (by simp)]
  have hp:=Zsp hLR hL hR
  have hpl:(ZcY L R).length ≤ 8192:=by rw [hp.hl]; exact hn
  rw [show [L,R].getD 0 [] = L from rfl,show [L,R].getD 1 [] = R from rfl,ZCh k (by omega) hLR hn hL hR]
  simp only [Qt]
  rw [show ((0:Int) != (0:Int)) = false from rfl]
  simp only [cond_false]
  rw [ZCl k hp hLR hL hR (by omega) hpl]
  simp only [Qt]
  rw [show ((0:Int) != (0:Int)) = false from rfl]
  simp only [cond_false]
  rw [Zk2 k hp (by omega) hpl (Zex L R)]
  simp only [Qt]
  rw [ZP]
  show (bif decide (ZW L R = 0) then _ else _) = some ((([_,_],if ZW L R = 0 then 1 else ZW L R,0,()),()))
  grind
def Z0 (c d m:Int):List Int:=if c = 1 then [d] else if m = 8 ∨ m = 10 then [d,d + 1] else if m = 9 then [d + 1,d] else [d,d]
theorem ZrP (k:Nat) {c d r m:Int} (hc:c = 1 ∧ m = 0 ∨ c = 2) (hd:0 ≤ d ∧ d ≤ 24):Zv7 k ((c,d,r,()),m,()) = some (Z0 c d m,()):=by
 show ZkV k _ = _
 simp only [ZkV]
 have e:Jx.wrap (d + 1) = d + 1:=Qk (by omega)
 unfold Z0
 rcases hc with ⟨rfl,rfl⟩ | rfl
 ·rw [Zc (by simp)]
  rfl
 grind
def Zdh (c d r:Int):Bool:=decide (1 ≤ c ∧ c ≤ 2 ∧ 4 ≤ d ∧ d ≤ 24 ∧ 1 ≤ r ∧ r ≤ 655350)
theorem Zra (k:Nat) (c d r:Int):Zvw k ((c,d,r,()),()) = some (if Zdh c d r then 0 else 2,()):=by
 show Zkv k _ = _
 simp only [Zkv]
 unfold Zdh
 grind
def Zly (n:Nat) (l:List Int):Bool:=decide (l.length = n ∧ 1 ≤ n ∧ n ≤ 512)
def Xn (c d r n:Int) (ch:List (List Int)):Int :=
 if Zdh c d r = false then 2 else if n < 0 ∨ 2147483647 < n ∨ (ch.length:Int) ≠ c then 1
 else if ch.all (Zly (ch.headD []).length) = false then 1
 else if ch.all (fun l => l.all fun x => Xk x d.toNat) = false then 12 else 0
theorem ZrJ (k:Nat) (c d r n:Int) (ch:List (List Int)) (hk:1000 < k):Zii k ((c,d,r,()),(n,ch,()),()) = some (Xn c d r n ch,()):=by
 show ZfC k (ZkN k) _ = _
 simp only [ZfC]
 rw [Zra]
 simp only [Qt]
 unfold Xn
 cases hs:Zdh c d r with
 | false => rfl
 | true =>
  simp only [if_true,HE,if_false]
  rw [show ((0:Int) != (0:Int)) = false from rfl]
  simp only [cond_false]
  have hs:=of_decide_eq_true hs
  by_cases h1:n < 0
  ·rw [Zc h1,if_pos (.inl h1)]
  ·rw [Zr h1]
   by_cases h2:2147483647 < n
   ·rw [Zc h2,if_pos (.inr (.inl h2))]
   ·rw [Zr h2,ZR]
    by_cases h3:UI ch.length = c
    ·rw [Zr (by simpa using h3),if_neg (by simp_all)]
     simp only [Xb] at h3
     have hch:ch.length ≤ 2:=by omega
     rw [Zc (by simp only [Xb]; omega)]
     have hhd:ch.getD 0 [] = ch.headD []:=by cases ch <;> rfl
     rw [hhd]
     generalize hN:(ch.headD []).length = N
     have hstep2:ch.all (Zly N) = true → Zcv k (UI ch.length,(0:Int),ch,c,d,r) = some (if ch.all (fun l => l.all fun x => Xk x d.toNat) = false then 12 else 0,()):=by
      intro hall
      have:=ZhK (step:=fun L2 => Za3 k (ZkO k L2) L2) (fun i => (UI ch.length,UI i,ch,c,d,r)) ch (fun l => l.all fun x => Xk x d.toNat) (some ((12:Int),())) (some ((0:Int),()))
       (fun L => by grind [Za3])
       (fun L i hi => by
        simp only [Za3]
        rw [Zc (ltR hi),Zc (inR hi),ZQ hi]
        have hlen:=of_decide_eq_true (Vf.1 hall ch[i] (U5 hi))
        have:=ZhK (step:=fun L3 => Zcx k L L3) (fun j => (UI ch[i].length,UI j,ch[i],UI i,UI ch.length,ch,c,d,r)) ch[i] (fun x => Xk x d.toNat) (some ((12:Int),()))
         (L (UI ch.length,UI (i + 1),ch,c,d,r))
         (fun L3 => by simp only [Zcx]; rw [Zr (ZeL _),Q1 hi (by omega)])
         (fun L3 j hj => by
          simp only [Zcx]
          rw [Zc (ltR hj),Zc (inR hj),ZQ hj]
          have ew:Jx.wrap (d - 1) = ((d.toNat - 1:Nat):Int):=by rw [Qk (by omega)]; omega
          simp only [ew,WV,U4 (show d.toNat - 1 ≤ 64 by omega)]
          rw [Zc (by omega),ZsO _ (by omega),Q1 hj (by omega)]
          grind) k (by omega)
        rw [← this]
        rfl) k (by omega)
      rw [show Zcv k (UI ch.length,(0:Int),ch,c,d,r) = Zn (fun L2 => Za3 k (ZkO k L2) L2) k (UI ch.length,UI 0,ch,c,d,r) from rfl,this]
      grind
     have:=ZhK (step:=fun L1 => Za2 k (Zcv k) L1) (fun i => (UI ch.length,UI i,ch,UI N,n,ch,c,d,r)) ch (Zly N) (some ((1:Int),()))
      (Zcv k (UI ch.length,(0:Int),ch,c,d,r))
      (fun L => by grind [Za2])
      (fun L i hi => by
       simp only [Za2]
       rw [Zc (ltR hi),Zc (inR hi),ZQ hi,ZR]
       unfold Zly
       simp only [Xb]
       by_cases e1:ch[i].length = N
       ·rw [Zr (by omega)]
        by_cases e2:N < 1
        ·simp_all
        ·rw [Zr (by omega)]
         by_cases e3:512 < N
         ·grind
         ·rw [Zr (by omega),dTr (by omega),Qk (by omega)]; rfl
       grind) k (by omega)
     rw [show ZkN k (UI ch.length,(0:Int),ch,UI N,n,ch,c,d,r) = Zn (fun L1 => Za2 k (Zcv k) L1) k (UI ch.length,UI 0,ch,UI N,n,ch,c,d,r) from rfl,this]
     grind
    simp_all
end Go.Sh
namespace Go.Sh
open Go Go.Proofs
def Zh4:List Int → Int
 | [] => 0
 | x :: l => x + Zh4 l
def Zeb (x:Int):Bool:=decide (-2048 ≤ x ∧ x ≤ 2047)
def Qq (x:Int):Bool:=decide (x ≤ -2147483648 ∨ 2147483648 ≤ x)
def KE (c:List Int) (sh:Int):Bool:=decide (c.length ≤ 8 ∧ 0 ≤ sh ∧ sh ≤ 15) && c.all Zeb
theorem ZyM (k:Nat) (x:Int):Zub k (x,()) = some (!Zeb x,()):=by
 show Zht k _ = _
 simp only [Zht]
 unfold Zeb
 by_cases h:x < -2048
 ·simp_all
 ·rw [Zr h]
  by_cases h2:2047 < x
  ·simp_all
  simp_all
theorem Zq2 (k:Nat) (c:List Int) (hk:c.length < k) (hn:c.length < 4294967296):Zks k (c,(),()) = some (!c.all Zeb,()):=by
 show Zcp k _ = _
 simp only [Zcp]
 have key:∃ i:Int,ZkG k (c,(),()) = some (i,()) ∧ (0 ≤ i ↔ c.all Zeb = false):=by
  have:=Wv (A:=Unit) (R:=Int × Unit) (step:=fun L1 => YM k L1) (fun i _ => (UI c.length,UI i,c)) c
   (fun l _ => some (if l.all Zeb then -1 else UI (c.length - l.length + (l.takeWhile Zeb).length),()))
   (fun L _ => by grind [YM])
   (fun L i hi _ hL => by
    simp only [YM]
    rw [Zc (ltR hi),Zc (inR hi),ZQ hi,ZyM]
    simp only [Qt]
    have hlen:(UO (i + 1) c).length = c.length - (i + 1):=by simp
    cases hc:Zeb c[i] with
    | true =>
     simp only [Hl,cond_false]
     rw [Q1 hi (by omega),hL ()]
     simp only [UA,hc,Bool.true_and,Hf,if_true,JF,hlen]
     grind
    | false =>
     simp only [Bool.not_false,cond_true,UA,hc,Bool.false_and,JJ,if_false,Hf,JF,hlen,HN]
     congr 3; omega) k 0 () (by omega) (UU _)
  rw [U9] at this
  refine ⟨_,this,?_⟩
  cases c.all Zeb <;> simp
 grind
theorem Zhg (k:Nat) (x:Int):ZkI k (x,()) = some (Qq x,()):=by
 show Zhf k _ = _
 simp only [Zhf]
 unfold Qq
 grind
theorem KW (k:Nat) (c:List Int) (hk:c.length < k) (hn:c.length < 4294967296):ZaE k (c,(),()) = some (c.any Qq,()):=by
 show Zcn k _ = _
 simp only [Zcn]
 have key:∃ i:Int,ZkC k (c,(),()) = some (i,()) ∧ (0 ≤ i ↔ c.any Qq = true):=by
  have:=Wv (A:=Unit) (R:=Int × Unit) (step:=fun L1 => YK k L1) (fun i _ => (UI c.length,UI i,c)) c
   (fun l _ => some (if l.any Qq then UI (c.length - l.length + (l.takeWhile (fun x => !Qq x)).length) else -1,()))
   (fun L _ => by grind [YK])
   (fun L i hi _ hL => by
    simp only [YK]
    rw [Zc (ltR hi),Zc (inR hi),ZQ hi,Zhg]
    simp only [Qt]
    have hlen:(UO (i + 1) c).length = c.length - (i + 1):=by simp
    cases hc:Qq c[i] with
    | false =>
     simp only [cond_false]
     rw [Q1 hi (by omega),hL ()]
     simp only [Hw,hc,Bool.false_or,Hf,Bool.not_false,if_true,JF,hlen]
     grind
    | true =>
     simp only [cond_true,Hw,hc,Bool.true_or,if_true,Hf,Hl,JJ,if_false,JF,hlen,HN]
     congr 3; omega) k 0 () (by omega) (UU _)
  rw [U9] at this
  refine ⟨_,this,?_⟩
  cases c.any Qq <;> simp
 grind
theorem Znm (k:Nat) (c:List Int) (sh:Int) (hk:10 < k):Zo2 k ((c,sh,()),()) = some (if KE c sh then 0 else 2,()):=by
 show Zhn k _ = _
 simp only [Zhn]
 unfold KE
 by_cases h1:(8:Int) < UI c.length
 ·grind
 ·simp only [Xb] at h1
  rw [Zr (by simp only [Xb]; omega)]
  by_cases h2:sh < 0
  ·grind
  ·rw [Zr h2]
   by_cases h3:15 < sh
   ·grind
   ·rw [Zr h3,Zq2 k c (by omega) (by omega),dTr (by omega)]
    grind
def ZIZ (c a:List Int):Int:=Zh4 ((c.zip a.reverse).map fun x => x.1 * x.2)
def Zb4 (c:List Int) (sh:Int) (a:List Int):Int:=(ZIZ c a).fdiv (2 ^ sh.toNat)
theorem Zzd {x y:Int} (hx : -2048 ≤ x ∧ x ≤ 2047) (hy : -2147483648 < y ∧ y < 2147483648) : -4398046511104 ≤ x * y ∧ x * y ≤ 4398046511104:=by
 have h1:(x * y).natAbs ≤ 2048 * 2147483648:=by
  rw [Ht]
  exact Nat.mul_le_mul (by omega) (by omega)
 omega
theorem ZuX {l:List Int} {b:Int} (h:∀ x ∈ l,-b ≤ x ∧ x ≤ b) : -((l.length:Int) * b) ≤ Zh4 l ∧ Zh4 l ≤ (l.length:Int) * b:=by
 induction l with
 | nil => simp [Zh4]
 | cons x l ih =>
  have h1:=h x (Jm ..)
  have h2:=ih fun y hy => h y (Jn _ hy)
  simp only [Zh4,JF]
  grind
def Zvd (x:Int):Prop := -2048 ≤ x ∧ x ≤ 2047
def ZB (x:Int):Prop := -2147483648 < x ∧ x < 2147483648
theorem ZmW {c a:List Int} (hc:∀ x ∈ c,Zvd x) (ha:∀ x ∈ a,ZB x):∀ x ∈ (c.zip a.reverse).map fun x => x.1 * x.2,-4398046511104 ≤ x ∧ x ≤ 4398046511104:=by
 intro x hx
 obtain ⟨⟨u,v⟩,h,rfl⟩:=VG.1 hx
 exact Zzd (hc _ (Vy h).1) (ha _ (by simpa using (Vy h).2))
theorem Zum {x:Int} {b:Int} (p:Nat) (h : -b ≤ x ∧ x ≤ b) (hb:0 ≤ b) : -b ≤ x.fdiv (2 ^ p) ∧ x.fdiv (2 ^ p) ≤ b:=by
 have hp:(0:Int) < 2 ^ p:=U6 (by omega)
 rw [Ho _ (by omega)]
 constructor
 ·rw [Int.le_ediv_iff_mul_le hp]
  have:b * 1 ≤ b * 2 ^ p:=Int.mul_le_mul_of_nonneg_left (by omega) hb
  rw [Int.neg_mul]
  omega
 ·by_cases hx:0 ≤ x
  ·exact Int.le_trans (Int.ediv_le_self _ hx) h.2
  ·have:x / 2 ^ p < 0:=Int.ediv_neg_of_neg_of_pos (by omega) hp
   omega
theorem Ziw {c a:List Int} {sh:Int} (hc:∀ x ∈ c,Zvd x) (ha:∀ x ∈ a,ZB x) (hl:c.length ≤ 8) : -35184372088832 ≤ Zb4 c sh a ∧ Zb4 c sh a ≤ 35184372088832:=by
 unfold Zb4 ZIZ
 have h1:=ZuX (ZmW hc ha)
 have h2:((c.zip a.reverse).map fun x => x.1 * x.2).length ≤ 8:=by simp; omega
 exact Zum _ (by omega) (by omega)
theorem Znn (k:Nat) {c a:List Int} {sh:Int} (hk:c.length < k) (hl:c.length ≤ 8) (hla:c.length ≤ a.length) (hn:a.length ≤ 4294967296) (hsh:0 ≤ sh ∧ sh ≤ 15) (hc:∀ x ∈ c,Zvd x) (ha:∀ x ∈ a,ZB x) :
  Zo3 k ((c,sh,()),a,()) = some (Zb4 c sh a,()):=by
 show ZdP k (Zjt k) _ = _
 simp only [ZdP]
 have hzl:(c.zip a.reverse).length = c.length:=by simp; omega
 have hterm:=ZmW hc ha
 have:=ZC (A:=Int) (step:=fun L1 => Za1 k L1) (fun i acc => (UI c.length,UI i,c,acc,a,c,sh)) (c.zip a.reverse)
  (fun l acc => some ((acc + Zh4 (l.map fun x => x.1 * x.2)).fdiv (2 ^ sh.toNat),())) (fun i acc => -((i:Int) * 4398046511104) ≤ acc ∧ acc ≤ (i:Int) * 4398046511104)
  (fun L acc _ => by
   grind [Za1,Zh4])
  (fun L i hi acc hacc hL => by
   have hi2:i < c.length:=by omega
   have hi3:i < a.reverse.length:=by simp; omega
   simp only [Za1]
   have e1:Jx.wrap (Jx.wrap (UI a.length - 1) - UI i) = ((a.length - 1 - i:Nat):Int):=by
    simp only [Xb]
    rw [Qk (n:=(a.length:Int) - 1) (by omega),Qk (by omega)]; omega
   rw [Zc (ltR hi2),Zc (inR hi2),e1,Zc (by simp only [Xb]; omega),ZQ hi2,WV]
   have e2:a.getD (a.length - 1 - i) 0 = a.reverse[i]:=by
    grind
   rw [e2]
   have hz:(c.zip a.reverse)[i] = (c[i],a.reverse[i]):=by simp
   have ht:=hterm (c[i] * a.reverse[i]) (VG.2 ⟨(c[i],a.reverse[i]),by rw [← hz]; exact U5 _,rfl⟩)
   have hi8:(i:Int) ≤ 8:=by omega
   rw [Qk (n:=c[i] * a.reverse[i]) (by omega),Qk (n:=acc + c[i] * a.reverse[i]) (by omega),Q1 hi2 (by omega)]
   grind [Zh4]) k 0 0 ⟨by omega,by omega⟩ (by omega) (UU _)
 refine U8 this ?_
 rw [U9,Int.zero_add]
 rfl
def ZlY (c:List Int) (sh:Int) (s:List Int) (i:Nat):Int:=s.getD i 0 - Zb4 c sh (s.take i)
def ZmD (c:List Int) (sh:Int) (s:List Int):Nat → Nat → List Int
 | 0,_ => []
 | d + 1,i => ZlY c sh s i :: ZmD c sh s d (i + 1)
def Xp (c:List Int) (sh:Int) (s:List Int):List Int:=ZmD c sh s (s.length - c.length) c.length
def QB (c:List Int) (sh:Int) (s:List Int):List Int × Int :=
 if KE c sh = false then ([],2) else if s.length < c.length then ([],1) else if s.any Qq then ([],12)
 else if (Xp c sh s).any Qq then ([],12) else (Xp c sh s,0)
theorem ZlZ (c:List Int) (sh:Int) (s:List Int):∀ d i,(ZmD c sh s d i).length = d
 | 0,_ => rfl
 | d + 1,i => by simp [ZmD,ZlZ c sh s d (i + 1)]
theorem Zc1 {c:List Int} {sh:Int} (h:KE c sh = true):c.length ≤ 8 ∧ (0 ≤ sh ∧ sh ≤ 15) ∧ ∀ x ∈ c,Zvd x:=by
 unfold KE at h
 simp only [Jh,decide_eq_true_eq] at h
 refine ⟨h.1.1,h.1.2,fun x hx => ?_⟩
 have:=Vf.1 h.2 x hx
 unfold Zeb at this
 rw [decide_eq_true_eq] at this
 exact this
theorem Yv {s:List Int} (h:s.any Qq = false):∀ x ∈ s,ZB x:=by
 intro x hx
 rw [Uk] at h
 have:=h x hx
 unfold Qq at this
 simp only [decide_eq_true_eq] at this
 unfold ZB
 omega
theorem Zne (k:Nat) (c:List Int) (sh:Int) (s:List Int) (hk:s.length + 10 < k) (hn:s.length ≤ 8192):ZoP k ((c,sh,()),s,()) = some (((QB c sh s).1,(QB c sh s).2,()),()):=by
 show ZdJ k (Zjj k) _ = _
 simp only [ZdJ]
 rw [Znm k c sh (by omega)]
 simp only [Qt]
 unfold QB
 cases hm:KE c sh with
 | false => rfl
 | true =>
  simp only [if_true,HE,if_false]
  rw [show ((0:Int) != (0:Int)) = false from rfl]
  simp only [cond_false,Xb]
  by_cases hl:s.length < c.length
  ·rw [Zc (by omega),if_pos hl]
  ·rw [Zr (by omega),if_neg hl,KW k s (by omega) (by omega)]
   simp only [Qt]
   cases hw:s.any Qq with
   | true => simp only [cond_true,if_true]
   | false =>
    simp only [cond_false,JJ,if_false]
    obtain ⟨hc8,hsh,hcR⟩:=Zc1 hm
    have hnar:=Yv hw
    suffices H:∀ (d i m:Nat) (acc:List Int),i + d = s.length → c.length ≤ i → d < m → acc.length + d ≤ 8192 →
      Zn (fun L1 => ZaT k L1) m ((i:Int),s,c,sh,acc) = some (if (ZmD c sh s d i).any Qq then (([],12,()),()) else ((acc ++ ZmD c sh s d i,0,()),())) by
     have:=H (s.length - c.length) c.length k [] (by omega) (by omega) (by omega) (by simp; omega)
     refine U8 this ?_
     unfold Xp
     grind
    intro d
    induction d with
    | zero =>
     intro i m acc hi hci hm _
     obtain ⟨m,rfl⟩:=Zq hm
     rw [Ze]
     grind [ZaT,Xb,ZmD]
    | succ d ih =>
     intro i m acc hi hci hm hacc
     obtain ⟨m,rfl⟩:=Zq (show 0 < m by omega)
     rw [Ze]
     simp only [ZaT]
     have hi2:i < s.length:=by omega
     rw [Zc (by simp only [Xb]; omega),Zc (by simp only [Xb]; omega),Zc (by simp only [Xb]; omega),WV,U9]
     have htl:(s.take i).length = i:=by simp; omega
     have htn:∀ x ∈ s.take i,ZB x:=fun x hx => hnar x (List.mem_of_mem_take hx)
     rw [Znn k (by omega) hc8 (by omega) (by omega) hsh hcR htn]
     simp only [Qt]
     have hpb:=Ziw (sh:=sh) hcR htn hc8
     have hsi:s.getD i 0 = s[i]:=K2 hi2
     have hsn:=hnar s[i] (U5 hi2)
     unfold ZB at hsn
     have e1:Jx.wrap (s.getD i 0 - Zb4 c sh (s.take i)) = ZlY c sh s i:=by unfold ZlY; rw [hsi]; exact Qk (by omega)
     rw [e1,Zhg]
     simp only [Qt,ZmD,Hw]
     by_cases hwi:Qq (ZlY c sh s i) = true
     ·simp_all
     ·have hwi:Qq (ZlY c sh s i) = false:=by simpa using hwi
      simp only [hwi,cond_false,Bool.false_or]
      rw [Zc (by simp; omega),show Jx.wrap ((i:Int) + 1) = ((i + 1:Nat):Int) from by rw [Qk (by omega)]; omega]
      rw [ih (i + 1) m _ (by omega) (by omega) (by omega) (by simp; omega)]
      simp
def KU (c:List Int) (sh:Int) (s:List Int):Int × Int:=(Zh4 ((QB c sh s).1.map fun x => (x.natAbs:Int)),(QB c sh s).2)
theorem XD (c:List Int) (sh:Int) (s:List Int):∀ x ∈ (QB c sh s).1,ZB x:=by
 unfold QB
 split
 ·simp
 ·split
  ·simp
  ·split
   ·simp
   ·split
    ·simp
    ·rename_i h
     exact Yv (by simpa using h)
theorem ZuK (c:List Int) (sh:Int) (s:List Int):(QB c sh s).1.length ≤ s.length:=by
 unfold QB
 grind [Xp,ZlZ]
theorem Znh (k:Nat) (c:List Int) (sh:Int) (s:List Int) (hk:s.length + 10 < k) (hn:s.length ≤ 8192):ZoU k ((c,sh,()),s,()) = some (((KU c sh s).1,(KU c sh s).2,()),()):=by
 show ZdK k (Zjm k) _ = _
 simp only [ZdK]
 rw [Zne k c sh s hk hn]
 simp only [Qt]
 have hnar:=XD c sh s
 have hlen:=ZuK c sh s
 unfold KU
 generalize (QB c sh s).2 = e
 generalize (QB c sh s).1 = l at hnar hlen
 have:=ZC (A:=Int) (step:=fun L1 => ZaV k L1) (fun i acc => (UI l.length,UI i,l,acc,e)) l
  (fun l' acc => some ((acc + Zh4 (l'.map fun x => (x.natAbs:Int)),e,()),())) (fun i acc => 0 ≤ acc ∧ acc ≤ (i:Int) * 2147483648)
  (fun L acc _ => by grind [ZaV,Zh4])
  (fun L i hi acc hacc hL => by
   have hx:=hnar l[i] (U5 hi)
   unfold ZB at hx
   simp only [ZaV]
   rw [Zc (ltR hi),Zc (inR hi),ZQ hi,Q1 hi (by omega),Qk (n:=0 - l[i]) (by omega)]
   have e1:(if l[i] < 0 - l[i] then 0 - l[i] else l[i]) = (l[i].natAbs:Int):=by split <;> omega
   have hi8:(i:Int) ≤ 8192:=by omega
   rw [e1,Qk (n:=acc + (l[i].natAbs:Int)) (by omega),hL _ ⟨by omega,by push_cast; omega⟩]
   grind [Zh4]) k 0 0 ⟨by omega,by omega⟩ (by omega) (UU _)
 exact U8 this (by rw [U9,Int.zero_add])
def W5 (o:Nat):List Int:=match o with
 | 1 => [1]
 | 2 => [2,-1]
 | 3 => [3,-3,1]
 | 4 => [4,-6,4,-1]
 | _ => []
theorem ZgM (k:Nat) (o:Nat) (ho:o ≤ 4) (hk:20 < k):ZgL k ((o:Int),()) = some (((W5 o,0,()),0,()),()):=by
 obtain ⟨k,rfl⟩:∃ m,k = m + 20:=⟨k - 20,by omega⟩
 match o,ho with
 | 0,_ => rfl
 | 1,_ => rfl
 | 2,_ => rfl
 | 3,_ => rfl
 | 4,_ => rfl
def WH (o:Nat):List Int:=match o with
 | 2 => [32,-16]
 | 4 => [64,-96,64,-16]
 | 8 => [64,-96,64,-16,0,0,0,0]
 | _ => []
theorem Zyq (k:Nat) (o:Nat) (ho:o = 2 ∨ o = 4 ∨ o = 8) (hk:40 < k):ZtV k ((o:Int),()) = some ((WH o,4,()),()):=by
 obtain ⟨k,rfl⟩:∃ m,k = m + 40:=⟨k - 40,by omega⟩
 rcases ho with rfl | rfl | rfl
 ·rfl
 ·rfl
 ·rfl
abbrev Mdl:=List Int × Int × Bool
def ZiA (s:List Int) (by_:Int) (j:Nat) (M:Mdl):Mdl :=
 if (KU (M.1.set j (M.1.getD j 0 + by_)) 4 s).2 = 0 ∧ (M.2.2 = false ∨ (KU (M.1.set j (M.1.getD j 0 + by_)) 4 s).1 < M.2.1)
 then (M.1.set j (M.1.getD j 0 + by_),(KU (M.1.set j (M.1.getD j 0 + by_)) 4 s).1,true) else M
def ZqI (s:List Int) (st:Int) (j:Nat) (M:Mdl):Mdl:=ZiA s (-st) j (ZiA s st j M)
def ZsH (s:List Int) (st:Int):Nat → Nat → Mdl → Mdl
 | 0,_,M => M
 | d + 1,j,M => ZsH s st d (j + 1) (ZqI s st j M)
def ZsI (s:List Int) (st:Int) (o:Nat) (M:Mdl):Mdl:=ZsH s st o 0 M
def ZFF (s:List Int) (o:Nat):Mdl:=ZsI s 1 o (ZsI s 2 o (ZsI s 4 o (ZsI s 8 o (WH o,(KU (WH o) 4 s).1,(KU (WH o) 4 s).2 == 0))))
def Zai (s:List Int) (o:Nat):List Int:=(ZFF s o).1
structure MOk (o:Nat) (b:Int) (M:Mdl):Prop where
 len:M.1.length = o
 bd:∀ x ∈ M.1,-b ≤ x ∧ x ≤ b
theorem Zl8 {s:List Int} {o:Nat} {b by_:Int} {j:Nat} {M:Mdl} (h:MOk o b M) (hj:j < o) (hby : -8 ≤ by_ ∧ by_ ≤ 8):MOk o (b + 8) (ZiA s by_ j M):=by
 unfold ZiA
 split
 ·refine ⟨by simp [h.len],fun x hx => ?_⟩
  have hg:M.1.getD j 0 ∈ M.1:=by rw [K2 (by rw [h.len]; exact hj)]; exact U5 _
  rcases List.mem_or_eq_of_mem_set hx with hx | rfl
  ·have:=h.bd x hx; omega
  ·have:=h.bd _ hg; omega
 ·exact ⟨h.len,fun x hx => by have:=h.bd x hx; omega⟩
theorem ZqJ {s:List Int} {o:Nat} {b st:Int} {j:Nat} {M:Mdl} (h:MOk o b M) (hj:j < o) (hst : -8 ≤ st ∧ st ≤ 8):MOk o (b + 16) (ZqI s st j M):=by
 have:=Zl8 (s:=s) (Zl8 (s:=s) h hj hst) hj (by_ := -st) (by omega)
 rw [show b + 8 + 8 = b + 16 by omega] at this
 exact this
theorem ZwX {s:List Int} {o:Nat} {st:Int} (hst : -8 ≤ st ∧ st ≤ 8):∀ (d j:Nat) (b:Int) (M:Mdl),MOk o b M → j + d ≤ o → MOk o (b + 16 * (d:Int)) (ZsH s st d j M)
 | 0,j,b,M,h,_ => by simpa [ZsH] using h
 | d + 1,j,b,M,h,hj => by
  simp only [ZsH]
  have hb:=ZqJ (s:=s) (j:=j) (st:=st) h (show j < o by omega) hst
  have:=ZwX (s:=s) hst d (j + 1) (b + 16) _ hb (show j + 1 + d ≤ o by omega)
  grind
theorem ZbR {s:List Int} {o:Nat} {st b:Int} (hst : -8 ≤ st ∧ st ≤ 8) (ho:o ≤ 8) {M:Mdl} (h:MOk o b M):MOk o (b + 128) (ZsI s st o M):=by
 have:=ZwX (s:=s) hst o 0 b M h (by omega)
 refine ⟨this.len,fun x hx => ?_⟩
 have:=this.bd x hx
 omega
theorem ZxJ (k:Nat) (s:List Int) (hk:s.length + 20 < k) (hn:s.length ≤ 8192) (L1:Int × Int × List Int × Bool × Int × List Int × Int × Int → Option (((List Int × Int × Unit) × Int × Unit) × Unit)) (L2:Int × Int × Int × List Int × Bool × Int × Int × List Int × Int × Int → Option (((List Int × Int × Unit) × Int × Unit) × Unit))
  {o j:Nat} {st:Int} {M:Mdl} {v13:Int} (hM:MOk o 1000 M) (hj:j < o) (ho:o ≤ 8) (hst:0 ≤ st ∧ st ≤ 8) :
  Zfr k L1 L2 (0,st,Jx.wrap (0 - st),(j:Int),s,M.2.2,M.2.1,(j:Int),(o:Int),st,(o:Int),M.1,4,v13) =
   L2 ((o:Int),((j + 1:Nat):Int),st,s,(ZqI s st j M).2.2,(ZqI s st j M).2.1,(o:Int),(ZqI s st j M).1,4,v13):=by
 obtain ⟨k,rfl⟩:∃ m,k = m + 3:=⟨k - 3,by omega⟩
 have e0:Jx.wrap (0 - st) = -st:=by rw [Qk (by omega)]; omega
 rw [e0]
 have one:∀ (i:Nat) (by_:Int) (L3:Int × Int × Int × Int × List Int × Bool × Int × Int × Int × Int × Int × List Int × Int × Int → Option (((List Int × Int × Unit) × Int × Unit) × Unit)) (M:Mdl),i < 2 → [st,-st].getD i 0 = by_ → -8 ≤ by_ ∧ by_ ≤ 8 → MOk o 1008 M →
   Kl (k + 3) L1 L2 L3 ((i:Int),st,-st,(j:Int),s,M.2.2,M.2.1,(j:Int),(o:Int),st,(o:Int),M.1,4,v13) =
    L3 (((i + 1:Nat):Int),st,-st,(j:Int),s,(ZiA s by_ j M).2.2,(ZiA s by_ j M).2.1,(j:Int),(o:Int),st,(o:Int),(ZiA s by_ j M).1,4,v13):=by
  intro i by_ L3 M hi hg hb hM
  simp only [Kl]
  rw [Zc (by omega),Zc (by omega)]
  have hl:=hM.len
  rw [show Zhh (k + 3) (M.1,()) = some (M.1,()) from by show Y2 _ = _; unfold Y2; rw [Zc (by rw [hl]; omega)]]
  simp only [Qt,WV,Xb]
  rw [Zc (by omega),Zc (by omega),Zc (by omega),Zc (by omega),hg]
  have hx:=hM.bd (M.1.getD j 0) (by simp_all)
  rw [Qk (n:=M.1.getD j 0 + by_) (by omega),Znh (k + 3) _ 4 s (by omega) hn]
  simp only [Qt]
  rw [show Jx.wrap ((i:Int) + 1) = ((i + 1:Nat):Int) from by rw [Qk (by omega)]; omega]
  unfold ZiA
  grind
 show Zn (fun L3 => Kl (k + 3) L1 L2 L3) (k + 3) ((0:Nat),st,-st,(j:Int),s,M.2.2,M.2.1,(j:Int),(o:Int),st,(o:Int),M.1,4,v13) = _
 rw [Ze,one 0 st _ M (by omega) rfl (by omega) ⟨hM.len,fun x hx => by have:=hM.bd x hx; omega⟩]
 have h2:=Zl8 (s:=s) hM hj (by_:=st) (by omega)
 rw [Ze,one 1 (-st) _ _ (by omega) rfl (by omega) h2,Ze]
 simp only [Kl]
 rw [Zr (by omega),show Jx.wrap ((j:Int) + 1) = ((j + 1:Nat):Int) from by rw [Qk (by omega)]; omega]
 rfl
theorem ZAk (k:Nat) (s:List Int) (hk:s.length + 20 < k) (hn:s.length ≤ 8192) (L1:Int × Int × List Int × Bool × Int × List Int × Int × Int → Option (((List Int × Int × Unit) × Int × Unit) × Unit))
  {o:Nat} {st:Int} {v9:Int} (ho:o ≤ 8) (hst:0 ≤ st ∧ st ≤ 8):∀ (d j m:Nat) (b:Int) (M:Mdl),j + d = o → d < m → MOk o b M → b + 16 * (d:Int) ≤ 1000 →
  Zn (fun L2 => ZaH k (Zfr k L1 L2) L1 L2) m ((o:Int),(j:Int),st,s,M.2.2,M.2.1,(o:Int),M.1,4,v9) =
   L1 (Jx.wrap (st.tdiv 2),(o:Int),s,(ZsH s st d j M).2.2,(ZsH s st d j M).2.1,(ZsH s st d j M).1,4,v9):=by
 intro d
 induction d with
 | zero =>
  intro j m b M hj hm hM hb
  obtain ⟨m,rfl⟩:=Zq hm
  rw [Ze]
  simp only [ZaH]
  rw [Zr (by omega)]
  rfl
 | succ d ih =>
  intro j m b M hj hm hM hb
  obtain ⟨m,rfl⟩:=Zq (show 0 < m by omega)
  rw [Ze]
  simp only [ZaH]
  rw [Zc (by omega)]
  rw [ZxJ k s hk hn L1 _ (M:=M) ⟨hM.len,fun x hx => by have:=hM.bd x hx; omega⟩ (by omega) ho hst]
  rw [ih (j + 1) m (b + 16) _ (by omega) (by omega) (ZqJ hM (by omega) (by omega)) (by push_cast at hb; omega)]
  rfl
theorem ZxN (k:Nat) (s:List Int) (o:Nat) (ho:o = 2 ∨ o = 4 ∨ o = 8) (hos:o ≤ s.length) (hs:∀ x ∈ s,ZB x) (hk:s.length + 60 < k) (hn:s.length ≤ 8192) :
  ZtM k (s,(o:Int),()) = some (((Zai s o,4,()),0,()),()):=by
 show Zdu k (ZiX k) _ = _
 simp only [Zdu]
 have hw:s.any Qq = false:=by
  rw [Uk]
  intro x hx
  have:=hs x hx
  unfold ZB at this
  unfold Qq
  simp only [decide_eq_true_eq]
  omega
 rw [Zr (by omega),Zr (by omega),Zr (by simp only [Xb]; omega),KW k s (by omega) (by omega),hw]
 simp only [Qt,cond_false]
 rw [Zyq k o ho (by omega)]
 simp only [Qt]
 rw [Znh k _ 4 s (by omega) hn]
 simp only [Qt]
 have hM0:MOk o 96 (WH o,(KU (WH o) 4 s).1,(KU (WH o) 4 s).2 == 0):=by
  rcases ho with rfl | rfl | rfl
  ·exact ⟨rfl,show ∀ x ∈ WH 2,-96 ≤ x ∧ x ≤ 96 by decide⟩
  ·exact ⟨rfl,show ∀ x ∈ WH 4,-96 ≤ x ∧ x ≤ 96 by decide⟩
  ·exact ⟨rfl,show ∀ x ∈ WH 8,-96 ≤ x ∧ x ≤ 96 by decide⟩
 have ho8:o ≤ 8:=by omega
 have h1:=ZbR (s:=s) (st:=8) (by omega) ho8 hM0
 have h2:=ZbR (s:=s) (st:=4) (by omega) ho8 h1
 have h3:=ZbR (s:=s) (st:=2) (by omega) ho8 h2
 obtain ⟨k',rfl⟩:∃ m,k = m + 5:=⟨k - 5,by omega⟩
 have row:∀ (L1:Int × Int × List Int × Bool × Int × List Int × Int × Int → Option (((List Int × Int × Unit) × Int × Unit) × Unit)) (st:Int) (b:Int) (M:Mdl),0 < st → st ≤ 8 → MOk o b M → b + 128 ≤ 1000 →
   ZaG (k' + 5) (Zfq (k' + 5) L1) L1 (st,(o:Int),s,M.2.2,M.2.1,M.1,4,0) = L1 (Jx.wrap (st.tdiv 2),(o:Int),s,(ZsI s st o M).2.2,(ZsI s st o M).2.1,(ZsI s st o M).1,4,0):=by
  intro L1 st b M h0 h8 hM hb
  simp only [ZaG]
  rw [Zc h0]
  exact ZAk (k' + 5) s (by omega) hn L1 ho8 (by omega) o 0 (k' + 5) b M (by omega) (by omega) hM (by omega)
 show Zn (fun L1 => ZaG (k' + 5) (Zfq (k' + 5) L1) L1) (k' + 5) _ = _
 rw [Ze]
 refine (row _ 8 96 (WH o,(KU (WH o) 4 s).1,(KU (WH o) 4 s).2 == 0) (by omega) (by omega) hM0 (by omega)).trans ?_
 rw [show Jx.wrap ((8:Int).tdiv 2) = 4 from by decide,Ze]
 refine (row _ 4 _ _ (by omega) (by omega) h1 (by omega)).trans ?_
 rw [show Jx.wrap ((4:Int).tdiv 2) = 2 from by decide,Ze]
 refine (row _ 2 _ _ (by omega) (by omega) h2 (by omega)).trans ?_
 rw [show Jx.wrap ((2:Int).tdiv 2) = 1 from by decide,Ze]
 refine (row _ 1 _ _ (by omega) (by omega) h3 (by omega)).trans ?_
 rfl
theorem ZeX (s:List Int) (o:Nat) (ho:o = 2 ∨ o = 4 ∨ o = 8):(Zai s o).length = o ∧ ∀ x ∈ Zai s o,-1000 ≤ x ∧ x ≤ 1000:=by
 have hM0:MOk o 96 (WH o,(KU (WH o) 4 s).1,(KU (WH o) 4 s).2 == 0):=by
  rcases ho with rfl | rfl | rfl
  ·exact ⟨rfl,show ∀ x ∈ WH 2,-96 ≤ x ∧ x ≤ 96 by decide⟩
  ·exact ⟨rfl,show ∀ x ∈ WH 4,-96 ≤ x ∧ x ≤ 96 by decide⟩
  ·exact ⟨rfl,show ∀ x ∈ WH 8,-96 ≤ x ∧ x ≤ 96 by decide⟩
 have ho8:o ≤ 8:=by omega
 have h:=ZbR (s:=s) (st:=1) (by omega) ho8 (ZbR (s:=s) (st:=2) (by omega) ho8 (ZbR (s:=s) (st:=4) (by omega) ho8 (ZbR (s:=s) (st:=8) (by omega) ho8 hM0)))
 exact ⟨h.len,fun x hx => by have:=h.bd x hx; omega⟩
end Go.Sh
