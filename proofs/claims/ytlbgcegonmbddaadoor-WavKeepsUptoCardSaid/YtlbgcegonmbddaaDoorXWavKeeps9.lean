/-
  What the row needs, part 9.
-/
import Derived.Test.YtlbgcegonmbddaaDoorXWavKeeps8
import Derived.IntWalk
set_option linter.unusedSimpArgs false
set_option linter.unusedVariables false
set_option linter.unusedSectionVars false
open BitVec renaming ofInt_natCast→Hh,toNat_ofNat→Hi
open Bool renaming false_eq_true→JK,and_eq_true→Jh,true_and→UD,not_false→U5,eq_iff_iff→Hd
open ByteArray renaming mk→UK
open Int renaming ofNat→UJ,ofNat_eq_natCast→UZ,mul_le_mul→U3,tmod→UU,toNat_natCast→Uk,fdiv→UT,mul_comm→U8,pow_add→U9,tmod_eq_emod_of_nonneg→Ha,toNat→Hb,lt_trichotomy→Hj,mul_le_mul_of_nonneg_left→Hk,mul_le_mul_of_nonneg_right→Hl,tdiv_eq_ediv_of_nonneg→Hm
open Go.IntKind renaming i64→Jy,u8→UM
open List renaming drop_drop→JF,length_append→JQ,length_drop→Vj,length_take→JA,length_cons→JG,take_append_drop→U0,all_eq_true→Vg,replicate→Jd,drop_zero→U1,length→UL,length_range→U2,append_assoc→Jv,drop_eq_getElem_cons→Um,getElem_mem→U4,map→UN,take→UQ,take_left→Vk,cons_append→J2,drop_left→JN,drop_length→U6,range→Jc,all_cons→UB,mem_replicate→Hc,cons→J1,drop→UP,dropWhile_cons→He,length_singleton→Ut,map_congr_left→Hf,map_map→V0,dropWhile_suffix→Hn,drop_eq_nil_of_le→Ho,flatMap_cons→Hp,getD_eq_getElem?_getD→VT,length_replicate→Us,mem_append→Jt,mem_cons→VN,mem_map→VH,take_length→Hq,take_of_length_le→Hr,toList_toArray→JV
open Nat renaming ble→Jb,le_refl→Jj,le_of_ble_eq_true→Ju,ble_eq_true_of_le→UY,blt→UR,beq→Ja,min_eq_left→U7,mul_le_mul→J5,pow_le_pow_right→Hg,mod_eq_of_lt→Hs,one_le_two_pow→Ht
open Option renaming bind_some→VL
open UInt8 renaming ofNat→UO
namespace Go.Sh
open Go
theorem iNc (n:Nat):UJ n = (n:Int):=rfl
theorem oBs {α β:Type} (a:α) (f:α → Option β):(some a).bind f = f a:=rfl
theorem tNc (n:Nat):((n:Int)).toNat = n:=rfl
theorem lAp {α:Type} {as0 bs0:List α}:(as0 ++ bs0).length = as0.length + bs0.length:=JQ
theorem dFa {p:Prop} [inst:Decidable p] (h:¬p):decide p = false:=decide_eq_false h
theorem dTr {p:Prop} [inst:Decidable p] (h:p):decide p = true:=decide_eq_true h
theorem YZ {n:Int} (h : -9223372036854775808 ≤ n ∧ n ≤ 9223372036854775807):Jy.wrap n = n:=IntWalk.i64_in n h
theorem wu8 {n:Int} (h:0 ≤ n ∧ n ≤ 255):UM.wrap n = n:=IntWalk.u8_in n h
theorem WD {V R:Type} (step:(V → Option R) → V → Option R) (n:Nat) (v:V):ZZ step (n + 1) v = step (ZZ step n) v:=rfl
theorem toList_eq (s:ByteArray):s.toList = s.data.toList:=ByteArray.toList_eq s
theorem Q3 (s:ByteArray):s.data.toList.length = s.size:=by rw [Array.length_toList]; rfl
theorem ZhA {a b:ByteArray} (h:a.data.toList = b.data.toList):a = b:=ByteArray.ext (Array.toList_inj.1 h)
theorem Zd9 {a b:ByteArray}:a.toList = b.toList ↔ a = b:=by
 rw [toList_eq,toList_eq]
 exact ⟨ZhA,fun h => by rw [h]⟩
theorem ZcM (a b:ByteArray):(a.toList == b.toList) = decide (a = b):=by
 rw [Hd]; simp [Zd9]
theorem Zp {p:Prop} [Decidable p] {α:Type} {a b:α} (h:p):(bif decide p then a else b) = a:=by simp [h]
theorem ZE {p:Prop} [Decidable p] {α:Type} {a b:α} (h:¬ p):(bif decide p then a else b) = b:=by simp [h]
theorem KR (a b:Int):(a == b) = decide (a = b):=rfl
theorem ZV (a b:Int):(a != b) = decide (¬ a = b):=by rw [bne,KR]; simp
theorem ZjM {α:Type} (b:Bool) (x y:α):(bif !b then x else y) = bif b then y else x:=by cases b <;> rfl
theorem YK {α:Type} {l:List α} {i:Nat} {d:α} (h:i < l.length):l.getD i d = l[i]:=by
 simp [VT,h]
end Go.Sh
namespace Go.Sh
open Go
theorem WC {V R α A:Type} {step:(V → Option R) → V → Option R} (at_:Nat → A → V) (xs:List α) (G:List α → A → Option R)
  (h0:∀ L a,step L (at_ xs.length a) = G [] a)
  (h1:∀ L i (hi:i < xs.length) a,(∀ a',L (at_ (i + 1) a') = G (xs.drop (i + 1)) a') → step L (at_ i a) = G (xs[i] :: xs.drop (i + 1)) a) :
  ∀ k i a,xs.length < k + i → i ≤ xs.length → ZZ step k (at_ i a) = G (xs.drop i) a
 | 0,i,a,hk,hi => by omega
 | k + 1,i,a,hk,hi => by
  rw [WD]
  by_cases he:i = xs.length
  ·subst he
   rw [h0,U6]
  ·have hi':i < xs.length:=by omega
   rw [h1 _ i hi' a fun a' => WC at_ xs G h0 h1 k (i + 1) a' (by omega) hi',Um hi']
theorem Wi {V R α A:Type} {step:(V → Option R) → V → Option R} (at_:Nat → A → V) (xs:List α) (G:List α → A → Option R) (I:Nat → A → Prop)
  (h0:∀ L a,I xs.length a → step L (at_ xs.length a) = G [] a)
  (h1:∀ L i (hi:i < xs.length) a,I i a → (∀ a',I (i + 1) a' → L (at_ (i + 1) a') = G (xs.drop (i + 1)) a') → step L (at_ i a) = G (xs[i] :: xs.drop (i + 1)) a) :
  ∀ k i a,I i a → xs.length < k + i → i ≤ xs.length → ZZ step k (at_ i a) = G (xs.drop i) a
 | 0,i,a,_,hk,hi => by omega
 | k + 1,i,a,hI,hk,hi => by
  rw [WD]
  by_cases he:i = xs.length
  ·subst he
   rw [h0 _ _ hI,U6]
  ·have hi':i < xs.length:=by omega
   rw [h1 _ i hi' a hI fun a' ha' => Wi at_ xs G I h0 h1 k (i + 1) a' ha' (by omega) hi',Um hi']
theorem ZbF {V R α:Type} {step:(V → Option R) → V → Option R} (at_:Nat → V) (xs:List α) (p:α → Bool) (out last:Option R)
  (h0:∀ L,step L (at_ xs.length) = last)
  (h1:∀ L i (hi:i < xs.length),step L (at_ i) = bif p xs[i] then L (at_ (i + 1)) else out)
  (k:Nat) (hk:xs.length < k):ZZ step k (at_ 0) = bif xs.all p then last else out:=by
 have:=WC (A:=Unit) (fun i _ => at_ i) xs (fun l _ => bif l.all p then last else out) (fun L _ => h0 L) (fun L i hi _ hL => by
  rw [h1 L i hi,hL ()]
  simp only [UB]
  cases p xs[i] <;> rfl) k 0 () (by omega) (Nat.zero_le _)
 simpa using this
theorem Xf {α:Type} {l:List α} {i:Nat} {d:α} (h:i < l.length):l.getD (Hb (UJ i)) d = l[i]:=by
 simp [VT,h]
theorem X3 {i n:Nat} (h:i < n) (hn:n ≤ 4294967296):Jy.wrap (UJ i + 1) = UJ (i + 1):=by
 rw [YZ (by simp only [iNc]; omega)]; rfl
theorem inR {i n:Nat} (h:i < n):(0:Int) ≤ UJ i ∧ UJ i < UJ n:=by simp only [iNc]; omega
theorem ltR {i n:Nat} (h:i < n):UJ i < UJ n:=by simp only [iNc]; omega
theorem Zbb (n:Nat):¬ UJ n < UJ n:=by simp only [iNc]; omega
theorem K5 {α:Type} {p:α → Bool}:∀ {l:List α},l.dropWhile p = [] ↔ l.all p = true
 | [] => by simp
 | a :: l => by
  simp only [He,UB]
  cases h:p a with
  | true => simp only [if_true,UD]; exact K5
  | false => simp
theorem Zko (l cs:List UInt8):Lib.trimS l cs = [] ↔ l.all (cs.contains ·) = true:=by
 unfold Lib.trimS Lib.trimLeftS Lib.trimRightS
 rw [K5]
 simp only [List.all_reverse]
 constructor
 ·intro h
  rw [Vg] at h ⊢
  intro x hx
  by_cases hp:cs.contains x = true
  ·exact hp
  ·refine h x ?_
   have:x ∈ l.reverse.takeWhile (cs.contains ·) ++ l.reverse.dropWhile (cs.contains ·):=by rw [List.takeWhile_append_dropWhile]; simpa using hx
   rcases Jt.1 this with h1 | h1
   ·exact absurd (Vg.1 (List.all_takeWhile (p:=(cs.contains ·)) (l:=l.reverse)) x h1) hp
   ·exact h1
 ·intro h
  rw [Vg] at h ⊢
  intro x hx
  have:x ∈ l.reverse:=(Hn _).subset hx
  exact h x (by simpa using this)
theorem Zb8 (p:Nat → Bool) (lo:∀ n,n < 128 → True) (hp:∀ n,128 ≤ n → p n = true) (s:ByteArray):∀ (f pos:Nat),s.size ≤ pos + f → 
  (Lib.idxFuncFrom p true s f pos < 0 ↔ (s.data.toList.drop pos).all (fun b => !p b.toNat) = true)
 | 0,pos,h => by
  have:s.data.toList.drop pos = []:=Ho (by rw [Q3]; omega)
  simp [Lib.idxFuncFrom,this]
 | f + 1,pos,h => by
  unfold Lib.idxFuncFrom
  by_cases hps:pos < s.size
  ·rw [if_pos hps]
   have hl:pos < s.data.toList.length:=by rw [Q3]; exact hps
   have hget:s.data.toList[pos] = s[pos]'hps:=by simp only [Array.getElem_toList]; rfl
   rw [Um hl,UB,hget]
   by_cases ha:(s[pos]'hps).toNat < 128
   ·have hd:=decode_ascii s pos hps ha
    rw [hd]
    cases hq:p (s[pos]'hps).toNat with
    | true => simp
    | false =>
     simp only [JK,if_false,U5,UD]
     exact Zb8 p lo hp s f (pos + 1) (by omega)
   ·have hd:=decode_high s pos hps (by omega)
    rw [if_pos (hp _ hd.1)]
    rw [hp _ (show 128 ≤ (s[pos]'hps).toNat by omega)]
    simp
  ·rw [if_neg hps]
   have:s.data.toList.drop pos = []:=Ho (by rw [Q3]; omega)
   simp [this]
theorem ZgS (p:Nat → Bool) (hp:∀ n,128 ≤ n → p n = true) (s:ByteArray):decide (Lib.idxFunc p true s < 0) = s.data.toList.all (fun b => !p b.toNat):=by
 have:=Zb8 p (fun _ _ => trivial) hp s s.size 0 (by omega)
 rw [U1] at this
 unfold Lib.idxFunc
 by_cases h:Lib.idxFuncFrom p true s s.size 0 < 0
 ·rw [dTr h,this.1 h]
 ·rw [dFa h]
  cases hh:s.data.toList.all (fun b => !p b.toNat) with
  | false => rfl
  | true => exact absurd (this.2 hh) h
end Go.Sh
namespace Go.Sh
open Go Go.Proofs
def az (b:UInt8):Bool:=Jb 97 b.toNat && Jb b.toNat 122
def vis (b:UInt8):Bool:=Jb 33 b.toNat && Jb b.toNat 126
def Zo5:List UInt8 → Bool
 | b :: v => b == 61 && (!v.isEmpty && v.all vis)
 | [] => false
def Zo3 (n:Nat) (l:List UInt8):Bool:=bif Ja (l.dropWhile az).length n then false else Zo5 (l.dropWhile az)
def YA (s:ByteArray):Bool:=Jb 3 s.size && (Jb s.size 12 && Zo3 s.size s.data.toList)
end Go.Sh
namespace Go.Sh
open Go Go.Proofs
def ZaI:List UInt8 → Option (List UInt8 × List UInt8)
 | [] => none
 | b :: l => if b == 61 then some ([],l) else (ZaI l).map fun p => (b :: p.1,p.2)
theorem Zam:∀ l:List UInt8,(ZaI l = none ∧ Lib.indexByte l 61 = -1) ∨ (∃ x y,ZaI l = some (x,y) ∧ Lib.indexByte l 61 = (x.length:Int) ∧ l = x ++ 61 :: y)
 | [] => .inl ⟨rfl,rfl⟩
 | b :: l => by
  simp only [ZaI,Lib.indexByte]
  by_cases hb:b = 61
  ·subst hb
   exact .inr ⟨[],l,rfl,rfl,rfl⟩
  ·have hb':(b == 61) = false:=beq_false_of_ne hb
   rw [hb']
   simp only [JK,if_false]
   rcases Zam l with ⟨h1,h2⟩ | ⟨x,y,h1,h2,h3⟩
   ·rw [h1,h2]; exact .inl ⟨rfl,rfl⟩
   ·rw [h1,h2]
    refine .inr ⟨b :: x,y,rfl,?_,by rw [h3]; rfl⟩
    have:((x.length:Int) == -1) = false:=by rw [KR]; exact decide_eq_false (by omega)
    rw [this]
    simp
def Zir:Option (List UInt8 × List UInt8) → Bool
 | none => false
 | some (x,y) => x.all az && (!y.isEmpty && y.all vis)
theorem Zhl:∀ l:List UInt8,Zo5 (l.dropWhile az) = Zir (ZaI l)
 | [] => rfl
 | b :: l => by
  rw [He]
  simp only [ZaI]
  by_cases hb:b = 61
  ·subst hb
   rfl
  ·rw [beq_false_of_ne hb]
   simp only [JK,if_false]
   cases ha:az b with
   | true =>
    simp only [if_true]
    rw [Zhl l]
    cases hc:ZaI l with
    | none => rfl
    | some p => simp [Zir,ha]
   | false =>
    simp only [JK,if_false,Zo5,beq_false_of_ne hb,Bool.false_and]
    cases hc:ZaI l with
    | none => rfl
    | some p => simp [Zir,ha]
def Zbv:Option (List UInt8 × List UInt8) → Bool
 | none => false
 | some (x,y) => !x.isEmpty && (x.all az && (!y.isEmpty && y.all vis))
theorem ZmO (l:List UInt8):Zo3 l.length l = Zbv (ZaI l):=by
 unfold Zo3
 rw [Zhl]
 match l with
 | [] => rfl
 | b :: l =>
  rw [He]
  have hsuf:(l.dropWhile az).length ≤ l.length:=(Hn az).length_le
  by_cases hb:b = 61
  ·subst hb
   have:az 61 = false:=rfl
   rw [this]
   simp only [JK,if_false]
   rw [show Ja (61 :: l).length (61 :: l).length = true from Nat.beq_refl _]
   rfl
  ·simp only [ZaI,beq_false_of_ne hb,JK,if_false]
   cases ha:az b with
   | true =>
    simp only [if_true]
    have:Ja (l.dropWhile az).length (b :: l).length = false:=by
     cases hq:Ja (l.dropWhile az).length (b :: l).length with
     | false => rfl
     | true => have:=Nat.eq_of_beq_eq_true hq; simp only [JG] at this; omega
    rw [this]
    cases hc:ZaI l with
    | none => rfl
    | some p => simp [Zir,Zbv,ha]
   | false =>
    simp only [JK,if_false]
    rw [show Ja (b :: l).length (b :: l).length = true from Nat.beq_refl _]
    cases hc:ZaI l with
    | none => rfl
    | some p => simp [Zbv,ha]
def Zbt (l:List UInt8):ByteArray:=⟨l.toArray⟩
theorem Zbu (l:List UInt8):(Zbt l).data.toList = l:=rfl
theorem ZjG (l:List UInt8):(Zbt l).size = l.length:=by rw [← Q3]; rfl
theorem Zb0 (l:List UInt8):(Zbt l).toList = l:=by rw [toList_eq]; rfl
theorem ZaK (s:ByteArray) (a b:Nat):s.extract a b = Zbt ((s.data.toList.take b).drop a):=by
 apply ZhA
 rw [Zbu,ByteArray.data_extract,Array.toList_extract,List.extract_eq_take_drop,List.drop_take]
theorem ZkP:(UK #[]) = Zbt []:=rfl
def abc:List UInt8:=[97,98,99,100,101,102,103,104,105,106,107,108,109,110,111,112,113,114,115,116,117,118,119,120,121,122]
theorem Zm3:∀ n:Nat,n < 256 → (abc.contains (UO n)) = az (UO n):=by
 have h:(Jc 256).all (fun n => abc.contains (UO n) == az (UO n)) = true:=by kernel_rfl
 intro n hn
 exact beq_iff_eq.1 (Vg.1 h n (List.mem_range.2 hn))
theorem Zog (b:UInt8):abc.contains b = az b:=by
 have:=Zm3 b.toNat b.toNat_lt
 rwa [UInt8.ofNat_toNat] at this
theorem Znj (b:UInt8):(!K7 b.toNat) = vis b:=by
 unfold K7 vis
 rw [Hd,Bool.not_eq_true',Bool.or_eq_false_iff,Jh,Nat.ble_eq,Nat.ble_eq]
 constructor
 ·rintro ⟨h1,h2⟩
  constructor
  ·rcases Nat.lt_or_ge b.toNat 33 with h | h
   ·rw [show UR b.toNat 33 = true from UY h] at h1; cases h1
   ·exact h
  ·rcases Nat.lt_or_ge 126 b.toNat with h | h
   ·rw [show UR 126 b.toNat = true from UY h] at h2; cases h2
   ·exact h
 ·rintro ⟨h1,h2⟩
  constructor
  ·cases h:UR b.toNat 33 with
   | false => rfl
   | true => have:=Ju h; omega
  ·cases h:UR 126 b.toNat with
   | false => rfl
   | true => have:=Ju h; omega
theorem Zmh (k:Nat) (s:ByteArray) (hs:s.size ≤ 4294967296):Zi4 k (s,UK #[61],()) = some (match ZaI s.data.toList with
  | none => ((s,Zbt [],false,()),())
  | some (x,y) => ((Zbt x,Zbt y,true,()),())):=by
 have hl:=Q3 s
 show Zdl k (s,UK #[61],()) = _
 simp only [Zdl]
 rw [show Zi5 k (s,UK #[61],()) = some (Lib.indexByte s.data.toList 61,()) from rfl,VL]
 rcases Zam s.data.toList with ⟨h1,h2⟩ | ⟨x,y,h1,h2,h3⟩
 ·simp only [h1,h2]
  rfl
 ·simp only [h1,h2]
  have hlen:x.length + (y.length + 1) = s.size:=by rw [← hl,h3]; simp
  have hw:Jy.wrap ((x.length:Int) + UJ (UK #[61]).size) = ((x.length + 1:Nat):Int):=by
   rw [show (UK #[61]).size = 1 from rfl,YZ (by simp only [UZ]; omega)]; simp only [UZ]; omega
  rw [Zp (by omega),Zp (by simp only [UZ]; omega),hw,Zp (by simp only [UZ]; omega)]
  rw [ZaK,ZaK]
  have e1:(Hb (x.length:Int)) = x.length:=by omega
  have e2:(Hb ((x.length + 1:Nat):Int)) = x.length + 1:=by omega
  have e3:(Hb (UJ s.size)) = s.size:=rfl
  rw [e1,e2,e3,h3]
  have t1:(UQ x.length (x ++ 61 :: y)) = x:=by simp
  have t2:(UQ s.size (x ++ 61 :: y)) = x ++ 61 :: y:=Hr (by simp; omega)
  have t3:UP (x.length + 1) (x ++ 61 :: y) = y:=by
   rw [List.drop_append]; simp
  rw [t1,t2,t3]
  rfl
theorem ZgJ (k:Nat) (s:ByteArray) (hs:s.size ≤ 1048576):ZgI k (s,()) = some (YA s,()):=by
 have hl:=Q3 s
 show Zdf k (s,()) = _
 simp only [Zdf]
 rw [show Zl7 k (s,UK #[OfNat.ofNat (61:Nat)],()) = (Zi4 k (s,UK #[61],())).bind fun y => some ((y.1.1,y.1.2.1,y.1.2.2.1,()),()) from rfl,Zmh k s (by omega)]
 have htag:YA s = (Jb 3 s.size && (Jb s.size 12 && Zbv (ZaI s.data.toList))):=by
  unfold YA
  rw [← hl,ZmO]
 rcases Zam s.data.toList with ⟨h1,h2⟩ | ⟨x,y,h1,h2,h3⟩
 ·rw [htag]
  simp only [h1,VL,Zbv,Bool.and_false]
  rfl
 ·rw [htag]
  have hlen:x.length + (y.length + 1) = s.size:=by rw [← hl,h3]; simp
  simp only [h1,VL,Zbv,ZkP,Zb0]
  simp only [cond_true,bne,ZjM]
  cases hx:x with
  | nil => simp
  | cons a x' =>
   rw [← hx]
   have hx0:(x == ([]:List UInt8)) = false:=by rw [hx]; rfl
   rw [hx0]
   simp only [U5,cond_true,cond_false]
   cases hy:y with
   | nil => simp
   | cons c y' =>
    rw [← hy]
    have hy0:(y == ([]:List UInt8)) = false:=by rw [hy]; rfl
    have hx1:x.isEmpty = false:=by rw [hx]; rfl
    have hy1:y.isEmpty = false:=by rw [hy]; rfl
    have hlx:1 ≤ x.length:=by rw [hx]; simp
    have hly:1 ≤ y.length:=by rw [hy]; simp
    rw [hy0,hx1,hy1,UY (show 3 ≤ s.size by omega)]
    simp only [U5,cond_true,cond_false,UD]
    by_cases h12:s.size ≤ 12
    ·rw [Zp (by simp only [UZ]; omega),UY h12]
     have htr:Zi2 k (Zbt x,UK #[OfNat.ofNat (97:Nat),OfNat.ofNat (98:Nat),OfNat.ofNat (99:Nat),OfNat.ofNat (100:Nat),OfNat.ofNat (101:Nat),OfNat.ofNat (102:Nat),OfNat.ofNat (103:Nat),OfNat.ofNat (104:Nat),OfNat.ofNat (105:Nat),OfNat.ofNat (106:Nat),OfNat.ofNat (107:Nat),OfNat.ofNat (108:Nat),OfNat.ofNat (109:Nat),OfNat.ofNat (110:Nat),OfNat.ofNat (111:Nat),OfNat.ofNat (112:Nat),OfNat.ofNat (113:Nat),OfNat.ofNat (114:Nat),OfNat.ofNat (115:Nat),OfNat.ofNat (116:Nat),OfNat.ofNat (117:Nat),OfNat.ofNat (118:Nat),OfNat.ofNat (119:Nat),OfNat.ofNat (120:Nat),OfNat.ofNat (121:Nat),OfNat.ofNat (122:Nat)],()) = some (Zbt (Lib.trimS x abc),()):=by
      show Zhh (Zbt x,Zbt abc,()) = _
      unfold Zhh
      simp only [ZjG,Zbu]
      rw [show UR x.length 1099511627776 = true from UY (by omega)]
      rfl
     rw [htr,VL]
     simp only [Zb0]
     have hall:(Lib.trimS x abc == ([]:List UInt8)) = x.all az:=by
      rw [Hd,beq_iff_eq,Zko]
      rw [show (fun b => abc.contains b) = az from funext Zog]
     rw [hall]
     cases x.all az with
     | false => rfl
     | true =>
      simp only [cond_true,UD]
      show ((Zno K7 (Zbt y,(),())).bind fun y => some (decide (y.1 < (0:Int)),())) = _
      simp only [Zno,VL]
      rw [ZgS K7 (fun n hn => by
       unfold K7
       rw [show UR 126 n = true from UY (by omega),Bool.or_true]),Zbu]
      rw [show (fun b:UInt8 => !K7 b.toNat) = vis from funext Znj]
    ·rw [ZE (by simp only [UZ]; omega)]
     have:Jb s.size 12 = false:=by
      cases hb:Jb s.size 12 with
      | false => rfl
      | true => exact absurd (Ju hb) h12
     rw [this]; rfl
end Go.Sh
namespace Go.Sh
open Go Go.Proofs
structure Small (tags:List ByteArray) (ch:List (List Int)):Prop where
 tl:tags.length ≤ 1048576
 tag:∀ t ∈ tags,t.size ≤ 1048576
 cl:ch.length ≤ 1048576
 chan:∀ c ∈ ch,c.length ≤ 1048576
def QB (c d r:Int):Bool:=decide (1 ≤ c ∧ c ≤ 2 ∧ 4 ≤ d ∧ d ≤ 24 ∧ 1 ≤ r ∧ r ≤ 655350)
def sgn (d x:Int):Bool:=decide (-((2:Int) ^ (d - 1).toNat) ≤ x ∧ x < (2:Int) ^ (d - 1).toNat)
def ZcU (ch:List (List Int)) (x:List Int):Bool:=decide (x.length ≤ 4096 ∧ x.length = (ch.getD 0 []).length)
def chk (c d r:Int) (tags:List ByteArray) (ch:List (List Int)):Int :=
 bif QB c d r then
  bif decide (8 < tags.length) then 1 else
  bif decide (¬ UJ ch.length = c) then 1 else
  bif tags.all YA then
   bif ch.all (ZcU ch) then
    bif ch.all (fun x => x.all (sgn d)) then 0 else 12
   else 1
  else 1
 else 2
theorem Zjx {n:Nat} (h:n ≤ 24):1 ≤ (2:Int) ^ n ∧ (2:Int) ^ n ≤ 16777216:=by
 have h1:1 ≤ 2 ^ n:=Ht
 have h2:2 ^ n ≤ 2 ^ 24:=Hg (by omega) h
 have e:((2 ^ n:Nat):Int) = (2:Int) ^ n:=by simp
 rw [← e]
 omega
theorem Zo8 {d:Int} (h:4 ≤ d ∧ d ≤ 24):Jy.wrap (d - 1) = d - 1:=YZ (by omega)
theorem ZpV {d:Int} (h:4 ≤ d ∧ d ≤ 24):min (d - 1).toNat 64 = (d - 1).toNat:=by omega
theorem ZgH (k:Nat) (c d r:Int):ZiT k ((c,d,r,()),()) = some ((bif QB c d r then 0 else 2),()):=by
 show Zdd k ((c,d,r,()),()) = _
 simp only [Zdd]
 unfold QB
 by_cases h1:c < 1
 ·rw [Zp h1,decide_eq_false (by omega)]; rfl
 rw [ZE h1]
 by_cases h2:2 < c
 ·rw [Zp h2,decide_eq_false (by omega)]; rfl
 rw [ZE h2]
 by_cases h3:d < 4
 ·rw [Zp h3,decide_eq_false (by omega)]; rfl
 rw [ZE h3]
 by_cases h4:24 < d
 ·rw [Zp h4,decide_eq_false (by omega)]; rfl
 rw [ZE h4]
 by_cases h5:r < 1
 ·rw [Zp h5,decide_eq_false (by omega)]; rfl
 rw [ZE h5]
 by_cases h6:655350 < r
 ·rw [Zp h6,decide_eq_false (by omega)]; rfl
 rw [ZE h6,decide_eq_true (by omega)]; rfl
section ref
variable {k:Nat} (hk:16777216 ≤ k) {c d r:Int} {tags:List ByteArray} {ch:List (List Int)} (hS:Small tags ch) (hd:4 ≤ d ∧ d ≤ 24)
include hk hS hd
end ref
theorem Zl6 {k:Nat} (hk:16777216 ≤ k) {tags:List ByteArray} (h1:tags.length ≤ 1048576) (h2:∀ t ∈ tags,t.size ≤ 1048576):ZlO k (tags,(),()) = some (!(tags.all YA),()):=by
 show Zde k (tags,(),()) = _
 simp only [Zde]
 have:∃ n:Int,Zl3 k (tags,(),()) = some (n,()) ∧ decide (0 ≤ n) = !(tags.all YA):=by
  show ∃ n:Int,Za3 k (ZfM k) (tags,(),()) = some (n,()) ∧ _
  simp only [Za3]
  have key:∀ (m i:Nat),tags.length < m + i → i ≤ tags.length → ∃ n:Int,ZZ (fun L1 => Kq k L1) m (UJ tags.length,UJ i,tags) = some (n,()) ∧ decide (0 ≤ n) = !((tags.drop i).all YA):=by
   intro m
   induction m with
   | zero => intro i h h'; omega
   | succ m ih =>
    intro i h h'
    rw [WD]
    by_cases he:i = tags.length
    ·subst he
     simp only [Kq]
     rw [ZE (Zbb _),U6]
     exact ⟨-1,rfl,rfl⟩
    ·have hi:i < tags.length:=by omega
     simp only [Kq]
     rw [Zp (ltR hi),Zp (inR hi),Xf hi]
     rw [show ZlP k (tags[i],()) = (ZgI k (tags[i],())).bind fun y => some (!y.1,()) from rfl,ZgJ k _ (h2 _ (U4 _)),VL,VL,X3 hi (by omega),Um hi,UB]
     cases YA tags[i] with
     | true =>
      simp only [Bool.not_true,cond_false,UD]
      exact ih (i + 1) (by omega) (by omega)
     | false =>
      refine ⟨UJ i,rfl,?_⟩
      rw [decide_eq_true (by simp only [UZ]; omega)]; rfl
  have:=key k 0 (by omega) (by omega)
  rwa [U1] at this
 obtain ⟨n,h,h'⟩:=this
 rw [h,VL,h']
theorem ZlT (k:Nat) (c d r:Int) (tags:List ByteArray) (ch:List (List Int)):ZlS k (((c,d,r,()),tags,ch,()),()) = some (UJ (ch.getD 0 []).length,()):=by
 show Zdg k (((c,d,r,()),tags,ch,()),()) = _
 simp only [Zdg]
 cases ch with
 | nil => rfl
 | cons x ch =>
  rw [KR,ZE (by simp only [UZ,JG]; omega),Zp (by simp only [UZ,JG]; omega)]
theorem Zmj {x p:Int} (hp:1 ≤ p):(UT x p = 0 ∨ UT x p = -1) ↔ (-p ≤ x ∧ x < p):=by
 have h1:=Int.mul_fdiv_add_fmod x p
 have h2:0 ≤ Int.fmod x p:=Int.fmod_nonneg_of_pos _ (by omega)
 have h3:Int.fmod x p < p:=Int.fmod_lt_of_pos _ (by omega)
 generalize UT x p = q at *
 generalize Int.fmod x p = m at *
 constructor
 ·rintro (rfl | rfl)
  ·rw [Int.mul_zero] at h1; omega
  ·rw [Int.mul_neg,Int.mul_one] at h1; omega
 ·intro h
  rcases Hj q (-1) with hq | hq | hq
  ·exfalso
   have:p * q ≤ p * (-2):=Hk (by omega) (by omega)
   omega
  ·exact .inr hq
  ·rcases Hj q 0 with hq' | hq' | hq'
   ·omega
   ·exact .inl hq'
   ·exfalso
    have:p * 1 ≤ p * q:=Hk (by omega) (by omega)
    omega
section prog
variable {k:Nat} (hk:16777216 ≤ k) {c d r:Int} {tags:List ByteArray} {ch:List (List Int)} (hS:Small tags ch) (hd:4 ≤ d ∧ d ≤ 24)
include hk hS hd
theorem Zpu (L2:Int × Int × List (List Int) × Int × Int × Int × List ByteArray × List (List Int) → Option (Int × Unit)) (i:Nat) (hi:i < ch.length) :
  Zfu k L2 (UJ ch[i].length,0,ch[i],UJ i,UJ ch.length,ch,c,d,r,tags,ch) = bif ch[i].all (sgn d) then L2 (UJ ch.length,UJ (i + 1),ch,c,d,r,tags,ch) else some (12,()):=by
 have hl:=hS.chan ch[i] (U4 _)
 have hcl:=hS.cl
 refine ZbF (fun j => (UJ ch[i].length,UJ j,ch[i],UJ i,UJ ch.length,ch,c,d,r,tags,ch)) ch[i] (sgn d) _ _ (fun L => ?_) (fun L j hj => ?_) k (by omega)
 ·simp only [ZaT]
  rw [ZE (Zbb _),X3 hi (by omega)]
 ·simp only [ZaT]
  rw [Zp (ltR hj),Zp (inR hj),Xf hj,Zo8 hd,Zp (by omega),ZpV hd,X3 hj (by omega),ZV,ZV]
  have hp:=Zjx (n:=(d - 1).toNat) (by omega)
  have hf:=Zmj (x:=ch[i][j]) hp.1
  unfold sgn
  generalize (2:Int) ^ (d - 1).toNat = p at *
  generalize UT ch[i][j] p = q at *
  by_cases h1:q = 0
  ·rw [ZE (fun h => h h1),decide_eq_true (hf.1 (.inl h1))]; rfl
  ·rw [Zp h1]
   by_cases h2:q = -1
   ·rw [ZE (fun h => h h2),decide_eq_true (hf.1 (.inr h2))]; rfl
   ·rw [Zp h2,decide_eq_false (fun h => (hf.2 h).elim h1 h2)]; rfl
theorem Zpt:Zc3 k (UJ ch.length,0,ch,c,d,r,tags,ch) = bif ch.all (fun x => x.all (sgn d)) then some (0,()) else some (12,()):=by
 have hcl:=hS.cl
 refine ZbF (fun j => (UJ ch.length,UJ j,ch,c,d,r,tags,ch)) ch (fun x => x.all (sgn d)) _ _ (fun L => ?_) (fun L j hj => ?_) k (by omega)
 ·simp only [ZaS]
  rw [ZE (Zbb _)]
 ·simp only [ZaS]
  rw [Zp (ltR hj),Zp (inR hj),Xf hj]
  exact Zpu hk hS hd L j hj
theorem Zps:Zc2 k (UJ ch.length,0,ch,c,d,r,tags,ch) = bif ch.all (ZcU ch) then Zc3 k (UJ ch.length,0,ch,c,d,r,tags,ch) else some (1,()):=by
 have hcl:=hS.cl
 refine ZbF (fun j => (UJ ch.length,UJ j,ch,c,d,r,tags,ch)) ch (ZcU ch) _ _ (fun L => ?_) (fun L j hj => ?_) k (by omega)
 ·simp only [ZaR]
  rw [ZE (Zbb _)]
 ·simp only [ZaR]
  rw [Zp (ltR hj),Zp (inR hj),Xf hj,ZlT,X3 hj (by omega)]
  simp only [VL]
  rw [ZV]
  unfold ZcU
  generalize hz:(ch.getD 0 []).length = z
  by_cases h1:(4096:Int) < UJ ch[j].length
  ·rw [Zp h1,decide_eq_false (by simp only [UZ] at h1; omega)]; rfl
  ·rw [ZE h1]
   by_cases h2:ch[j].length = z
   ·rw [h2,ZE (by simp),decide_eq_true (by simp only [UZ] at h1; omega)]; rfl
   ·rw [Zp (by simp only [UZ]; omega),decide_eq_false (fun h => h2 h.2)]; rfl
end prog
theorem Zln {k:Nat} (hk:16777216 ≤ k) {c d r:Int} {tags:List ByteArray} {ch:List (List Int)} (hS:Small tags ch):Zli k (((c,d,r,()),tags,ch,()),()) = some (chk c d r tags ch,()):=by
 show ZaQ k (Zc2 k) (((c,d,r,()),tags,ch,()),()) = _
 simp only [ZaQ]
 rw [ZgH,VL,ZV]
 unfold chk
 cases hs:QB c d r with
 | false => rfl
 | true =>
  have hs':=of_decide_eq_true hs
  have hd:4 ≤ d ∧ d ≤ 24:=⟨hs'.2.2.1,hs'.2.2.2.1⟩
  simp only [cond_true]
  rw [ZV,ZE (by simp)]
  by_cases h8:8 < tags.length
  ·rw [Zp (by simp only [UZ]; omega),Zp h8]
  ·rw [ZE (by simp only [UZ]; omega),ZE h8]
   by_cases hc:UJ ch.length = c
   ·rw [ZE (fun h => h hc),ZE (fun h => h hc),Zl6 hk hS.tl hS.tag,VL,ZjM,Zps hk hS hd,Zpt hk hS hd]
    cases tags.all YA with
    | false => rfl
    | true =>
     simp only [cond_true]
     cases ch.all (ZcU ch) with
     | false => rfl
     | true =>
      simp only [cond_true]
      cases ch.all (fun x => x.all (sgn d)) <;> rfl
   ·rw [Zp hc,Zp hc]
end Go.Sh
namespace Go.Sh
open Go Go.Proofs
def Zgr (n:Int) (j:Nat):Int:=UM.wrap (n.fdiv ((2:Int) ^ (8 * j)))
def low (n:Int) (size:Nat):List Int:=(Jc size).map (Zgr n)
theorem ZH (n:Int) (size:Nat):(low n size).length = size:=by simp [low]
theorem ZjH {size j:Nat} (hs:size ≤ 8) (hj:j < size):min (Jy.wrap ((8:Int) * UJ j)).toNat 64 = 8 * j:=by
 rw [YZ (by simp only [UZ]; omega)]; simp only [UZ]; omega
theorem Wh {k:Nat} (hk:16777216 ≤ k) (b:List Int) (n:Int) (size:Nat) (hs:size ≤ 8) (hb:b.length ≤ 1073741824):XT k (b,n,UJ size,()) = some (b ++ low n size,()):=by
 show ZZ (fun L1 => Yi k L1) k (UJ size,UJ 0,n,b) = _
 have key:=Wi (step:=fun L1 => Yi k L1) (A:=List Int) (fun i a => (UJ size,UJ i,n,a)) (Jc size) (fun l a => some (a ++ l.map (Zgr n),())) (fun i a => a.length ≤ 1073741824 + i)
  (fun L a ha => by
   simp only [Yi,U2]
   rw [ZE (Zbb _)]; simp)
  (fun L i hi a ha hL => by
   simp only [U2] at hi
   simp only [Yi]
   rw [Zp (ltR hi),Zp (by rw [YZ (by simp only [UZ]; omega)]; simp only [UZ]; omega),Zp (by simp only [Ut]; omega),ZjH hs hi,X3 hi (by omega)]
   rw [hL _ (by simp; omega)]
   simp [Zgr]) k 0 b (by omega) (by rw [U2]; omega) (by omega)
 rw [key]
 simp [low]
end Go.Sh
namespace Go.Sh
open Go Go.Proofs
theorem QG (a:List Int):(bytesOf a).size = a.length:=by
 rw [← Q3]; simp [bytesOf]
theorem Qp (s:ByteArray):(Zx s).length = s.size:=by rw [← Q3]; simp [Zx]
theorem Wo (s:ByteArray):bytesOf (Zx s) = s:=by
 apply ZhA
 show (UN (fun n:Int => UO n.toNat) (Zx s)).toArray.toList = s.data.toList
 unfold Zx
 rw [JV,V0]
 conv => rhs; rw [← List.map_id s.data.toList]
 apply Hf
 intro b _
 simp
def Zq (d:Int):Int:=(d + 7).tdiv 8
def Y8 (body:List Int):List Int:=Jd (body.length % 2) 0
def ZO (mark body:List Int):List Int:=mark ++ low (body.length:Int) 4 ++ body ++ Y8 body
def Qd (c d r:Int):List Int:=low 1 2 ++ low c 2 ++ low r 4 ++ low (r * (c * Zq d)) 4 ++ low (c * Zq d) 2 ++ low d 2
def Y9 (t:ByteArray):List Int:=UM.wrap (UJ t.size) :: Zx t
def Zz (tags:List ByteArray):List Int:=tags.flatMap Y9
def QH:List Int:=[102,109,116,32]
def Qe:List Int:=[116,97,103,115]
def ZR:List Int:=[100,97,116,97]
def WS:List Int:=[87,65,86,69]
def WR:List Int:=[82,73,70,70]
def Zo (tags:List ByteArray):List Int:=if tags = [] then [] else ZO Qe (Zz tags)
def Kf (c d r:Int) (tags:List ByteArray) (data:List Int):List Int:=WS ++ ZO QH (Qd c d r) ++ Zo tags ++ ZO ZR data
def XU (c d r:Int) (tags:List ByteArray) (data:List Int):List Int:=WR ++ low ((Kf c d r tags data).length:Int) 4 ++ Kf c d r tags data
theorem WB (c d r:Int):(Qd c d r).length = 16:=by simp [Qd,ZH]
theorem Zg1 (b:List Int):(Y8 b).length = b.length % 2:=by simp [Y8]
theorem QP (m b:List Int):(ZO m b).length = m.length + 4 + b.length + b.length % 2:=by simp [ZO,ZH,Zg1]; omega
theorem Zep (tags:List ByteArray):(Zo tags).length ≤ 9 + (Zz tags).length:=by
 unfold Zo
 split
 ·simp
 ·rw [QP]; simp [Qe]; omega
theorem ZjF (c d r:Int) (tags:List ByteArray) (data:List Int):(Kf c d r tags data).length = 36 + (Zo tags).length + data.length + data.length % 2:=by
 simp [Kf,QP,WB,WS,QH,ZR]; omega
theorem K0 {d:Int} (h:4 ≤ d ∧ d ≤ 24):1 ≤ Zq d ∧ Zq d ≤ 3 ∧ 8 * Zq d - 8 < d ∧ d ≤ 8 * Zq d:=by
 unfold Zq
 rw [Hm (by omega)]
 omega
theorem Zc5 (k:Nat) {c d r:Int} (h:4 ≤ d ∧ d ≤ 24):ZgA k ((c,d,r,()),()) = some (Zq d,()):=by
 show Zc4 k ((c,d,r,()),()) = _
 simp only [Zc4]
 have e:Jy.wrap (d + 7) = d + 7:=YZ (by omega)
 have:=K0 h
 unfold Zq at this ⊢
 rw [e,YZ (by omega)]
theorem Ke {c d:Int} (hc:1 ≤ c ∧ c ≤ 2) (h:4 ≤ d ∧ d ≤ 24):1 ≤ c * Zq d ∧ c * Zq d ≤ 6:=by
 have:=K0 h
 rcases (show c = 1 ∨ c = 2 by omega) with rfl | rfl <;> omega
theorem Kn (k:Nat) {c d r:Int} (hc:1 ≤ c ∧ c ≤ 2) (h:4 ≤ d ∧ d ≤ 24):Y1 k ((c,d,r,()),()) = some (c * Zq d,()):=by
 show Zdb k ((c,d,r,()),()) = _
 simp only [Zdb]
 rw [Zc5 k h,VL]
 have:=Ke hc h
 simp only
 rw [YZ (by omega)]
theorem Za1 {k:Nat} (hk:16777216 ≤ k) (b:List Int) (m:ByteArray) (body:List Int) (hm:m.size ≤ 4) (hb:b.length ≤ 268435456) (hbody:body.length ≤ 268435456) :
  ZeE k (b,m,body,()) = some (b ++ ZO (Zx m) body,()):=by
 show Zdh k (b,m,body,()) = _
 simp only [Zdh]
 have e1:UN (fun b => UJ b.toNat) m.data.toList = Zx m:=rfl
 rw [e1]
 have hm':=Qp m
 rw [Zp (by omega)]
 have e2:=Wh hk (b ++ Zx m) (UJ body.length) 4 (by omega) (by simp; omega)
 rw [show (OfNat.ofNat (4:Nat):Int) = UJ 4 from rfl,e2,VL]
 simp only
 have e3:(UJ body.length).tmod 2 = UJ (body.length % 2):=rfl
 rw [e3,Zp (by simp [ZH]; omega),ZgX (by simp only [UZ]; omega) (by simp only [UZ]; omega)]
 simp only [cond_true]
 rw [Zp (by simp [ZH]; omega)]
 have e4:(UJ (body.length % 2)).toNat = body.length % 2:=rfl
 rw [e4]
 simp [ZO,Y8]
theorem Zpw {k:Nat} (hk:16777216 ≤ k) {c d r:Int} (tags:List ByteArray) (data b:List Int) (ht:tags.length ≤ 1048576) (htl:(Zz tags).length ≤ 16777216) (hd:data.length ≤ 67108864) (hb:b.length ≤ 1048576) :
  Zc6 k (UJ tags.length,0,tags,[],b,c,d,r,tags,data) = some (WR ++ low ((b ++ ZO Qe (Zz tags) ++ ZO ZR data).length:Int) 4 ++ (b ++ ZO Qe (Zz tags) ++ ZO ZR data),()):=by
 have key:=Wi (step:=fun L1 => Km k L1) (A:=List Int) (fun i a => (UJ tags.length,UJ i,tags,a,b,c,d,r,tags,data)) tags (fun l a => some (WR ++ low ((b ++ ZO Qe (a ++ Zz l) ++ ZO ZR data).length:Int) 4 ++ (b ++ ZO Qe (a ++ Zz l) ++ ZO ZR data),()))
  (fun i a => a ++ Zz (tags.drop i) = Zz tags)
  (fun L a ha => by
   simp only [Km]
   rw [ZE (Zbb _)]
   have hal:a.length ≤ 16777216:=by
    rw [U6] at ha
    simp [Zz] at ha
    rw [ha]; exact htl
   have e1:(UK #[OfNat.ofNat (116:Nat),OfNat.ofNat (97:Nat),OfNat.ofNat (103:Nat),OfNat.ofNat (115:Nat)]) = bytesOf Qe:=rfl
   have e2:(UK #[OfNat.ofNat (100:Nat),OfNat.ofNat (97:Nat),OfNat.ofNat (116:Nat),OfNat.ofNat (97:Nat)]) = bytesOf ZR:=rfl
   rw [e1,e2,Za1 hk _ _ _ (by rw [QG]; decide) (by omega) (by omega),VL]
   have n1:Zx (bytesOf Qe) = Qe:=rfl
   have n2:Zx (bytesOf ZR) = ZR:=rfl
   have ml:Qe.length = 4:=rfl
   have ml2:ZR.length = 4:=rfl
   rw [n1]
   rw [Za1 hk _ _ _ (by rw [QG]; decide) (by simp [QP]; omega) (by omega),VL,n2]
   simp only
   rw [show (OfNat.ofNat (4:Nat):Int) = UJ 4 from rfl,Wh hk _ _ 4 (by omega) (by simp),VL]
   rw [Zp (by simp [ZH,QP]; omega)]
   simp [Zz,WR])
  (fun L i hi a ha hL => by
   simp only [Km]
   have hal:a.length + (Y9 tags[i]).length ≤ 16777216:=by
    have h2:Zz (tags.drop i) = Y9 tags[i] ++ Zz (tags.drop (i + 1)):=by rw [Um hi]; rfl
    rw [h2] at ha
    rw [← ha,JQ,JQ] at htl
    omega
   have htb:(Y9 tags[i]).length = 1 + tags[i].size:=by simp [Y9,Qp]; omega
   rw [Zp (ltR hi),Zp (inR hi),Xf hi]
   have e1:UN (fun b => UJ b.toNat) tags[i].data.toList = Zx tags[i]:=rfl
   rw [e1,Zp (by simp; omega),Zp (by simp [Qp]; omega),X3 hi (by omega)]
   have e3:a ++ [UM.wrap (UJ tags[i].size)] ++ Zx tags[i] = a ++ Y9 tags[i]:=by simp [Y9]
   rw [e3,hL _ (by
    have h2:Zz (tags.drop i) = Y9 tags[i] ++ Zz (tags.drop (i + 1)):=by rw [Um hi]; rfl
    rw [← ha,h2,Jv])]
   have h3:Zz (tags[i] :: tags.drop (i + 1)) = Y9 tags[i] ++ Zz (tags.drop (i + 1)):=rfl
   rw [h3,Jv a]) k 0 [] (by simp) (by omega) (by omega)
 rw [U1] at key
 exact key
theorem Zc7 {k:Nat} (hk:16777216 ≤ k) {c d r:Int} (hs:QB c d r = true) (tags:List ByteArray) (data:List Int) (ht:tags.length ≤ 1048576) (htl:(Zz tags).length ≤ 16777216) (hdl:data.length ≤ 67108864) :
  ZgC k (((c,d,r,()),tags,data,()),()) = some (XU c d r tags data,()):=by
 have hs':=of_decide_eq_true hs
 have hc:1 ≤ c ∧ c ≤ 2:=⟨hs'.1,hs'.2.1⟩
 have hd:4 ≤ d ∧ d ≤ 24:=⟨hs'.2.2.1,hs'.2.2.2.1⟩
 have hbl:=Ke hc hd
 have hr:1 ≤ r * (c * Zq d) ∧ r * (c * Zq d) ≤ 655350 * 6:=by
  constructor
  ·have:=U3 (a:=1) (b:=1) (c:=r) (d:=c * Zq d) hs'.2.2.2.2.1 hbl.1 (by omega) (by omega)
   omega
  ·exact U3 hs'.2.2.2.2.2 hbl.2 (by omega) (by omega)
 show ZaU k (Zc6 k) (((c,d,r,()),tags,data,()),()) = _
 simp only [ZaU]
 have o1:(OfNat.ofNat (1:Nat):Int) = 1:=rfl
 have o2:(OfNat.ofNat (2:Nat):Int) = UJ 2:=rfl
 have o4:(OfNat.ofNat (4:Nat):Int) = UJ 4:=rfl
 rw [o2,o4,o1]
 rw [Wh hk _ _ 2 (by omega) (by simp),VL]
 simp only
 rw [Wh hk _ _ 2 (by omega) (by simp [ZH]),VL]
 simp only
 rw [Wh hk _ _ 4 (by omega) (by simp [ZH]),VL]
 simp only
 rw [Kn k hc hd,VL]
 simp only
 rw [YZ (n:=r * (c * Zq d)) (by omega)]
 rw [Wh hk _ _ 4 (by omega) (by simp [ZH]),VL]
 simp only
 rw [VL]
 rw [Wh hk _ _ 2 (by omega) (by simp [ZH]),VL]
 simp only
 rw [Wh hk _ _ 2 (by omega) (by simp [ZH]),VL]
 simp only
 have hform:[] ++ low 1 2 ++ low c 2 ++ low r 4 ++ low (r * (c * Zq d)) 4 ++ low (c * Zq d) 2 ++ low d 2 = Qd c d r:=by simp [Qd]
 have e0:(UK #[OfNat.ofNat (102:Nat),OfNat.ofNat (109:Nat),OfNat.ofNat (116:Nat),OfNat.ofNat (32:Nat)]) = bytesOf QH:=rfl
 have e2:(UK #[OfNat.ofNat (100:Nat),OfNat.ofNat (97:Nat),OfNat.ofNat (116:Nat),OfNat.ofNat (97:Nat)]) = bytesOf ZR:=rfl
 rw [hform,e0,e2]
 have n0:Zx (bytesOf QH) = QH:=rfl
 have n2:Zx (bytesOf ZR) = ZR:=rfl
 rw [Za1 hk _ _ _ (by rw [QG]; decide) (by simp) (by rw [WB]; omega),VL,n0]
 simp only
 have hw:([(87:Int),(65:Int),(86:Int),(69:Int)] ++ ZO QH (Qd c d r)).length = 28:=by simp [QP,WB,QH]
 cases tags with
 | nil =>
  rw [ZE (by simp)]
  rw [Za1 hk _ _ _ (by rw [QG]; decide) (by rw [hw]; omega) (by omega),VL,n2]
  simp only
  rw [Wh hk _ _ 4 (by omega) (by simp),VL]
  simp only
  have ml2:ZR.length = 4:=rfl
  rw [Zp (by rw [JQ,JQ,hw,QP,ZH,ml2]; simp; omega)]
  simp [XU,Kf,Zo,WR,WS]
 | cons t tags =>
  rw [Zp (by simp only [UZ,JG]; omega)]
  have:=Zpw hk (c:=c) (d:=d) (r:=r) (t :: tags) data ([(87:Int),(65:Int),(86:Int),(69:Int)] ++ ZO QH (Qd c d r)) ht htl hdl (by rw [hw]; omega)
  rw [this]
  simp [XU,Kf,Zo,WR,WS]
end Go.Sh
namespace Go.Sh
open Go Go.Proofs
def Wc (l:List Int):Prop := ∀ x ∈ l,0 ≤ x ∧ x < 256
theorem Wc.app {a b:List Int} (ha:Wc a) (hb:Wc b):Wc (a ++ b):=fun x hx => (Jt.1 hx).elim (ha x) (hb x)
theorem ZkM (n:Int):0 ≤ UM.wrap n ∧ UM.wrap n < 256:=by rw [IntKind.wrap_u8]; omega
theorem Xs (n:Int) (s:Nat):Wc (low n s):=by
 intro x hx
 simp only [low,VH] at hx
 obtain ⟨j,_,rfl⟩:=hx
 exact ZkM _
theorem ZkL (s:ByteArray):Wc (Zx s):=by
 intro x hx
 simp only [Zx,VH] at hx
 obtain ⟨b,_,rfl⟩:=hx
 have:=b.toNat_lt
 omega
theorem Ziq:Wc []:=by intro x hx; simp at hx
theorem We {l:List Int} (h:Wc l) (n:Nat):Wc (l.take n):=fun x hx => h x (List.mem_of_mem_take hx)
theorem Wd {l:List Int} (h:Wc l) (n:Nat):Wc (l.drop n):=fun x hx => h x (List.mem_of_mem_drop hx)
theorem ZcO {α:Type} {l:List α} {f:α → List Int} (h:∀ x ∈ l,Wc (f x)):Wc (l.flatMap f):=by
 intro x hx
 obtain ⟨a,ha,hxa⟩:=List.mem_flatMap.1 hx
 exact h a ha x hxa
theorem Xp {l:List Int} (h:Wc l):Zx (bytesOf l) = l:=by
 unfold Zx
 show UN _ (UN (fun n:Int => UO n.toNat) l).toArray.toList = l
 rw [JV,V0]
 conv => rhs; rw [← List.map_id l]
 apply Hf
 intro x hx
 have:=h x hx
 have e:(UO x.toNat).toNat = x.toNat:=UInt8.toNat_ofNat_of_lt' (show x.toNat < UInt8.size by have:UInt8.size = 256:=rfl; omega)
 simp only [Function.comp,e,id]
 omega
theorem XQ {a b:List Int} (ha:Wc a) (hb:Wc b) (h:bytesOf a = bytesOf b):a = b:=by
 rw [← Xp ha,h,Xp hb]
def Zj (d:Int):Nat:=(Zq d).toNat
def sft (d:Int):Nat:=(8 * Zq d - d).toNat
def Zg9 (d x:Int):Int:=bif Zq d == 1 then x * (2:Int) ^ sft d + 128 else x * (2:Int) ^ sft d
def K4 (d:Int) (ch:List (List Int)) (j:Nat):List Int:=ch.flatMap fun c => low (Zg9 d (c.getD j 0)) (Zj d)
def Wg (d:Int) (ch:List (List Int)) (n:Nat):List Int:=(Jc n).flatMap (K4 d ch)
structure Fine (c d r:Int) (tags:List ByteArray) (ch:List (List Int)):Prop where
 shape:QB c d r = true
 tl:tags.length ≤ 8
 tag:∀ t ∈ tags,YA t = true
 cl:UJ ch.length = c
 even:∀ x ∈ ch,x.length ≤ 4096 ∧ x.length = (ch.getD 0 []).length
 sgn:∀ x ∈ ch,∀ y ∈ x,sgn d y = true
theorem ZcQ {c d r:Int} {tags:List ByteArray} {ch:List (List Int)}:chk c d r tags ch = 0 ↔ Fine c d r tags ch:=by
 unfold chk
 constructor
 ·intro h
  cases h1:QB c d r with
  | false => rw [h1] at h; cases h
  | true =>
   rw [h1] at h
   simp only [cond_true] at h
   by_cases h2:8 < tags.length
   ·rw [Zp h2] at h; cases h
   rw [ZE h2] at h
   by_cases h3:UJ ch.length = c
   ·rw [ZE (fun e => e h3)] at h
    cases h4:tags.all YA with
    | false => rw [h4] at h; cases h
    | true =>
     rw [h4] at h
     simp only [cond_true] at h
     cases h5:ch.all (ZcU ch) with
     | false => rw [h5] at h; cases h
     | true =>
      rw [h5] at h
      simp only [cond_true] at h
      cases h6:ch.all (fun x => x.all (Go.Sh.sgn d)) with
      | false => rw [h6] at h; cases h
      | true => exact ⟨h1,by omega,fun t ht => Vg.1 h4 t ht,h3,fun x hx => of_decide_eq_true (Vg.1 h5 x hx),fun x hx y hy => Vg.1 (Vg.1 h6 x hx) y hy⟩
   ·rw [Zp h3] at h; cases h
 ·intro h
  have h8:=h.tl
  rw [h.shape]
  simp only [cond_true]
  rw [ZE (by omega),ZE (fun e => e h.cl),Vg.2 h.tag,Vg.2 (show ∀ x ∈ ch,ZcU ch x = true from fun x hx => decide_eq_true (h.even x hx)),Vg.2 (show ∀ x ∈ ch,(fun x => x.all (Go.Sh.sgn d)) x = true from fun x hx => Vg.2 (h.sgn x hx))]
  rfl
section
variable {c d r:Int} {tags:List ByteArray} {ch:List (List Int)} (hF:Fine c d r tags ch)
include hF
theorem Fine.c2:1 ≤ c ∧ c ≤ 2:=by have:=of_decide_eq_true hF.shape; exact ⟨this.1,this.2.1⟩
theorem Fine.d24:4 ≤ d ∧ d ≤ 24:=by have:=of_decide_eq_true hF.shape; exact ⟨this.2.2.1,this.2.2.2.1⟩
theorem Fine.tagsz:∀ t ∈ tags,3 ≤ t.size ∧ t.size ≤ 12:=fun t ht => by
 have h:=hF.tag t ht
 unfold YA at h
 rw [Jh,Jh] at h
 exact ⟨Ju h.1,Ju h.2.1⟩
theorem Fine.cl2:1 ≤ ch.length ∧ ch.length ≤ 2:=by
 have h1:=hF.c2
 have h2:=hF.cl
 simp only [UZ] at h2
 omega
end
theorem ZbW:∀ (tags:List ByteArray),(∀ t ∈ tags,t.size ≤ 12) → (Zz tags).length ≤ 13 * tags.length
 | [],_ => by simp [Zz]
 | t :: l,h => by
  have h1:=h t (by simp)
  have h2:=ZbW l (fun t ht => h t (by simp [ht]))
  have h3:(Zz (t :: l)).length = 1 + t.size + (Zz l).length:=by
   have:Zz (t :: l) = Y9 t ++ Zz l:=rfl
   rw [this,JQ]
   simp [Y9,Qp]; omega
  rw [h3,JG]
  omega
theorem Zkl {d x:Int} (hd:4 ≤ d ∧ d ≤ 24) (h:sgn d x = true) : -16777216 ≤ x ∧ x ≤ 16777216:=by
 have h1:=of_decide_eq_true h
 have h2:=Zjx (n:=(d - 1).toNat) (by omega)
 omega
theorem Zjq {d:Int} (hd:4 ≤ d ∧ d ≤ 24):1 ≤ (2:Int) ^ sft d ∧ (2:Int) ^ sft d ≤ 128:=by
 have hw:=K0 hd
 have:sft d ≤ 7:=by unfold sft; omega
 have h1:1 ≤ 2 ^ sft d:=Ht
 have h2:2 ^ sft d ≤ 2 ^ 7:=Hg (by omega) this
 have e:((2 ^ sft d:Nat):Int) = (2:Int) ^ sft d:=by simp
 rw [← e]
 omega
theorem Zjr {d:Int} (hd:4 ≤ d ∧ d ≤ 24):0 ≤ Jy.wrap (Jy.wrap ((8:Int) * Zq d) - d) ∧ min (Jy.wrap (Jy.wrap ((8:Int) * Zq d) - d)).toNat 64 = sft d:=by
 have hw:=K0 hd
 rw [YZ (n:=8 * Zq d) (by omega),YZ (by omega)]
 unfold sft
 omega
theorem Zj6 {x p:Int} (hx : -16777216 ≤ x ∧ x ≤ 16777216) (hp:1 ≤ p ∧ p ≤ 128) : -2147483648 ≤ x * p ∧ x * p ≤ 2147483648:=by
 have h1:x * p ≤ 16777216 * p:=Hl hx.2 (by omega)
 have h2 : -16777216 * p ≤ x * p:=Hl hx.1 (by omega)
 omega
theorem ZmJ {d x:Int} (hd:4 ≤ d ∧ d ≤ 24) (h:sgn d x = true) :
  (bif Zq d == 1 then Jy.wrap (Jy.wrap (x * (2:Int) ^ sft d) + 128) else Jy.wrap (x * (2:Int) ^ sft d)) = Zg9 d x:=by
 have hp:=Zjq hd
 have hb:=Zj6 (Zkl hd h) hp
 unfold Zg9
 rw [YZ (n:=x * 2 ^ sft d) (by omega),YZ (by omega)]
theorem Wm {d:Int} (hd:4 ≤ d ∧ d ≤ 24):Zq d = UJ (Zj d) ∧ 1 ≤ Zj d ∧ Zj d ≤ 3:=by
 have hw:=K0 hd
 unfold Zj
 simp only [UZ]
 omega
theorem Fine.z {c d r:Int} {tags:List ByteArray} {ch:List (List Int)} (hF:Fine c d r tags ch):(ch.getD 0 []).length ≤ 4096:=by
 have hcl:=hF.cl2
 cases hch:ch with
 | nil => rw [hch] at hcl; simp at hcl
 | cons x l => exact (hF.even x (by rw [hch]; simp)).1
theorem Yv (d:Int) (ch:List (List Int)) (j:Nat):(K4 d ch j).length = ch.length * Zj d:=by
 unfold K4
 induction ch with
 | nil => simp
 | cons x l ih => rw [Hp,JQ,ih,ZH,JG,Nat.add_mul]; omega
section ref
variable {k:Nat} (hk:16777216 ≤ k) {c d r:Int} {tags:List ByteArray} {ch:List (List Int)} (hF:Fine c d r tags ch)
include hk hF
end ref
theorem Zev (d:Int) (ch:List (List Int)) (n:Nat):(Wg d ch n).length = n * (ch.length * Zj d):=by
 unfold Wg
 have:∀ l:List Nat,(l.flatMap (K4 d ch)).length = l.length * (ch.length * Zj d):=by
  intro l
  induction l with
  | nil => simp
  | cons x l ih => rw [Hp,JQ,ih,Yv,JG,Nat.add_mul]; omega
 rw [this,U2]
def Wb (c d r:Int) (tags:List ByteArray) (ch:List (List Int)):List Int:=XU c d r tags (Wg d ch (ch.getD 0 []).length)
theorem Fine.small {c d r:Int} {tags:List ByteArray} {ch:List (List Int)} (hF:Fine c d r tags ch):tags.length ≤ 1048576 ∧ (Zz tags).length ≤ 104 ∧ (Wg d ch (ch.getD 0 []).length).length ≤ 24576:=by
 have h1:=hF.tl
 have h2:=ZbW tags (fun t ht => (hF.tagsz t ht).2)
 have hw:=Wm hF.d24
 have hz:=hF.z
 have hcl:=hF.cl2
 have h3:(ch.getD 0 []).length * (ch.length * Zj d) ≤ 4096 * (2 * 3):=J5 hz (J5 hcl.2 hw.2.2)
 rw [Zev]
 omega
section prog
variable {k:Nat} (hk:16777216 ≤ k) {c d r:Int} {tags:List ByteArray} {ch:List (List Int)} (hF:Fine c d r tags ch)
include hk hF
theorem Zpl (L1:Int × Int × Int × Int × Int × Int × List ByteArray × List (List Int) × Int × Int × Int × List ByteArray × List Int → Option ((List Int × Int × Unit) × Unit)) (j:Nat) (hj:j < (ch.getD 0 []).length) (b:List Int) (hb:b.length ≤ 16 * j) (n:Int) :
  ZcX k L1 (UJ ch.length,0,ch,UJ j,Zq d,UJ j,n,c,d,r,tags,ch,c,d,r,tags,b) = L1 (n,UJ (j + 1),Zq d,c,d,r,tags,ch,c,d,r,tags,b ++ K4 d ch j):=by
 have hcl:=hF.cl2
 have hd:=hF.d24
 have hw:=Wm hd
 have hz:=hF.z
 have key:=Wi (step:=fun L2 => Kk k L1 L2) (A:=List Int) (fun i a => (UJ ch.length,UJ i,ch,UJ j,Zq d,UJ j,n,c,d,r,tags,ch,c,d,r,tags,a)) ch (fun l a => L1 (n,UJ (j + 1),Zq d,c,d,r,tags,ch,c,d,r,tags,a ++ K4 d l j)) (fun i a => a.length ≤ 16 * j + 4 * i)
  (fun L a ha => by
   simp only [Kk]
   rw [ZE (Zbb _),X3 hj (by omega)]
   simp [K4])
  (fun L i hi a ha hL => by
   simp only [Kk]
   have hj':j < ch[i].length:=by rw [(hF.even ch[i] (U4 _)).2]; exact hj
   have hs:=hF.sgn ch[i] (U4 _) ch[i][j] (U4 _)
   have hr:=Zjr hd
   rw [Zp (ltR hi),Zp (inR hi),Xf hi,Zp (inR hj'),Xf hj',Zp hr.1,hr.2]
   have hsr:=ZmJ hd hs
   have step:∀ z:Int,((XT k (a,z,Zq d,())).bind fun y => L (UJ ch.length,Jy.wrap (UJ i + (1:Int)),ch,UJ j,Zq d,UJ j,n,c,d,r,tags,ch,c,d,r,tags,y.1))
     = L (UJ ch.length,UJ (i + 1),ch,UJ j,Zq d,UJ j,n,c,d,r,tags,ch,c,d,r,tags,a ++ low z (Zj d)):=by
    intro z
    have h31:=Wh hk a z (Zj d) (by omega) (by omega)
    rw [← hw.1] at h31
    rw [h31,VL,X3 hi (by omega)]
   rw [step,step]
   have hfin:(bif Zq d == 1 then L (UJ ch.length,UJ (i + 1),ch,UJ j,Zq d,UJ j,n,c,d,r,tags,ch,c,d,r,tags,a ++ low (Jy.wrap (Jy.wrap (ch[i][j] * 2 ^ sft d) + 128)) (Zj d)) else L (UJ ch.length,UJ (i + 1),ch,UJ j,Zq d,UJ j,n,c,d,r,tags,ch,c,d,r,tags,a ++ low (Jy.wrap (ch[i][j] * 2 ^ sft d)) (Zj d)))
     = L (UJ ch.length,UJ (i + 1),ch,UJ j,Zq d,UJ j,n,c,d,r,tags,ch,c,d,r,tags,a ++ low (Zg9 d ch[i][j]) (Zj d)):=by
    rw [← hsr]
    cases (Zq d == 1) <;> rfl
   rw [hfin,hL _ (by rw [JQ,ZH]; omega)]
   have hr2:K4 d (ch[i] :: ch.drop (i + 1)) j = low (Zg9 d (ch[i].getD j 0)) (Zj d) ++ K4 d (ch.drop (i + 1)) j:=rfl
   rw [hr2,Jv,YK hj']) k 0 b (by omega) (by omega) (by omega)
 rw [U1] at key
 exact key
end prog
theorem ZcY {k:Nat} (hk:16777216 ≤ k) {c d r:Int} {tags:List ByteArray} {ch:List (List Int)} (hS:Small tags ch):ZeA k (((c,d,r,()),tags,ch,()),()) =
  some ((bif decide (chk c d r tags ch = 0) then (Wb c d r tags ch,0,()) else ([],chk c d r tags ch,())),()):=by
 show ZaL k (Zfi k) (((c,d,r,()),tags,ch,()),()) = _
 simp only [ZaL]
 rw [Zln hk hS,VL,ZV]
 by_cases h:chk c d r tags ch = 0
 ·have hF:=ZcQ.1 h
  have hs:=hF.small
  have hd:=hF.d24
  have hcl:=hF.cl2
  have hw:=Wm hd
  have hz:=hF.z
  rw [ZE (fun e => e h),Zp h,Zc5 k hd,VL,Zp (by simp only [UZ]; omega)]
  simp only
  have key:=Wi (step:=fun L1 => Kj k (ZcX k L1) L1) (A:=List Int) (fun j a => (UJ (ch.getD 0 []).length,UJ j,Zq d,c,d,r,tags,ch,c,d,r,tags,a)) (Jc (ch.getD 0 []).length) (fun l a => some ((XU c d r tags (a ++ l.flatMap (K4 d ch)),0,()),())) (fun j a => a.length ≤ 16 * j)
   (fun L a ha => by
    simp only [U2] at ha
    simp only [Kj,U2]
    rw [ZE (Zbb _),Zc7 hk hF.shape _ _ (by omega) (by omega) (by omega)]
    simp)
   (fun L j hj a ha hL => by
    simp only [U2] at hj
    simp only [Kj]
    rw [Zp (ltR hj),Zpl hk hF L j hj a ha,hL _ (by
     rw [JQ,Yv]
     have:ch.length * Zj d ≤ 2 * 3:=J5 hcl.2 hw.2.2
     omega)]
    simp) k 0 [] (by simp) (by rw [U2]; omega) (by omega)
  rw [U1] at key
  exact key
 ·rw [Zp h,ZE h]
end Go.Sh
namespace Go.Sh
open Go Go.Proofs
def Z9:List Int → Int
 | [] => 0
 | x :: l => x + 256 * Z9 l
theorem Zcc:∀ (a b:List Int),Z9 (a ++ b) = Z9 a + (2:Int) ^ (8 * a.length) * Z9 b
 | [],b => by simp [Z9]
 | x :: a,b => by
  simp only [J2,Z9,Zcc a b,JG]
  have:(2:Int) ^ (8 * (a.length + 1)) = 256 * (2:Int) ^ (8 * a.length):=by
   rw [show 8 * (a.length + 1) = 8 * a.length + 8 by omega,U9]
   rw [U8]; rfl
  rw [this,Int.mul_add,Int.mul_assoc]
  omega
theorem XF:∀ (l:List Int),Wc l → 0 ≤ Z9 l ∧ Z9 l < (2:Int) ^ (8 * l.length)
 | [],_ => by simp [Z9]
 | x :: l,h => by
  have h1:=h x (by simp)
  have h2:=XF l (fun y hy => h y (by simp [hy]))
  have:(2:Int) ^ (8 * (l.length + 1)) = 256 * (2:Int) ^ (8 * l.length):=by
   rw [show 8 * (l.length + 1) = 8 * l.length + 8 by omega,U9]
   rw [U8]; rfl
  simp only [Z9,JG,this]
  omega
theorem ZbJ:∀ n,Z9 (Jd n 0) = 0
 | 0 => rfl
 | n + 1 => by simp [List.replicate_succ,Z9,ZbJ n]
theorem ZjT (n:Int) (j:Nat):n.fdiv ((2:Int) ^ (8 * j)) = n / (2:Int) ^ (8 * j):=Int.fdiv_eq_ediv_of_nonneg _ (Int.le_of_lt (Int.pow_pos (by omega)))
theorem Xi (n:Int) (s:Nat):low n (s + 1) = n % 256 :: low (n / 256) s:=by
 unfold low
 rw [List.range_succ_eq_map,List.map_cons,V0]
 congr 1
 ·simp [Zgr,IntKind.wrap_u8]
 ·apply Hf
  intro j _
  simp only [Function.comp,Zgr,ZjT]
  congr 1
  rw [show 8 * (j + 1) = 8 + 8 * j by omega,U9,← Int.ediv_ediv_of_nonneg (by decide)]
  rfl
theorem Qz:∀ (s:Nat) (n:Int),0 ≤ n → n < (2:Int) ^ (8 * s) → Z9 (low n s) = n
 | 0,n,h0,h1 => by simp [low,Z9] at *; omega
 | s + 1,n,h0,h1 => by
  rw [Xi]
  have:(2:Int) ^ (8 * (s + 1)) = 256 * (2:Int) ^ (8 * s):=by
   rw [show 8 * (s + 1) = 8 * s + 8 by omega,U9]
   rw [U8]; rfl
  rw [this] at h1
  simp only [Z9]
  rw [Qz s (n / 256) (by omega) (by omega)]
  omega
theorem ZgY:∀ (l:List Int),Wc l → low (Z9 l) l.length = l
 | [],_ => by simp [low]
 | x :: l,h => by
  have h1:=h x (by simp)
  rw [JG,Xi]
  simp only [Z9]
  have e1:(x + 256 * Z9 l) % 256 = x:=by omega
  have e2:(x + 256 * Z9 l) / 256 = Z9 l:=by omega
  rw [e1,e2,ZgY l (fun y hy => h y (by simp [hy]))]
theorem Za8 {n m:Int} {s:Nat} (hn:0 ≤ n ∧ n < (2:Int) ^ (8 * s)) (hm:0 ≤ m ∧ m < (2:Int) ^ (8 * s)) (h:low n s = low m s):n = m:=by
 rw [← Qz s n hn.1 hn.2,h,Qz s m hm.1 hm.2]
theorem ZpW {v b:Int} {j:Nat} (hj:j ≤ 3) (hv:0 ≤ v ∧ v < (2:Int) ^ (8 * j)) (hb:0 ≤ b ∧ b < 256) :
  Jy.wrap (UJ (BitVec.ofInt 64 v ||| BitVec.ofInt 64 (Jy.wrap (Jy.wrap b * (2:Int) ^ (8 * j)))).toNat) = v + (2:Int) ^ (8 * j) * b:=by
 obtain ⟨vn,rfl⟩:∃ vn:Nat,v = (vn:Int):=⟨v.toNat,by omega⟩
 obtain ⟨bn,rfl⟩:∃ bn:Nat,b = (bn:Int):=⟨b.toNat,by omega⟩
 have hp:(2:Int) ^ (8 * j) = ((2 ^ (8 * j):Nat):Int):=by simp
 rw [hp] at hv ⊢
 have hpj:2 ^ (8 * j) ≤ 2 ^ 24:=Hg (by omega) (by omega)
 have hbp:bn * 2 ^ (8 * j) ≤ 255 * 2 ^ 24:=J5 (by omega) hpj
 have e1:Jy.wrap (bn:Int) = bn:=YZ (by omega)
 have e2:Jy.wrap ((bn:Int) * ((2 ^ (8 * j):Nat):Int)) = ((bn * 2 ^ (8 * j):Nat):Int):=by
  rw [← Int.natCast_mul,YZ (by omega)]
 rw [e1,e2,Hh,Hh,BitVec.toNat_or,Hi,Hi,Hs (by omega),Hs (by omega)]
 have h:=Nat.shiftLeft_add_eq_or_of_lt (i:=8 * j) (show vn < 2 ^ (8 * j) by omega) bn
 rw [Nat.shiftLeft_eq] at h
 rw [Nat.or_comm,← h]
 rw [YZ (by simp only [UZ]; omega)]
 simp only [UZ,Int.natCast_add,Int.natCast_mul]
 rw [U8]; omega
theorem ZfK (k:Nat) (b:List Int) (bad:Bool) (n:Nat) (h:n ≤ b.length) (hb:b.length ≤ 1073741824):Ym k ((b,bad,()),UJ n,()) = some (b.take n,(b.drop n,bad,()),()):=by
 show Kp k ((b,bad,()),UJ n,()) = _
 simp only [Kp]
 rw [ZE (by simp only [UZ]; omega),ZE (by simp only [UZ]; omega),Zp (by simp only [UZ]; omega),Zp (by simp only [UZ]; omega)]
 have e1:(UJ n).toNat = n:=rfl
 have e2:(UJ b.length).toNat = b.length:=rfl
 rw [e1,e2,Hq,U1]
theorem Zct (k:Nat) (b:List Int) (bad:Bool) (n:Int) (h:(b.length:Int) < n):Ym k ((b,bad,()),n,()) = some (Jd (min n 64).toNat 0,(b,true,()),()):=by
 show Kp k ((b,bad,()),n,()) = _
 simp only [Kp]
 have e:(if (0:Int) < if (64:Int) < n then (64:Int) else n then if (64:Int) < n then (64:Int) else n else (0:Int)) = min n 64:=by
  split <;> split at * <;> omega
 rw [e,ZE (by omega),Zp (by simp only [UZ]; omega),Zp (by omega)]
theorem ZnX {k:Nat} (hk:16777216 ≤ k) (x b:List Int) (bad:Bool) (hx:x.length ≤ 4) (hB:Wc x):ZbA k (UJ x.length,0,x,0,b,bad) = some (Z9 x,(b,bad,()),()):=by
 have key:=WC (step:=fun L1 => Ko k L1) (A:=Unit) (fun i _ => (UJ x.length,UJ i,x,Z9 (x.take i),b,bad)) x (fun _ _ => some (Z9 x,(b,bad,()),()))
  (fun L a => by
   simp only [Ko]
   rw [ZE (Zbb _),Hq])
  (fun L i hi a hL => by
   simp only [Ko]
   have hw:Jy.wrap ((8:Int) * UJ i) = 8 * UJ i:=YZ (by simp only [UZ]; omega)
   have hm:min ((8:Int) * UJ i).toNat 64 = 8 * i:=by simp only [UZ]; omega
   rw [Zp (ltR hi),Zp (inR hi),Xf hi,hw,hm,Zp (by simp only [UZ]; omega),X3 hi (by omega)]
   have hb:=XF (x.take i) (We hB i)
   rw [JA,U7 (by omega)] at hb
   rw [ZpW (by omega) hb (hB _ (U4 _))]
   have:Z9 (x.take (i + 1)) = Z9 (x.take i) + (2:Int) ^ (8 * i) * x[i]:=by
    rw [List.take_succ_eq_append_getElem hi,Zcc,JA,U7 (by omega)]
    simp [Z9]
   rw [← this]
   exact hL ()) k 0 () (by omega) (by omega)
 rw [List.take_zero] at key
 exact key
theorem ZfA {k:Nat} (hk:16777216 ≤ k) (b:List Int) (bad:Bool) (n:Nat) (h:n ≤ b.length) (h4:n ≤ 4) (hb:b.length ≤ 1073741824) (hB:Wc b):Xh k ((b,bad,()),UJ n,()) = some (Z9 (b.take n),(b.drop n,bad,()),()):=by
 show Yj k (ZbA k) ((b,bad,()),UJ n,()) = _
 simp only [Yj]
 rw [ZfK k b bad n h hb,VL]
 exact ZnX hk (b.take n) (b.drop n) bad (by rw [JA]; omega) (We hB n)
theorem Zfz {k:Nat} (hk:16777216 ≤ k) (b:List Int) (bad:Bool) (n:Nat) (h:b.length < n) (h4:n ≤ 4):Xh k ((b,bad,()),UJ n,()) = some (0,(b,true,()),()):=by
 show Yj k (ZbA k) ((b,bad,()),UJ n,()) = _
 simp only [Yj]
 rw [Zct k b bad _ (by simp only [UZ]; omega),VL]
 have:=ZnX hk (Jd (min (UJ n) 64).toNat 0) b true (by rw [Us]; simp only [UZ]; omega) (by
  intro x hx
  rw [Hc] at hx
  omega)
 rw [ZbJ] at this
 exact this
theorem ZiU (k:Nat) (b:List Int) (m:ByteArray):Y2 k ((b,true,()),m,()) = some ((),(b,true,()),()):=rfl
theorem ZoF (k:Nat) (b m:List Int) (hm:m.length = 4) (hmB:Wc m) (h0:m ≠ Jd 4 0) (hb:b.length ≤ 1073741824) (hB:Wc b) :
  (b.take 4 = m ∧ Y2 k ((b,false,()),bytesOf m,()) = some ((),(b.drop 4,false,()),())) ∨ (b.take 4 ≠ m ∧ ∃ b',Y2 k ((b,false,()),bytesOf m,()) = some ((),(b',true,()),()) ∧ Wc b' ∧ b'.length ≤ b.length):=by
 have hf:Y2 k ((b,false,()),bytesOf m,()) = (Ym k ((b,false,()),UJ 4,())).bind fun y => some ((),(y.2.1.1,!(bytesOf y.1).toList == (bytesOf m).toList,()),()):=by
  show Zdi k ((b,false,()),bytesOf m,()) = _
  simp only [Zdi,QG,hm,cond_false]
  rfl
 rw [hf]
 by_cases h:4 ≤ b.length
 ·rw [ZfK k b false 4 h hb,VL]
  simp only
  rw [ZcM]
  by_cases he:b.take 4 = m
  ·left
   refine ⟨he,?_⟩
   rw [decide_eq_true (by rw [he])]; rfl
  ·right
   refine ⟨he,b.drop 4,?_,Wd hB 4,by simp⟩
   rw [decide_eq_false (fun e => he (XQ (We hB 4) hmB e))]; rfl
 ·right
  refine ⟨fun e => ?_,b,?_,hB,Jj _⟩
  ·have:=congrArg UL e
   rw [JA,hm] at this
   omega
  ·rw [Zct k b false _ (by simp only [UZ]; omega),VL]
   simp only
   rw [ZcM,decide_eq_false]
   ·rfl
   ·intro e
    exact h0 (XQ hmB (by intro x hx; rw [Hc] at hx; omega) (e ▸ rfl))
theorem ZfI (k:Nat) (b:List Int) (n s:Int):Yl k ((b,true,()),n,s,()) = some ((),(b,true,()),()):=rfl
theorem ZoH {k:Nat} (hk:16777216 ≤ k) (b:List Int) (n:Int) (s:Nat) (hs:s ≤ 4) (hn:s ≤ b.length ∨ n ≠ 0) (hb:b.length ≤ 1073741824) (hB:Wc b) :
  (s ≤ b.length ∧ Z9 (b.take s) = n ∧ Yl k ((b,false,()),n,UJ s,()) = some ((),(b.drop s,false,()),())) ∨
  (¬ (s ≤ b.length ∧ Z9 (b.take s) = n) ∧ ∃ b',Yl k ((b,false,()),n,UJ s,()) = some ((),(b',true,()),()) ∧ Wc b' ∧ b'.length ≤ b.length):=by
 have hf:Yl k ((b,false,()),n,UJ s,()) = (Xh k ((b,false,()),UJ s,())).bind fun y => some ((),(y.2.1.1,y.1 != n,()),()):=rfl
 rw [hf]
 by_cases h:s ≤ b.length
 ·rw [ZfA hk b false s h hs hb hB,VL]
  simp only
  rw [ZV]
  by_cases he:Z9 (b.take s) = n
  ·left
   refine ⟨h,he,?_⟩
   rw [decide_eq_false (fun e => e he)]
  ·right
   refine ⟨fun e => he e.2,b.drop s,?_,Wd hB s,by simp⟩
   rw [decide_eq_true he]
 ·right
  refine ⟨fun e => h e.1,b,?_,hB,Jj _⟩
  rw [Zfz hk b false s (by omega) hs,VL]
  simp only
  rw [ZV,decide_eq_true]
  intro e
  rcases hn with hn | hn
  ·exact h hn
  ·exact hn e.symm
end Go.Sh
namespace Go.Sh
open Go Go.Proofs
theorem Zb4 {k:Nat} (hk:16777216 ≤ k) (b:List Int) (bad:Bool) (n:Nat) (h4:n ≤ 4) (hb:b.length ≤ 1073741824) (hB:Wc b) :
  ∃ v b' bad',Xh k ((b,bad,()),UJ n,()) = some (v,(b',bad',()),()) ∧ Wc b' ∧ b'.length ≤ b.length ∧ 0 ≤ v ∧
   (bad' = false → bad = false ∧ n ≤ b.length ∧ v = Z9 (b.take n) ∧ b' = b.drop n) ∧ (bad = false → n ≤ b.length → bad' = false):=by
 by_cases h:b.length < n
 ·exact ⟨_,_,_,Zfz hk b bad n h h4,hB,Jj _,Int.le_refl _,by simp,fun _ _ => by omega⟩
 ·exact ⟨_,_,_,ZfA hk b bad n (by omega) h4 hb hB,Wd hB n,by simp,(XF _ (We hB n)).1,fun e => ⟨e,by omega,rfl,rfl⟩,fun e _ => e⟩
theorem ZgK (k:Nat) (b m:List Int) (bad:Bool) (hm:m.length = 4) (hmB:Wc m) (h0:m ≠ Jd 4 0) (hb:b.length ≤ 1073741824) (hB:Wc b) :
  ∃ b' bad',Y2 k ((b,bad,()),bytesOf m,()) = some ((),(b',bad',()),()) ∧ Wc b' ∧ b'.length ≤ b.length ∧ (bad' = false → bad = false ∧ b.take 4 = m ∧ b' = b.drop 4) ∧ (bad = false → b.take 4 = m → bad' = false):=by
 cases bad with
 | true => exact ⟨_,_,ZiU k b _,hB,Jj _,by simp,by simp⟩
 | false =>
  rcases ZoF k b m hm hmB h0 hb hB with ⟨h1,h2⟩ | ⟨h1,b',h2,h3,h4⟩
  ·exact ⟨_,_,h2,Wd hB 4,by simp,fun _ => ⟨rfl,h1,rfl⟩,fun _ _ => rfl⟩
  ·exact ⟨_,_,h2,h3,h4,by simp,fun _ e => absurd e h1⟩
theorem ZiV {k:Nat} (hk:16777216 ≤ k) (b:List Int) (bad:Bool) (n:Int) (s:Nat) (hs:s ≤ 4) (hn:s ≤ b.length ∨ n ≠ 0) (hb:b.length ≤ 1073741824) (hB:Wc b) :
  ∃ b' bad',Yl k ((b,bad,()),n,UJ s,()) = some ((),(b',bad',()),()) ∧ Wc b' ∧ b'.length ≤ b.length ∧ (bad' = false → bad = false ∧ s ≤ b.length ∧ Z9 (b.take s) = n ∧ b' = b.drop s) ∧ (bad = false → s ≤ b.length → Z9 (b.take s) = n → bad' = false):=by
 cases bad with
 | true => exact ⟨_,_,ZfI k b _ _,hB,Jj _,by simp,by simp⟩
 | false =>
  rcases ZoH hk b n s hs hn hb hB with ⟨h1,h2,h3⟩ | ⟨h1,b',h2,h3,h4⟩
  ·exact ⟨_,_,h3,Wd hB s,by simp,fun _ => ⟨rfl,h1,h2,rfl⟩,fun _ _ _ => rfl⟩
  ·exact ⟨_,_,h2,h3,h4,by simp,fun _ e e' => absurd ⟨e,e'⟩ h1⟩
theorem Zl1 (k:Nat) (b:List Int) (bad:Bool) (n:Int) (hn:0 ≤ n) (hb:b.length ≤ 1073741824) (hB:Wc b) :
  ∃ x b' bad',Ym k ((b,bad,()),n,()) = some (x,(b',bad',()),()) ∧ Wc x ∧ Wc b' ∧ b'.length ≤ b.length ∧ (x.length ≤ b.length + 64) ∧
   (bad' = false → bad = false ∧ n ≤ b.length ∧ x = b.take n.toNat ∧ b' = b.drop n.toNat) ∧ (bad = false → n ≤ b.length → bad' = false):=by
 by_cases h:(b.length:Int) < n
 ·refine ⟨_,_,_,Zct k b bad n h,?_,hB,Jj _,?_,by simp,fun _ _ => by omega⟩
  ·intro x hx
   rw [Hc] at hx
   omega
  ·rw [Us]; omega
 ·obtain ⟨m,rfl⟩:∃ m:Nat,n = UJ m:=⟨n.toNat,by simp only [UZ]; omega⟩
  simp only [UZ] at h
  exact ⟨_,_,_,ZfK k b bad m (by omega) hb,We hB _,Wd hB _,by simp,by rw [JA]; omega,fun e => ⟨e,by simp only [UZ]; omega,rfl,rfl⟩,fun e _ => e⟩
theorem Q2 {b:List Int} {n:Int} {s:Nat} (hB:Wc b) (hl:s ≤ b.length) (h:Z9 (b.take s) = n):b.take s = low n s:=by
 have:=ZgY (b.take s) (We hB s)
 rw [JA,U7 hl,h] at this
 exact this.symm
theorem ZmP (b:List Int) (m n:Nat):b.take (m + n) = b.take m ++ (b.drop m).take n:=List.take_add
theorem Wv {b A B:List Int} {m n:Nat} (hA:A.length = m):b.take (m + n) = A ++ B ↔ b.take m = A ∧ (b.drop m).take n = B:=by
 constructor
 ·intro h
  have h1:=congrArg (UQ m) h
  have h2:=congrArg (UP m) h
  rw [List.take_take,U7 (by omega)] at h1
  rw [List.drop_take,Nat.add_sub_cancel_left] at h2
  subst hA
  rw [Vk] at h1
  rw [JN] at h2
  exact ⟨h1,h2⟩
 ·rintro ⟨h1,h2⟩
  rw [ZmP,h1,h2]
theorem YJ {b:List Int} {c d r:Int}:b.take 24 = ZO QH (Qd c d r) ↔
  b.take 4 = QH ∧ (b.drop 4).take 4 = low 16 4 ∧ (b.drop 8).take 2 = low 1 2 ∧ (b.drop 10).take 2 = low c 2 ∧ (b.drop 12).take 4 = low r 4 ∧ (b.drop 16).take 4 = low (r * (c * Zq d)) 4 ∧ (b.drop 20).take 2 = low (c * Zq d) 2 ∧ (b.drop 22).take 2 = low d 2:=by
 have hp:ZO QH (Qd c d r) = QH ++ (low 16 4 ++ (low 1 2 ++ (low c 2 ++ (low r 4 ++ (low (r * (c * Zq d)) 4 ++ (low (c * Zq d) 2 ++ low d 2)))))):=by
  unfold ZO Y8
  rw [WB]
  simp [Qd]
 rw [hp]
 refine (Wv (m:=4) (n:=20) rfl).trans (and_congr_right fun _ => ?_)
 refine (Wv (m:=4) (n:=16) (ZH _ _)).trans (and_congr_right fun _ => ?_)
 rw [JF]
 refine (Wv (m:=2) (n:=14) (ZH _ _)).trans (and_congr_right fun _ => ?_)
 rw [JF]
 refine (Wv (m:=2) (n:=12) (ZH _ _)).trans (and_congr_right fun _ => ?_)
 rw [JF]
 refine (Wv (m:=4) (n:=8) (ZH _ _)).trans (and_congr_right fun _ => ?_)
 rw [JF]
 refine (Wv (m:=4) (n:=4) (ZH _ _)).trans (and_congr_right fun _ => ?_)
 rw [JF]
 refine (Wv (m:=2) (n:=2) (ZH _ _)).trans (and_congr_right fun _ => ?_)
 rw [JF]
theorem ZhT {b:List Int} {c d r:Int} (h:b.take 24 = ZO QH (Qd c d r)):24 ≤ b.length:=by
 have:=congrArg UL h
 rw [JA,QP,WB] at this
 have e:QH.length = 4:=rfl
 omega
theorem ZpF {k:Nat} (hk:16777216 ≤ k) (b:List Int) (bad:Bool) (hb:b.length ≤ 1073741824) (hB:Wc b) :
  ∃ c d r b' bad',ZiW k ((b,bad,()),()) = some ((c,d,r,()),(b',bad',()),()) ∧ Wc b' ∧ b'.length ≤ b.length ∧
   (bad' = false → bad = false ∧ QB c d r = true ∧ b.take 24 = ZO QH (Qd c d r) ∧ b' = b.drop 24) ∧ (bad = false → ∀ c0 d0 r0,QB c0 d0 r0 = true → b.take 24 = ZO QH (Qd c0 d0 r0) → bad' = false):=by
 have hf:ZiW k ((b,bad,()),()) = Zdj k ((b,bad,()),()):=rfl
 rw [hf]
 simp only [Zdj]
 have o1:(OfNat.ofNat (1:Nat):Int) = 1:=rfl
 have o2:(OfNat.ofNat (2:Nat):Int) = UJ 2:=rfl
 have o4:(OfNat.ofNat (4:Nat):Int) = UJ 4:=rfl
 have o16:(OfNat.ofNat (16:Nat):Int) = 16:=rfl
 have e0:(UK #[OfNat.ofNat (102:Nat),OfNat.ofNat (109:Nat),OfNat.ofNat (116:Nat),OfNat.ofNat (32:Nat)]) = bytesOf QH:=rfl
 rw [e0,o2,o4,o1,o16]
 obtain ⟨b1,d1,h1,B1,l1,t1,u1⟩:=ZgK k b QH bad rfl (by intro x hx; simp [QH] at hx; omega) (by decide) hb hB
 rw [h1,VL]
 simp only
 obtain ⟨b2,d2,h2,B2,l2,t2,u2⟩:=ZiV hk b1 d1 16 4 (by omega) (.inr (by omega)) (by omega) B1
 rw [h2,VL]
 simp only
 obtain ⟨b3,d3,h3,B3,l3,t3,u3⟩:=ZiV hk b2 d2 1 2 (by omega) (.inr (by omega)) (by omega) B2
 rw [h3,VL]
 simp only
 obtain ⟨c,b4,d4,h4,B4,l4,n4,t4,u4⟩:=Zb4 hk b3 d3 2 (by omega) (by omega) B3
 rw [h4,VL]
 simp only
 obtain ⟨r,b5,d5,h5,B5,l5,n5,t5,u5⟩:=Zb4 hk b4 d4 4 (by omega) (by omega) B4
 rw [h5,VL]
 simp only
 obtain ⟨v1,b6,d6,h6,B6,l6,n6,t6,u6⟩:=Zb4 hk b5 d5 4 (by omega) (by omega) B5
 rw [h6,VL]
 simp only
 obtain ⟨v2,b7,d7,h7,B7,l7,n7,t7,u7⟩:=Zb4 hk b6 d6 2 (by omega) (by omega) B6
 rw [h7,VL]
 simp only
 obtain ⟨d,b8,d8,h8,B8,l8,n8,t8,u8⟩:=Zb4 hk b7 d7 2 (by omega) (by omega) B7
 rw [h8,VL]
 simp only
 -- what stands there,if all went well
 have good:d8 = false → bad = false ∧ 24 ≤ b.length ∧ b.take 4 = QH ∧ (b.drop 4).take 4 = low 16 4 ∧ (b.drop 8).take 2 = low 1 2 ∧ (b.drop 10).take 2 = low c 2 ∧ (b.drop 12).take 4 = low r 4 ∧ (b.drop 16).take 4 = low v1 4 ∧ (b.drop 20).take 2 = low v2 2 ∧ (b.drop 22).take 2 = low d 2 ∧ b8 = b.drop 24:=by
  intro e
  obtain ⟨e,q8,r8,s8⟩:=t8 e
  obtain ⟨e,q7,r7,s7⟩:=t7 e
  obtain ⟨e,q6,r6,s6⟩:=t6 e
  obtain ⟨e,q5,r5,s5⟩:=t5 e
  obtain ⟨e,q4,r4,s4⟩:=t4 e
  obtain ⟨e,q3,r3,s3⟩:=t3 e
  obtain ⟨e,q2,r2,s2⟩:=t2 e
  obtain ⟨e,r1,s1⟩:=t1 e
  subst s1 s2 s3 s4 s5 s6 s7
  have r1':4 ≤ b.length:=by
   have:=congrArg UL r1
   rw [JA] at this
   have e:QH.length = 4:=rfl
   omega
  have g2:=Q2 (Wd hB 4) q2 r2
  have g3:=Q2 B2 q3 r3
  have g4:=Q2 B3 q4 r4.symm
  have g5:=Q2 B4 q5 r5.symm
  have g6:=Q2 B5 q6 r6.symm
  have g7:=Q2 B6 q7 r7.symm
  have g8:=Q2 B7 q8 r8.symm
  simp only [JF,Vj] at *
  exact ⟨e,by omega,r1,g2,g3,g4,g5,g6,g7,g8,s8⟩
 -- and the other way
 have back:bad = false → ∀ c0 d0 r0,QB c0 d0 r0 = true → b.take 24 = ZO QH (Qd c0 d0 r0) → d8 = false ∧ c = c0 ∧ d = d0 ∧ r = r0 ∧ v1 = r0 * (c0 * Zq d0) ∧ v2 = c0 * Zq d0:=by
  intro e c0 d0 r0 hs ht
  have hlen:=ZhT ht
  obtain ⟨p1,p2,p3,p4,p5,p6,p7,p8⟩:=YJ.1 ht
  have hs':=of_decide_eq_true hs
  have hc:1 ≤ c0 ∧ c0 ≤ 2:=⟨hs'.1,hs'.2.1⟩
  have hd:4 ≤ d0 ∧ d0 ≤ 24:=⟨hs'.2.2.1,hs'.2.2.2.1⟩
  have hbl:=Ke hc hd
  have hr:1 ≤ r0 * (c0 * Zq d0) ∧ r0 * (c0 * Zq d0) ≤ 655350 * 6:=by
   constructor
   ·have:=U3 (a:=1) (b:=1) (c:=r0) (d:=c0 * Zq d0) hs'.2.2.2.2.1 hbl.1 (by omega) (by omega)
    omega
   ·exact U3 hs'.2.2.2.2.2 hbl.2 (by omega) (by omega)
  have w4:(2:Int) ^ (8 * 4) = 4294967296:=rfl
  have w2:(2:Int) ^ (8 * 2) = 65536:=rfl
  have e1:=u1 e p1
  obtain ⟨_,_,s1⟩:=t1 e1
  subst s1
  have e2:=u2 e1 (by rw [Vj]; omega) (by rw [p2,Qz 4 16 (by omega) (by omega)])
  obtain ⟨_,_,_,s2⟩:=t2 e2
  subst s2
  simp only [JF] at *
  have e3:=u3 e2 (by rw [Vj]; omega) (by rw [p3,Qz 2 1 (by omega) (by omega)])
  obtain ⟨_,_,_,s3⟩:=t3 e3
  subst s3
  simp only [JF] at *
  have e4:=u4 e3 (by rw [Vj]; omega)
  obtain ⟨_,_,v4,s4⟩:=t4 e4
  subst s4
  simp only [JF] at *
  have e5:=u5 e4 (by rw [Vj]; omega)
  obtain ⟨_,_,v5,s5⟩:=t5 e5
  subst s5
  simp only [JF] at *
  have e6:=u6 e5 (by rw [Vj]; omega)
  obtain ⟨_,_,v6,s6⟩:=t6 e6
  subst s6
  simp only [JF] at *
  have e7:=u7 e6 (by rw [Vj]; omega)
  obtain ⟨_,_,v7,s7⟩:=t7 e7
  subst s7
  simp only [JF] at *
  have e8:=u8 e7 (by rw [Vj]; omega)
  obtain ⟨_,_,v8,s8⟩:=t8 e8
  rw [p4,Qz 2 c0 (by omega) (by omega)] at v4
  rw [p5,Qz 4 r0 (by omega) (by omega)] at v5
  rw [p6,Qz 4 _ (by omega) (by omega)] at v6
  rw [p7,Qz 2 _ (by omega) (by omega)] at v7
  rw [p8,Qz 2 _ (by omega) (by omega)] at v8
  exact ⟨e8,v4,v8,v5,v6,v7⟩
 cases d8 with
 | true =>
  simp only [cond_true]
  exact ⟨_,_,_,_,_,rfl,B8,by omega,by simp,fun e c0 d0 r0 hs ht => absurd (back e c0 d0 r0 hs ht).1 (by simp)⟩
 | false =>
  simp only [cond_false]
  obtain ⟨g0,g1,p1,p2,p3,p4,p5,p6,p7,p8,gb⟩:=good rfl
  rw [ZgH,VL]
  simp only
  rw [ZV]
  cases hs:QB c d r with
  | false =>
   rw [Zp (by simp)]
   refine ⟨_,_,_,_,_,rfl,B8,by omega,by simp,fun e c0 d0 r0 hs0 ht => ?_⟩
   obtain ⟨_,rfl,rfl,rfl,_,_⟩:=back e c0 d0 r0 hs0 ht
   rw [hs] at hs0; cases hs0
  | true =>
   rw [ZE (by simp)]
   have hs':=of_decide_eq_true hs
   have hc:1 ≤ c ∧ c ≤ 2:=⟨hs'.1,hs'.2.1⟩
   have hd:4 ≤ d ∧ d ≤ 24:=⟨hs'.2.2.1,hs'.2.2.2.1⟩
   have hbl:=Ke hc hd
   have hr:r * (c * Zq d) ≤ 655350 * 6:=U3 hs'.2.2.2.2.2 hbl.2 (by omega) (by omega)
   have hr0:0 ≤ r * (c * Zq d):=Int.mul_nonneg (by omega) (by omega)
   rw [Kn k hc hd,VL]
   simp only
   rw [YZ (n:=r * (c * Zq d)) (by omega),ZV]
   by_cases he:v1 = r * (c * Zq d)
   ·rw [ZE (fun h => h he),VL]
    refine ⟨_,_,_,_,_,rfl,B8,by omega,fun hbad => ?_,fun e c0 d0 r0 hs0 ht => ?_⟩
    ·rw [ZV] at hbad
     have hv2:v2 = c * Zq d:=Classical.byContradiction fun h => by rw [decide_eq_true h] at hbad; cases hbad
     subst he hv2
     exact ⟨g0,hs,YJ.2 ⟨p1,p2,p3,p4,p5,p6,p7,p8⟩,gb⟩
    ·obtain ⟨_,rfl,rfl,rfl,_,hv2⟩:=back e c0 d0 r0 hs0 ht
     rw [ZV,decide_eq_false (fun h => h hv2)]
   ·rw [Zp he]
    refine ⟨_,_,_,_,_,rfl,B8,by omega,by simp,fun e c0 d0 r0 hs0 ht => ?_⟩
    obtain ⟨_,rfl,rfl,rfl,hv1,_⟩:=back e c0 d0 r0 hs0 ht
    exact absurd hv1 he
end Go.Sh
namespace Go.Sh
open Go Go.Proofs
theorem QI (t:ByteArray) (l:List ByteArray):Zz (t :: l) = Y9 t ++ Zz l:=rfl
theorem KZ {t:ByteArray} (h:t.size < 256):Y9 t = (t.size:Int) :: Zx t:=by
 unfold Y9
 rw [wu8 (by simp only [UZ]; omega)]; rfl
theorem Xd {t:ByteArray} (h:YA t = true):3 ≤ t.size ∧ t.size ≤ 12:=by
 unfold YA at h
 rw [Jh,Jh] at h
 exact ⟨Ju h.1,Ju h.2.1⟩
theorem Znd (k:Nat) (v0:List Int) (x:List Int) (bad:Bool) (acc:List ByteArray) (v1:Bool) : 
  (bif v1 then some (acc,(v0,true,()),()) else bif UJ acc.length == (0:Int) then some (acc,(v0,true,()),()) else some (acc,(v0,decide ((8:Int) < UJ acc.length),()),())) = some (acc,(v0,!(!v1 && (!acc.isEmpty && decide (acc.length ≤ 8))),()),()):=by
 cases v1 with
 | true => rfl
 | false =>
  simp only [cond_false]
  rw [KR]
  cases acc with
  | nil => rfl
  | cons a l =>
   rw [ZE (by simp only [UZ,JG]; omega)]
   by_cases h:(a :: l).length ≤ 8
   ·rw [decide_eq_false (by simp only [UZ]; omega),decide_eq_true h]; rfl
   ·rw [decide_eq_true (by simp only [UZ]; omega),decide_eq_false h]; rfl
theorem Zn5 {k:Nat} (hk:16777216 ≤ k) (v0:List Int):∀ (m:Nat) (x:List Int) (acc:List ByteArray),x.length < m → Wc x → acc.length + x.length ≤ 1073741824 →
  ∃ tags bad',ZZ (fun L1 => WO k L1) m (v0,false,x,false,acc) = some (tags,(v0,bad',()),()) ∧
   (bad' = false → ∃ new,tags = acc ++ new ∧ x = Zz new ∧ (∀ t ∈ new,YA t = true) ∧ tags ≠ [] ∧ tags.length ≤ 8) ∧
   (∀ new,x = Zz new → (∀ t ∈ new,YA t = true) → acc ++ new ≠ [] → (acc ++ new).length ≤ 8 → bad' = false ∧ tags = acc ++ new)
 | 0,x,acc,hm,_,_ => by omega
 | m + 1,x,acc,hm,hB,hl => by
  rw [WD]
  simp only [WO]
  rw [show (!false) = true from rfl]
  simp only [cond_true]
  cases x with
  | nil =>
   rw [ZE (by simp),Znd k v0 [] false acc false]
   refine ⟨_,_,rfl,fun hbad => ⟨[],by simp,rfl,by simp,?_,?_⟩,fun new hx ht hne h8 => ?_⟩
   ·rintro rfl; simp at hbad
   ·simp only [U5,UD,Bool.not_eq_false',Jh,decide_eq_true_eq] at hbad
    exact hbad.2
   ·have:new = []:=by
     cases new with
     | nil => rfl
     | cons t l => rw [QI] at hx; simp [Y9] at hx
    subst this
    rw [List.append_nil] at hne h8 ⊢
    refine ⟨?_,rfl⟩
    rw [decide_eq_true h8]
    cases acc with
    | nil => exact absurd rfl hne
    | cons => rfl
  | cons y x =>
   have hy:=hB y (by simp)
   have hBx:Wc x:=fun z hz => hB z (by simp [hz])
   simp only [JG] at hm hl
   rw [Zp (by simp only [UZ,JG]; omega)]
   rw [show (OfNat.ofNat (1:Nat):Int) = UJ 1 from rfl,ZfA hk (y :: x) false 1 (by simp) (by omega) (by simp; omega) hB,VL]
   have hv:Z9 (UQ 1 (y :: x)) = y:=by simp [Z9]
   simp only [hv,List.drop_succ_cons,U1]
   obtain ⟨n,rfl⟩:∃ n:Nat,y = (n:Int):=⟨y.toNat,by omega⟩
   by_cases hn:n ≤ x.length
   ·rw [show ((n:Int)) = UJ n from rfl,ZfK k x false n hn (by omega),VL]
    simp only [cond_false]
    have ht:(UK (UN (fun n => UO n.toNat) (UQ n x)).toArray) = bytesOf (x.take n):=rfl
    rw [ht,ZgJ k _ (by rw [QG,JA]; omega),VL,Zp (by simp only [Ut]; omega)]
    have hsz:(bytesOf (x.take n)).size = n:=by rw [QG,JA]; omega
    have htb:Y9 (bytesOf (x.take n)) ++ x.drop n = (n:Int) :: x:=by
     rw [KZ (by omega),hsz,Xp (We hBx n),J2,U0]
    cases hV:YA (bytesOf (x.take n)) with
    | true =>
     obtain ⟨tags,bad',h1,h2,h3⟩:=Zn5 hk v0 m (x.drop n) (acc ++ [bytesOf (x.take n)]) (by rw [Vj]; omega) (Wd hBx n) (by simp; omega)
     refine ⟨tags,bad',h1,fun hbad => ?_,fun new hx htv hne h8 => ?_⟩
     ·obtain ⟨new,q1,q2,q3,q4,q5⟩:=h2 hbad
      refine ⟨bytesOf (x.take n) :: new,by rw [q1]; simp,?_,?_,q4,q5⟩
      ·rw [QI,← q2,htb]; rfl
      ·intro t ht
       rcases VN.1 ht with rfl | ht
       ·exact hV
       ·exact q3 t ht
     ·cases new with
      | nil => simp [Zz] at hx
      | cons t l =>
       have htt:=htv t (by simp)
       have hts:=Xd htt
       rw [QI,KZ (by omega),J2] at hx
       obtain ⟨hn1,hx⟩:=J1.inj hx
       have hnt:n = t.size:=by simp only [UZ] at hn1; omega
       have htl:(Zx t).length = t.size:=Qp t
       have g1:x.take n = Zx t:=by rw [hx,hnt,← htl,Vk]
       have g2:x.drop n = Zz l:=by rw [hx,hnt,← htl,JN]
       have g3:bytesOf (x.take n) = t:=by rw [g1,Wo]
       have:=h3 l g2 (fun t ht => htv t (by simp [ht])) (by simp) (by rw [g3]; simpa using h8)
       rw [g3] at this
       simpa using this
    | false =>
     obtain ⟨m',rfl⟩:∃ m',m = m' + 1:=⟨m - 1,by omega⟩
     rw [WD]
     simp only [WO]
     rw [show (!false) = true from rfl,show (!true) = false from rfl]
     simp only [cond_true,cond_false]
     refine ⟨_,_,rfl,by simp,fun new hx htv hne h8 => ?_⟩
     exfalso
     cases new with
     | nil => simp [Zz] at hx
     | cons t l =>
      have htt:=htv t (by simp)
      have hts:=Xd htt
      rw [QI,KZ (by omega),J2] at hx
      obtain ⟨hn1,hx⟩:=J1.inj hx
      have hnt:n = t.size:=by simp only [UZ] at hn1; omega
      have htl:(Zx t).length = t.size:=Qp t
      have g1:x.take n = Zx t:=by rw [hx,hnt,← htl,Vk]
      have g3:bytesOf (x.take n) = t:=by rw [g1,Wo]
      rw [g3,htt] at hV
      cases hV
   ·rw [Zct k x false (n:Int) (by omega),VL]
    simp only [cond_true]
    rw [Zp (by simp only [Ut]; omega)]
    obtain ⟨m',rfl⟩:∃ m',m = m' + 1:=⟨m - 1,by omega⟩
    rw [WD]
    simp only [WO]
    rw [show (!true) = false from rfl]
    simp only [cond_true,cond_false]
    refine ⟨_,_,rfl,by simp,fun new hx htv hne h8 => ?_⟩
    exfalso
    cases new with
    | nil => simp [Zz] at hx
    | cons t l =>
     have htt:=htv t (by simp)
     have hts:=Xd htt
     rw [QI,KZ (by omega),J2] at hx
     obtain ⟨hn1,hx⟩:=J1.inj hx
     have:=congrArg UL hx
     rw [JQ,Qp] at this
     omega
end Go.Sh
namespace Go.Sh
open Go Go.Proofs
theorem Qg {α:Type} {a b:List α} {n:Nat} (h:a.length = n):(a ++ b).take n = a:=by subst h; exact Vk
theorem WL {α:Type} {a b:List α} {n:Nat} (h:a.length = n):(a ++ b).drop n = b:=by subst h; exact JN
theorem Zmf (k:Nat) (b:List Int) (hB:Wc b):Zi3 k (b,Qe,()) = some (decide (b.take 4 = Qe),()):=by
 have hf:Zi3 k (b,Qe,()) = Zdk k (b,Qe,()):=rfl
 rw [hf]
 simp only [Zdk]
 have l4:Qe.length = 4:=rfl
 rw [l4]
 by_cases h:4 ≤ b.length
 ·rw [Zp (by simp only [UZ]; omega),Zp (by simp only [UZ]; omega)]
  show ((ZgF k (UP 0 (UQ 4 b),Qe,())).bind fun y => some (y.1,())) = _
  rw [U1]
  show some ((bytesOf (b.take 4)).toList == (bytesOf Qe).toList,()) = _
  rw [ZcM]
  congr 3
  exact propext ⟨fun e => XQ (We hB 4) (by intro x hx; simp [Qe] at hx; omega) e,fun e => by rw [e]⟩
 ·rw [ZE (by simp only [UZ]; omega),decide_eq_false]
  intro e
  have:=congrArg UL e
  rw [JA,l4] at this
  omega
def Zd4 (tags:List ByteArray):Prop:=tags.length ≤ 8 ∧ ∀ t ∈ tags,YA t = true
theorem Zd4.len {tags:List ByteArray} (h:Zd4 tags):(Zz tags).length ≤ 104:=by
 have:=ZbW tags (fun t ht => (Xd (h.2 t ht)).2)
 have:=h.1
 omega
theorem ZpH {k:Nat} (hk:16777216 ≤ k) (b:List Int) (hb:b.length ≤ 1048576) (hB:Wc b) :
  ∃ tags b' bad',ZiX k ((b,false,()),()) = some (tags,(b',bad',()),()) ∧ Wc b' ∧ b'.length ≤ b.length ∧
   (bad' = false → Zd4 tags ∧ (b' = [] ∨ b = Zo tags ++ b')) ∧
   (∀ tags0 rest,b = Zo tags0 ++ rest → (tags0 = [] → rest.take 4 = ZR) → Zd4 tags0 → bad' = false ∧ tags = tags0 ∧ b' = rest):=by
 have hf:ZiX k ((b,false,()),()) = Za2 k (Zan k) ((b,false,()),()):=rfl
 rw [hf]
 simp only [Za2]
 have l4:Qe.length = 4:=rfl
 rw [show [(116:Int),(97:Int),(103:Int),(115:Int)] = Qe from rfl,Zmf k b hB,VL,ZjM]
 have e0:(UK #[OfNat.ofNat (116:Nat),OfNat.ofNat (97:Nat),OfNat.ofNat (103:Nat),OfNat.ofNat (115:Nat)]) = bytesOf Qe:=rfl
 have o4:(OfNat.ofNat (4:Nat):Int) = UJ 4:=rfl
 have o0:(OfNat.ofNat (0:Nat):Int) = 0:=rfl
 rw [e0,o4,o0]
 have tagsne:∀ (tags0:List ByteArray) (rest:List Int),tags0 ≠ [] → b = Zo tags0 ++ rest → b.take 4 = Qe ∧ b.drop 4 = low ((Zz tags0).length:Int) 4 ++ (Zz tags0 ++ (Y8 (Zz tags0) ++ rest)):=by
  intro tags0 rest hne he
  have:b = Qe ++ (low ((Zz tags0).length:Int) 4 ++ (Zz tags0 ++ (Y8 (Zz tags0) ++ rest))):=by
   rw [he]; unfold Zo; rw [if_neg hne]; simp [ZO]
  rw [this]
  exact ⟨by rw [← l4,Vk],by rw [← l4,JN]⟩
 by_cases hp:b.take 4 = Qe
 ·rw [Zp hp]
  obtain ⟨b1,d1,h1,B1,l1,t1,u1⟩:=ZgK k b Qe false l4 (by intro x hx; simp [Qe] at hx; omega) (by decide) (by omega) hB
  rw [h1,VL]
  have e1:=u1 rfl hp
  obtain ⟨_,_,s1⟩:=t1 e1
  subst e1 s1
  simp only
  obtain ⟨n,b2,d2,h2,B2,l2,n2,t2,u2⟩:=Zb4 hk (b.drop 4) false 4 (by omega) (by omega) B1
  rw [h2,VL]
  simp only
  obtain ⟨x,b3,d3,h3,Bx,B3,l3,lx,t3,u3⟩:=Zl1 k b2 d2 n n2 (by omega) B2
  rw [h3,VL]
  simp only
  -- what a good beginning gives
  have back:∀ tags0 rest,b = Zo tags0 ++ rest → (tags0 = [] → rest.take 4 = ZR) → Zd4 tags0 → tags0 ≠ [] ∧ d3 = false ∧ x = Zz tags0 ∧ b3 = Y8 (Zz tags0) ++ rest ∧ n = (Zz tags0).length:=by
   intro tags0 rest he hr ht
   have hne:tags0 ≠ []:=by
    intro e
    have h1:=hr e
    rw [e] at he
    have:b = rest:=he
    rw [this,h1] at hp
    exact absurd hp (by decide)
   obtain ⟨_,hd⟩:=tagsne tags0 rest hne he
   have hl:=ht.len
   have w4:(2:Int) ^ (8 * 4) = 4294967296:=rfl
   have hlow:(low ((Zz tags0).length:Int) 4).length = 4:=ZH _ _
   have e2:=u2 rfl (by rw [hd,JQ,hlow]; omega)
   obtain ⟨_,_,v2,s2⟩:=t2 e2
   have hn:n = (Zz tags0).length:=by
    rw [v2,hd,Qg hlow]
    exact Qz 4 _ (by omega) (by omega)
   have hb2:b2 = Zz tags0 ++ (Y8 (Zz tags0) ++ rest):=by
    rw [s2,hd,WL hlow]
   have e3:=u3 e2 (by rw [hn,hb2,JQ]; omega)
   obtain ⟨_,_,v3,s3⟩:=t3 e3
   rw [hn,hb2,Uk,Vk] at v3
   rw [hn,hb2,Uk,JN] at s3
   exact ⟨hne,e3,v3,s3,hn⟩
  cases hd3:d3 with
  | true =>
   rw [ZfI,VL]
   simp only
   obtain ⟨k',hk'⟩:∃ k',k = k' + 1:=⟨k - 1,by omega⟩
   have hend:Zan k (b3,true,x,false,[]) = some ([],(b3,true,()),()):=by
    show ZZ (fun L1 => WO k L1) k (b3,true,x,false,[]) = _
    conv => lhs; rw [hk']
    rw [WD]
    rfl
   rw [hend]
   refine ⟨_,_,_,rfl,B3,by rw [Vj] at l2; omega,by simp,fun tags0 rest he hr ht => ?_⟩
   have:=(back tags0 rest he hr ht).2.1
   rw [hd3] at this
   cases this
  | false =>
   rw [hd3] at h3 t3 u3
   obtain ⟨hd2,hn2,hx2,hb3⟩:=t3 rfl
   obtain ⟨_,hn4,hv2,hs2⟩:=t2 hd2
   have hlow:=Q2 B1 hn4 hv2.symm
   obtain ⟨nn,rfl⟩:∃ nn:Nat,n = (nn:Int):=⟨n.toNat,by omega⟩
   rw [Uk] at hx2 hb3
   have hxl:x.length = nn:=by rw [hx2,JA]; omega
   have etm:UU (nn:Int) 2 = UJ (nn % 2):=rfl
   rw [etm]
   -- the nought behind
   have want:∃ b4 d4,Yl k ((b3,false,()),0,UJ (nn % 2),()) = some ((),(b4,d4,()),()) ∧ Wc b4 ∧ b4.length ≤ b3.length ∧ (d4 = false → b4 = [] ∨ b3 = Jd (nn % 2) 0 ++ b4) ∧ (∀ rest,b3 = Jd (nn % 2) 0 ++ rest → d4 = false ∧ b4 = rest):=by
    by_cases hle:nn % 2 ≤ b3.length
    ·obtain ⟨b4,d4,h4,B4,l4',t4,u4⟩:=ZiV hk b3 false 0 (nn % 2) (by omega) (.inl hle) (by omega) B3
     refine ⟨b4,d4,h4,B4,l4',fun e => ?_,fun rest hr => ?_⟩
     ·obtain ⟨_,_,hv,hd⟩:=t4 e
      right
      have:=Q2 B3 hle hv
      have hz:low 0 (nn % 2) = Jd (nn % 2) 0:=by
       rcases Nat.mod_two_eq_zero_or_one nn with h | h <;> rw [h] <;> rfl
      rw [hd,← hz,← this,U0]
     ·have hlen:(Jd (nn % 2) (0:Int)).length = nn % 2:=by simp
      have e4:=u4 rfl hle (by rw [hr,Qg hlen,ZbJ])
      obtain ⟨_,_,_,hd⟩:=t4 e4
      refine ⟨e4,?_⟩
      rw [hd,hr,WL hlen]
    ·have h1:nn % 2 = 1:=by omega
     have h0:b3 = []:=List.length_eq_zero_iff.1 (by omega)
     rw [h1,h0]
     refine ⟨[],false,?_,Ziq,by simp,fun _ => .inl rfl,fun rest hr => ?_⟩
     ·have hf:Yl k (([],false,()),0,UJ 1,()) = (Xh k (([],false,()),UJ 1,())).bind fun y => some ((),(y.2.1.1,y.1 != 0,()),()):=rfl
      rw [hf,Zfz hk [] false 1 (by simp) (by omega),VL]
      rfl
     ·simp at hr
   obtain ⟨b4,d4,h4,B4,l4',t4,u4⟩:=want
   rw [h4,VL]
   simp only
   cases hd4:d4 with
   | true =>
    obtain ⟨k',hk'⟩:∃ k',k = k' + 1:=⟨k - 1,by omega⟩
    have hend:Zan k (b4,true,x,false,[]) = some ([],(b4,true,()),()):=by
     show ZZ (fun L1 => WO k L1) k (b4,true,x,false,[]) = _
     conv => lhs; rw [hk']
     rw [WD]
     rfl
    rw [hend]
    refine ⟨_,_,_,rfl,B4,by rw [Vj] at l2; omega,by simp,fun tags0 rest he hr ht => ?_⟩
    obtain ⟨hne,_,hx0,hb0,hn0⟩:=back tags0 rest he hr ht
    have:=(u4 rest (by rw [hb0]; unfold Y8; rw [show nn % 2 = (Zz tags0).length % 2 by omega])).1
    rw [hd4] at this; cases this
   | false =>
    rw [Vj] at l2
    obtain ⟨tags,bad',g1,g2,g3⟩:=Zn5 hk b4 k x [] (by omega) Bx (by simp; omega)
    rw [show Zan k (b4,false,x,false,[]) = ZZ (fun L1 => WO k L1) k (b4,false,x,false,[]) from rfl,g1]
    refine ⟨_,_,_,rfl,B4,by omega,fun hbad => ?_,fun tags0 rest he hr ht => ?_⟩
    ·obtain ⟨new,q1,q2,q3,q4,q5⟩:=g2 hbad
     rw [List.nil_append] at q1
     subst q1
     refine ⟨⟨q5,q3⟩,?_⟩
     rcases t4 hd4 with h | h
     ·exact .inl h
     ·right
      unfold Zo
      rw [if_neg q4]
      have hb4:b = Qe ++ (low (nn:Int) 4 ++ (x ++ (Jd (nn % 2) 0 ++ b4))):=by
       rw [← h]
       conv => lhs; rw [← U0 4 b,hp,← U0 4 (b.drop 4),hlow,← hs2,← U0 nn b2,← hx2,← hb3]
      rw [hb4]
      simp only [ZO,Y8,← q2,hxl,Jv]
    ·obtain ⟨hne,_,hx0,hb0,hn0⟩:=back tags0 rest he hr ht
     have hw:=u4 rest (by rw [hb0]; unfold Y8; rw [show nn % 2 = (Zz tags0).length % 2 by omega])
     have:=g3 tags0 hx0 ht.2 (by simpa using hne) (by simpa using ht.1)
     exact ⟨this.1,by simpa using this.2,hw.2⟩
 ·rw [ZE hp]
  refine ⟨_,_,_,rfl,hB,Jj _,fun _ => ⟨⟨by simp,by simp⟩,.inr rfl⟩,fun tags0 rest he hr ht => ?_⟩
  by_cases hne:tags0 = []
  ·subst hne
   exact ⟨rfl,rfl,he⟩
  ·exact absurd (tagsne tags0 rest hne he).1 hp
end Go.Sh
namespace Go.Sh
open Go Go.Proofs
structure IsFile (B:List Int) (c d r:Int) (tags:List ByteArray) (D:List Int):Prop where
 shape:QB c d r = true
 tv:Zd4 tags
 blk:(D.length:Int) % (c * Zq d) = 0
 cnt:(D.length:Int) / (c * Zq d) ≤ 4096
 eq:∃ e,e.length = D.length % 2 ∧ B = WR ++ (low ((B.length:Int) - 8) 4 ++ (WS ++ (ZO QH (Qd c d r) ++ (Zo tags ++ (ZR ++ (low (D.length:Int) 4 ++ (D ++ e)))))))
theorem X1 {c d r:Int} (h:QB c d r = true):1 ≤ c ∧ c ≤ 2:=by have:=of_decide_eq_true h; exact ⟨this.1,this.2.1⟩
theorem X2 {c d r:Int} (h:QB c d r = true):4 ≤ d ∧ d ≤ 24:=by have:=of_decide_eq_true h; exact ⟨this.2.2.1,this.2.2.2.1⟩
theorem Zjs {c d r:Int} (h:QB c d r = true):1 ≤ r ∧ r ≤ 655350:=by have:=of_decide_eq_true h; exact this.2.2.2.2
theorem KX {c d r:Int} (h:QB c d r = true):1 ≤ c * Zq d ∧ c * Zq d ≤ 6:=Ke (X1 h) (X2 h)
theorem ZgP {c d r c0 d0 r0:Int} (h:QB c d r = true) (h0:QB c0 d0 r0 = true) (he:ZO QH (Qd c d r) = ZO QH (Qd c0 d0 r0)):c = c0 ∧ d = d0 ∧ r = r0:=by
 have hl:(ZO QH (Qd c d r)).length = 24:=by rw [QP,WB]; rfl
 have e1:(ZO QH (Qd c d r)).take 24 = ZO QH (Qd c d r):=Hr (by omega)
 obtain ⟨_,_,_,a1,a2,_,_,a3⟩:=YJ.1 e1
 obtain ⟨_,_,_,b1,b2,_,_,b3⟩:=YJ.1 (e1.trans he)
 have hc:=X1 h; have hd:=X2 h; have hr:=Zjs h
 have hc0:=X1 h0; have hd0:=X2 h0; have hr0:=Zjs h0
 have w4:(2:Int) ^ (8 * 4) = 4294967296:=rfl
 have w2:(2:Int) ^ (8 * 2) = 65536:=rfl
 exact ⟨Za8 (s:=2) (by omega) (by omega) (a1.symm.trans b1),Za8 (s:=2) (by omega) (by omega) (a3.symm.trans b3),Za8 (s:=4) (by omega) (by omega) (a2.symm.trans b2)⟩
theorem IsFile.D_len {B:List Int} {c d r:Int} {tags:List ByteArray} {D:List Int} (h:IsFile B c d r tags D):(D.length:Int) ≤ 24576 + 6:=by
 have hb:=KX h.shape
 have h1:=h.cnt
 have h2:=Int.mul_ediv_add_emod (D.length:Int) (c * Zq d)
 have h3:=h.blk
 generalize (D.length:Int) = n at *
 generalize c * Zq d = m at *
 have h4:m * (n / m) ≤ 6 * 4096:=by
  rcases Int.lt_or_le (n / m) 0 with h | h
  ·have:m * (n / m) ≤ 0:=Int.mul_nonpos_of_nonneg_of_nonpos (by omega) (by omega)
   omega
  ·exact U3 hb.2 h1 h (by omega)
 omega
theorem IsFile.walk {B:List Int} {c d r:Int} {tags:List ByteArray} {D:List Int} (h:IsFile B c d r tags D) :
  44 ≤ B.length ∧ B.take 4 = WR ∧ (B.drop 4).take 4 = low ((B.length:Int) - 8) 4 ∧ (B.drop 8).take 4 = WS ∧ (B.drop 12).take 24 = ZO QH (Qd c d r) ∧ ∃ e,e.length = D.length % 2 ∧ B.drop 36 = Zo tags ++ (ZR ++ (low (D.length:Int) 4 ++ (D ++ e))):=by
 obtain ⟨e,he,hB⟩:=h.eq
 have hf:(ZO QH (Qd c d r)).length = 24:=by rw [QP,WB]; rfl
 have hl:(low ((B.length:Int) - 8) 4).length = 4:=ZH _ _
 have hl2:(low (D.length:Int) 4).length = 4:=ZH _ _
 have hlen:44 ≤ B.length:=by
  have:=congrArg UL hB
  simp only [JQ,hf,hl,hl2] at this
  have e1:WR.length = 4:=rfl
  have e2:WS.length = 4:=rfl
  have e3:ZR.length = 4:=rfl
  omega
 have d4:B.drop 4 = low ((B.length:Int) - 8) 4 ++ (WS ++ (ZO QH (Qd c d r) ++ (Zo tags ++ (ZR ++ (low (D.length:Int) 4 ++ (D ++ e)))))):=by
  conv => lhs; rw [hB]
  exact WL rfl
 have d8:B.drop 8 = WS ++ (ZO QH (Qd c d r) ++ (Zo tags ++ (ZR ++ (low (D.length:Int) 4 ++ (D ++ e))))):=by
  rw [show 8 = 4 + 4 from rfl,← JF,d4]; exact WL hl
 have d12:B.drop 12 = ZO QH (Qd c d r) ++ (Zo tags ++ (ZR ++ (low (D.length:Int) 4 ++ (D ++ e)))):=by
  rw [show 12 = 8 + 4 from rfl,← JF,d8]; exact WL rfl
 have d36:B.drop 36 = Zo tags ++ (ZR ++ (low (D.length:Int) 4 ++ (D ++ e))):=by
  rw [show 36 = 12 + 24 from rfl,← JF,d12]; exact WL hf
 refine ⟨hlen,?_,?_,?_,?_,e,he,d36⟩
 ·conv => lhs; rw [hB]
  exact Qg rfl
 ·rw [d4]; exact Qg hl
 ·rw [d8]; exact Qg rfl
 ·rw [d12]; exact Qg hf
def Znq:(((Int × Int × Int × Unit) × List ByteArray × List Int × Unit) × Int × Unit) × Unit:=((((0,0,0,()),[],[],()),2,()),())
theorem ZpD {k:Nat} (hk:16777216 ≤ k) (b:List Int) (bad:Bool) (n:Int) (s:Nat) (hs:s ≤ 4) (hn:bad = false → s ≤ b.length ∨ n ≠ 0) (hb:b.length ≤ 1073741824) (hB:Wc b) :
  ∃ b' bad',Yl k ((b,bad,()),n,UJ s,()) = some ((),(b',bad',()),()) ∧ Wc b' ∧ b'.length ≤ b.length ∧ (bad' = false → bad = false ∧ s ≤ b.length ∧ Z9 (b.take s) = n ∧ b' = b.drop s) ∧ (bad = false → s ≤ b.length → Z9 (b.take s) = n → bad' = false):=by
 cases bad with
 | true => exact ⟨_,_,ZfI k b _ _,hB,Jj _,by simp,by simp⟩
 | false => exact ZiV hk b false n s hs (hn rfl) hb hB
theorem Zlx {k:Nat} (hk:16777216 ≤ k) (B:List Int) (hb:B.length ≤ 1048576) (hB:Wc B) :
  (∃ c d r tags D,IsFile B c d r tags D ∧ ZaV k (B,()) = some ((((c,d,r,()),tags,D,()),0,()),())) ∨ ((∀ c d r tags D,¬ IsFile B c d r tags D) ∧ ZaV k (B,()) = some Znq):=by
 have hf:ZaV k (B,()) = Zc8 k (B,()):=rfl
 rw [hf]
 simp only [Zc8]
 have e0:(UK #[OfNat.ofNat (82:Nat),OfNat.ofNat (73:Nat),OfNat.ofNat (70:Nat),OfNat.ofNat (70:Nat)]) = bytesOf WR:=rfl
 have e1:(UK #[OfNat.ofNat (87:Nat),OfNat.ofNat (65:Nat),OfNat.ofNat (86:Nat),OfNat.ofNat (69:Nat)]) = bytesOf WS:=rfl
 have e2:(UK #[OfNat.ofNat (100:Nat),OfNat.ofNat (97:Nat),OfNat.ofNat (116:Nat),OfNat.ofNat (97:Nat)]) = bytesOf ZR:=rfl
 have o4:(OfNat.ofNat (4:Nat):Int) = UJ 4:=rfl
 have o2:(OfNat.ofNat (2:Nat):Int) = 2:=rfl
 have w4:(2:Int) ^ (8 * 4) = 4294967296:=rfl
 rw [e0,e1,e2,o4]
 obtain ⟨b1,d1,h1,B1,l1,t1,u1⟩:=ZgK k B WR false rfl (by intro x hx; simp [WR] at hx; omega) (by decide) (by omega) hB
 rw [h1,VL]
 simp only
 rw [YZ (n:=UJ B.length - 8) (by simp only [UZ]; omega)]
 obtain ⟨b2,d2,h2,B2,l2,t2,u2⟩:=ZpD hk b1 d1 (UJ B.length - 8) 4 (by omega) (fun e => by
  obtain ⟨_,p,s1⟩:=t1 e
  have:=congrArg UL p
  rw [JA] at this
  have e5:WR.length = 4:=rfl
  rw [s1,Vj]
  simp only [UZ]
  omega) (by omega) B1
 rw [h2,VL]
 simp only
 obtain ⟨b3,d3,h3,B3,l3,t3,u3⟩:=ZgK k b2 WS d2 rfl (by intro x hx; simp [WS] at hx; omega) (by decide) (by omega) B2
 rw [h3,VL]
 simp only
 obtain ⟨c,d,r,b4,d4,h4,B4,l4,t4,u4⟩:=ZpF hk b3 d3 (by omega) B3
 rw [h4,VL]
 simp only
 -- if it is a file,the head is read
 have back4:∀ c0 d0 r0 tags0 D0,IsFile B c0 d0 r0 tags0 D0 → d4 = false ∧ c = c0 ∧ d = d0 ∧ r = r0 ∧ b4 = B.drop 36:=by
  intro c0 d0 r0 tags0 D0 hI
  obtain ⟨hlen,p1,p2,p3,p4,_⟩:=hI.walk
  have g1:=u1 rfl p1
  obtain ⟨_,_,s1⟩:=t1 g1
  have g2:=u2 g1 (by rw [s1,Vj]; omega) (by
   rw [s1,p2,Qz 4 _ (by omega) (by omega)]; rfl)
  obtain ⟨_,_,_,s2⟩:=t2 g2
  have hs2:b2 = B.drop 8:=by rw [s2,s1,JF]
  have g3:=u3 g2 (by rw [hs2]; exact p3)
  obtain ⟨_,_,s3⟩:=t3 g3
  have hs3:b3 = B.drop 12:=by rw [s3,hs2,JF]
  have g4:=u4 g3 c0 d0 r0 hI.shape (by rw [hs3]; exact p4)
  obtain ⟨_,q1,q2,q3⟩:=t4 g4
  rw [hs3,p4] at q2
  obtain ⟨rfl,rfl,rfl⟩:=ZgP q1 hI.shape q2.symm
  exact ⟨g4,rfl,rfl,rfl,by rw [q3,hs3,JF]⟩
 cases hd4:d4 with
 | true =>
  right
  refine ⟨fun c0 d0 r0 tags0 D0 hI => ?_,?_⟩
  ·have:=(back4 c0 d0 r0 tags0 D0 hI).1
   rw [hd4] at this; cases this
  ·simp only [Bool.not_true,cond_false]
   rw [ZiU,VL]
   simp only
   obtain ⟨v,b5,d5,h5,_,_,_,t5,_⟩:=Zb4 hk b4 true 4 (by omega) (by omega) B4
   rw [h5,VL]
   cases d5 with
   | true => rfl
   | false => exact absurd (t5 rfl).1 (by simp)
 | false =>
  simp only [U5,cond_true]
  obtain ⟨g3,hshape,hform,hb4⟩:=t4 hd4
  obtain ⟨g2,hwave,hb3⟩:=t3 g3
  obtain ⟨g1,hl4,hnum,hb2⟩:=t2 g2
  obtain ⟨_,hriff,hb1⟩:=t1 g1
  have hlow:=Q2 B1 hl4 hnum
  obtain ⟨tags,b5,d5,h5,B5,l5,t5,u5⟩:=ZpH hk b4 (by omega) B4
  rw [h5,VL]
  simp only
  obtain ⟨b6,d6,h6,B6,l6,t6,u6⟩:=ZgK k b5 ZR d5 rfl (by intro x hx; simp [ZR] at hx; omega) (by decide) (by omega) B5
  rw [h6,VL]
  simp only
  obtain ⟨n,b7,d7,h7,B7,l7,n7,t7,u7⟩:=Zb4 hk b6 d6 4 (by omega) (by omega) B6
  rw [h7,VL]
  simp only
  have back7:∀ c0 d0 r0 tags0 D0,IsFile B c0 d0 r0 tags0 D0 → d7 = false ∧ c = c0 ∧ d = d0 ∧ r = r0 ∧ tags = tags0 ∧ n = D0.length ∧ ∃ e,e.length = D0.length % 2 ∧ b7 = D0 ++ e:=by
   intro c0 d0 r0 tags0 D0 hI
   obtain ⟨_,q1,q2,q3,q4⟩:=back4 c0 d0 r0 tags0 D0 hI
   obtain ⟨_,_,_,_,_,e,he,hdr⟩:=hI.walk
   rw [← q4] at hdr
   have hl0:=hI.D_len
   obtain ⟨g5,q5,q6⟩:=u5 tags0 _ hdr (fun _ => Qg rfl) hI.tv
   have g6:=u6 g5 (by rw [q6]; exact Qg rfl)
   obtain ⟨_,_,s6⟩:=t6 g6
   have hs6:b6 = low (D0.length:Int) 4 ++ (D0 ++ e):=by rw [s6,q6]; exact WL rfl
   have hll:(low (D0.length:Int) 4).length = 4:=ZH _ _
   have g7:=u7 g6 (by rw [hs6,JQ,hll]; omega)
   obtain ⟨_,_,v7,s7⟩:=t7 g7
   refine ⟨g7,q1,q2,q3,q5,?_,e,he,?_⟩
   ·rw [v7,hs6,Qg hll,Qz 4 _ (by omega) (by omega)]
   ·rw [s7,hs6,WL hll]
  cases hd7:d7 with
  | true =>
   right
   refine ⟨fun c0 d0 r0 tags0 D0 hI => ?_,rfl⟩
   have:=(back7 c0 d0 r0 tags0 D0 hI).1
   rw [hd7] at this; cases this
  | false =>
   simp only [cond_false]
   obtain ⟨g6,hl6,hv7,hb7⟩:=t7 hd7
   obtain ⟨g5,hdata,hb6⟩:=t6 g6
   obtain ⟨htags,hparts⟩:=t5 g5
   have hb5:b4 = Zo tags ++ b5:=by
    rcases hparts with h | h
    ·rw [h] at hdata; exact absurd hdata (by decide)
    ·exact h
   have hbl:=KX hshape
   rw [Kn k (X1 hshape) (X2 hshape),VL]
   simp only
   rw [Zp (show ¬ c * Zq d = 0 by omega),Ha n7,ZV]
   by_cases hz:n % (c * Zq d) = 0
   ·rw [ZE (fun h => h hz),VL,Zp (show ¬ c * Zq d = 0 by omega),Hm n7]
    have hn32:n < 4294967296:=by
     rw [hv7]
     have:=(XF _ (We B6 4)).2
     rw [JA,U7 hl6,w4] at this
     exact this
    have hq0:0 ≤ n / (c * Zq d):=Int.ediv_nonneg n7 (by omega)
    have hq1:n / (c * Zq d) ≤ n:=Int.ediv_le_self _ n7
    rw [YZ (n:=n / (c * Zq d)) (by omega)]
    by_cases hc:4096 < n / (c * Zq d)
    ·rw [Zp hc]
     right
     refine ⟨fun c0 d0 r0 tags0 D0 hI => ?_,rfl⟩
     obtain ⟨_,rfl,rfl,rfl,rfl,hn,_⟩:=back7 c0 d0 r0 tags0 D0 hI
     have:=hI.cnt
     rw [← hn] at this
     omega
    ·rw [ZE hc]
     obtain ⟨D,b8,d8,h8,BD,B8,l8,lD,t8,u8⟩:=Zl1 k b7 false n n7 (by omega) B7
     rw [h8,VL]
     simp only
     have hmod:0 ≤ UU n 2:=by rw [Ha n7]; omega
     obtain ⟨P,b9,d9,h9,BP,B9,l9,lP,t9,u9⟩:=Zl1 k b8 d8 (UU n 2) hmod (by omega) B8
     rw [h9,VL]
     simp only
     have back9:∀ c0 d0 r0 tags0 D0,IsFile B c0 d0 r0 tags0 D0 → d9 = false ∧ b9 = []:=by
      intro c0 d0 r0 tags0 D0 hI
      obtain ⟨_,_,_,_,_,hn,e,he,hb7⟩:=back7 c0 d0 r0 tags0 D0 hI
      have g8:=u8 rfl (by rw [hb7,hn,JQ]; omega)
      obtain ⟨_,_,_,s8⟩:=t8 g8
      have hs8:b8 = e:=by rw [s8,hb7,hn,Uk]; exact WL rfl
      have hm:UU n 2 = (e.length:Int):=by rw [Ha n7,hn,he]; omega
      have g9:=u9 g8 (by rw [hs8,hm]; omega)
      obtain ⟨_,_,_,s9⟩:=t9 g9
      exact ⟨g9,by rw [s9,hs8,hm,Uk,U6]⟩
     cases hd9:d9 with
     | true =>
      right
      refine ⟨fun c0 d0 r0 tags0 D0 hI => ?_,rfl⟩
      have:=(back9 c0 d0 r0 tags0 D0 hI).1
      rw [hd9] at this; cases this
     | false =>
      simp only [cond_false]
      by_cases h9z:b9 = []
      ·rw [h9z,ZE (by simp)]
       left
       obtain ⟨g8,q1,q2,q3⟩:=t9 hd9
       obtain ⟨_,q4,q5,q6⟩:=t8 g8
       have hDl:(D.length:Int) = n:=by rw [q5,JA]; omega
       refine ⟨c,d,r,tags,D,⟨hshape,htags,by rw [hDl]; exact hz,by rw [hDl]; omega,b8,?_,?_⟩,rfl⟩
       ·have h3:b8.length ≤ (UU n 2).toNat:=by
         have:=congrArg UL q3
         rw [h9z,Vj] at this
         simp at this
         omega
        rw [Ha n7] at h3 q1
        omega
       ·have e7:b7 = D ++ b8:=by rw [q5,q6,U0]
        have e6:b6 = low (D.length:Int) 4 ++ b7:=by
         rw [hDl,← Q2 B6 hl6 hv7.symm,hb7,U0]
        have e5:b5 = ZR ++ b6:=by rw [← hdata,hb6,U0]
        have e3:b3 = ZO QH (Qd c d r) ++ b4:=by rw [← hform,hb4,U0]
        have e2':b2 = WS ++ b3:=by rw [← hwave,hb3,U0]
        have e1':b1 = low ((B.length:Int) - 8) 4 ++ b2:=by rw [← U0 4 b1,hlow,hb2]; rfl
        have e0':B = WR ++ b1:=by rw [← hriff,hb1,U0]
        rw [← e7,← e6,← e5,← hb5,← e3,← e2',← e1']
        exact e0'
      ·rw [Zp (by
        have:=List.length_pos_iff.2 h9z
        simp only [UZ]; omega)]
       right
       refine ⟨fun c0 d0 r0 tags0 D0 hI => h9z (back9 c0 d0 r0 tags0 D0 hI).2,rfl⟩
   ·rw [Zp hz]
    right
    refine ⟨fun c0 d0 r0 tags0 D0 hI => ?_,rfl⟩
    obtain ⟨_,rfl,rfl,rfl,rfl,hn,_⟩:=back7 c0 d0 r0 tags0 D0 hI
    have:=hI.blk
    rw [← hn] at this
    exact hz this
end Go.Sh
namespace Go.Sh
open Go Go.Proofs
theorem ZjU {c d r:Int} {tags:List ByteArray} {D:List Int} (hD:Wc D):Wc (XU c d r tags D):=by
 have hpad:∀ l:List Int,Wc (Y8 l):=by
  intro l x hx
  simp only [Y8,Hc] at hx
  omega
 have hm:∀ m:List Int,(∀ x ∈ m,0 ≤ x ∧ x < 256) → Wc m:=fun m h => h
 have hpart:∀ m b:List Int,Wc m → Wc b → Wc (ZO m b):=fun m b h1 h2 => ((h1.app (Xs _ _)).app h2).app (hpad b)
 have hform:Wc (Qd c d r):=(((((Xs _ _).app (Xs _ _)).app (Xs _ _)).app (Xs _ _)).app (Xs _ _)).app (Xs _ _)
 have htags:Wc (Zo tags):=by
  unfold Zo
  split
  ·exact Ziq
  ·refine hpart _ _ (by intro x hx; simp [Qe] at hx; omega) (ZcO fun t _ => ?_)
   intro x hx
   rcases VN.1 hx with rfl | hx
   ·exact ZkM _
   ·exact ZkL t x hx
 have hbody:Wc (Kf c d r tags D):=(((show Wc WS by intro x hx; simp [WS] at hx; omega).app (hpart _ _ (by intro x hx; simp [QH] at hx; omega) hform)).app htags).app (hpart _ _ (by intro x hx; simp [ZR] at hx; omega) hD)
 exact ((show Wc WR by intro x hx; simp [WR] at hx; omega).app (Xs _ _)).app hbody
end Go.Sh
namespace Go.Sh
open Go Go.Proofs
theorem ZeF (c d r:Int) (tags:List ByteArray) (D:List Int):XU c d r tags D = (WR ++ (low ((Kf c d r tags D).length:Int) 4 ++ (WS ++ (ZO QH (Qd c d r) ++ (Zo tags ++ (ZR ++ (low (D.length:Int) 4 ++ D))))))) ++ Y8 D:=by
 have hp:ZO ZR D = ZR ++ low (D.length:Int) 4 ++ D ++ Y8 D:=rfl
 unfold XU
 have hb:Kf c d r tags D = WS ++ ZO QH (Qd c d r) ++ Zo tags ++ (ZR ++ low (D.length:Int) 4 ++ D ++ Y8 D):=by rw [← hp]; rfl
 conv => lhs; arg 2; rw [hb]
 simp only [Jv]
theorem Zjf (N:Int) (c d r:Int) (tags:List ByteArray) (D:List Int):(WR ++ (low N 4 ++ (WS ++ (ZO QH (Qd c d r) ++ (Zo tags ++ (ZR ++ (low (D.length:Int) 4 ++ D))))))).length = 44 + (Zo tags).length + D.length:=by
 have hf:(ZO QH (Qd c d r)).length = 24:=by rw [QP,WB]; rfl
 simp only [JQ,hf,ZH]
 have e1:WR.length = 4:=rfl
 have e2:WS.length = 4:=rfl
 have e3:ZR.length = 4:=rfl
 omega
theorem ZbC (c d r:Int) (tags:List ByteArray) (D:List Int):(XU c d r tags D).length = 44 + (Zo tags).length + D.length + D.length % 2:=by
 rw [ZeF,JQ,Zjf,Zg1]
theorem ZhD (c d r:Int) (tags:List ByteArray) (D:List Int):(Kf c d r tags D).length = 36 + (Zo tags).length + D.length + D.length % 2:=ZjF c d r tags D
theorem Zj1 {B:List Int} {c d r:Int} {tags:List ByteArray} {D:List Int} (hs:QB c d r = true) (ht:Zd4 tags) (h1:(D.length:Int) % (c * Zq d) = 0) (h2:(D.length:Int) / (c * Zq d) ≤ 4096)
  (h3:(XU c d r tags D).length = B.length) (h4:(XU c d r tags D).take (44 + (Zo tags).length + D.length) = B.take (44 + (Zo tags).length + D.length)):IsFile B c d r tags D:=by
 refine ⟨hs,ht,h1,h2,B.drop (44 + (Zo tags).length + D.length),?_,?_⟩
 ·rw [Vj,← h3,ZbC]; omega
 ·have hN:(B.length:Int) - 8 = ((Kf c d r tags D).length:Int):=by rw [← h3,ZbC,ZhD]; omega
  rw [hN]
  rw [ZeF,Qg (Zjf _ _ _ _ _ _)] at h4
  conv => lhs; rw [← U0 (44 + (Zo tags).length + D.length) B,← h4]
  simp only [Jv]
end Go.Sh
