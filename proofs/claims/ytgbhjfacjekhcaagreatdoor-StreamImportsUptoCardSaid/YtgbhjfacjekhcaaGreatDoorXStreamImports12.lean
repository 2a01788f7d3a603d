/-
  What the row needs, part 12.
-/
import Derived.Test.YtgbhjfacjekhcaaGreatDoorXStreamImports11
import Derived.Lib.ItoaNum
set_option linter.unusedSimpArgs false
set_option linter.unusedVariables false
set_option linter.unusedSectionVars false
open BitVec renaming ofInt→UH,ofNat→Ee,toNat_and→U8,toNat_or→Hj
open Bool renaming not_true→HC,and_eq_true→Jh,true_eq_false→H5,true_and→UC,false_eq_true→JJ
open ByteArray renaming mk→UR,size→UQ
open Eq renaming trans→U4
open Go.FloatKind renaming f64→Je
open Int renaming ofNat→UD,ofNat_eq_natCast→HZ,toNat_natCast→Ui,one_mul→H2,fdiv→UP,fdiv_eq_ediv_of_nonneg→HE,tmod_eq_emod_of_nonneg→Ef,add_mul_ediv_left→Eo,ediv_eq_zero_of_lt→Ep,emod_lt_of_pos→Er,natCast_mul→HK
open Go.IntKind renaming i64→Jx,u8→UK,u64→UI
open List renaming replicate→Jd,drop_zero→U5,length_cons→JF,append_assoc→Ju,getElem_mem→Ha,length_drop→Vh,length_nil→HV,map→UT,all_eq_true→Ve,length_take→Jz,mem_cons→VL,append_nil→Vf,drop_eq_getElem_cons→Uk,drop_eq_nil_of_le→UF,length_append→JP,length_map→H4,mem_cons_of_mem→Jn,mem_cons_self→Jl,nil_append→VS,all_cons→UA,flatMap_cons→Ho,getElem?_eq_getElem→VN,getElem_zip→H6,length_singleton→Ur,mem_map→VF,drop_append→H9,foldl_cons→HT,mem_append→Js,mem_of_mem_take→JT,take_length→Ea,ext_getElem→HS,foldl_append→Eg,getElem_cons_zero→Eh,getElem_map→Ei,length→UO,length_zip→Ej,map_congr_left→Ek,map_map→VY,mem_of_mem_drop→JS,not_mem_nil→Uu,take_of_length_le→El,any_eq_false→Uj,cons_append→J0,ext_getElem?→Jr,getD_eq_getElem?_getD→VR,getElem?_map→Vg,getElem_append_left→Es,getElem_cons_succ→Et,getElem_of_mem→Eu,length_replicate→Uq,map_cons→JR,mem_singleton→Vx,prefix_append→Ev,prefix_of_prefix_length_le→Ew,singleton_append→Ey
open Nat renaming pow_le_pow_right→Hf,min_eq_left→Ht,zero_add→Ua,mod_lt→UY,pow_pos→Hs,zero_le→Hu,pow_succ→H1,div_le_self→H3,add_zero→JH,mod_eq_of_lt→H7,mul_comm→V9,mul_le_mul→J3,shiftLeft_eq→Hy,sub_self→H8,lt_irrefl→U1,mod_le→Eb,not_lt_zero→U2,one_mul→Jp,shiftLeft_add_eq_or_of_lt→Ec,testBit_eq_decide_div_mod_eq→Ed,add_mul→Jg,and_one_is_mod→HW,and_two_pow_sub_one_eq_mod→Hq,le_refl→Jj,mod_one→Em,mul_add→En,add_assoc→Vj,div_eq_of_lt→HX,lt_of_le_of_lt→He,lt_of_lt_of_le→VZ,mod_pow_succ→Ez,mul_assoc→Hw
open Option renaming bind→H0,bind_some→VJ,some→VE
open UInt8 renaming ofNat→UX,toNat_ofNat'→EA
namespace Go.Sh
open Go Go.Proofs
def Zfw (n:Int):Nat:=if n < 0 then (-2 * n - 1).toNat else (2 * n).toNat
theorem ZzG {n:Int} (h:QU n):Zfw n < 4294967296:=by
 unfold QU at h
 unfold Zfw
 split <;> omega
def ZXo (n:Int):Nat:=Lib.bitLen (if n < 0 then (-n - 1).toNat else n.toNat) + 1
theorem ZG9 (k:Nat) {m:Int} (h:m = 0 ∨ m = 1):Zew k (m,()) = some (if m = 0 then 15 else 31,()):=by
 rcases h with rfl | rfl <;> rfl
def Zeb (m:Int):Nat:=if m = 0 then 15 else 31
theorem ZKi (k:Nat) {m:Int} (h:m = 0 ∨ m = 1):Zew k (m,()) = some (((Zeb m:Nat):Int),()):=by
 rw [ZG9 k h]; unfold Zeb; split <;> rfl
abbrev Prt:=Int × Int × Int × Unit
def ZfZ (l:List Int):Nat:=l.foldl (fun w n => if n = 0 then w else max w (ZXo n)) 0
def ZDJ:List Nat → Nat
 | [] => 0
 | x :: l => x + ZDJ l
def ZlW (l:List Int) (kk:Nat):Nat:=(kk + 1) * l.length + ZDJ (l.map fun n => Zfw n / 2 ^ kk)
def ZO1 (l:List Int) (kk:Nat):Bool:=l.any fun n => decide (65536 < Zfw n / 2 ^ kk)
def ZGd (l:List Int) (B:Prt × Bool) (kk:Nat):Prt × Bool :=
 if ZO1 l kk = false ∧ (B.2 = false ∨ ((ZlW l kk:Nat):Int) < B.1.2.2.1) then (((kk:Int),0,((ZlW l kk:Nat):Int),()),true) else B
def kF (l:List Int):Nat → Nat → Prt × Bool → Prt × Bool
 | 0,_,B => B
 | d + 1,kk,B => kF l d (kk + 1) (ZGd l B kk)
def XJ (l:List Int) (m:Int):Prt × Bool :=
 let B:=kF l (Zeb m) 0 ((0,0,0,()),false)
 if ZfZ l ≤ 31 ∧ (B.2 = false ∨ ((5 + ZfZ l * l.length:Nat):Int) < B.1.2.2.1) then (((Zeb m:Nat),((ZfZ l:Nat):Int),((5 + ZfZ l * l.length:Nat):Int),()),true) else B
theorem ZTj {l:List Nat} {b:Nat} (h:∀ x ∈ l,x ≤ b):ZDJ l ≤ l.length * b:=by
 induction l with
 | nil => simp [ZDJ]
 | cons x l ih =>
  have h1:=h x (Jl ..)
  have h2:=ih fun y hy => h y (Jn _ hy)
  simp only [ZDJ,JF,Jg,Jp]
  omega
theorem ZII {n:Int} (h:QU n) (kk:Nat):Zfw n / 2 ^ kk ≤ 4294967295:=by
 have:=ZzG h
 have:=H3 (Zfw n) (2 ^ kk)
 omega
theorem ZYT:Zex = Zew:=Zsy
end Go.Sh
namespace Go.Sh
open Go Go.Proofs
theorem ZYS:Zo3 = Zev:=Zsx
theorem ZG6 (k:Nat) {m:Int} (h:m = 0 ∨ m = 1):Zev k (m,()) = some (4 + m,()):=by
 rcases h with rfl | rfl <;> rfl
def ZbI (n o:Int):Bool:=decide (1 ≤ n ∧ n ≤ 512 ∧ 0 ≤ o ∧ o ≤ 8 ∧ o ≤ n)
theorem ZHL (k:Nat) (n o:Int):ZBi k (n,o,()) = some (ZbI n o,()):=by
 show Zk8 k _ = _
 simp only [Zk8]
 unfold ZbI
 by_cases h1:1 ≤ n
 ·rw [Za h1]
  by_cases h2:n ≤ 512
  ·rw [Za h2]
   by_cases h3:0 ≤ o
   ·rw [Za h3]
    congr 2
    grind
   grind
  grind
 grind
def Zod (l:List Int) (o:Int):Int:=if o < 0 ∨ 8 < o then 1 else if ZbI ((l.length:Int) + o) o = false then 1 else if l.any Wi then 12 else 0
theorem ZWQ {p:Nat} (hp:p ≤ 31):Jx.wrap (Jx.wrap ((1:Int) * (2:Int) ^ min ((p:Int)).toNat 64) - 1) = ((2 ^ p - 1:Nat):Int):=by
 have h1:2 ^ p ≤ 2 ^ 31:=Hf (by omega) hp
 have h0:0 < 2 ^ p:=Hs (by omega)
 rw [tNc,Ht (by omega),H2,QV]
 rw [ZG (n:=((2 ^ p:Nat):Int)) (by omega),ZG (by omega)]
 omega
theorem ZdM {p:Nat} (hp:p ≤ 31):Jx.wrap ((1:Int) * (2:Int) ^ min ((p:Int)).toNat 64) = ((2 ^ p:Nat):Int):=by
 have h1:2 ^ p ≤ 2 ^ 31:=Hf (by omega) hp
 rw [tNc,Ht (by omega),H2,QV]
 generalize 2 ^ p = Q at h1 ⊢
 rw [ZG (by omega)]
theorem ZJC {n p:Nat} (hn:n < 4294967296) (hp:p ≤ 31):Jx.wrap (UD (UH 64 (n:Int) &&& UH 64 (Jx.wrap (Jx.wrap ((1:Int) * (2:Int) ^ min ((p:Int)).toNat 64) - 1))).toNat) = ((n % 2 ^ p:Nat):Int):=by
 have h1:2 ^ p ≤ 2 ^ 31:=Hf (by omega) hp
 rw [ZWQ hp,ZGA (by omega) (by omega),Hq]
 have:n % 2 ^ p ≤ n:=Eb _ _
 rw [ZG (by omega)]
def Zft (n o p:Nat):Bool:=decide (n % 2 ^ p = 0) && decide (o ≤ n / 2 ^ p)
theorem ZHO (k:Nat) {n o p:Nat} (hn:n < 4294967296) (hp:p ≤ 31):Zhr k ((n:Int),(o:Int),(p:Int),()) = some (Zft n o p,()):=by
 show Zk9 k _ = _
 simp only [Zk9]
 rw [Za (by omega),ZJC hn hp,Zw,tNc,Ht (by omega),Zmt]
 unfold Zft
 by_cases h:n % 2 ^ p = 0
 ·rw [Za (by omega),Za (by omega),dTr h,UC]
  congr 2
  grind
 grind
def YK (size:Nat):Nat → List Int → List (List Int)
 | 0,_ => []
 | d + 1,r => r.take size :: YK size d (r.drop size)
def KI (l:List Int) (o p:Nat):List (List Int):=l.take ((l.length + o) / 2 ^ p - o) :: YK ((l.length + o) / 2 ^ p) (2 ^ p - 1) (l.drop ((l.length + o) / 2 ^ p - o))
theorem ZoJ (size:Nat):∀ (d:Nat) (r:List Int),(YK size d r).length = d
 | 0,_ => rfl
 | d + 1,r => by simp [YK,ZoJ size d]
theorem ZJX (l:List Int) (o p:Nat):(KI l o p).length = 2 ^ p:=by
 grind [KI,JF,ZoJ]
theorem ZoK {size:Nat}:∀ {d:Nat} {r c:List Int},c ∈ YK size d r → ∀ x ∈ c,x ∈ r
 | d + 1,r,c,h,x,hx => by
  rcases VL.1 h with rfl | h
  ·exact JT hx
  ·exact JS (ZoK h x hx)
theorem ZoQ {l:List Int} {o p:Nat} {c:List Int} (h:c ∈ KI l o p):∀ x ∈ c,x ∈ l:=by
 intro x hx
 rcases VL.1 h with rfl | h
 ·exact JT hx
 ·exact JS (ZoK h x hx)
theorem Zsj {size:Nat}:∀ {d:Nat} {r c:List Int},c ∈ YK size d r → c.length ≤ r.length
 | d + 1,r,c,h => by
  rcases VL.1 h with rfl | h
  ·rw [Jz]; omega
  ·have:=Zsj h
   grind
theorem ZD1 {l:List Int} {o p:Nat} {c:List Int} (h:c ∈ KI l o p):c.length ≤ l.length:=by
 rcases VL.1 h with rfl | h
 ·rw [Jz]; omega
 ·have:=Zsj h
  rw [Vh] at this
  omega
end Go.Sh
namespace Go.Sh
open Go Go.Proofs
def Zee (c:List Int) (m:Int) (y:Prt):Prop :=
 (∃ kk:Nat,kk < Zeb m ∧ ZO1 c kk = false ∧ y = ((kk:Int),0,((ZlW c kk:Nat):Int),())) ∨
 (ZfZ c ≤ 31 ∧ y = (((Zeb m:Nat):Int),((ZfZ c:Nat):Int),((5 + ZfZ c * c.length:Nat):Int),()))
theorem ZUs {c:List Int} {m:Int}:∀ (d kk:Nat) (B:Prt × Bool),kk + d = Zeb m → (B.2 = true → Zee c m B.1) → ((kF c d kk B).2 = true → Zee c m (kF c d kk B).1)
 | 0,_,B,_,hB => hB
 | d + 1,kk,B,hk,hB => by
  refine ZUs d (kk + 1) _ (by omega) fun h => ?_
  unfold ZGd at h ⊢
  split
  ·rename_i hc
   exact .inl ⟨kk,by omega,hc.1,rfl⟩
  simp_all
theorem Zoy {c:List Int} {m:Int} (h:(XJ c m).2 = true):Zee c m (XJ c m).1:=by
 unfold XJ at h ⊢
 simp only at h ⊢
 split
 ·rename_i hc
  exact .inr ⟨hc.1,rfl⟩
 ·rename_i hc
  rw [if_neg hc] at h
  exact ZUs _ _ _ (by omega) (fun h => by cases h) h
theorem ZFZ {c:List Int}:∀ (d kk:Nat) (B:Prt × Bool),B.2 = true → (kF c d kk B).2 = true
 | 0,_,B,hB => hB
 | d + 1,kk,B,hB => by
  refine ZFZ d (kk + 1) _ ?_
  unfold ZGd
  split
  ·rfl
  ·exact hB
theorem ZF0 {c:List Int} {j:Nat} (hj:ZO1 c j = false):∀ (d kk:Nat) (B:Prt × Bool),kk ≤ j → j < kk + d → (kF c d kk B).2 = true
 | 0,_,B,h1,h2 => by omega
 | d + 1,kk,B,h1,h2 => by
  by_cases he:kk = j
  ·subst he
   refine ZFZ d _ _ ?_
   unfold ZGd
   grind
  ·exact ZF0 hj d (kk + 1) _ (by omega) (by omega)
theorem ZYs {c:List Int} (hc:∀ x ∈ c,QU x):ZO1 c 16 = false:=by
 unfold ZO1
 rw [Uj]
 intro x hx
 have h1:=ZzG (hc x hx)
 grind
theorem ZAN {c:List Int} (hc:∀ x ∈ c,QU x):(XJ c 1).2 = true:=by
 unfold XJ
 simp only
 split
 ·rfl
 ·exact ZF0 (ZYs hc) _ _ _ (by omega) (by decide)
theorem Zee.size {c:List Int} {m:Int} {y:Prt} (h:Zee c m y) (hc:∀ x ∈ c,QU x) (hn:c.length ≤ 512):0 ≤ y.2.2.1 ∧ y.2.2.1 ≤ 4398046511104:=by
 have he:Zeb m ≤ 31:=by unfold Zeb; split <;> omega
 rcases h with ⟨kk,hk,_,rfl⟩ | ⟨hw,rfl⟩
 ·simp only
  have h1:(kk + 1) * c.length ≤ 32 * 512:=J3 (by omega) hn
  have h2:ZDJ (c.map fun n => Zfw n / 2 ^ kk) ≤ (c.map fun n => Zfw n / 2 ^ kk).length * 4294967295:=ZTj fun x hx => by
   obtain ⟨n,hn,rfl⟩:=VF.1 hx
   exact ZII (hc n hn) kk
  rw [H4] at h2
  unfold ZlW
  omega
 ·simp only
  have h1:ZfZ c * c.length ≤ 31 * 512:=J3 hw hn
  omega
def WP (m:Int):List (List Int) → List Prt → Int → List Prt × Int × Bool
 | [],ps,sz => (ps,sz,true)
 | c :: cs,ps,sz => if (XJ c m).2 = true then WP m cs (ps ++ [(XJ c m).1]) (sz + (4 + m + (XJ c m).1.2.2.1)) else (ps,sz,false)
theorem ZDs {m:Int} {c:List Int} (cs:List (List Int)) (ps:List Prt) (sz:Int) (h:(XJ c m).2 = true):WP m (c :: cs) ps sz = WP m cs (ps ++ [(XJ c m).1]) (sz + (4 + m + (XJ c m).1.2.2.1)):=by
 show (if (XJ c m).2 = true then _ else _) = _
 rw [if_pos h]
theorem ZI4 {m:Int} {c:List Int} (cs:List (List Int)) (ps:List Prt) (sz:Int) (h:(XJ c m).2 = false):WP m (c :: cs) ps sz = (ps,sz,false):=by
 show (if (XJ c m).2 = true then _ else _) = _
 rw [if_neg (by rw [h]; simp)]
abbrev Kl:=Int × Int × Int × List Prt
def Zj4 (l:List Int) (o p:Nat) (m:Int) (B:Kl):Kl :=
 if (WP m (KI l o p) [] 6).2.2 = true ∧ (B.2.2.1 < 0 ∨ (WP m (KI l o p) [] 6).2.1 < B.2.2.1) then (m,(p:Int),(WP m (KI l o p) [] 6).2.1,(WP m (KI l o p) [] 6).1) else B
def Zrv (l:List Int) (o:Nat) (B:Kl) (p:Nat):Kl:=if Zft (l.length + o) o p = true then Zj4 l o p 1 (Zj4 l o p 0 B) else B
def Zf4 (l:List Int) (o:Nat):Nat → Nat → Kl → Kl
 | 0,_,B => B
 | d + 1,p,B => Zf4 l o d (p + 1) (Zrv l o B p)
def Zc0 (l:List Int) (o:Nat):Kl:=Zf4 l o 5 0 (0,0,-1,[])
structure RGood (l:List Int) (o:Nat) (R:Kl) (p:Nat):Prop where
 hp:R.2.1 = (p:Int)
 p4:p ≤ 4
 fit:Zft (l.length + o) o p = true
 hm:R.1 = 0 ∨ R.1 = 1
 parts:WP R.1 (KI l o p) [] 6 = (R.2.2.2,R.2.2.1,true)
theorem ZlP {m:Int} (hm:0 ≤ m):∀ (cs:List (List Int)) (ps:List Prt) (sz:Int),(∀ c ∈ cs,(∀ x ∈ c,QU x) ∧ c.length ≤ 512) → sz ≤ (WP m cs ps sz).2.1
 | [],_,_,_ => Int.le_refl _
 | c :: cs,ps,sz,h => by
  unfold WP
  split
  ·rename_i hb
   have h1:=h c (Jl ..)
   have h2:=(Zoy hb).size h1.1 h1.2
   have:=ZlP hm cs (ps ++ [(XJ c m).1]) (sz + (4 + m + (XJ c m).1.2.2.1)) fun c hc => h c (Jn _ hc)
   omega
  ·exact Int.le_refl _
theorem Zq7 {l:List Int} {o p:Nat} {m:Int} {B:Kl} (hm:m = 0 ∨ m = 1) (hp:p ≤ 4) (hf:Zft (l.length + o) o p = true) (hB:B.2.2.1 < 0 ∨ ∃ q,RGood l o B q) :
  (Zj4 l o p m B).2.2.1 < 0 ∨ ∃ q,RGood l o (Zj4 l o p m B) q:=by
 unfold Zj4
 split
 ·rename_i hc
  right
  refine ⟨p,rfl,hp,hf,hm,?_⟩
  simp only
  rw [← hc.1]
 ·exact hB
theorem ZDD {l:List Int} {o p:Nat} {B:Kl} (hp:p ≤ 4) (hB:B.2.2.1 < 0 ∨ ∃ q,RGood l o B q):(Zrv l o B p).2.2.1 < 0 ∨ ∃ q,RGood l o (Zrv l o B p) q:=by
 unfold Zrv
 split
 ·rename_i hf
  exact Zq7 (.inr rfl) hp hf (Zq7 (.inl rfl) hp hf hB)
 ·exact hB
theorem Zie {l:List Int} {o:Nat}:∀ (d p:Nat) (B:Kl),p + d ≤ 5 → (B.2.2.1 < 0 ∨ ∃ q,RGood l o B q) → (Zf4 l o d p B).2.2.1 < 0 ∨ ∃ q,RGood l o (Zf4 l o d p B) q
 | 0,_,B,_,hB => hB
 | d + 1,p,B,h,hB => Zie d (p + 1) _ (by omega) (ZDD (by omega) hB)
theorem Zq8 {l:List Int} {o p:Nat} {m:Int} {B:Kl} (hl:∀ x ∈ l,QU x) (hn:l.length ≤ 512) (hm:0 ≤ m) (hB:0 ≤ B.2.2.1):0 ≤ (Zj4 l o p m B).2.2.1:=by
 unfold Zj4
 split
 ·have:=ZlP hm (KI l o p) [] 6 fun c hc => ⟨fun x hx => hl x (ZoQ hc x hx),by have:=ZD1 hc; omega⟩
  simp only
  omega
 ·exact hB
theorem ZoI {l:List Int} {o:Nat} (hl:∀ x ∈ l,QU x) (hn:l.length ≤ 512):∀ (d p:Nat) (B:Kl),0 ≤ B.2.2.1 → 0 ≤ (Zf4 l o d p B).2.2.1
 | 0,_,B,hB => hB
 | d + 1,p,B,hB => ZoI hl hn d (p + 1) _ (by
  unfold Zrv
  split
  ·exact Zq8 hl hn (by omega) (Zq8 hl hn (by omega) hB)
  ·exact hB)
theorem ZtO {m:Int}:∀ (cs:List (List Int)) (ps:List Prt) (sz:Int),(∀ c ∈ cs,(XJ c m).2 = true) → (WP m cs ps sz).2.2 = true
 | [],_,_,_ => rfl
 | c :: cs,ps,sz,h => by
  unfold WP
  rw [if_pos (h c (Jl ..))]
  exact ZtO cs _ _ fun c hc => h c (Jn _ hc)
theorem Zup {l:List Int} {o:Nat} (hl:∀ x ∈ l,QU x) (hn:l.length + o ≤ 512) (ho:o ≤ l.length + o):0 ≤ (Zc0 l o).2.2.1 ∧ ∃ q,RGood l o (Zc0 l o) q:=by
 have hnn:0 ≤ (Zc0 l o).2.2.1:=by
  show 0 ≤ (Zf4 l o 4 1 (Zrv l o (0,0,-1,[]) 0)).2.2.1
  refine ZoI hl (by omega) 4 1 _ ?_
  unfold Zrv
  have hf:Zft (l.length + o) o 0 = true:=by unfold Zft; simp [Em]
  rw [if_pos hf]
  generalize Zj4 l o 0 0 (0,0,-1,[]) = B
  by_cases hB:0 ≤ B.2.2.1
  ·exact Zq8 hl (by omega) (by omega) hB
  ·unfold Zj4
   have hok:=ZtO (m:=1) (KI l o 0) [] 6 fun c hc => ZAN fun x hx => hl x (ZoQ hc x hx)
   rw [if_pos ⟨hok,.inl (by omega)⟩]
   have:=ZlP (m:=1) (by omega) (KI l o 0) [] 6 fun c hc => ⟨fun x hx => hl x (ZoQ hc x hx),by have:=ZD1 hc; omega⟩
   simp only
   omega
 refine ⟨hnn,?_⟩
 rcases Zie (l:=l) (o:=o) 5 0 (0,0,-1,[]) (by omega) (.inl (by show (-1:Int) < 0; omega)) with h | h
 ·exact absurd h (by unfold Zc0 at hnn; omega)
 ·exact h
end Go.Sh
namespace Go.Sh
open Go Go.Proofs
theorem Zz9 {l:List Int} {o:Nat}:Zod l o = 0 ↔ (1 ≤ l.length + o ∧ l.length + o ≤ 512 ∧ o ≤ 8) ∧ l.any Wi = false:=by
 unfold Zod
 constructor
 ·intro h
  split at h
  ·omega
  ·split at h
   ·omega
   ·rename_i h1 h2
    split at h
    ·omega
    ·rename_i hw
     have:=of_decide_eq_true (by simpa using h2:ZbI ((l.length:Int) + o) o = true)
     exact ⟨by omega,by simpa using hw⟩
 ·rintro ⟨h1,h2⟩
  rw [if_neg (by omega),if_neg,if_neg (by simp [h2])]
  unfold ZbI
  rw [dTr (by omega)]
  simp
def Zob (kk:Nat) (n:Int):List Bool:=(Jd (Zfw n / 2 ^ kk) false ++ [true]) ++ Zb (Zfw n % 2 ^ kk) kk
def ZzY (m:Int) (y:Prt) (c:List Int):List Bool:=if y.1 = (Zeb m:Int) then c.flatMap (fun n => Zrn n y.2.1.toNat) else c.flatMap (Zob y.1.toNat)
def Zj3 (m:Int) (x:List Int × Prt):List Bool:=Zb x.2.1.toNat (4 + m.toNat) ++ ((if x.2.1 = (Zeb m:Int) then Zb x.2.2.1.toNat 5 else []) ++ ZzY m x.2 x.1)
def Zra (l:List Int) (o:Nat) (R:Kl):List Bool:=(Zb R.1.toNat 2 ++ Zb R.2.1.toNat 4) ++ ((KI l o R.2.1.toNat).zip R.2.2.2).flatMap (Zj3 R.1)
def Zrk (l:List Int) (o:Nat):List Bool:=Zra l o (Zc0 l o)
theorem Zz3 (kk:Nat) (n:Int):(Zob kk n).length = Zfw n / 2 ^ kk + 1 + kk:=by
 simp [Zob,Zi]
 omega
def KY (m:Int):List (List Int) → List Prt → Prop
 | [],[] => True
 | c :: cs,y :: ys => Zee c m y ∧ KY m cs ys
 | _,_ => False
theorem ZfL {m:Int}:∀ (cs:List (List Int)) (ps:List Prt) (sz:Int),(WP m cs ps sz).2.2 = true → ∃ ys,(WP m cs ps sz).1 = ps ++ ys ∧ KY m cs ys ∧ ys = cs.map fun c => (XJ c m).1
 | [],ps,sz,_ => ⟨[],by simp [WP],trivial,rfl⟩
 | c :: cs,ps,sz,h => by
  unfold WP at h ⊢
  split at h
  ·rename_i hb
   rw [if_pos hb]
   obtain ⟨ys,h1,h2,h3⟩:=ZfL cs _ _ h
   refine ⟨(XJ c m).1 :: ys,by rw [h1]; simp,⟨Zoy hb,h2⟩,by rw [h3]; rfl⟩
  ·cases h
theorem KY.len {m:Int}:∀ {cs:List (List Int)} {ys:List Prt},KY m cs ys → ys.length = cs.length
 | [],[],_ => rfl
 | c :: cs,y :: ys,h => by simp [KY.len h.2]
theorem KY.get {m:Int}:∀ {cs:List (List Int)} {ys:List Prt},KY m cs ys → ∀ (i:Nat) (h1:i < cs.length) (h2:i < ys.length),Zee cs[i] m ys[i]
 | c :: cs,y :: ys,h,0,_,_ => h.1
 | c :: cs,y :: ys,h,i + 1,h1,h2 => by
  simp only [Et]
  exact KY.get h.2 i (by simpa using h1) (by simpa using h2)
theorem RGood.ys {l:List Int} {o p:Nat} {R:Kl} (h:RGood l o R p):KY R.1 (KI l o p) R.2.2.2:=by
 obtain ⟨ys,h1,h2,_⟩:=ZfL (m:=R.1) (KI l o p) [] 6 (by rw [h.parts])
 rw [h.parts] at h1
 simp_all
end Go.Sh
namespace Go.Sh
open Go Go.Proofs
theorem ZOu (k:Nat) (n d:Int):ZOt k (n,d,()) = some (decide (1 ≤ n ∧ n ≤ 512 ∧ 4 ≤ d ∧ d ≤ 25),()):=by
 show Zqh k _ = _
 grind [Zqh]
theorem ZOA (k:Nat) (x:Int) {d:Nat} (h1:1 ≤ d) (h2:d ≤ 64):ZOz k (x,(d:Int),()) = some (sgn x d,()):=by
 show Zqk k _ = _
 simp only [Zqk]
 have e1:Jx.wrap ((d:Int) - 1) = ((d - 1:Nat):Int):=by rw [ZG (by omega)]; omega
 rw [e1,ZAe x (by omega)]
 grind
def ZqS (x:Int):Nat:=(x % 18446744073709551616).toNat
def ZXl (s:List Int):Nat:=s.foldl (fun v x => v ||| ZqS x) 0
def Zof (s:List Int):Nat:=if ZXl s = 0 then 0 else Lib.ctz 64 (ZXl s)
theorem ZfK (x:Int):(UH 64 x).toNat = ZqS x:=by rw [BitVec.toNat_ofInt]; rfl
def ZPX (s:List Int):List Int:=s.map fun x => x.fdiv (2 ^ Zof s)
end Go.Sh
namespace Go.Sh
open Go Go.Proofs
abbrev Zhb:=Int × List Int × Int × List Int × Int
def ZPx (s:List Int) (d:Nat) (kind:Int) (c:List Int) (sh head:Int):Option Zhb :=
 if (X4 c sh s).2 = 0 then some (kind,c,sh,(X4 c sh s).1,head + (c.length:Int) * (d:Int) + (Zc0 (X4 c sh s).1 c.length).2.2.1) else none
def Zt5 (b:Option Zhb) (x:Option Zhb):Option Zhb :=
 match x with
 | none => b
 | some x => match b with
  | none => some x
  | some b => if x.2.2.2.2 < b.2.2.2.2 then some x else some b
theorem ZmH {c s:List Int} {sh:Int} (h:(X4 c sh s).2 = 0):(X4 c sh s).1 = ZhU c sh s ∧ c.length ≤ s.length ∧ KO c sh = true:=by
 unfold X4 at h ⊢
 grind
theorem Zsa {c s:List Int} {sh:Int} (h:(X4 c sh s).2 = 0) (h1:1 ≤ s.length) (h2:s.length ≤ 512):(X4 c sh s).1.length + c.length = s.length ∧ c.length ≤ 8 ∧ Zod (X4 c sh s).1 (c.length:Nat) = 0:=by
 have hz:=ZmH h
 have hlen:(X4 c sh s).1.length + c.length = s.length:=by rw [hz.1,ZhU,ZAa]; omega
 have h8:=(ZfE hz.2.2).1
 refine ⟨hlen,h8,Zz9.2 ⟨⟨by omega,by omega,h8⟩,?_⟩⟩
 rw [Uj]
 intro x hx
 have:=Zg2 c sh s x hx
 unfold QU at this
 unfold Wi
 simp only [decide_eq_true_eq]
 omega
def ZWH (s:List Int) (d:Nat):Option Zhb:=if s.all (fun x => decide (x = s.headD 0)) = true then some (0,[],0,[],(d:Int)) else none
def ZYt (s:List Int) (d:Nat) (o:Nat):Option Zhb:=ZPx s d (8 + (o:Int)) (ZhG o) 0 0
def ZWP (s:List Int) (d:Nat) (o:Nat):Option Zhb:=if o < s.length then ZPx s d (31 + (o:Int)) (ZGn s o) 4 (9 + 12 * (o:Int)) else none
def ZYK (s:List Int) (d:Nat):Option Zhb:=some (1,[],0,[],(s.length:Int) * (d:Int))
def ZYu (s:List Int) (d:Nat):Nat → Nat → Option Zhb → Option Zhb
 | 0,_,b => b
 | e + 1,o,b => ZYu s d e (o + 1) (Zt5 b (ZYt s d o))
def ZQF (s:List Int) (d:Nat):Option Zhb :=
 Zt5 (Zt5 (Zt5 (Zt5 (ZYu s d (min 4 s.length + 1) 0 (Zt5 none (ZWH s d))) (ZWP s d 2)) (ZWP s d 4)) (ZWP s d 8)) (ZYK s d)
end Go.Sh
namespace Go.Sh
open Go Go.Proofs
theorem Zd {α β:Type} {x:Option α} {a:α} (h:x = some a) (K:α → Option β):x.bind K = K a:=by rw [h]; rfl
end Go.Sh
namespace Go.Sh
open Go Go.Proofs
theorem Zfv (w:Nat):∀ c:List Int,(c.flatMap fun n => Zrn n w).length = w * c.length
 | [] => rfl
 | a :: c => by rw [Ho,Xj,ZJc,Zfv w c,JF,En,Nat.mul_one]; omega
theorem ZjS (kk:Nat):∀ c:List Int,(c.flatMap (Zob kk)).length = ZlW c kk
 | [] => rfl
 | a :: c => by
  rw [Ho,Xj,Zz3,ZjS kk c]
  unfold ZlW
  simp only [JF,JR,ZDJ,En,Nat.mul_one]
  omega
theorem ZwW {c:List Int} {m:Int} (hm:m = 0 ∨ m = 1) {y:Prt} (hy:Zee c m y):((Zj3 m (c,y)).length:Int) = 4 + m + y.2.2.1:=by
 have hmn:((m.toNat:Nat):Int) = m:=by rcases hm with rfl | rfl <;> rfl
 unfold Zj3 ZzY
 rcases hy with ⟨kk,hkk,hfar,rfl⟩ | ⟨hw,rfl⟩
 ·grind [Xj,Zi,HV,tNc,ZjS]
 ·simp only
  rw [if_pos trivial,if_pos trivial]
  simp only [Xj,Zi,tNc,Zfv]
  omega
theorem ZtP {m:Int} (hm:m = 0 ∨ m = 1):∀ (cs:List (List Int)) (ps:List Prt) (sz:Int),(WP m cs ps sz).2.2 = true →
  ((((cs.zip (cs.map fun c => (XJ c m).1)).flatMap (Zj3 m)).length:Nat):Int) = (WP m cs ps sz).2.1 - sz
 | [],ps,sz,_ => by simp [WP]
 | c :: cs,ps,sz,h => by
  cases hb:(XJ c m).2 with
  | false => rw [ZI4 _ _ _ hb] at h; cases h
  | true =>
   rw [ZDs _ _ _ hb] at h ⊢
   have h1:=ZwW hm (Zoy hb)
   have h2:=ZtP hm cs _ _ h
   simp_all <;> omega
theorem RGood.map {l:List Int} {o p:Nat} {R:Kl} (h:RGood l o R p):R.2.2.2 = (KI l o p).map fun c => (XJ c R.1).1:=by
 obtain ⟨ys,h1,h2,h3⟩:=ZfL (m:=R.1) (KI l o p) [] 6 (by rw [h.parts])
 rw [h.parts] at h1
 simp_all
theorem RGood.len {l:List Int} {o p:Nat} {R:Kl} (h:RGood l o R p):((Zra l o R).length:Int) = R.2.2.1:=by
 have h1:=ZtP h.hm (KI l o p) [] 6 (by rw [h.parts])
 rw [h.parts,← h.map] at h1
 unfold Zra
 rw [h.hp,tNc]
 grind [Xj,Zi]
theorem Zw3 {l:List Int} {o:Nat} (hl:∀ x ∈ l,QU x) (hn:l.length + o ≤ 512):((Zrk l o).length:Int) = (Zc0 l o).2.2.1:=by
 obtain ⟨_,q,hg⟩:=Zup hl hn (by omega)
 exact hg.len
def ZJu (s:List Int) (d:Nat) (x:Zhb):Prop :=
 (x = (0,[],0,[],(d:Int)) ∧ s.all (fun x => decide (x = s.headD 0)) = true) ∨ x = (1,[],0,[],(s.length:Int) * (d:Int)) ∨
 (∃ o,o ≤ 4 ∧ o ≤ s.length ∧ ZYt s d o = some x) ∨ (∃ o,(o = 2 ∨ o = 4 ∨ o = 8) ∧ o < s.length ∧ ZPx s d (31 + (o:Int)) (ZGn s o) 4 (9 + 12 * (o:Int)) = some x)
def ZJM (s:List Int) (d:Nat) (x:Zhb):List Bool :=
 if x.1 = 0 then (s.take 1).flatMap (fun n => Zrn n d) else if x.1 = 1 then s.flatMap (fun n => Zrn n d)
 else (s.take x.2.1.length).flatMap (fun n => Zrn n d) ++ ((if 31 < x.1 then Zb 11 4 ++ (Zb x.2.2.1.toNat 5 ++ x.2.1.flatMap (fun n => Zrn n 12)) else []) ++ Zrk x.2.2.2.1 x.2.1.length)
def ZPk (kind:Int) (kk:Nat):List Bool:=Zb kind.toNat 7 ++ (if 0 < kk then [true] ++ (Jd (kk - 1) false ++ [true]) else [false])
def ZTh (s:List Int) (d:Nat):List Bool:=match ZQF (ZPX s) (d - Zof s) with
 | none => []
 | some x => ZPk x.1 (Zof s) ++ ZJM (ZPX s) (d - Zof s) x
theorem ZtI {s:List Int} {d:Nat} {kind:Int} {c:List Int} {sh head:Int} {x:Zhb} (h1:1 ≤ s.length) (h2:s.length ≤ 512) (h:ZPx s d kind c sh head = some x) :
  x.1 = kind ∧ x.2.1 = c ∧ x.2.2.1 = sh ∧ x.2.2.2.1 = ZhU c sh s ∧ x.2.2.2.2 = head + (c.length:Int) * (d:Int) + ((Zrk (ZhU c sh s) c.length).length:Int) ∧ Zod (ZhU c sh s) (c.length:Nat) = 0 ∧ c.length ≤ s.length ∧ c.length ≤ 8 ∧ KO c sh = true ∧
   (X4 c sh s).2 = 0:=by
 unfold ZPx at h
 split at h
 ·rename_i hz
  obtain rfl:=(VE.inj h).symm
  obtain ⟨hl,h8,hr⟩:=Zsa hz h1 h2
  obtain ⟨e1,e2,e3⟩:=ZmH hz
  have:=Zw3 (Zg2 c sh s) (o:=c.length) (by omega)
  simp_all
 ·cases h
theorem Zqt (o:Nat) (h:o ≤ 4):(ZhG o).length = o:=by
 obtain rfl | rfl | rfl | rfl | rfl:o = 0 ∨ o = 1 ∨ o = 2 ∨ o = 3 ∨ o = 4:=by omega
 all_goals rfl
end Go.Sh
namespace Go.Sh
open Go Go.Proofs
theorem ZJu.kind {s:List Int} {d:Nat} {x:Zhb} (h1:1 ≤ s.length) (h2:s.length ≤ 512) (h:ZJu s d x):∃ n:Nat,x.1 = (n:Int) ∧ n < 2 ^ 7:=by
 rcases h with ⟨rfl,_⟩ | rfl | ⟨o,ho,hos,hx⟩ | ⟨o,ho,hos,hx⟩
 ·exact ⟨0,rfl,by omega⟩
 ·exact ⟨1,rfl,by omega⟩
 ·exact ⟨8 + o,by rw [(ZtI h1 h2 hx).1]; omega,by omega⟩
 ·exact ⟨31 + o,by rw [(ZtI h1 h2 hx).1]; omega,by omega⟩
end Go.Sh
namespace Go.Sh
open Go Go.Proofs
def ZPn (n:Nat):Nat:=if 256 < n then 7 else 6
def Zoc (mode num n:Nat):List Bool :=
 Zb 16382 14 ++ (Zb (ZPn n) 6 ++ (Zb mode 8 ++ (Zb 0 4 ++ ((ZTp num).flatMap (fun x => Zb x 8) ++ Zb (n - 1) (8 * (ZPn n - 5))))))
def ZbO (mode num n:Nat):List Bool:=Zoc mode num n ++ Zb (ZoN (Z3 (Zoc mode num n))) 8
def Zeo (ls:List (List Int)) (ds:List Int):List Bool:=(ls.zip ds).flatMap fun x => ZTh x.1 x.2.toNat
def Zq5 (bs:List Bool):List Bool:=bs ++ Jd (ZS9 bs.length) false
def Zuq (bs:List Bool):List Bool:=Zq5 bs ++ Zb (Km (Z3 (Zq5 bs))) 16
def ZXa (c d r n:Int) (ch:List (List Int)):List Int × Int :=
 if KH c d r n ch = 0 then (Z3 (Zuq (ZbO (ZPp ch).2.toNat n.toNat (ch.headD []).length ++ Zeo (ZPp ch).1 (WX c d (ZPp ch).2))),0) else ([],KH c d r n ch)
theorem Ztv:∀ l:List Nat,(l.flatMap fun x => Zb x 8).length = 8 * l.length
 | [] => rfl
 | a :: l => by rw [Ho,Xj,Zi,Ztv l,JF]; omega
theorem Zz6 (mode num n:Nat):(Zoc mode num n).length = 32 + 8 * (ZTp num).length + 8 * (ZPn n - 5):=by
 unfold Zoc
 simp only [Xj,Zi,Ztv]
 omega
end Go.Sh
namespace Go.Sh
open Go Go.Proofs
def Ke (l:List Nat):List Bool:=l.flatMap fun x => Zb x 8
theorem XV (l:List Nat):(Ke l).length = 8 * l.length:=by
 unfold Ke
 rw [Zcz (B:=8) fun x _ => Zi x 8]; omega
theorem ZAV (a b:List Nat):Ke (a ++ b) = Ke a ++ Ke b:=by simp [Ke]
theorem W1 {k:Nat} {bs:List Bool} {n w:Nat} (hk:64 < k) (hw:w ≤ 32) (hn:n < 2 ^ w) (hb:bs.length + w < 4294967296) {α:Type} (K:Int × (List Int × Int × Unit) × Unit → Option α) :
  (QB k (wst bs,(n:Int),(w:Int),())).bind K = K (0,wst (bs ++ Zb n w),()):=by
 rw [ZMT k bs n w hk hw hn hb]; rfl
section prog
variable {k:Nat}
theorem Zdx (hk:100 ≤ k) (bs:List Bool) (s:ByteArray) (hs:s.size < k) (hb:bs.length + 8 * s.size < 4000000000):Zbt k (wst bs,s,()) = some ((),wst (bs ++ Ke (WS s)),()):=by
 have hl:=Q0 s
 have key:=ZF (A:=List Bool) (step:=fun L1 => ZaI k L1) (fun i a => (UD s.size,UD i,s,(a.length:Int),Z3 a)) s.data.toList
  (fun rest a => some ((),wst (a ++ Ke (rest.map UInt8.toNat)),())) (fun i a => a.length = bs.length + 8 * i)
  (fun L a _ => by
   simp_all [ZaI,Ke,wst])
  (fun L i hi a hI hL => by
   rw [hl] at hi
   simp only [ZaI]
   rw [Za (KN hi),Za (Xd hi),ZL (by omega)]
   have h256:=(s.data.toList[i]'(by omega)).toNat_lt
   rw [show Jx.wrap (UD (s.data.toList[i]'(by omega)).toNat) = (((s.data.toList[i]'(by omega)).toNat:Nat):Int) from ZG (by simp only [WH]; omega)]
   refine U4 (W1 (k:=k) (bs:=a) (w:=8) (by omega) (by omega) h256 (by omega) _) ?_
   rw [Qa hi (by omega)]
   refine U4 (hL _ (by rw [Xj,Zi,hI]; omega)) ?_
   simp [Ke])
  k 0 bs (by simp) (by omega) (by omega)
 rw [U5] at key
 exact key
theorem ZhB (hk:100 ≤ k) (bs:List Bool) {a b n:Nat} (ha:a < 2) (hb:b < 128) (hn:n < 16777216) (hl:bs.length < 4000000000):Zdy k (wst bs,(a:Int),(b:Int),(n:Int),()) = some ((),wst (bs ++ (Zb a 1 ++ Zb b 7 ++ Zb n 24)),()):=by
 show ZhA k _ = _
 simp only [ZhA]
 refine U4 (W1 (k:=k) (bs:=bs) (w:=1) (by omega) (by omega) ha (by omega) _) ?_
 refine U4 (W1 (k:=k) (bs:=bs ++ Zb a 1) (w:=7) (by omega) (by omega) hb (by rw [Xj,Zi]; omega) _) ?_
 refine U4 (W1 (k:=k) (bs:=bs ++ Zb a 1 ++ Zb b 7) (w:=24) (by omega) (by omega) hn (by simp only [Xj,Zi]; omega) _) ?_
 simp [wst]
theorem ZUE {n i:Nat} (hn:n < 4294967296) (hi:i < 4):Jx.wrap (UD (UH 64 (UP (n:Int) ((2:Int) ^ min (((8 * i:Nat):Int)).toNat 64)) &&& UH 64 (255:Int)).toNat) = ((n / 2 ^ (8 * i) % 256:Nat):Int):=by
 have e1:min (((8 * i:Nat):Int)).toNat 64 = 8 * i:=by omega
 have hd:n / 2 ^ (8 * i) ≤ n:=H3 _ _
 have e:(n / 2 ^ (8 * i)) &&& 255 = n / 2 ^ (8 * i) % 256:=Hq _ 8
 rw [e1,show ((2:Int) ^ (8 * i)) = ((2 ^ (8 * i):Nat):Int) by simp,Zfp,U8,Zem (by omega),show (UH 64 (255:Int)).toNat = 255 from rfl,e]
 rw [show UD (n / 2 ^ (8 * i) % 256) = ((n / 2 ^ (8 * i) % 256:Nat):Int) from rfl,ZrZ (by omega)]
theorem ZPr (N i:Nat):Ke (leN N (i + 1)) = Ke (leN N i) ++ Zb (N / 2 ^ (8 * i) % 256) 8:=by
 rw [ZqL,ZAV]; simp [Ke]
theorem ZE7 (hk:100 ≤ k) (bs:List Bool) {N:Nat} (hN:N < 4294967296) (hl:bs.length < 4000000000):∀ (n i fuel:Nat),i + n = 4 → n < fuel →
  Zg (fun L1 => ZdB k L1) fuel (((8 * i:Nat):Int),(N:Int),(((bs ++ Ke (leN N i)).length:Nat):Int),Z3 (bs ++ Ke (leN N i))) = some ((),wst (bs ++ Ke (leN N 4)),())
 | 0,i,fuel + 1,h1,h2 => by
  obtain rfl:i = 4:=by omega
  rfl
 | n + 1,i,fuel + 1,h1,h2 => by
  rw [Zc]
  simp only [ZdB]
  rw [Za (by omega),Za (by omega)]
  simp only [ZUE hN (show i < 4 by omega)]
  refine U4 (W1 (k:=k) (bs:=bs ++ Ke (leN N i)) (w:=8) (by omega) (by omega) (UY _ (by omega)) (by rw [Xj,XV,QW]; omega) _) ?_
  rw [show Jx.wrap (((8 * i:Nat):Int) + 8) = ((8 * (i + 1):Nat):Int) by rw [ZG (by omega)]; omega,Ju,← ZPr]
  exact ZE7 hk bs hN hl n (i + 1) fuel (by omega) (by omega)
 | 0,_,0,_,h2 => absurd h2 (U1 _)
 | n + 1,_,0,_,h2 => absurd h2 (U2 _)
theorem ZhC (hk:100 ≤ k) (bs:List Bool) {N:Nat} (hN:N < 4294967296) (hl:bs.length < 4000000000):Zjo k (wst bs,(N:Int),()) = some ((),wst (bs ++ Ke (leN N 4)),()):=by
 have:=ZE7 hk bs hN hl 4 0 k rfl (by omega)
 rw [show leN N 0 = [] from rfl,show Ke [] = [] from rfl,Vf] at this
 exact this
def Yv:List Nat → Nat
 | [] => 0
 | x :: l => l.foldl min x
def Yt:List Nat → Nat
 | [] => 0
 | x :: l => l.foldl max x
theorem ZCQ {l:List Nat} (h:l ≠ []) (hk:l.length < k) (hl:l.length < 4294967296):ZvJ k (Zj l,()) = some ((Yv l:Int),()):=by
 match l,h with
 | x :: l,_ =>
  show Zdz k (Zjl k) _ = _
  simp only [Zdz]
  rw [ZC,Zh (by grind),Za (by simp_all)]
  have hc:(Zj (x :: l)).length = l.length + 1:=by rw [ZC]; rfl
  have key:=Q8 (A:=Nat) (step:=fun L1 => ZaJ k L1) (fun i a => (UD i,Zj (x :: l),(a:Int))) (x :: l) (fun rest a => some (((rest.foldl min a:Nat):Int),()))
   (fun L a => by
    grind [ZaJ])
   (fun L i hi a hL => by
    simp only [ZaJ]
    rw [ZC,Za (KN hi),Za (Xd hi)]
    have e:(Zj (x :: l)).getD (UD i).toNat 0 = (((x :: l)[i]:Nat):Int):=by
     rw [show (UD i).toNat = i from rfl,Z1,Xf hi]
    rw [e,Qa hi (by omega)]
    grind) k 1 x (by simp at hk ⊢; omega) (by simp)
  exact key
theorem ZCS {l:List Nat} (h:l ≠ []) (hk:l.length < k) (hl:l.length < 4294967296):ZvK k (Zj l,()) = some ((Yt l:Int),()):=by
 match l,h with
 | x :: l,_ =>
  show ZdA k (Zjn k) _ = _
  simp only [ZdA]
  rw [ZC,Zh (by grind),Za (by simp_all)]
  have hc:(Zj (x :: l)).length = l.length + 1:=by rw [ZC]; rfl
  have key:=Q8 (A:=Nat) (step:=fun L1 => ZaK k L1) (fun i a => (UD i,Zj (x :: l),(a:Int))) (x :: l) (fun rest a => some (((rest.foldl max a:Nat):Int),()))
   (fun L a => by
    grind [ZaK])
   (fun L i hi a hL => by
    simp only [ZaK]
    rw [ZC,Za (KN hi),Za (Xd hi)]
    have e:(Zj (x :: l)).getD (UD i).toNat 0 = (((x :: l)[i]:Nat):Int):=by
     rw [show (UD i).toNat = i from rfl,Z1,Xf hi]
    rw [e,Qa hi (by omega)]
    have e2:(if (a:Int) < (((x :: l)[i]:Nat):Int) then (((x :: l)[i]:Nat):Int) else (a:Int)) = ((max a (x :: l)[i]:Nat):Int):=by
     split <;> omega
    rw [e2]
    exact hL _) k 1 x (by simp at hk ⊢; omega) (by simp)
  exact key
end prog
end Go.Sh
namespace Go.Sh
open Go Go.Proofs
def X2:List Nat:=[102,76,97,67]
def ZcS:List Nat:=[115,104,101,108,108,97,99]
def KU (a b n:Nat):List Bool:=Zb a 1 ++ Zb b 7 ++ Zb n 24
def Za2 (size n i at_:Nat):List Bool:=Zb 0 32 ++ Zb (i * size) 32 ++ Zb 0 32 ++ Zb at_ 32 ++ Zb (min size (n - i * size)) 16
def ZgT (size n:Nat):Nat → Nat → List Nat → List Bool
 | _,_,[] => []
 | i,at_,x :: l => Za2 size n i at_ ++ ZgT size n (i + 1) (at_ + x) l
def ZAk (tags:List ByteArray):List Bool:=tags.flatMap fun t => Ke (leN t.size 4) ++ Ke (WS t)
def ZrA (tags:List ByteArray):Nat:=(tags.map fun t => 4 + t.size).sum
def ZtF (c d r size n small great:Nat):List Bool:=Ke X2 ++ KU 0 0 34 ++ Zb size 16 ++ Zb size 16 ++ Zb small 24 ++ Zb great 24 ++ Zb r 20 ++ Zb (c - 1) 3 ++ Zb (d - 1) 5 ++ Zb 0 4 ++ Zb n 32
def Yl (tags:List ByteArray):List Bool:=KU 1 4 (15 + ZrA tags) ++ Ke (leN 7 4) ++ Ke ZcS ++ Ke (leN tags.length 4) ++ ZAk tags
def Zl3 (size n:Nat) (lens:List Nat):List Bool:=if 1 < lens.length then KU 0 3 (18 * lens.length) ++ ZgT size n 0 0 lens else []
noncomputable def ZfU (d:Nat) (ch:List (List Int)):List Nat:=Zr3 (Za8 (nbD d) ch (ch.getD 0 []).length)
noncomputable def Zei (d r:Nat) (tags:List ByteArray) (ch:List (List Int)) (size:Nat) (lens:List Nat):List Bool :=
 ZtF ch.length d r size (ch.getD 0 []).length (Yv lens) (Yt lens) ++ Ke (ZfU d ch) ++ Zl3 size (ch.getD 0 []).length lens ++ Yl tags
theorem ZgK (a b n:Nat):(KU a b n).length = 32:=by simp [KU,Zi]
theorem ZhR (size n i a:Nat):(Za2 size n i a).length = 144:=by simp [Za2,Zi]
theorem ZPF (s:S4):QA (ZDp s):=by
 intro x hx
 simp only [ZDp,le4,Js,VL,Uu,or_false] at hx
 omega
theorem ZW6 (d:Nat) (ch:List (List Int)):QA (ZfU d ch):=ZPF _
theorem ZfV (d:Nat) (ch:List (List Int)):(ZfU d ch).length = 16:=by simp [ZfU,Zr3,ZDp,le4]
theorem ZjU:∀ (l:List Nat) (a:Nat),l.foldl min a ≤ a
 | [],a => Jj a
 | x :: l,a => Nat.le_trans (ZjU l (min a x)) (Nat.min_le_left a x)
theorem ZF5 {l:List Nat} {B:Nat} (hB:0 < B) (h:∀ x ∈ l,x < B):Yv l < B:=by
 match l,h with
 | [],_ => exact hB
 | x :: l,h => exact He (ZjU l x) (h x (Jl ..))
theorem ZjT {B:Nat}:∀ (l:List Nat) (a:Nat),a < B → (∀ x ∈ l,x < B) → l.foldl max a < B
 | [],a,h,_ => h
 | x :: l,a,h,h2 => ZjT l (max a x) (by simp_all <;> omega) fun y hy => h2 y (Jn _ hy)
theorem ZF3 {l:List Nat} {B:Nat} (hB:0 < B) (h:∀ x ∈ l,x < B):Yt l < B:=by
 match l,h with
 | [],_ => exact hB
 | x :: l,h => exact ZjT l x (h x (Jl ..)) fun y hy => h y (Jn _ hy)
section prog
variable {k:Nat} {c d r:Int} {tags:List ByteArray} {ch:List (List Int)}
def Tg (tags:List ByteArray):Prop:=tags.length ≤ 8 ∧ ∀ t ∈ tags,t.size ≤ 12
theorem ZSe (hk:100 ≤ k) (hT:Tg tags) (bs:List Bool) (hb:bs.length < 1000000000):ZeS k (UD tags.length,(0:Int),tags,(bs.length:Int),Z3 bs) = some (Z3 (bs ++ ZAk tags),()):=by
 have key:=ZF (A:=List Bool) (step:=fun L3 => ZaA k L3) (fun i a => (UD tags.length,UD i,tags,(a.length:Int),Z3 a)) tags
  (fun rest a => some (Z3 (a ++ ZAk rest),())) (fun i a => a.length ≤ bs.length + 200 * i)
  (fun L a hI => by
   simp only [ZaA]
   rw [Zh (ZaZ _)]
   refine U4 (congrArg (fun x => H0 x _) (ZMY k a (by have:=hT.1; omega))) ?_
   simp [ZAk])
  (fun L i hi a hI hL => by
   have ht:=hT.2 _ (Ha hi)
   have ht8:=hT.1
   simp only [ZaA]
   rw [Za (KN hi),Za (Xd hi),ZL hi]
   refine U4 (congrArg (fun x => H0 x _) (ZhC hk a (N:=tags[i].size) (by omega) (by omega))) ?_
   simp only [QJ]
   refine U4 (congrArg (fun x => H0 x _) (Zdx hk (a ++ Ke (leN tags[i].size 4)) tags[i] (by omega) (by rw [Xj,XV,QW]; omega))) ?_
   simp only [QJ]
   rw [Qa hi (by omega)]
   grind [Xj,XV,QW,Zab,ZAk,Ju])
  k 0 bs (by simp) (by have:=hT.1; omega) (by omega)
 rw [U5] at key
 exact key
theorem ZEP (hk:100 ≤ k) (hT:Tg tags) (bs:List Bool) (hb:bs.length < 900000000):Ym k (UD tags.length,(0:Int),tags,(15:Int),(bs.length:Int),Z3 bs,c,d,r,tags,ch) = some (Z3 (bs ++ Yl tags),()):=by
 have h8:=hT.1
 have key:=ZF (A:=Nat) (step:=fun L2 => Zaz k (ZeS k) L2) (fun i a => (UD tags.length,UD i,tags,(a:Int),(bs.length:Int),Z3 bs,c,d,r,tags,ch)) tags
  (fun rest a => some (Z3 (bs ++ (KU 1 4 (a + ZrA rest) ++ Ke (leN 7 4) ++ Ke ZcS ++ Ke (leN tags.length 4) ++ ZAk tags)),())) (fun i a => a ≤ 15 + 16 * i)
  (fun L a hI => by
   simp only [Zaz]
   rw [Zh (ZaZ _)]
   refine U4 (congrArg (fun x => H0 x _) (ZhB hk bs (a:=1) (b:=4) (n:=a) (by omega) (by omega) (by omega) (by omega))) ?_
   simp only [QJ]
   refine U4 (congrArg (fun x => H0 x _) (ZhC hk (bs ++ KU 1 4 a) (N:=7) (by omega) (by rw [Xj,ZgK]; omega))) ?_
   simp only [QJ]
   have hv:(UR #[115,104,101,108,108,97,99]).size = 7:=rfl
   have hn:WS (UR #[115,104,101,108,108,97,99]) = ZcS:=rfl
   refine U4 (congrArg (fun x => H0 x _) (Zdx hk (bs ++ KU 1 4 a ++ Ke (leN 7 4)) (UR #[115,104,101,108,108,97,99]) (by rw [hv]; omega) (by simp only [Xj,ZgK,XV,QW,hv]; omega))) ?_
   rw [hn]
   simp only [QJ]
   refine U4 (congrArg (fun x => H0 x _) (ZhC hk (bs ++ KU 1 4 a ++ Ke (leN 7 4) ++ Ke ZcS) (N:=tags.length) (by omega) (by simp only [Xj,ZgK,XV,QW,ZcS,JF,HV]; omega))) ?_
   simp only [QJ]
   refine U4 (ZSe hk hT (bs ++ KU 1 4 a ++ Ke (leN 7 4) ++ Ke ZcS ++ Ke (leN tags.length 4)) (by simp only [Xj,ZgK,XV,QW,ZcS,JF,HV]; omega)) ?_
   simp [ZrA,Ju])
  (fun L i hi a hI hL => by
   have ht:=hT.2 _ (Ha hi)
   simp only [Zaz]
   rw [Za (KN hi),Za (Xd hi),ZL hi,Qa hi (by omega)]
   have e:Jx.wrap ((a:Int) + Jx.wrap ((4:Int) + UD tags[i].size)) = ((a + (4 + tags[i].size):Nat):Int):=by
    simp only [WH]
    rw [ZG (n:=(4:Int) + (tags[i].size:Int)) (by omega),ZG (by omega)]; omega
   rw [e]
   refine U4 (hL _ (by omega)) ?_
   simp only [ZrA,JR,List.sum_cons,Vj])
  k 0 15 (by omega) (by omega) (by omega)
 rw [U5] at key
 exact key
theorem ZSd (hk:1000 ≤ k) (hT:Tg tags) {size n:Nat} (hs:16 ≤ size ∧ size ≤ 512) (hn:(ch.getD 0 []).length = n) (hn4:n ≤ 4096) {lens:List Nat} (hl:lens.length ≤ 300) (hB:∀ x ∈ lens,x < 65536) (hi:∀ i,i < lens.length → i * size ≤ n) (bs:List Bool) (hb:bs.length < 100000000) :
  ZeR k (UD lens.length,(0:Int),Zj lens,(size:Int),(0:Int),(bs.length:Int),Z3 bs,c,d,r,tags,ch) = some (Z3 (bs ++ ZgT size n 0 0 lens ++ Yl tags),()):=by
 have key:=ZF (A:=List Bool × Nat) (step:=fun L1 => Zay k (Ym k) L1) (fun i a => (UD lens.length,UD i,Zj lens,(size:Int),(a.2:Int),(a.1.length:Int),Z3 a.1,c,d,r,tags,ch)) lens
  (fun rest a => some (Z3 (a.1 ++ ZgT size n (lens.length - rest.length) a.2 rest ++ Yl tags),())) (fun i a => a.1.length ≤ bs.length + 144 * i ∧ a.2 ≤ 65536 * i)
  (fun L a hI => by
   simp only [Zay]
   rw [Zh (ZaZ _)]
   refine U4 (ZEP (by omega) hT a.1 (by omega)) ?_
   simp [ZgT])
  (fun L i hlt a hI hL => by
   obtain ⟨B,at_⟩:=a
   simp only at hI hL ⊢
   have hx:=hB _ (Ha hlt)
   have hin:=hi i hlt
   have him:i * size < 4294967296:=by omega
   simp only [Zay]
   rw [ZC,Za (KN hlt),Za (Xd hlt)]
   refine U4 (W1 (k:=k) (bs:=B) (n:=0) (w:=32) (by omega) (by omega) (by omega) (by omega) _) ?_
   have e1:Jx.wrap (UD i * (size:Int)) = ((i * size:Nat):Int):=by
    rw [show UD i * (size:Int) = ((i * size:Nat):Int) by simp,ZrZ (by omega)]
   rw [e1]
   refine U4 (W1 (k:=k) (bs:=B ++ Zb 0 32) (w:=32) (by omega) (by omega) him (by simp only [Xj,Zi]; omega) _) ?_
   refine U4 (W1 (k:=k) (bs:=B ++ Zb 0 32 ++ Zb (i * size) 32) (n:=0) (w:=32) (by omega) (by omega) (by omega) (by simp only [Xj,Zi]; omega) _) ?_
   refine U4 (W1 (k:=k) (bs:=B ++ Zb 0 32 ++ Zb (i * size) 32 ++ Zb 0 32) (n:=at_) (w:=32) (by omega) (by omega) (by omega) (by simp only [Xj,Zi]; omega) _) ?_
   rw [Zaq,hn]
   simp only [QJ]
   have e2:(if Jx.wrap (UD n - ((i * size:Nat):Int)) < (size:Int) then Jx.wrap (UD n - ((i * size:Nat):Int)) else (size:Int)) = ((min size (n - i * size):Nat):Int):=by
    simp only [WH]
    generalize i * size = q at *
    rw [ZG (by omega)]
    split <;> omega
   rw [e2]
   refine U4 (W1 (k:=k) (bs:=B ++ Zb 0 32 ++ Zb (i * size) 32 ++ Zb 0 32 ++ Zb at_ 32) (w:=16) (by omega) (by omega) (by omega) (by simp only [Xj,Zi]; omega) _) ?_
   have e3:(Zj lens).getD (UD i).toNat 0 = ((lens[i]:Nat):Int):=by
    rw [show (UD i).toNat = i from rfl,Z1,Xf hlt]
   have e4:Jx.wrap ((at_:Int) + ((lens[i]:Nat):Int)) = ((at_ + lens[i]:Nat):Int):=by rw [ZG (by omega)]; omega
   rw [e3,e4,Qa hlt (by omega)]
   refine U4 (hL (B ++ Za2 size n i at_,at_ + lens[i]) ⟨by rw [Xj,ZhR]; omega,by simp only; omega⟩ |> fun h => by
    simp only [Za2,← Ju] at h ⊢
    exact h) ?_
   have e5:lens.length - (lens[i] :: lens.drop (i + 1)).length = i:=by grind
   have e6:lens.length - (lens.drop (i + 1)).length = i + 1:=by rw [Vh]; omega
   simp only [e5,e6,ZgT,Za2,Ju])
  k 0 (bs,0) ⟨by simp,by simp⟩ (by omega) (by omega)
 rw [U5] at key
 simp only [H8] at key
 exact key
end prog
end Go.Sh
namespace Go.Sh
open Go Go.Proofs
theorem ZAj (size n:Nat):∀ (l:List Nat) (i a:Nat),(ZgT size n i a l).length = 144 * l.length
 | [],_,_ => rfl
 | x :: l,i,a => by simp only [ZgT,Xj,ZhR,ZAj size n l,JF]; omega
theorem Good0.tg {tags:List ByteArray} (h:tags.all Zh0 = true) (h8:tags.length ≤ 8):Tg tags :=
 ⟨h8,fun t ht => by
  have:=Ve.1 h t ht
  unfold Zh0 at this
  simp_all⟩
structure Lens (size n:Nat) (lens:List Nat):Prop where
 sz:16 ≤ size ∧ size ≤ 512
 len:lens.length ≤ 300
 small:∀ x ∈ lens,x < 65536
 in_:∀ i,i < lens.length → i * size ≤ n
theorem ZUr {k:Nat} (hk:1000 ≤ k) {size small great r c1 d1:Nat} (hs:size < 65536) (h1:small < 16777216) (h2:great < 16777216) (h3:r < 1048576) (h4:c1 < 8) (h5:d1 < 32) (B:List Bool) (hB:B.length ≤ 1000) {α:Type} (K:Int × (List Int × Int × Unit) × Unit → Option α) :
  ((QB k (wst B,(size:Int),16,())).bind fun y => (QB k ((y.2.1.1,y.2.1.2.1,()),(size:Int),16,())).bind fun y => (QB k ((y.2.1.1,y.2.1.2.1,()),(small:Int),24,())).bind fun y => (QB k ((y.2.1.1,y.2.1.2.1,()),(great:Int),24,())).bind fun y => (QB k ((y.2.1.1,y.2.1.2.1,()),(r:Int),20,())).bind fun y => (QB k ((y.2.1.1,y.2.1.2.1,()),(c1:Int),3,())).bind fun y => (QB k ((y.2.1.1,y.2.1.2.1,()),(d1:Int),5,())).bind fun y => (QB k ((y.2.1.1,y.2.1.2.1,()),0,4,())).bind K) =
   K (0,wst (B ++ Zb size 16 ++ Zb size 16 ++ Zb small 24 ++ Zb great 24 ++ Zb r 20 ++ Zb c1 3 ++ Zb d1 5 ++ Zb 0 4),()):=by
 refine U4 (W1 (k:=k) (bs:=B) (w:=16) (by omega) (by omega) hs (by omega) _) ?_
 refine U4 (W1 (k:=k) (bs:=B ++ Zb size 16) (w:=16) (by omega) (by omega) hs (by simp only [Xj,Zi]; omega) _) ?_
 refine U4 (W1 (k:=k) (bs:=B ++ Zb size 16 ++ Zb size 16) (w:=24) (by omega) (by omega) h1 (by simp only [Xj,Zi]; omega) _) ?_
 refine U4 (W1 (k:=k) (bs:=B ++ Zb size 16 ++ Zb size 16 ++ Zb small 24) (w:=24) (by omega) (by omega) h2 (by simp only [Xj,Zi]; omega) _) ?_
 refine U4 (W1 (k:=k) (bs:=B ++ Zb size 16 ++ Zb size 16 ++ Zb small 24 ++ Zb great 24) (w:=20) (by omega) (by omega) h3 (by simp only [Xj,Zi]; omega) _) ?_
 refine U4 (W1 (k:=k) (bs:=B ++ Zb size 16 ++ Zb size 16 ++ Zb small 24 ++ Zb great 24 ++ Zb r 20) (w:=3) (by omega) (by omega) h4 (by simp only [Xj,Zi]; omega) _) ?_
 refine U4 (W1 (k:=k) (bs:=B ++ Zb size 16 ++ Zb size 16 ++ Zb small 24 ++ Zb great 24 ++ Zb r 20 ++ Zb c1 3) (w:=5) (by omega) (by omega) h5 (by simp only [Xj,Zi]; omega) _) ?_
 exact W1 (k:=k) (bs:=B ++ Zb size 16 ++ Zb size 16 ++ Zb small 24 ++ Zb great 24 ++ Zb r 20 ++ Zb c1 3 ++ Zb d1 5) (n:=0) (w:=4) (by omega) (by omega) (by omega) (by simp only [Xj,Zi]; omega) K
theorem ZCv {k:Nat} (hk:16777216 ≤ k) {d r:Nat} {tags:List ByteArray} {ch:List (List Int)} (h0:chk (ch.length:Int) (d:Int) (r:Int) tags ch = 0) (hS:Small tags ch) {size:Nat} {lens:List Nat} (hL:Lens size (ch.getD 0 []).length lens) :
  Zvw k ((((ch.length:Int),(d:Int),(r:Int),()),tags,ch,()),(size:Int),Zj lens,()) = some (Z3 (Zei d r tags ch size lens),()):=by
 obtain ⟨hg,hshape,-,htv,ht8⟩:=Zep h0
 have hT:=Good0.tg htv ht8
 have hsh:=of_decide_eq_true hshape
 have hs:=hL.sz
 have hn4:=hg.n4
 generalize hn:(ch.getD 0 []).length = n at *
 have hmin:Yv lens < 65536:=ZF5 (by omega) hL.small
 have hmax:Yt lens < 65536:=ZF3 (by omega) hL.small
 show Zdt k _ _ _ = _
 simp only [Zdt]
 refine U4 (congrArg (fun x => H0 x _) (ZMR k)) ?_
 simp only [QJ]
 have hmg:WS (UR #[102,76,97,67]) = X2:=rfl
 refine U4 (congrArg (fun x => H0 x _) (Zdx (by omega) [] (UR #[102,76,97,67]) (by rw [show (UR #[102,76,97,67]).size = 4 from rfl]; omega) (by rw [show (UR #[102,76,97,67]).size = 4 from rfl]; simp))) ?_
 rw [hmg,VS]
 simp only [QJ]
 refine U4 (congrArg (fun x => H0 x _) (ZhB (by omega) (Ke X2) (a:=0) (b:=0) (n:=34) (by omega) (by omega) (by omega) (by rw [XV]; simp [X2]))) ?_
 simp only [QJ]
 rw [show (Zb 0 1 ++ Zb 0 7 ++ Zb 34 24) = KU 0 0 34 from rfl]
 have hA:(Ke X2 ++ KU 0 0 34).length = 64:=by rfl
 generalize hAe:Ke X2 ++ KU 0 0 34 = A at hA
 have e1:Jx.wrap ((ch.length:Int) - 1) = ((ch.length - 1:Nat):Int):=by rw [ZG (by omega)]; omega
 have e2:Jx.wrap ((d:Int) - 1) = ((d - 1:Nat):Int):=by rw [ZG (by omega)]; omega
 have e3:Jx.wrap ((18:Int) * UD (Zj lens).length) = ((18 * lens.length:Nat):Int):=by
  have:=hL.len
  rw [ZC,ZG (by simp only [WH]; omega)]; simp
 rw [ZC] at e3
 have nl:=hL.len
 have tail:∀ (C:List Bool),C.length ≤ 1000 →
   ((QB k (wst C,(n:Int),32,())).bind fun y => (ZiC k ((((ch.length:Int),(d:Int),(r:Int),()),tags,ch,()),())).bind fun y_4 => (Zbt k ((y.2.1.1,y.2.1.2.1,()),y_4.1.1,())).bind fun y => bif decide ((1:Int) < UD lens.length) then (Zdy k ((y.2.1.1,y.2.1.2.1,()),0,3,Jx.wrap ((18:Int) * UD lens.length),())).bind fun y => ZeR k (UD lens.length,(0:Int),Zj lens,(size:Int),(0:Int),y.2.1.2.1,y.2.1.1,(ch.length:Int),(d:Int),(r:Int),tags,ch) else Ym k (UD tags.length,(0:Int),tags,(15:Int),y.2.1.2.1,y.2.1.1,(ch.length:Int),(d:Int),(r:Int),tags,ch)) =
    some (Z3 (C ++ Zb n 32 ++ Ke (ZfU d ch) ++ Zl3 size n lens ++ Yl tags),()):=by
  intro C hC
  refine U4 (W1 (k:=k) (bs:=C) (w:=32) (by omega) (by omega) (by omega) (by omega) _) ?_
  rw [ZBR hk hS,if_pos h0]
  simp only [QJ]
  have hst:(WS (Wa (Zr3 (Za8 (nbD d) ch (ch.getD 0 []).length)))) = ZfU d ch:=ZhL (ZPF _)
  have hsz:(Wa (Zr3 (Za8 (nbD d) ch (ch.getD 0 []).length))).size = 16:=by rw [← Zab,hst,ZfV]
  refine U4 (congrArg (fun x => H0 x _) (Zdx (by omega) (C ++ Zb n 32) (Wa (Zr3 (Za8 (nbD d) ch (ch.getD 0 []).length))) (by omega) (by simp only [Xj,Zi]; omega))) ?_
  simp only [QJ]
  rw [hst,e3]
  by_cases h1:1 < lens.length
  ·rw [Za (by simp only [WH]; omega)]
   refine U4 (congrArg (fun x => H0 x _) (ZhB (by omega) (C ++ Zb n 32 ++ Ke (ZfU d ch)) (a:=0) (b:=3) (n:=18 * lens.length) (by omega) (by omega) (by omega) (by simp only [Xj,Zi,XV,ZfV]; omega))) ?_
   simp only [QJ]
   refine U4 (ZSd (by omega) hT hs hn hn4 nl hL.small hL.in_ (C ++ Zb n 32 ++ Ke (ZfU d ch) ++ (Zb 0 1 ++ Zb 3 7 ++ Zb (18 * lens.length) 24)) (by simp only [Xj,Zi,XV,ZfV]; omega)) ?_
   simp only [Zl3,if_pos h1,KU,Ju]
  ·rw [Zh (by simp only [WH]; omega)]
   refine U4 (ZEP (by omega) hT (C ++ Zb n 32 ++ Ke (ZfU d ch)) (by simp only [Xj,Zi,XV,ZfV]; omega)) ?_
   simp only [Zl3,if_neg h1,Vf]
 have fin:A ++ Zb size 16 ++ Zb size 16 ++ Zb (Yv lens) 24 ++ Zb (Yt lens) 24 ++ Zb r 20 ++ Zb (ch.length - 1) 3 ++ Zb (d - 1) 5 ++ Zb 0 4 ++ Zb n 32 ++ Ke (ZfU d ch) ++ Zl3 size n lens ++ Yl tags = Zei d r tags ch size lens:=by
  unfold Zei ZtF
  rw [hn,hAe]
 have hC:(A ++ Zb size 16 ++ Zb size 16 ++ Zb (Yv lens) 24 ++ Zb (Yt lens) 24 ++ Zb r 20 ++ Zb (ch.length - 1) 3 ++ Zb (d - 1) 5 ++ Zb 0 4).length ≤ 1000:=by
  simp only [Xj,Zi,hA]; omega
 rw [ZC,e1,e2]
 by_cases hl0:0 < lens.length
 ·have hne:lens ≠ []:=by intro h; rw [h] at hl0; simp at hl0
  rw [Za (by simp only [WH]; omega),ZCQ hne (by omega) (by omega)]
  simp only [QJ]
  rw [ZCS hne (by omega) (by omega)]
  simp only [QJ]
  refine U4 (ZUr (by omega) (by omega) (by omega) (by omega) (by omega) (by omega) (by omega) A (by omega) _) ?_
  rw [Zaq,hn]
  grind
 ·have hne:lens = []:=List.length_eq_zero_iff.1 (by omega)
  rw [Zh (by simp only [WH]; omega)]
  have hm0:Yv lens = 0:=by rw [hne]; rfl
  have hx0:Yt lens = 0:=by rw [hne]; rfl
  rw [hm0,hx0] at fin hC
  refine U4 (ZUr (small:=0) (great:=0) (by omega) (by omega) (by omega) (by omega) (by omega) (by omega) (by omega) A (by omega) _) ?_
  rw [Zaq,hn]
  grind
end Go.Sh
namespace Go.Sh
open Go Go.Proofs
def ZA (b:List Int):List Bool:=b.flatMap fun x => Zb x.toNat 8
theorem Qc:∀ b:List Int,(ZA b).length = 8 * b.length
 | [] => rfl
 | a :: b => by
  have:=Qc b
  unfold ZA at this ⊢
  rw [Ho,Xj,Zi,this,JF]; omega
theorem ZcW (a:Int) (b:List Int):ZA (a :: b) = Zb a.toNat 8 ++ ZA b:=by unfold ZA; rw [Ho]
theorem Zhf:∀ (b:List Int) (i:Nat),(ZA b).drop (8 * i) = ZA (b.drop i)
 | b,0 => rfl
 | [],i + 1 => by simp [ZA]
 | a :: b,i + 1 => by
  rw [List.drop_succ_cons,ZcW,H9,Zi,UF (by rw [Zi]; omega),VS,show 8 * (i + 1) - 8 = 8 * i by omega]
  exact Zhf b i
theorem Zoz (n:Nat):∀ (w i:Nat) (h:i < (Zb n w).length),(Zb n w)[i] = n.testBit (w - 1 - i)
 | w + 1,0,_ => by simp [Zb]
 | w + 1,i + 1,h => by
  simp only [Zb,Et]
  rw [Zoz n w i (by simpa [Zb] using h)]
  congr 1
  omega
theorem Zkv {b:List Int} {i:Nat} (h:i < 8 * b.length):(ZA b)[i]'(by rw [Qc]; exact h) = (b[i / 8]'(by omega)).toNat.testBit (7 - i % 8):=by
 have h1:i / 8 < b.length:=by omega
 have h2:(ZA b)[i]'(by rw [Qc]; exact h) = (ZA (b.drop (i / 8)))[i % 8]'(by rw [Qc,Vh]; omega):=by
  simp only [← Zhf,List.getElem_drop]
  congr 1
  omega
 rw [h2]
 have h3:b.drop (i / 8) = b[i / 8] :: b.drop (i / 8 + 1):=Uk h1
 simp only [h3,ZcW]
 rw [Es (by rw [Zi]; omega),Zoz]
def Zu (b:List Int) (r:List Bool):Nat:=8 * b.length - r.length
abbrev XB (b:List Int) (r:List Bool):List Int × Int × Unit:=(b,((Zu b r:Nat):Int),())
def Zf (b:List Int) (r:List Bool):Prop:=r <:+ ZA b
theorem Zf.len {b:List Int} {r:List Bool} (h:Zf b r):r.length ≤ 8 * b.length:=by
 have:=h.length_le
 rwa [Qc] at this
theorem Zf.eq {b:List Int} {r:List Bool} (h:Zf b r):r = (ZA b).drop (Zu b r):=by
 have:=List.suffix_iff_eq_drop.1 h
 unfold Zu
 rwa [Qc] at this
theorem Zf.drop {b:List Int} {r:List Bool} (h:Zf b r) (i:Nat):Zf b (r.drop i):=(List.drop_suffix i r).trans h
theorem Zf.get {b:List Int} {r:List Bool} (h:Zf b r) {i:Nat} (hi:i < r.length):(ZA b)[Zu b r + i]'(by have:=h.len; rw [Qc]; unfold Zu; omega) = r[i]:=by
 have:=h.eq
 grind
theorem QX {b:List Int} {r:List Bool} (h:Zf b r) {i:Nat} (hi:i ≤ r.length):Zu b (r.drop i) = Zu b r + i:=by
 have:=h.len
 unfold Zu
 rw [Vh]
 omega
theorem Zka (b:List Int):Zf b (ZA b):=List.suffix_refl _
theorem ZXn (v:Fin 256) (r:Fin 8):Jx.wrap (UD (UH 64 (Jx.wrap (UP (v.val:Int) ((2:Int) ^ min (7 - r.val) 8))) &&& UH 64 1).toNat) = if v.val.testBit (7 - r.val) then 1 else 0:=by
 revert v r
 decide +kernel
theorem Zqn (k:Nat) {b:List Int} (hb:Zo b = true) (hn:b.length < 536870912) (at_:Int) {i:Nat} (hi:i < 8 * b.length) :
  Zzu k ((b,at_,()),(i:Int),()) = some (if (ZA b)[i]'(by rw [Qc]; exact hi) then 1 else 0,(b,at_,()),()):=by
 show Zqm k _ = _
 simp only [Zqm]
 rw [ZrC,ZP8,ZG (n:=((i / 8:Nat):Int)) (by omega)]
 have h1:i / 8 < b.length:=by omega
 rw [Za (by simp only [WH]; omega)]
 have e1:Jx.wrap ((7:Int) - ((i % 8:Nat):Int)) = ((7 - i % 8:Nat):Int):=by rw [ZG (by omega)]; omega
 rw [e1,Za (by omega),Zkv hi]
 obtain ⟨x,hx,hxe⟩:=QM hb h1
 have hg:b.getD (((i / 8:Nat):Int)).toNat 0 = (x:Int):=by rw [tNc,Xf h1,hxe]
 rw [hg,hxe,tNc,tNc]
 have:=ZXn ⟨x,hx⟩ ⟨i % 8,UY _ (by omega)⟩
 simp only at this
 rw [this]
def Qk (l:List Bool):Nat:=l.foldl (fun a b => 2 * a + b.toNat) 0
theorem Zbf:∀ (l:List Bool) (a:Nat),l.foldl (fun a b => 2 * a + b.toNat) a = a * 2 ^ l.length + Qk l
 | [],a => by simp [Qk]
 | x :: l,a => by
  unfold Qk
  rw [HT,HT,Zbf l (2 * a + x.toNat),Zbf l (2 * 0 + x.toNat),JF,H1]
  grind
theorem WL:∀ (l:List Bool),Qk l < 2 ^ l.length
 | [] => by simp [Qk]
 | x :: l => by
  have:=WL l
  unfold Qk
  rw [HT,Zbf,JF,H1]
  cases x <;> simp <;> omega
theorem Xa (l m:List Bool):Qk (l ++ m) = Qk l * 2 ^ m.length + Qk m:=by
 unfold Qk
 rw [Eg,Zbf]
 rfl
theorem Kc (n:Nat):∀ w,Qk (Zb n w) = n % 2 ^ w
 | 0 => by simp [Zb,Qk,Em]
 | w + 1 => by
  have:=Kc n w
  rw [show Zb n (w + 1) = [n.testBit w] ++ Zb n w from rfl,Xa,Zi,this,Ez,Ed]
  have h2:n / 2 ^ w % 2 < 2:=UY _ (by omega)
  generalize n / 2 ^ w % 2 = m at h2
  match m,h2 with
  | 0,_ => simp [Qk]
  | 1,_ => simp [Qk]; omega
def Zn (w:Nat) (r:List Bool):Nat × Int × List Bool:=if w ≤ r.length then (Qk (r.take w),0,r.drop w) else (0,10,r)
theorem ZD {b:List Int} {r:List Bool} (h:Zf b r) (w:Nat):Zf b (Zn w r).2.2:=by
 unfold Zn
 split
 ·exact h.drop w
 ·exact h
theorem Q3 (w:Nat) (r:List Bool):(Zn w r).1 < 2 ^ w:=by
 unfold Zn
 split
 ·rename_i h
  have:=WL (r.take w)
  simp_all
 ·exact Hs (by omega)
theorem ZHg (k:Nat) {b:List Int} (hb:Zo b = true) (hn:b.length < 536870912):∀ (w m i v:Nat) (r:List Bool),Zf b r → w ≤ r.length → w < m → i + w ≤ 32 → v < 2 ^ i →
  Zg (fun L1 => Zb1 k L1) m (((i + w:Nat):Int),(i:Int),(v:Int),b,((Zu b r:Nat):Int)) = some (((((r.take w).foldl (fun a b => 2 * a + b.toNat) v:Nat):Int),0,()),XB b (r.drop w),()):=by
 intro w
 induction w with
 | zero =>
  intro m i v r hr hw hm hi hv
  obtain ⟨m,rfl⟩:=Zm hm
  rw [Zc]
  grind [Zb1]
 | succ w ih =>
  intro m i v r hr hw hm hi hv
  obtain ⟨m,rfl⟩:=Zm (show 0 < m by omega)
  rw [Zc]
  simp only [Zb1]
  have hl:=hr.len
  have hp:Zu b r < 8 * b.length:=by unfold Zu; omega
  rw [Za (by omega),Zqn k hb hn _ hp]
  simp only [QJ]
  have hg:=hr.get (i:=0) (by omega)
  simp only [JH] at hg
  rw [hg]
  have hv2:v < 2 ^ 32:=VZ hv (Hf (by omega) (by omega))
  have hcons:r = r[0] :: r.drop 1:=by
   have:=Uk (l:=r) (i:=0) (by omega)
   rwa [U5] at this
  have e1:Jx.wrap (UD (UH 64 (Jx.wrap ((v:Int) * 2)) ||| UH 64 (if r[0] = true then 1 else 0)).toNat) = ((2 * v + r[0].toNat:Nat):Int):=by
   have h1:Jx.wrap ((v:Int) * 2) = ((v * 2:Nat):Int):=by rw [ZG (by omega)]; omega
   have h2:(if r[0] = true then (1:Int) else 0) = ((r[0].toNat:Nat):Int):=by cases r[0] <;> rfl
   have hb1:r[0].toNat < 2 ^ 1:=by cases r[0] <;> decide
   rw [h1,h2,orN (by omega) (by omega)]
   have:=Ec hb1 v
   rw [Hy] at this
   rw [show v * 2 = v * 2 ^ 1 from rfl,← this,ZG (by omega)]
   omega
  rw [e1]
  have e2:Jx.wrap ((i:Int) + 1) = ((i + 1:Nat):Int):=by rw [ZG (by omega)]; rfl
  have e3:Jx.wrap (((Zu b r:Nat):Int) + 1) = ((Zu b (r.drop 1):Nat):Int):=by
   rw [QX hr (by omega),ZG (by omega)]; rfl
  rw [e2,e3]
  have hp2:2 * v + r[0].toNat < 2 ^ (i + 1):=by
   grind
  have:=ih m (i + 1) (2 * v + r[0].toNat) (r.drop 1) (hr.drop 1) (by rw [Vh]; omega) (by omega) (by omega) hp2
  grind
theorem XE (k:Nat) {b:List Int} (hb:Zo b = true) (hn:b.length < 536870912) {r:List Bool} (hr:Zf b r) {w:Nat} (hw:w ≤ 32) (hk:100 < k) :
  YL k (XB b r,(w:Int),()) = some (((((Zn w r).1:Nat):Int),(Zn w r).2.1,()),XB b (Zn w r).2.2,()):=by
 show Zgb k (Zm7 k) _ = _
 simp only [Zgb]
 rw [Zzn k w hw]
 simp only [QJ,cond_false]
 have hl:=hr.len
 have e1:ZBp k ((b,((Zu b r:Nat):Int),()),()) = some ((r.length:Int),(b,((Zu b r:Nat):Int),()),()):=by
  show Zlb k _ = _
  simp only [Zlb]
  have:Jx.wrap (Jx.wrap ((8:Int) * UD b.length) - ((Zu b r:Nat):Int)) = (r.length:Int):=by
   unfold Zu
   simp only [WH]
   rw [ZG (n:=(8:Int) * (b.length:Int)) (by omega),ZG (by omega)]
   omega
  rw [this]
 rw [e1]
 simp only [QJ]
 unfold Zn
 by_cases h:w ≤ r.length
 ·rw [Zh (by omega),if_pos h]
  have:=ZHg k hb hn w k 0 0 r hr h (by omega) (by omega) (by simp)
  rw [Ua] at this
  exact this
 grind
def ZW3 (w v:Nat):Int:=if 0 < w ∧ 2 ^ (w - 1) ≤ v then (v:Int) - 2 ^ w else v
def ZY (w:Nat) (r:List Bool):Int × Int × List Bool:=if w ≤ r.length then (ZW3 w (Qk (r.take w)),0,r.drop w) else (0,10,r)
theorem Xv {b:List Int} {r:List Bool} (h:Zf b r) (w:Nat):Zf b (ZY w r).2.2:=by
 unfold ZY
 split
 ·exact h.drop w
 ·exact h
theorem ZsP (k:Nat) {b:List Int} (hb:Zo b = true) (hn:b.length < 536870912) {r:List Bool} (hr:Zf b r) {w:Nat} (hw:w ≤ 32) (hk:100 < k) :
  Zu1 k (XB b r,(w:Int),()) = some (((ZY w r).1,(ZY w r).2.1,()),XB b (ZY w r).2.2,()):=by
 show Zlc k _ = _
 simp only [Zlc]
 rw [XE k hb hn hr hw hk]
 simp only [QJ]
 unfold Zn ZY
 by_cases h:w ≤ r.length
 ·rw [if_pos h,if_pos h]
  simp only
  rw [show ((0:Int) == 0) = true from rfl]
  simp only [cond_true]
  have hlt:=WL (r.take w)
  rw [Jz,Ht h] at hlt
  generalize Qk (r.take w) = v at hlt
  unfold ZW3
  by_cases h0:0 < w
  ·have e1:Jx.wrap ((w:Int) - 1) = ((w - 1:Nat):Int):=by rw [ZG (by omega)]; omega
   rw [Za (by omega),e1,Za (by omega),tNc,Ht (by omega),Zmt,Zw]
   have hpw:2 ^ w = 2 * 2 ^ (w - 1):=by rw [show w = (w - 1) + 1 by omega,H1,Nat.add_sub_cancel]; omega
   have hq:v / 2 ^ (w - 1) = if 2 ^ (w - 1) ≤ v then 1 else 0:=by
    split
    ·rename_i hle
     rw [Nat.div_eq_iff (Hs (by omega))]
     omega
    simp_all
   rw [hq]
   have h32:2 ^ w ≤ 2 ^ 32:=Hf (by omega) hw
   by_cases hle:2 ^ (w - 1) ≤ v
   ·rw [if_pos hle,Za (show ((1:Nat):Int) = 1 from rfl),if_pos ⟨h0,hle⟩,Za (by omega),Ht (by omega:((w:Int)).toNat ≤ 64),tNc,H2,QV]
    generalize 2 ^ w = Q at h32 hlt ⊢
    rw [ZG (n:=(Q:Int)) (by omega),ZG (by omega)]
   grind
  simp_all
 ·rw [if_neg h,if_neg h]
  rfl
end Go.Sh
namespace Go.Sh
open Go Go.Proofs
def Zha:Nat → List Bool → Option (Nat × List Bool)
 | _,[] => none
 | n,true :: r => some (n,r)
 | n,false :: r => Zha (n + 1) r
def YI (r:List Bool):Nat × Int × List Bool:=match Zha 0 r with
 | some (n,r') => (n,0,r')
 | none => (0,10,r)
theorem ZdY:∀ (r:List Bool) (n m:Nat) (r':List Bool),Zha n r = some (m,r') → r' <:+ r ∧ m + 1 + r'.length = n + r.length
 | true :: r,n,m,r',h => by
  grind [Zha,VE.injEq,Prod.mk.injEq]
 | false :: r,n,m,r',h => by
  obtain ⟨h1,h2⟩:=ZdY r (n + 1) m r' h
  grind
theorem KG {b:List Int} {r:List Bool} (h:Zf b r):Zf b (YI r).2.2:=by
 unfold YI
 split
 ·rename_i n r' hu
  exact (ZdY r 0 n r' hu).1.trans h
 ·exact h
theorem Zxi {r:List Bool}:(YI r).1 ≤ r.length:=by
 unfold YI
 split
 ·rename_i n r' hu
  have:=(ZdY r 0 n r' hu).2
  simp only
  omega
 ·exact Hu _
theorem ZHn (k:Nat) {b:List Int} (hb:Zo b = true) (hn:b.length < 536870912) {r0:List Bool} (hr0:Zf b r0):∀ (r:List Bool) (m n:Nat),Zf b r → r.length < m → n + r.length = r0.length →
  Zg (fun L1 => Zb4 k L1) m (((Zu b r:Nat):Int),b,((Zu b r0:Nat):Int)) = some (((match Zha n r with | some (n,r') => (n:Int) | none => 0),(match Zha n r with | some (n,r') => 0 | none => 10),()),XB b (match Zha n r with | some (n,r') => r' | none => r0),()):=by
 intro r
 induction r with
 | nil =>
  intro m n hr hm hl
  obtain ⟨m,rfl⟩:=Zm hm
  rw [Zc]
  simp only [Zb4]
  have e1:Jx.wrap ((8:Int) * UD b.length) = ((8 * b.length:Nat):Int):=by simp only [WH]; rw [ZG (by omega)]; omega
  rw [e1,Zh (by unfold Zu; simp)]
  rfl
 | cons x r ih =>
  intro m n hr hm hl
  obtain ⟨m,rfl⟩:=Zm (show 0 < m by omega)
  rw [Zc]
  simp only [Zb4]
  have e1:Jx.wrap ((8:Int) * UD b.length) = ((8 * b.length:Nat):Int):=by simp only [WH]; rw [ZG (by omega)]; omega
  have hlen:=hr.len
  have hlen0:=hr0.len
  simp only [JF] at hlen hl hm
  have hp:Zu b (x :: r) < 8 * b.length:=by unfold Zu; simp only [JF]; omega
  rw [e1,Za (by omega),Zqn k hb hn _ hp]
  simp only [QJ]
  have hg:=hr.get (i:=0) (by simp)
  simp only [JH,Eh] at hg
  rw [hg]
  have e2:Jx.wrap (((Zu b (x :: r):Nat):Int) + 1) = ((Zu b r:Nat):Int):=by
   have:=QX hr (i:=1) (by simp)
   rw [List.drop_one,List.tail_cons] at this
   rw [this,ZG (by omega)]; rfl
  have hr':Zf b r:=by have:=hr.drop 1; simp_all
  rw [e2,Zw]
  cases x with
  | true =>
   rw [if_pos rfl,Za rfl]
   have e3:Jx.wrap (((Zu b (true :: r):Nat):Int) - ((Zu b r0:Nat):Int)) = (n:Int):=by
    unfold Zu at hp ⊢
    simp only [JF] at hp ⊢
    rw [ZG (by omega)]
    omega
   rw [e3]
   rfl
  | false =>
   rw [if_neg (by simp),Zh (by omega)]
   exact ih m (n + 1) hr' (by omega) (by omega)
theorem ZsA (k:Nat) {b:List Int} (hb:Zo b = true) (hn:b.length < 536870912) {r:List Bool} (hr:Zf b r) (hk:8 * b.length < k) :
  Zo8 k (XB b r,()) = some (((((YI r).1:Nat):Int),(YI r).2.1,()),XB b (YI r).2.2,()):=by
 show Zgd k (Znb k) _ = _
 simp only [Zgd]
 have hl:=hr.len
 refine (ZHn k hb hn hr r k 0 hr (by omega) (by omega)).trans ?_
 unfold YI
 grind
def alS (r:List Bool):Int × List Bool:=if (r.take (r.length % 8)).all (fun x => !x) then (0,r.drop (r.length % 8)) else (2,r)
theorem Zxo {b:List Int} {r:List Bool} (h:Zf b r):Zf b (alS r).2:=by
 unfold alS
 split
 ·exact h.drop _
 ·exact h
theorem up8 {n:Nat} (h:n < 4294967296):Jx.wrap (UD (UH 64 (Jx.wrap ((n:Int) + 7)) &&& ~~~UH 64 7).toNat) = (((n + 7) / 8 * 8:Nat):Int):=by
 rw [ZG (n:=(n:Int) + 7) (by omega),show (n:Int) + 7 = ((n + 7:Nat):Int) from rfl]
 have e:(UH 64 ((n + 7:Nat):Int) &&& ~~~UH 64 7).toNat = (n + 7) / 8 * 8:=by
  have h1:UH 64 ((n + 7:Nat):Int) &&& ~~~UH 64 7 = ((Ee 64 (n + 7)) >>> 3) <<< 3:=by
   rw [BitVec.ofInt_natCast,show ~~~UH 64 7 = Ee 64 18446744073709551608 from by decide]
   apply BitVec.eq_of_getLsbD_eq
   intro i hi
   simp only [BitVec.getLsbD_and,BitVec.getLsbD_shiftLeft,BitVec.getLsbD_ushiftRight]
   have hm:=(by decide +kernel:∀ j:Fin 64,(Ee 64 18446744073709551608).getLsbD j.val = decide (3 ≤ j.val)) ⟨i,hi⟩
   grind
  simp_all <;> omega
 rw [e,ZG (by simp only [WH]; omega)]
 rfl
theorem ZNq (k:Nat) {b:List Int} (hb:Zo b = true) (hn:b.length < 536870912) {r0:List Bool}:∀ (p m:Nat) (r:List Bool),Zf b r → p ≤ r.length → p < m →
  Zg (fun L1 => Ze4 k L1) m (((Zu b r:Nat):Int),((Zu b r + p:Nat):Int),b,((Zu b r0:Nat):Int)) = some (if (r.take p).all (fun x => !x) then (0,XB b (r.drop p),()) else (2,XB b r0,())):=by
 intro p
 induction p with
 | zero =>
  intro m r hr hp hm
  obtain ⟨m,rfl⟩:=Zm hm
  rw [Zc]
  grind [Ze4]
 | succ p ih =>
  intro m r hr hp hm
  obtain ⟨m,rfl⟩:=Zm (show 0 < m by omega)
  rw [Zc]
  simp only [Ze4]
  have hlen:=hr.len
  have hpos:Zu b r < 8 * b.length:=by unfold Zu; omega
  rw [Za (by omega),Zqn k hb hn _ hpos]
  simp only [QJ]
  have hg:=hr.get (i:=0) (by omega)
  simp only [JH] at hg
  rw [hg,Zw]
  have hcons:r = r[0] :: r.drop 1:=by
   have:=Uk (l:=r) (i:=0) (by omega)
   rwa [U5] at this
  have e5:r.take (p + 1) = r[0] :: (r.drop 1).take p:=by
   conv => lhs; rw [hcons]
   rfl
  rw [e5,UA]
  cases hx:r[0] with
  | true =>
   rw [if_pos rfl,Za rfl]
   simp
  | false =>
   rw [if_neg (by simp),Zh (by omega)]
   have e3:Jx.wrap (((Zu b r:Nat):Int) + 1) = ((Zu b (r.drop 1):Nat):Int):=by
    rw [QX hr (by omega),ZG (by omega)]; rfl
   have e4:Zu b r + (p + 1) = Zu b (r.drop 1) + p:=by rw [QX hr (by omega)]; omega
   rw [e3,e4,ih m (r.drop 1) (hr.drop 1) (by rw [Vh]; omega) (by omega)]
   grind
theorem ZNr (k:Nat) {b:List Int} (hb:Zo b = true) (hn:b.length < 536870912) {r:List Bool} (hr:Zf b r) (hk:10 < k) :
  ZNo k (XB b r,()) = some ((alS r).1,XB b (alS r).2,()):=by
 show Zjy k (Zv0 k) _ = _
 simp only [Zjy]
 have hlen:=hr.len
 have hp:Zu b r ≤ 8 * b.length:=by unfold Zu; omega
 rw [up8 (by omega)]
 have e:(Zu b r + 7) / 8 * 8 = Zu b r + r.length % 8:=by unfold Zu; omega
 rw [e]
 refine (ZNq k hb hn (r.length % 8) k r hr (Eb _ _) (by omega)).trans ?_
 unfold alS
 split <;> rfl
def Zoe (f:Nat):Int:=if f % 2 = 1 then -((f:Int) + 1) / 2 else (f:Int) / 2
theorem ZIj (k:Nat) {f:Nat} (h:f < 4294967296):ZBD k ((f:Int),()) = some ((Zoe f,0,()),()):=by
 show Zlm k _ = _
 simp only [Zlm]
 rw [Zh (by omega),Zh (by omega),show (1:Int) = ((1:Nat):Int) from rfl,ZGA (by omega) (by omega),HW,ZG (n:=((f % 2:Nat):Int)) (by omega)]
 have hd:((f:Nat):Int).fdiv 2 = ((f / 2:Nat):Int):=by grind
 rw [hd]
 unfold Zoe
 by_cases h1:f % 2 = 1
 ·rw [if_pos h1,h1,show Jx.wrap ((0:Int) - ((1:Nat):Int)) = -1 from rfl,show UH 64 (-1) = BitVec.allOnes 64 from by decide,BitVec.xor_allOnes,BitVec.toNat_not,ZXq (by omega)]
  have e2:Jx.wrap (UD (2 ^ 64 - 1 - f / 2)) = -((f:Int) + 1) / 2:=by
   simp only [WH]
   rw [IntKind.wrap_i64]
   omega
  rw [e2]
 ·rw [if_neg h1,show f % 2 = 0 by omega,show Jx.wrap ((0:Int) - ((0:Nat):Int)) = 0 from rfl,show UH 64 0 = 0#64 from rfl,BitVec.xor_zero,ZXq (by omega)]
  rw [ZG (by simp only [WH]; omega)]
  rfl
def Zbe (kk:Nat) (r:List Bool):Int × Int × List Bool :=
 if (YI r).2.1 ≠ 0 then (0,(YI r).2.1,(YI r).2.2)
 else if (Zn kk (YI r).2.2).2.1 ≠ 0 then (0,(Zn kk (YI r).2.2).2.1,(Zn kk (YI r).2.2).2.2)
 else if 4294967295 ≤ (YI r).1 * 2 ^ kk + (Zn kk (YI r).2.2).1 then (0,12,(Zn kk (YI r).2.2).2.2)
 else (Zoe ((YI r).1 * 2 ^ kk + (Zn kk (YI r).2.2).1),0,(Zn kk (YI r).2.2).2.2)
theorem ZlL {b:List Int} {r:List Bool} (h:Zf b r) (kk:Nat):Zf b (Zbe kk r).2.2:=by
 unfold Zbe
 split
 ·exact KG h
 ·split
  ·exact ZD (KG h) kk
  ·split
   ·exact ZD (KG h) kk
   ·exact ZD (KG h) kk
theorem ZW4 {q d kk:Nat} (hq:q < 4294967296) (hk:kk ≤ 30) (hd:d < 2 ^ kk):Jx.wrap (UD (UH 64 (Jx.wrap ((q:Int) * (2:Int) ^ min ((kk:Int)).toNat 64)) ||| UH 64 (d:Int)).toNat) = ((q * 2 ^ kk + d:Nat):Int):=by
 have h1:2 ^ kk ≤ 2 ^ 30:=Hf (by omega) hk
 have h2:q * 2 ^ kk ≤ 4294967295 * 1073741824:=J3 (by omega) (by omega)
 rw [tNc,Ht (by omega),QV,← HK]
 have h3:=Ec hd q
 rw [Hy] at h3
 rw [ZG (n:=((q * 2 ^ kk:Nat):Int)) (by generalize q * 2 ^ kk = X at h2; omega),orN (by generalize q * 2 ^ kk = X at h2; omega) (by omega),← h3]
 generalize q * 2 ^ kk = X at h2 ⊢
 rw [ZG (by omega)]
theorem ZIg (k:Nat) {b:List Int} (hb:Zo b = true) (hn:b.length < 268435456) {r:List Bool} (hr:Zf b r) {kk:Nat} (hkk:kk ≤ 30) (hk:8 * b.length + 100 < k) :
  ZBy k (XB b r,(kk:Int),()) = some (((Zbe kk r).1,(Zbe kk r).2.1,()),XB b (Zbe kk r).2.2,()):=by
 show Zlj k _ = _
 simp only [Zlj]
 rw [ZsA k hb (by omega) hr (by omega)]
 simp only [QJ]
 unfold Zbe
 have hu:=Zxi (r:=r)
 have hl:=hr.len
 rw [Zk]
 by_cases h1:(YI r).2.1 = 0
 ·rw [Zh (by simpa using h1),if_neg (by simpa using h1),XE k hb (by omega) (KG hr) (by omega) (by omega)]
  simp only [QJ]
  rw [Zk]
  by_cases h2:(Zn kk (YI r).2.2).2.1 = 0
  ·rw [Zh (by simpa using h2),if_neg (by simpa using h2),Za (by omega),ZW4 (by omega) hkk (Q3 kk _)]
   by_cases h3:4294967295 ≤ (YI r).1 * 2 ^ kk + (Zn kk (YI r).2.2).1
   ·rw [Za (by omega),if_pos h3]
   ·rw [Zh (by omega),if_neg h3,ZIj k (by omega)]
    rfl
  ·rw [Za h2,if_pos h2]
 ·rw [Za h1,if_pos h1]
end Go.Sh
namespace Go.Sh
open Go Go.Proofs
abbrev Zl6:=List Bool → Int × Int × List Bool
def Qp (one:Zl6):Nat → List Bool → List Int → List Int × Int × List Bool
 | 0,r,acc => (acc,0,r)
 | n + 1,r,acc => if (one r).2.1 ≠ 0 then ([],(one r).2.1,(one r).2.2) else Qp one n (one r).2.2 (acc ++ [(one r).1])
theorem ZaY {b:List Int} {one:Zl6} (h1:∀ r,Zf b r → Zf b (one r).2.2):∀ (n:Nat) (r:List Bool) (acc:List Int),Zf b r → Zf b (Qp one n r acc).2.2
 | 0,r,acc,h => h
 | n + 1,r,acc,h => by
  unfold Qp
  split
  ·exact h1 r h
  ·exact ZaY h1 n _ _ (h1 r h)
theorem ZcC {one:Zl6}:∀ (n:Nat) (r:List Bool) (acc:List Int),(Qp one n r acc).1.length ≤ acc.length + n
 | 0,r,acc => Jj _
 | n + 1,r,acc => by
  unfold Qp
  split
  ·simp
  ·have:=ZcC (one:=one) n (one r).2.2 (acc ++ [(one r).1])
   grind
theorem ZRo (k:Nat) (L2:Int × Int × List Int × Int × Int × List Int → Option ((List Int × Int × Unit) × (List Int × Int × Unit) × Unit)) {b:List Int} (hb:Zo b = true) (hn:b.length < 268435456) (hk:8 * b.length + 100 < k) {w:Nat} (hw:w ≤ 32) :
  ∀ (d m i:Nat) (r:List Bool) (acc:List Int),Zf b r → d < m → i + d ≤ 4096 → acc.length ≤ i →
  Zg (fun L1 => Zce k L1) m (((i + d:Nat):Int),(i:Int),b,((Zu b r:Nat):Int),(w:Int),acc) = some (((Qp (ZY w) d r acc).1,(Qp (ZY w) d r acc).2.1,()),XB b (Qp (ZY w) d r acc).2.2,()):=by
 intro d
 induction d with
 | zero =>
  intro m i r acc hr hm hi ha
  obtain ⟨m,rfl⟩:=Zm hm
  rw [Zc]
  simp only [Zce]
  rw [Zh (by omega)]
  rfl
 | succ d ih =>
  intro m i r acc hr hm hi ha
  obtain ⟨m,rfl⟩:=Zm (show 0 < m by omega)
  rw [Zc]
  simp only [Zce]
  have e:ZBz k (((b,((Zu b r:Nat):Int),()),()),((w:Int),()),()) = some (((ZY w r).1,(ZY w r).2.1,()),((XB b (ZY w r).2.2),()),((w:Int),()),()):=by
   show Zlk k _ = _
   simp only [Zlk]
   rw [ZsP k hb (by omega) hr hw (by omega)]
   rfl
  rw [Za (by omega),e]
  simp only [QJ]
  unfold Qp
  rw [Zk]
  by_cases h:(ZY w r).2.1 = 0
  ·rw [Zh (by simpa using h),Za (by grind),if_neg (by simpa using h)]
   have e2:Jx.wrap ((i:Int) + 1) = ((i + 1:Nat):Int):=by rw [ZG (by omega)]; rfl
   rw [e2]
   have:=ih m (i + 1) (ZY w r).2.2 (acc ++ [(ZY w r).1]) (Xv hr w) (by omega) (by omega) (by simp; omega)
   grind
  ·rw [Za h,if_pos h]
theorem ZLh (k:Nat) {b:List Int} (hb:Zo b = true) (hn:b.length < 268435456) (hk:8 * b.length + 100 < k) {w:Nat} (hw:w ≤ 30) :
  ∀ (d m i:Nat) (r:List Bool) (acc:List Int),Zf b r → d < m → i + d ≤ 4096 → acc.length ≤ i →
  Zg (fun L2 => Zcf k L2) m (((i + d:Nat):Int),(i:Int),b,((Zu b r:Nat):Int),(w:Int),acc) = some (((Qp (Zbe w) d r acc).1,(Qp (Zbe w) d r acc).2.1,()),XB b (Qp (Zbe w) d r acc).2.2,()):=by
 intro d
 induction d with
 | zero =>
  intro m i r acc hr hm hi ha
  obtain ⟨m,rfl⟩:=Zm hm
  rw [Zc]
  simp only [Zcf]
  rw [Zh (by omega)]
  rfl
 | succ d ih =>
  intro m i r acc hr hm hi ha
  obtain ⟨m,rfl⟩:=Zm (show 0 < m by omega)
  rw [Zc]
  simp only [Zcf]
  have e:ZBw k (((b,((Zu b r:Nat):Int),()),()),((w:Int),()),()) = some (((Zbe w r).1,(Zbe w r).2.1,()),((XB b (Zbe w r).2.2),()),((w:Int),()),()):=by
   show Zli k _ = _
   simp only [Zli]
   rw [ZIg k hb (by omega) hr hw (by omega)]
   rfl
  rw [Za (by omega),e]
  simp only [QJ]
  unfold Qp
  rw [Zk]
  by_cases h:(Zbe w r).2.1 = 0
  ·rw [Zh (by simpa using h),Za (by grind),if_neg (by simpa using h)]
   have e2:Jx.wrap ((i:Int) + 1) = ((i + 1:Nat):Int):=by rw [ZG (by omega)]; rfl
   rw [e2]
   have:=ih m (i + 1) (Zbe w r).2.2 (acc ++ [(Zbe w r).1]) (ZlL hr w) (by omega) (by omega) (by simp; omega)
   grind
  ·rw [Za h,if_pos h]
def Q6 (m count : Nat) (r : List Bool) : List Int × Int × List Bool :=
  if (Zn (4 + m) r).2.1 ≠ 0 then ([], (Zn (4 + m) r).2.1, (Zn (4 + m) r).2.2)
  else if (Zn (4 + m) r).1 = Zeb m then
    (if (Zn 5 (Zn (4 + m) r).2.2).2.1 ≠ 0 then ([], (Zn 5 (Zn (4 + m) r).2.2).2.1, (Zn 5 (Zn (4 + m) r).2.2).2.2)
     else Qp (ZY (Zn 5 (Zn (4 + m) r).2.2).1) count (Zn 5 (Zn (4 + m) r).2.2).2.2 [])
  else Qp (Zbe (Zn (4 + m) r).1) count (Zn (4 + m) r).2.2 []
theorem ZdN {b:List Int} {r:List Bool} (h:Zf b r) (m count:Nat):Zf b (Q6 m count r).2.2:=by
 unfold Q6
 split
 ·exact ZD h _
 ·split
  ·split
   ·exact ZD (ZD h _) _
   ·exact ZaY (fun r h => Xv h _) _ _ _ (ZD (ZD h _) _)
  ·exact ZaY (fun r h => ZlL h _) _ _ _ (ZD h _)
theorem ZlO (m count:Nat) (r:List Bool):(Q6 m count r).1.length ≤ count:=by
 unfold Q6
 split
 ·simp
 ·split
  ·split
   ·simp
   ·have:=ZcC (one:=ZY (Zn 5 (Zn (4 + m) r).2.2).1) count (Zn 5 (Zn (4 + m) r).2.2).2.2 []
    simpa using this
  ·have:=ZcC (one:=Zbe (Zn (4 + m) r).1) count (Zn (4 + m) r).2.2 []
   simpa using this
theorem ZH4 (k:Nat) {b:List Int} (hb:Zo b = true) (hn:b.length < 268435456) {r:List Bool} (hr:Zf b r) (hk:8 * b.length + 5000 < k) {m count:Nat} (hm:m = 0 ∨ m = 1) (hc:count ≤ 4096) :
  Zpi k (XB b r,(m:Int),(count:Int),()) = some (((Q6 m count r).1,(Q6 m count r).2.1,()),XB b (Q6 m count r).2.2,()):=by
 show Zgs k (ZnG k) (Ziu k) _ = _
 simp only [Zgs]
 have hmi:(m:Int) = 0 ∨ (m:Int) = 1:=by omega
 rw [ZYS,ZG6 k hmi]
 simp only [QJ]
 have e4:(4:Int) + (m:Int) = ((4 + m:Nat):Int):=rfl
 rw [e4,XE k hb (by omega) hr (by omega) (by omega)]
 simp only [QJ]
 unfold Q6
 have hlt:=Q3 (4 + m) r
 rw [Zk]
 by_cases h1:(Zn (4 + m) r).2.1 = 0
 ·rw [Zh (by simpa using h1),if_neg (by simpa using h1),ZYT,ZKi k hmi]
  simp only [QJ]
  rw [Zw]
  by_cases h2:(Zn (4 + m) r).1 = Zeb m
  ·rw [Za (by omega),if_pos h2,show (5:Int) = ((5:Nat):Int) from rfl,XE k hb (by omega) (ZD hr _) (by omega) (by omega)]
   simp only [QJ]
   rw [Zk]
   by_cases h3:(Zn 5 (Zn (4 + m) r).2.2).2.1 = 0
   ·rw [Zh (by simpa using h3),if_neg (by simpa using h3)]
    have hlt5:=Q3 5 (Zn (4 + m) r).2.2
    have:=ZRo k (Ziu k) hb hn (by omega) (w:=(Zn 5 (Zn (4 + m) r).2.2).1) (by omega) count k 0 (Zn 5 (Zn (4 + m) r).2.2).2.2 [] (ZD (ZD hr _) _) (by omega) (by omega) (by simp)
    rw [Ua] at this
    exact this
   ·rw [Za h3,if_pos h3]
  ·rw [Zh (by omega),if_neg h2]
   have h30:(Zn (4 + m) r).1 ≤ 30:=by
    rcases hm with rfl | rfl
    ·omega
    ·have h32:(Zn (4 + 1) r).1 < 32:=hlt
     have:Zeb (1:Nat) = 31:=rfl
     omega
   have:=ZLh k hb hn (by omega) h30 count k 0 (Zn (4 + m) r).2.2 [] (ZD hr _) (by omega) (by omega) (by simp)
   rw [Ua] at this
   exact this
 ·rw [Za h1,if_pos h1]
def Qz (m n o p:Nat):Nat → Nat → List Bool → List Int → List Int × Int × List Bool
 | 0,_,r,acc => (acc,0,r)
 | d + 1,i,r,acc => if (Q6 m (n / 2 ^ p - if i = 0 then o else 0) r).2.1 ≠ 0 then ([],(Q6 m (n / 2 ^ p - if i = 0 then o else 0) r).2.1,(Q6 m (n / 2 ^ p - if i = 0 then o else 0) r).2.2)
  else Qz m n o p d (i + 1) (Q6 m (n / 2 ^ p - if i = 0 then o else 0) r).2.2 (acc ++ (Q6 m (n / 2 ^ p - if i = 0 then o else 0) r).1)
theorem Zia {b:List Int} {m n o p:Nat}:∀ (d i:Nat) (r:List Bool) (acc:List Int),Zf b r → Zf b (Qz m n o p d i r acc).2.2
 | 0,_,r,acc,h => h
 | d + 1,i,r,acc,h => by
  unfold Qz
  generalize (n / 2 ^ p - if i = 0 then o else 0) = cnt
  split
  ·exact ZdN h _ _
  ·exact Zia d (i + 1) _ _ (ZdN h _ _)
theorem ZHt (k:Nat) {b:List Int} (hb:Zo b = true) (hn:b.length < 268435456) (hk:8 * b.length + 5000 < k) {m n o p:Nat} (hm:m = 0 ∨ m = 1) (hnn:n ≤ 512) (hp:p ≤ 15) (ho:o ≤ n / 2 ^ p) :
  ∀ (d j i:Nat) (r:List Bool) (acc:List Int),Zf b r → d < j → i + d ≤ 32768 → acc.length ≤ i * 512 →
  Zg (fun L1 => K9 k L1) j (((i + d:Nat):Int),(i:Int),(n:Int),(p:Int),(o:Int),(m:Int),b,((Zu b r:Nat):Int),acc) = some (((Qz m n o p d i r acc).1,(Qz m n o p d i r acc).2.1,()),XB b (Qz m n o p d i r acc).2.2,()):=by
 intro d
 have hdiv:n / 2 ^ p ≤ n:=H3 _ _
 induction d with
 | zero =>
  intro j i r acc hr hj hi ha
  obtain ⟨j,rfl⟩:=Zm hj
  rw [Zc]
  simp only [K9]
  rw [Zh (by omega)]
  rfl
 | succ d ih =>
  intro j i r acc hr hj hi ha
  obtain ⟨j,rfl⟩:=Zm (show 0 < j by omega)
  rw [Zc]
  simp only [K9,tNc,Ht (show p ≤ 64 by omega),Zmt]
  have e2:Jx.wrap ((i:Int) + 1) = ((i + 1:Nat):Int):=by rw [ZG (by omega)]; rfl
  have e3:Jx.wrap (((n / 2 ^ p:Nat):Int) - (o:Int)) = ((n / 2 ^ p - o:Nat):Int):=by generalize n / 2 ^ p = q at hdiv ho ⊢; rw [ZG (by omega)]; omega
  have fin:∀ cnt:Nat,cnt = (n / 2 ^ p - if i = 0 then o else 0) → ((Zpi k ((b,((Zu b r:Nat):Int),()),(m:Int),(cnt:Int),())).bind fun y => bif y.1.2.1 != (0:Int) then some (([],y.1.2.1,()),(y.2.1.1,y.2.1.2.1,()),()) else bif decide (acc.length + UO y.1.1 < (2147483648:Nat)) then Zg (fun L1 => K9 k L1) j (((i + (d + 1):Nat):Int),Jx.wrap ((i:Int) + 1),(n:Int),(p:Int),(o:Int),(m:Int),y.2.1.1,y.2.1.2.1,acc ++ y.1.1) else none) =
    some (((Qz m n o p (d + 1) i r acc).1,(Qz m n o p (d + 1) i r acc).2.1,()),XB b (Qz m n o p (d + 1) i r acc).2.2,()):=by
   intro cnt hcnt
   have hcl:cnt ≤ 512:=by omega
   refine (Zd (ZH4 k hb hn hr hk hm (by omega)) _).trans ?_
   simp only
   unfold Qz
   rw [← hcnt,Zk]
   have hlen:=ZlO m cnt r
   by_cases h:(Q6 m cnt r).2.1 = 0
   ·rw [Zh (by simpa using h),Za (by omega),if_neg (by simpa using h),e2]
    have:=ih j (i + 1) (Q6 m cnt r).2.2 (acc ++ (Q6 m cnt r).1) (ZdN hr _ _) (by omega) (by omega) (by rw [Xj]; omega)
    grind
   ·rw [Za h,if_pos h]
  grind
def XA (n o:Nat) (r:List Bool):List Int × Int × List Bool :=
 if ZbI n o = false then ([],1,r)
 else if (Zn 2 r).2.1 ≠ 0 then ([],(Zn 2 r).2.1,(Zn 2 r).2.2)
 else if 1 < (Zn 2 r).1 then ([],2,(Zn 2 r).2.2)
 else if (Zn 4 (Zn 2 r).2.2).2.1 ≠ 0 then ([],(Zn 4 (Zn 2 r).2.2).2.1,(Zn 4 (Zn 2 r).2.2).2.2)
 else if Zft n o (Zn 4 (Zn 2 r).2.2).1 = false then ([],2,(Zn 4 (Zn 2 r).2.2).2.2)
 else Qz (Zn 2 r).1 n o (Zn 4 (Zn 2 r).2.2).1 (2 ^ (Zn 4 (Zn 2 r).2.2).1) 0 (Zn 4 (Zn 2 r).2.2).2.2 []
theorem Zrl {b:List Int} {r:List Bool} (h:Zf b r) (n o:Nat):Zf b (XA n o r).2.2:=by
 unfold XA
 repeat' split
 all_goals first | exact h | exact ZD h _ | exact ZD (ZD h _) _ | exact Zia _ _ _ _ (ZD (ZD h _) _)
theorem ZHu (k:Nat) {b:List Int} (hb:Zo b = true) (hn:b.length < 268435456) {r:List Bool} (hr:Zf b r) (hk:8 * b.length + 50000 < k) (n o:Nat) :
  ZeA k (XB b r,(n:Int),(o:Int),()) = some (((XA n o r).1,(XA n o r).2.1,()),XB b (XA n o r).2.2,()):=by
 show Zgh k (Znj k) _ = _
 simp only [Zgh]
 rw [ZHL]
 simp only [QJ]
 unfold XA
 cases hbl:ZbI n o with
 | false => rfl
 | true =>
  have hbb:=of_decide_eq_true hbl
  simp only [HC,cond_false,H5,if_false]
  have g2:YL k (XB b r,2,()) = _:=XE k hb (by omega) hr (w:=2) (by omega) (by omega)
  rw [g2]
  simp only [QJ]
  rw [Zk]
  have hlt2:=Q3 2 r
  by_cases h1:(Zn 2 r).2.1 = 0
  ·rw [Zh (by simpa using h1),if_neg (by simpa using h1)]
   by_cases h2:1 < (Zn 2 r).1
   ·rw [Za (by omega),if_pos h2]
   ·have g4:YL k (XB b (Zn 2 r).2.2,4,()) = _:=XE k hb (by omega) (ZD hr _) (w:=4) (by omega) (by omega)
    rw [Zh (by omega),if_neg h2,g4]
    simp only [QJ]
    rw [Zk]
    have hlt4:=Q3 4 (Zn 2 r).2.2
    by_cases h3:(Zn 4 (Zn 2 r).2.2).2.1 = 0
    ·rw [Zh (by simpa using h3),if_neg (by simpa using h3),ZHO k (by omega) (by omega)]
     simp only [QJ]
     cases hf:Zft n o (Zn 4 (Zn 2 r).2.2).1 with
     | false => rfl
     | true =>
      simp only [HC,cond_false,H5,if_false]
      have hfit:=hf
      unfold Zft at hfit
      simp only [Jh,decide_eq_true_eq] at hfit
      rw [Za (by omega),ZdM (by omega)]
      have h15:2 ^ (Zn 4 (Zn 2 r).2.2).1 ≤ 2 ^ 15:=Hf (by omega) (by omega)
      have:=ZHt k hb hn (by omega) (m:=(Zn 2 r).1) (n:=n) (o:=o) (p:=(Zn 4 (Zn 2 r).2.2).1) (by omega) (by omega) (by omega) hfit.2 (2 ^ (Zn 4 (Zn 2 r).2.2).1) k 0 (Zn 4 (Zn 2 r).2.2).2.2 [] (ZD (ZD hr _) _) (by omega) (by omega) (by simp)
      rw [Ua] at this
      exact this
    ·rw [Za h3,if_pos h3]
  ·rw [Za h1,if_pos h1]
theorem ZYZ:∀ n:Fin 513,Zlh 0 (1,(n.val:Int),()) = some ((0,(n.val:Int),()),()):=by decide +kernel
theorem ZLf (k:Nat) {n:Nat} (hn:n ≤ 512):ZBq k (1,(n:Int),()) = some ((0,(n:Int),()),()):=by
 have:=ZYZ ⟨n,by omega⟩
 simp only at this
 show (Zlh 0 (1,(n:Int),())).bind _ = _
 rw [this]
 rfl
theorem ZHp (k:Nat) (x:Int) {n:Nat} (hn:n ≤ 512):∀ (d m i:Nat),i + d = n → d < m → 1 ≤ i →
  Zg (fun L1 => Zgf k L1) m ((i:Int),Jd i x ++ Jd d 0) = some (Jd n x,()):=by
 intro d
 induction d using Nat.strongRecOn with
 | ind d ih =>
  intro m i hi hm h1
  obtain ⟨m,rfl⟩:=Zm (show 0 < m by omega)
  rw [Zc]
  simp only [Zgf]
  have hlen:(Jd i x ++ Jd d (0:Int)).length = n:=by simp; omega
  rw [hlen]
  by_cases h0:d = 0
  ·simp_all
  ·rw [Za (by simp only [WH]; omega),Za (by simp only [WH]; omega),Za (by simp only [WH]; omega)]
   simp only [tNc,show (UD n).toNat = n from rfl]
   rw [Za (by omega),Za (by omega),U5]
   have ht:(Jd i x ++ Jd d (0:Int)).take i = Jd i x:=by
    simp_all
   rw [ht,Uq]
   have e1:Jx.wrap ((i:Int) + UD (min i (n - i))) = ((i + min i (n - i):Nat):Int):=by simp only [WH]; rw [ZG (by omega)]; omega
   have e2:Jd i x ++ List.take (n - i) (Jd i x) ++ List.drop (i + min i (n - i)) (Jd i x ++ Jd d (0:Int)) = Jd (i + min i (n - i)) x ++ Jd (d - min i (n - i)) 0:=by
    rw [List.take_replicate,List.replicate_append_replicate,H9]
    simp
    omega
   rw [e1,e2]
   exact ih (d - min i (n - i)) (by omega) m _ (by omega) (by omega) (by omega)
theorem ZHq (k:Nat) (x:Int) {n:Nat} (h1:1 ≤ n) (hn:n ≤ 512) (hk:1000 < k):ZBc k ([x],(n:Int),()) = some (Jd n x,()):=by
 show Zge k (Zne k) _ = _
 simp only [Zge]
 have e1:UI.wrap (UD [x].length) = 1:=rfl
 have e2:UI.wrap (n:Int) = (n:Int):=by rw [IntKind.wrap_u64]; omega
 rw [Zh (by omega),e1,e2,ZLf k hn]
 simp only [QJ]
 have e3:Jx.wrap (n:Int) = (n:Int):=by rw [ZG (by omega)]
 rw [Zh (by omega),Zh (by omega),e3,Za (by omega)]
 simp only [tNc,Uq,Ur,Nat.sub_zero,List.take_zero,VS,Ua]
 rw [Ht h1,El (by simp; omega),List.drop_replicate]
 exact ZHp k x hn (n - 1) k 1 (by omega) (by omega) (by omega)
end Go.Sh
namespace Go.Sh
open Go Go.Proofs
def Zg3 (c:List Int) (sh:Int):List Int → List Int → List Int × Int
 | [],out => (out,0)
 | x :: xs,out => if Wi (x + ZcH c sh out) = true then ([],12) else Zg3 c sh xs (out ++ [x + ZcH c sh out])
def Yy (c:List Int) (sh:Int) (warm res:List Int):List Int × Int :=
 if KO c sh = false then ([],2) else if warm.length ≠ c.length then ([],1) else if warm.any Wi = true then ([],12) else if res.any Wi = true then ([],12) else Zg3 c sh res warm
theorem ZtU {c:List Int} {sh:Int}:∀ (xs out:List Int),(Zg3 c sh xs out).1.length ≤ out.length + xs.length
 | [],out => Jj _
 | x :: xs,out => by
  unfold Zg3
  split
  ·simp
  ·have:=ZtU (c:=c) (sh:=sh) xs (out ++ [x + ZcH c sh out])
   grind
theorem ZmJ {x:Int} (h:Wi x = false):QU x:=by
 unfold Wi at h
 rw [decide_eq_false_iff_not] at h
 unfold QU
 omega
theorem ZHw (k:Nat) {c warm res:List Int} {sh:Int} (hk:1000 < k) (hc:c.length ≤ 8192) (hw:warm.length ≤ 900) (hr:res.length ≤ 900) :
  ZeB k ((c,sh,()),warm,res,()) = some (((Yy c sh warm res).1,(Yy c sh warm res).2,()),()):=by
 show Zgi k (Znl k) _ = _
 simp only [Zgi]
 rw [ZH5 k c sh (by omega)]
 simp only [QJ]
 unfold Yy
 cases hm:KO c sh with
 | false => rfl
 | true =>
  simp only [if_true,H5,if_false]
  rw [show ((0:Int) != 0) = false from rfl]
  simp only [cond_false]
  rw [Zk]
  by_cases hl:warm.length = c.length
  ·rw [Zh (by simp [hl]),if_neg (by simpa using hl),Zmm k warm (by omega) (by omega)]
   simp only [QJ]
   cases hw1:warm.any Wi with
   | true => rfl
   | false =>
    simp only [cond_false,JJ,if_false]
    rw [Zmm k res (by omega) (by omega)]
    simp only [QJ]
    cases hr1:res.any Wi with
    | true => rfl
    | false =>
     simp only [cond_false,JJ,if_false]
     have ecl:ZuS k (warm,()) = some (warm,()):=by show Yk _ = _; unfold Yk; rw [Za (by simp only; omega)]
     rw [ecl]
     simp only [QJ]
     obtain ⟨h8,hsh,hco⟩:=ZfE hm
     have:=ZF (A:=List Int) (R:=(List Int × Int × Unit) × Unit) (step:=fun L1 => Zb7 k L1)
      (fun i out => (UD res.length,UD i,res,c,sh,out)) res
      (fun l' out => some (((Zg3 c sh l' out).1,(Zg3 c sh l' out).2,()),()))
      (fun i out => c.length ≤ out.length ∧ out.length = warm.length + i ∧ ∀ x ∈ out,QU x)
      (fun L out _ => by simp only [Zb7]; rw [Zh (ZaZ _)]; rfl)
      (fun L i hi out ho hL => by
       simp only [Zb7]
       rw [Za (KN hi),Za (Xd hi),ZH7 k (by omega) h8 ho.1 (by omega) hsh hco ho.2.2,ZL hi]
       simp only [QJ]
       have hx:=ZcE hr1 res[i] (Ha hi)
       have hp:=ZmG (sh:=sh) hco ho.2.2 h8
       unfold QU at hx
       rw [ZG (n:=res[i] + ZcH c sh out) (by omega),ZsH]
       simp only [QJ]
       unfold Zg3
       cases hwi:Wi (res[i] + ZcH c sh out) with
       | true => rfl
       | false =>
        simp only [cond_false,JJ,if_false]
        rw [Za (by grind),Qa hi (by omega)]
        exact hL _ ⟨by simp; omega,by simp; omega,fun x hx => by
         rcases Js.1 hx with h | h
         ·exact ho.2.2 x h
         ·rw [Vx.1 h]; exact ZmJ hwi⟩)
      k 0 warm ⟨by omega,by omega,ZcE hw1⟩ (by omega) (Hu _)
     rw [U5] at this
     exact this
  grind
abbrev IS:=List Bool × Int
def gI (w:Nat) (s:IS):Nat × IS:=if s.2 = 0 then ((Zn w s.1).1,(Zn w s.1).2.2,(Zn w s.1).2.1) else (0,s)
def mI (ok:Bool) (s:IS) (code:Int):IS:=if s.2 = 0 ∧ ok = false then (s.1,code) else s
theorem Z8 {b:List Int} {s:IS} (h:Zf b s.1) (w:Nat):Zf b (gI w s).2.1:=by
 unfold gI
 split
 ·exact ZD h w
 ·exact h
theorem Z7 {b:List Int} {s:IS} (h:Zf b s.1) (ok:Bool) (code:Int):Zf b (mI ok s code).1:=by
 unfold mI
 split
 ·exact h
 ·exact h
theorem ZYw (w:Nat) (s:IS):(gI w s).1 < 2 ^ w:=by
 unfold gI
 split
 ·exact Q3 w _
 ·exact Hs (by omega)
theorem Zb3 (k:Nat) {b:List Int} (hb:Zo b = true) (hn:b.length < 268435456) (hk:100 < k) {s:IS} (hs:Zf b s.1) {w:Nat} (hw:w ≤ 32) :
  KJ k ((XB b s.1,s.2,()),(w:Int),()) = some ((((gI w s).1:Nat):Int),(XB b (gI w s).2.1,(gI w s).2.2,()),()):=by
 show ZkQ k _ = _
 simp only [ZkQ]
 unfold gI
 rw [Zw]
 by_cases h:s.2 = 0
 ·rw [Za h,if_pos h,XE k hb (by omega) hs hw hk]
  rfl
 ·rw [Zh h,if_neg h]
  rfl
theorem Yc (k:Nat) {b:List Int} {s:IS} (ok:Bool):Xq k ((XB b s.1,s.2,()),ok,()) = some ((),(XB b (mI ok s 2).1,(mI ok s 2).2,()),()):=by
 show ZkP k _ = _
 simp only [ZkP]
 unfold mI
 grind
def Zd4 (n:Nat):Bool:=n = 0 ∨ n = 1 ∨ 8 ≤ n ∧ n ≤ 12 ∨ 32 ≤ n ∧ n ≤ 39
theorem ZHl (k n:Nat):ZBb k ((n:Int),()) = some (Zd4 n,()):=by
 show ZkR k _ = _
 simp only [ZkR]
 unfold Zd4
 rw [Zw,Zw]
 by_cases h0:n = 0
 ·simp_all
 ·rw [Zh (by omega)]
  by_cases h1:n = 1
  ·simp_all
  ·rw [Zh (by omega)]
   by_cases h8:8 ≤ n
   ·rw [Za (by omega)]
    by_cases h12:n ≤ 12
    ·grind
    ·rw [Zh (by omega)]
     by_cases h31:31 < n
     ·rw [Za (by omega)]
      by_cases h39:n ≤ 39
      ·grind
      grind
     grind
   grind
def Xh (w:Nat):Nat → IS → List Int → List Int × IS
 | 0,s,acc => (acc,s)
 | n + 1,s,acc => if s.2 = 0 then Xh w n ((ZY w s.1).2.2,(ZY w s.1).2.1) (acc ++ [(ZY w s.1).1]) else Xh w n s (acc ++ [0])
theorem XG {b:List Int} {w:Nat}:∀ (n:Nat) (s:IS) (acc:List Int),Zf b s.1 → Zf b (Xh w n s acc).2.1
 | 0,s,acc,h => h
 | n + 1,s,acc,h => by
  unfold Xh
  split
  ·exact XG n _ _ (Xv h w)
  ·exact XG n _ _ h
theorem Kz {w:Nat}:∀ (n:Nat) (s:IS) (acc:List Int),(Xh w n s acc).1.length = acc.length + n
 | 0,s,acc => rfl
 | n + 1,s,acc => by
  unfold Xh
  split
  ·rw [Kz n,Xj,Ur]; omega
  ·rw [Kz n,Xj,Ur]; omega
theorem Zb6 (k:Nat) {b:List Int} (hb:Zo b = true) (hn:b.length < 268435456) (hk:1000 < k) {s:IS} (hs:Zf b s.1) {w n:Nat} (hw:w ≤ 32) (hnn:n ≤ 512) :
  Zc3 k ((XB b s.1,s.2,()),(n:Int),(w:Int),()) = some ((Xh w n s []).1,(XB b (Xh w n s []).2.1,(Xh w n s []).2.2,()),()):=by
 show Zgg k (Znh k) _ = _
 simp only [Zgg]
 suffices H:∀ (d m i:Nat) (s:IS) (acc:List Int),Zf b s.1 → d < m → i + d ≤ 512 → acc.length = i →
   Zg (fun L1 => Zb5 k L1) m (((i + d:Nat):Int),(i:Int),(w:Int),s.2,b,((Zu b s.1:Nat):Int),acc) = some ((Xh w d s acc).1,(XB b (Xh w d s acc).2.1,(Xh w d s acc).2.2,()),()) by
  have:=H n k 0 s [] hs (by omega) (by omega) rfl
  rw [Ua] at this
  exact this
 intro d
 induction d with
 | zero =>
  intro m i s acc hs hm hi ha
  obtain ⟨m,rfl⟩:=Zm hm
  rw [Zc]
  simp only [Zb5]
  rw [Zh (by omega)]
  rfl
 | succ d ih =>
  intro m i s acc hs hm hi ha
  obtain ⟨m,rfl⟩:=Zm (show 0 < m by omega)
  rw [Zc]
  simp only [Zb5]
  have e2:Jx.wrap ((i:Int) + 1) = ((i + 1:Nat):Int):=by rw [ZG (by omega)]; rfl
  rw [Za (by omega),Zw]
  unfold Xh
  by_cases h:s.2 = 0
  ·rw [Za h,if_pos h,ZsP k hb (by omega) hs hw (by omega)]
   simp only [QJ]
   rw [Za (by grind),e2]
   have:=ih m (i + 1) ((ZY w s.1).2.2,(ZY w s.1).2.1) (acc ++ [(ZY w s.1).1]) (Xv hs w) (by omega) (by omega) (by simp; omega)
   grind
  ·rw [Zh h,if_neg h,Za (by omega),e2]
   have:=ih m (i + 1) s (acc ++ [0]) hs (by omega) (by omega) (by simp; omega)
   grind
def Zd9 (s:IS):IS:=mI ((gI 1 s).1 == 0) (gI 1 s).2 2
def YH (s:IS):Nat × IS:=((gI 6 s).1,mI (Zd4 (gI 6 s).1) (gI 6 s).2 2)
def KW (kind depth:Nat) (s:IS):Nat × Nat × IS :=
 if (gI 1 s).1 = 1 ∧ (gI 1 s).2.2 = 0 then (kind,(YI (gI 1 s).2.1).1 + 1,mI (decide ((YI (gI 1 s).2.1).1 + 1 < depth)) ((YI (gI 1 s).2.1).2.2,(YI (gI 1 s).2.1).2.1) 2)
 else (kind,0,mI (decide (0 < depth)) (gI 1 s).2 2)
def ZP (depth:Nat) (s:IS):Nat × Nat × IS:=KW (YH (Zd9 s)).1 depth (YH (Zd9 s)).2
theorem Wo (a b:Nat):((a:Int) == (b:Int)) = (a == b):=by
 grind
theorem ZDG {b:List Int} {s:IS} (h:Zf b s.1) (kind d:Nat):Zf b (KW kind d s).2.2.1:=by
 unfold KW
 split
 ·exact Z7 (s:=(_,_)) (KG (Z8 h _)) _ _
 ·exact Z7 (Z8 h _) _ _
theorem Zrx {b:List Int} {s:IS} (h:Zf b s.1):Zf b (Zd9 s).1:=Z7 (Z8 h _) _ _
theorem Zry {b:List Int} {s:IS} (h:Zf b s.1):Zf b (YH s).2.1:=Z7 (Z8 h _) _ _
theorem Zkg {b:List Int} {s:IS} (h:Zf b s.1) (d:Nat):Zf b (ZP d s).2.2.1:=ZDG (Zry (Zrx h)) _ _
theorem ZOw (k:Nat) {b:List Int} (hb:Zo b = true) (hn:b.length < 268435456) (hk:8 * b.length + 1000 < k) {s:IS} (hs:Zf b s.1) (d:Nat) :
  ZOv k ((XB b s.1,s.2,()),(d:Int),()) = some (((((ZP d s).1:Nat):Int),(((ZP d s).2.1:Nat):Int),()),(XB b (ZP d s).2.2.1,(ZP d s).2.2.2,()),()):=by
 show Zqi k _ = _
 simp only [Zqi]
 refine (Zd (Zb3 k hb hn (by omega) hs (w:=1) (by omega)) _).trans ?_
 refine (Zd (Yc k (s:=(gI 1 s).2) _) _).trans ?_
 rw [show ((((gI 1 s).1:Nat):Int) == (0:Int)) = ((gI 1 s).1 == 0) from Wo _ 0]
 have r2:=Zrx hs
 unfold ZP
 change ((KJ k ((XB b (Zd9 s).1,(Zd9 s).2,()),6,())).bind _) = _
 generalize Zd9 s = s1 at r2 ⊢
 refine (Zd (Zb3 k hb hn (by omega) r2 (w:=6) (by omega)) _).trans ?_
 refine (Zd (ZHl k (gI 6 s1).1) _).trans ?_
 refine (Zd (Yc k (s:=(gI 6 s1).2) _) _).trans ?_
 have r4:=Zry r2
 change ((KJ k ((XB b (YH s1).2.1,(YH s1).2.2,()),1,())).bind fun y_3 => bif y_3.1 == (1:Int) then bif y_3.2.1.2.1 == (0:Int) then (Zo8 k ((y_3.2.1.1.1,y_3.2.1.1.2.1,()),())).bind fun y_4 => (Xq k (((y_4.2.1.1,y_4.2.1.2.1,()),y_4.1.2.1,()),decide (Jx.wrap (y_4.1.1 + (1:Int)) < d),())).bind fun y_5 => some (((((YH s1).1:Nat):Int),Jx.wrap (y_4.1.1 + (1:Int)),()),((y_5.2.1.1.1,y_5.2.1.1.2.1,()),y_5.2.1.2.1,()),())
  else (Xq k (((y_3.2.1.1.1,y_3.2.1.1.2.1,()),y_3.2.1.2.1,()),decide ((0:Int) < d),())).bind fun y_4 => some (((((YH s1).1:Nat):Int),0,()),((y_4.2.1.1.1,y_4.2.1.1.2.1,()),y_4.2.1.2.1,()),())
  else (Xq k (((y_3.2.1.1.1,y_3.2.1.1.2.1,()),y_3.2.1.2.1,()),decide ((0:Int) < d),())).bind fun y_4 => some (((((YH s1).1:Nat):Int),0,()),((y_4.2.1.1.1,y_4.2.1.1.2.1,()),y_4.2.1.2.1,()),())) = _
 generalize (YH s1).1 = kind
 generalize (YH s1).2 = s2 at r4 ⊢
 unfold KW
 have r5:=Z8 r4 1
 refine (Zd (Zb3 k hb hn (by omega) r4 (w:=1) (by omega)) _).trans ?_
 simp only
 rw [show ((((gI 1 s2).1:Nat):Int) == (1:Int)) = ((gI 1 s2).1 == 1) from Wo _ 1]
 have fin0:((Xq k ((XB b (gI 1 s2).2.1,(gI 1 s2).2.2,()),decide ((0:Int) < (d:Int)),())).bind fun y_4 => some ((((kind:Nat):Int),0,()),((y_4.2.1.1.1,y_4.2.1.1.2.1,()),y_4.2.1.2.1,()),())) =
   some ((((kind:Nat):Int),(((0:Nat):Int)),()),(XB b (mI (decide (0 < d)) (gI 1 s2).2 2).1,(mI (decide (0 < d)) (gI 1 s2).2 2).2,()),()):=by
  refine (Zd (Yc k (s:=(gI 1 s2).2) _) _).trans ?_
  simp_all
 by_cases h1:(gI 1 s2).1 = 1
 ·rw [show ((gI 1 s2).1 == 1) = true from by simp [h1]]
  simp only [cond_true]
  rw [Zw]
  by_cases h2:(gI 1 s2).2.2 = 0
  ·rw [Za h2,if_pos ⟨h1,h2⟩]
   refine (Zd (ZsA k hb (by omega) r5 (by omega)) _).trans ?_
   have hu:=Zxi (r:=(gI 1 s2).2.1)
   have hl:=r5.len
   have e1:Jx.wrap ((((YI (gI 1 s2).2.1).1:Nat):Int) + 1) = (((YI (gI 1 s2).2.1).1 + 1:Nat):Int):=by rw [ZG (by omega)]; rfl
   simp only
   rw [e1]
   refine (Zd (Yc k (b:=b) (s:=((YI (gI 1 s2).2.1).2.2,(YI (gI 1 s2).2.1).2.1)) _) _).trans ?_
   have:decide ((((YI (gI 1 s2).2.1).1 + 1:Nat):Int) < (d:Int)) = decide ((YI (gI 1 s2).2.1).1 + 1 < d):=by
    grind
   rw [this]
  simp_all
 grind
end Go.Sh
namespace Go.Sh
open Go Go.Proofs
def Zd0 (coefs:List Int) (sh:Int) (c n:Nat) (warm:List Int) (s:IS):List Int × IS :=
 if (XA n c s.1).2.1 ≠ 0 then ([],((XA n c s.1).2.2,(XA n c s.1).2.1))
 else ((Yy coefs sh warm (XA n c s.1).1).1,((XA n c s.1).2.2,(Yy coefs sh warm (XA n c s.1).1).2))
def KS (s:IS):IS:=mI ((gI 4 s).1 == 11) (gI 4 s).2 2
def WM (s:IS):Nat × IS:=((gI 5 s).1,mI (decide ((gI 5 s).1 ≤ 15)) (gI 5 s).2 2)
def Zib (c n:Nat) (warm:List Int) (sh:Nat) (x:List Int × IS):List Int × IS :=
 if x.2.2 ≠ 0 then ([],x.2) else Zd0 x.1 sh c n warm x.2
def Zmb (num:Bool) (c n:Nat) (w:List Int × IS):List Int × IS :=
 if num = true then Zib c n w.1 (WM (KS w.2)).1 (Xh 12 c (WM (KS w.2)).2 [])
 else if w.2.2 ≠ 0 then ([],w.2) else Zd0 (ZhG (min 4 c)) 0 c n w.1 w.2
def ZbU (num:Bool) (c n depth:Nat) (s:IS):List Int × IS :=
 if (mI (decide (c ≤ n)) s 2).2 ≠ 0 then ([],mI (decide (c ≤ n)) s 2) else Zmb num c n (Xh depth c (mI (decide (c ≤ n)) s 2) [])
def Xm (kind n depth:Nat) (s:IS):List Int × IS :=
 if kind = 0 then (Jd n ((Xh depth 1 s []).1.headD 0),(Xh depth 1 s []).2)
 else if kind = 1 then Xh depth n s []
 else if 31 < kind then ZbU true (kind - 31) n depth s else ZbU false (kind - 8) n depth s
theorem Zl9 {m n o p:Nat}:∀ (d i:Nat) (r:List Bool) (acc:List Int),(Qz m n o p d i r acc).1.length ≤ acc.length + d * (n / 2 ^ p)
 | 0,_,r,acc => by simp [Qz]
 | d + 1,i,r,acc => by
  unfold Qz
  have hle:(n / 2 ^ p - if i = 0 then o else 0) ≤ n / 2 ^ p:=Nat.sub_le _ _
  generalize (n / 2 ^ p - if i = 0 then o else 0) = cnt at hle ⊢
  have h1:=ZlO m cnt r
  rw [Jg,Jp]
  split
  ·simp
  ·have:=Zl9 (m:=m) (n:=n) (o:=o) (p:=p) d (i + 1) (Q6 m cnt r).2.2 (acc ++ (Q6 m cnt r).1)
   grind
theorem ZlV {n o:Nat} (r:List Bool):(XA n o r).1.length ≤ n:=by
 unfold XA
 repeat' split
 all_goals try simp
 rename_i hf
 have hf:Zft n o (Zn 4 (Zn 2 r).2.2).1 = true:=by simpa using hf
 unfold Zft at hf
 simp only [Jh,decide_eq_true_eq] at hf
 have:=Zl9 (m:=(Zn 2 r).1) (n:=n) (o:=o) (p:=(Zn 4 (Zn 2 r).2.2).1) (2 ^ (Zn 4 (Zn 2 r).2.2).1) 0 (Zn 4 (Zn 2 r).2.2).2.2 []
 rw [HV,Ua] at this
 refine Nat.le_trans this ?_
 rw [V9]
 exact Nat.div_mul_le_self _ _
theorem Zbx {ok:Bool} {s:IS} {code:Int} (hc:code ≠ 0):(mI ok s code).2 = 0 ↔ s.2 = 0 ∧ ok = true:=by
 unfold mI
 grind
theorem Zkh {d:Nat} {s:IS} (h:(ZP d s).2.2.2 = 0):(ZP d s).2.1 < d ∧ Zd4 (ZP d s).1 = true:=by
 unfold ZP at h ⊢
 have hk:(YH (Zd9 s)).2.2 = 0 → Zd4 (YH (Zd9 s)).1 = true:=fun h => ((Zbx (by decide)).1 h).2
 generalize (YH (Zd9 s)).1 = kind at h hk ⊢
 generalize (YH (Zd9 s)).2 = s2 at h hk ⊢
 have g0:(gI 1 s2).2.2 = 0 → s2.2 = 0:=by
  unfold gI
  grind
 unfold KW at h ⊢
 split
 ·rename_i hc
  rw [if_pos hc] at h
  have:=(Zbx (by decide)).1 h
  simp_all
 ·rename_i hc
  rw [if_neg hc] at h
  have:=(Zbx (by decide)).1 h
  simp_all
theorem ZoB {b:List Int} {coefs warm:List Int} {sh:Int} {c n:Nat} {s:IS} (h:Zf b s.1):Zf b (Zd0 coefs sh c n warm s).2.1:=by
 unfold Zd0
 split
 ·exact Zrl h _ _
 ·exact Zrl h _ _
theorem Zsi {coefs warm:List Int} {sh:Int} {c n:Nat} {s:IS}:(Zd0 coefs sh c n warm s).1.length ≤ warm.length + n:=by
 unfold Zd0
 split
 ·simp
 ·have h1:=ZlV (n:=n) (o:=c) s.1
  simp only
  unfold Yy
  repeat' split
  all_goals try simp
  have:=ZtU (c:=coefs) (sh:=sh) (XA n c s.1).1 warm
  omega
theorem ZoL {b:List Int} {s:IS} (h:Zf b s.1):Zf b (KS s).1:=Z7 (Z8 h _) _ _
theorem ZoM {b:List Int} {s:IS} (h:Zf b s.1):Zf b (WM s).2.1:=Z7 (Z8 h _) _ _
theorem ZAR {b:List Int} {c n:Nat} {warm:List Int} {sh:Nat} {x:List Int × IS} (h:Zf b x.2.1):Zf b (Zib c n warm sh x).2.1:=by
 unfold Zib
 split
 ·exact h
 ·exact ZoB h
theorem ZAS {b:List Int} {num:Bool} {c n:Nat} {w:List Int × IS} (h:Zf b w.2.1):Zf b (Zmb num c n w).2.1:=by
 unfold Zmb
 split
 ·exact ZAR (XG _ _ _ (ZoM (ZoL h)))
 ·split
  ·exact h
  ·exact ZoB h
theorem ZoA {b:List Int} {num:Bool} {c n d:Nat} {s:IS} (h:Zf b s.1):Zf b (ZbU num c n d s).2.1:=by
 unfold ZbU
 split
 ·exact Z7 h _ _
 ·exact ZAS (XG _ _ _ (Z7 h _ _))
theorem ZAQ {b:List Int} {kind n d:Nat} {s:IS} (h:Zf b s.1):Zf b (Xm kind n d s).2.1:=by
 unfold Xm
 split
 ·exact XG _ _ _ h
 ·split
  ·exact XG _ _ _ h
  ·split
   ·exact ZoA h
   ·exact ZoA h
theorem Zsh {num:Bool} {c n d:Nat} {s:IS} (hc:c ≤ 8):(ZbU num c n d s).1.length ≤ 8 + n:=by
 unfold ZbU
 split
 ·simp
 ·have hl:=Kz (w:=d) c (mI (decide (c ≤ n)) s 2) []
  generalize Xh d c (mI (decide (c ≤ n)) s 2) [] = w at hl
  simp only [HV,Ua] at hl
  unfold Zmb Zib
  repeat' split
  all_goals try simp
  ·have:=Zsi (coefs:=(Xh 12 c (WM (KS w.2)).2 []).1) (warm:=w.1) (sh:=((WM (KS w.2)).1:Nat)) (c:=c) (n:=n) (s:=(Xh 12 c (WM (KS w.2)).2 []).2)
   omega
  ·have:=Zsi (coefs:=ZhG (min 4 c)) (warm:=w.1) (sh:=0) (c:=c) (n:=n) (s:=w.2)
   omega
theorem Zkx {kind n d:Nat} {s:IS} (hk:Zd4 kind = true):(Xm kind n d s).1.length ≤ 8 + n:=by
 have hk:=of_decide_eq_true hk
 unfold Xm
 split
 ·simp
 ·split
  ·rw [Kz]; simp
  ·split
   ·exact Zsh (by omega)
   ·exact Zsh (by omega)
abbrev BT:=List Int × ((List Int × Int × Unit) × Int × Unit) × Unit
theorem ZUf (k:Nat) {b:List Int} (hb:Zo b = true) (hn:b.length < 268435456) (hk:8 * b.length + 50000 < k) {s:IS} (hs:Zf b s.1) {coefs warm:List Int} (hco:coefs.length ≤ 8192) (hw:warm.length ≤ 8) {sh:Int} {n c:Nat} (hnn:n ≤ 512) :
  ((ZeA k (XB b s.1,(n:Int),(c:Int),())).bind fun y_2 => bif y_2.1.2.1 != (0:Int) then some (([],((y_2.2.1.1,y_2.2.1.2.1,()),y_2.1.2.1,()),()):BT) else (ZeB k ((coefs,sh,()),warm,y_2.1.1,())).bind fun y => some (y.1.1,((y_2.2.1.1,y_2.2.1.2.1,()),y.1.2.1,()),())) =
   some ((Zd0 coefs sh c n warm s).1,(XB b (Zd0 coefs sh c n warm s).2.1,(Zd0 coefs sh c n warm s).2.2,()),()):=by
 refine (Zd (ZHu k hb hn hs hk n c) _).trans ?_
 unfold Zd0
 simp only
 rw [Zk]
 by_cases h:(XA n c s.1).2.1 = 0
 ·rw [Zh (by simpa using h),if_neg (by simpa using h)]
  have hl:=ZlV (n:=n) (o:=c) s.1
  exact Zd (ZHw k (by omega) hco (by omega) (by omega)) _
 ·rw [Za h,if_pos h]
theorem ZOy (k:Nat) {b:List Int} (hb:Zo b = true) (hn:b.length < 268435456) (hk:8 * b.length + 50000 < k) {s:IS} (hs:Zf b s.1) {kind n d:Nat} (hkd:Zd4 kind = true) (h1:1 ≤ n) (hnn:n ≤ 512) (hd:d ≤ 32) :
  ZOx k ((XB b s.1,s.2,()),(kind:Int),(n:Int),(d:Int),()) = some ((Xm kind n d s).1,(XB b (Xm kind n d s).2.1,(Xm kind n d s).2.2,()),()):=by
 show Zqj k _ = _
 simp only [Zqj]
 have hkd:=of_decide_eq_true hkd
 unfold Xm
 rw [Zw,Zw]
 by_cases h0:kind = 0
 ·rw [Za (by omega),if_pos h0]
  refine (Zd (Zb6 k hb hn (by omega) hs (w:=d) (n:=1) hd (by omega)) _).trans ?_
  have hl:=Kz (w:=d) 1 s []
  generalize Xh d 1 s [] = w at hl
  obtain ⟨w1,w2⟩:=w
  match w1,hl with
  | [x],_ =>
   refine (Zd (ZHq k x h1 hnn (by omega)) _).trans ?_
   rfl
 ·rw [Zh (by omega),if_neg h0]
  by_cases hk1:kind = 1
  ·rw [Za (by omega),if_pos hk1]
   exact Zd (Zb6 k hb hn (by omega) hs (w:=d) (n:=n) hd hnn) _
  ·rw [Zh (by omega),if_neg hk1]
   by_cases h31:31 < kind
   ·simp only [Za (show (31:Int) < (kind:Int) by omega)]
    rw [if_pos h31]
    have ec:Jx.wrap ((kind:Int) - 31) = ((kind - 31:Nat):Int):=by rw [ZG (by omega)]; omega
    simp only [ec]
    have hc8:kind - 31 ≤ 8:=by omega
    generalize kind - 31 = c at hc8
    have edn:decide ((c:Int) ≤ (n:Int)) = decide (c ≤ n):=by
     simp_all
    rw [edn]
    refine (Zd (Yc k (s:=s) _) _).trans ?_
    unfold ZbU
    have r1:=Z7 hs (decide (c ≤ n)) 2
    generalize mI (decide (c ≤ n)) s 2 = s1 at r1 ⊢
    simp only
    rw [Zk]
    by_cases he:s1.2 = 0
    ·rw [Zh (by simpa using he),if_neg (show ¬ s1.2 ≠ 0 by simpa using he)]
     refine (Zd (Zb6 k hb hn (by omega) r1 (w:=d) (n:=c) hd (by omega)) _).trans ?_
     have r2:=XG (w:=d) c s1 [] r1
     have hl:=Kz (w:=d) c s1 []
     generalize Xh d c s1 [] = w at r2 hl ⊢
     simp only [HV,Ua] at hl
     have e4:(if (4:Int) < (c:Int) then (4:Int) else (c:Int)) = ((min 4 c:Nat):Int):=by split <;> omega
     simp only
     rw [e4]
     refine (Zd (Zsw k (min 4 c) (by omega) (by omega)) _).trans ?_
     unfold Zmb
     rw [if_pos rfl]
     refine (Zd (Zb3 k hb hn (by omega) r2 (w:=4) (by omega)) _).trans ?_
     refine (Zd (Yc k (s:=(gI 4 w.2).2) _) _).trans ?_
     rw [show ((((gI 4 w.2).1:Nat):Int) == (11:Int)) = ((gI 4 w.2).1 == 11) from Wo _ 11]
     have r3:=ZoL r2
     change ((KJ k ((XB b (KS w.2).1,(KS w.2).2,()),5,())).bind _) = _
     generalize KS w.2 = s3 at r3 ⊢
     refine (Zd (Zb3 k hb hn (by omega) r3 (w:=5) (by omega)) _).trans ?_
     refine (Zd (Yc k (s:=(gI 5 s3).2) _) _).trans ?_
     have e15:decide ((((gI 5 s3).1:Nat):Int) ≤ 15) = decide ((gI 5 s3).1 ≤ 15):=by
      grind
     rw [e15]
     have r4:=ZoM r3
     change ((Zc3 k ((XB b (WM s3).2.1,(WM s3).2.2,()),(c:Int),12,())).bind fun y_6 => bif y_6.2.1.2.1 != (0:Int) then some (([],((y_6.2.1.1.1,y_6.2.1.1.2.1,()),y_6.2.1.2.1,()),()):BT) else (ZeA k ((y_6.2.1.1.1,y_6.2.1.1.2.1,()),(n:Int),(c:Int),())).bind fun y_7 => bif y_7.1.2.1 != (0:Int) then some ([],((y_7.2.1.1,y_7.2.1.2.1,()),y_7.1.2.1,()),()) else (ZeB k ((y_6.1,(((WM s3).1:Nat):Int),()),w.1,y_7.1.1,())).bind fun y => some (y.1.1,((y_7.2.1.1,y_7.2.1.2.1,()),y.1.2.1,()),())) = _
     generalize (WM s3).1 = sh
     generalize (WM s3).2 = s4 at r4 ⊢
     refine (Zd (Zb6 k hb hn (by omega) r4 (w:=12) (n:=c) (by omega) (by omega)) _).trans ?_
     have r5:=XG (w:=12) c s4 [] r4
     have hl5:=Kz (w:=12) c s4 []
     generalize Xh 12 c s4 [] = x at r5 hl5 ⊢
     simp only [HV,Ua] at hl5
     unfold Zib
     simp only
     rw [Zk]
     by_cases hx:x.2.2 = 0
     ·rw [Zh (by simpa using hx),if_neg (by simpa using hx)]
      exact ZUf k hb hn hk r5 (by omega) (by omega) hnn
     ·rw [Za hx,if_pos hx]
    ·rw [Za he,if_pos he]
   ·simp only [Zh (show ¬ (31:Int) < (kind:Int) by omega)]
    rw [if_neg h31]
    have ec:Jx.wrap ((kind:Int) - 8) = ((kind - 8:Nat):Int):=by rw [ZG (by omega)]; omega
    simp only [ec]
    have hc8:kind - 8 ≤ 4:=by omega
    generalize kind - 8 = c at hc8
    have edn:decide ((c:Int) ≤ (n:Int)) = decide (c ≤ n):=by
     simp_all
    rw [edn]
    refine (Zd (Yc k (s:=s) _) _).trans ?_
    unfold ZbU
    have r1:=Z7 hs (decide (c ≤ n)) 2
    generalize mI (decide (c ≤ n)) s 2 = s1 at r1 ⊢
    simp only
    rw [Zk]
    by_cases he:s1.2 = 0
    ·rw [Zh (by simpa using he),if_neg (show ¬ s1.2 ≠ 0 by simpa using he)]
     refine (Zd (Zb6 k hb hn (by omega) r1 (w:=d) (n:=c) hd (by omega)) _).trans ?_
     have r2:=XG (w:=d) c s1 [] r1
     have hl:=Kz (w:=d) c s1 []
     generalize Xh d c s1 [] = w at r2 hl ⊢
     simp only [HV,Ua] at hl
     have e4:(if (4:Int) < (c:Int) then (4:Int) else (c:Int)) = ((min 4 c:Nat):Int):=by split <;> omega
     simp only
     rw [e4]
     refine (Zd (Zsw k (min 4 c) (by omega) (by omega)) _).trans ?_
     unfold Zmb
     rw [if_neg (by simp)]
     simp only
     rw [Zk]
     by_cases hx:w.2.2 = 0
     ·rw [Zh (by simpa using hx),if_neg (by simpa using hx)]
      exact ZUf k hb hn hk r2 (by rw [Zqt _ (by omega)]; omega) (by omega) hnn
     ·rw [Za hx,if_pos hx]
    ·rw [Za he,if_pos he]
def ZZ (n d:Nat) (r:List Bool):List Int × Int × List Bool :=
 if ¬ (1 ≤ n ∧ n ≤ 512 ∧ 4 ≤ d ∧ d ≤ 25) then ([],1,r)
 else if (ZP d (r,0)).2.2.2 ≠ 0 then ([],(ZP d (r,0)).2.2.2,(ZP d (r,0)).2.2.1)
 else if (Xm (ZP d (r,0)).1 n (d - (ZP d (r,0)).2.1) (ZP d (r,0)).2.2).2.2 ≠ 0 then ([],(Xm (ZP d (r,0)).1 n (d - (ZP d (r,0)).2.1) (ZP d (r,0)).2.2).2.2,(Xm (ZP d (r,0)).1 n (d - (ZP d (r,0)).2.1) (ZP d (r,0)).2.2).2.1)
 else if (Xm (ZP d (r,0)).1 n (d - (ZP d (r,0)).2.1) (ZP d (r,0)).2.2).1.all (sgn · (d - (ZP d (r,0)).2.1)) = true then
  ((Xm (ZP d (r,0)).1 n (d - (ZP d (r,0)).2.1) (ZP d (r,0)).2.2).1.map (fun x => x * 2 ^ (ZP d (r,0)).2.1),0,(Xm (ZP d (r,0)).1 n (d - (ZP d (r,0)).2.1) (ZP d (r,0)).2.2).2.1)
 else ([],12,(Xm (ZP d (r,0)).1 n (d - (ZP d (r,0)).2.1) (ZP d (r,0)).2.2).2.1)
theorem ZbR {b:List Int} {r:List Bool} (h:Zf b r) (n d:Nat):Zf b (ZZ n d r).2.2:=by
 unfold ZZ
 have h1:=Zkg (s:=(r,0)) h d
 repeat' split
 all_goals first | exact h | exact h1 | exact ZAQ h1
theorem Zw9 {x:Int} {d k:Nat} (hk:k < d) (hd:d ≤ 32) (h:sgn x (d - k) = true):sgn (x * 2 ^ k) d = true ∧ -9223372036854775808 ≤ x * 2 ^ k ∧ x * 2 ^ k ≤ 9223372036854775807:=by
 unfold sgn at h ⊢
 rw [if_neg (by omega),decide_eq_true_eq] at h
 rw [if_neg (by omega),decide_eq_true_eq]
 have hp:(0:Int) < 2 ^ k:=Int.pow_pos (by omega)
 have e:(2:Int) ^ (d - 1) = 2 ^ (d - k - 1) * 2 ^ k:=by rw [← Int.pow_add]; congr 1; omega
 have h1 : -(2 ^ (d - 1):Int) ≤ x * 2 ^ k:=by rw [e,← Int.neg_mul]; simp_all
 have h2:x * 2 ^ k < 2 ^ (d - 1):=by simp_all
 refine ⟨⟨h1,h2⟩,?_⟩
 rw [QV (d - 1)] at h1 h2
 have:2 ^ (d - 1) ≤ 2 ^ 31:=Hf (by omega) (by omega)
 omega
theorem ZNn (k:Nat) {b:List Int} (hb:Zo b = true) (hn:b.length < 268435456) (hk:8 * b.length + 50000 < k) {r:List Bool} (hr:Zf b r) (n d:Nat) :
  ZNk k (XB b r,(n:Int),(d:Int),()) = some (((ZZ n d r).1,(ZZ n d r).2.1,()),XB b (ZZ n d r).2.2,()):=by
 show Zjx k (ZvY k) _ = _
 simp only [Zjx]
 rw [ZOu]
 simp only [QJ]
 unfold ZZ
 by_cases h:1 ≤ n ∧ n ≤ 512 ∧ 4 ≤ d ∧ d ≤ 25
 ·rw [if_neg (by simpa using h),dTr (by omega)]
  simp only [HC,cond_false]
  refine (Zd (ZOw k hb hn (by omega) (s:=(r,0)) hr d) _).trans ?_
  have hz:=Zkh (d:=d) (s:=(r,0))
  have r1:=Zkg (s:=(r,0)) hr d
  generalize ZP d (r,0) = hd at hz r1 ⊢
  obtain ⟨kind,kk,s1⟩:=hd
  simp only at hz r1 ⊢
  rw [Zk]
  by_cases he:s1.2 = 0
  ·rw [Zh (by simpa using he),if_neg (by simpa using he)]
   obtain ⟨hkd,hkind⟩:=hz he
   have e1:Jx.wrap ((d:Int) - (kk:Int)) = ((d - kk:Nat):Int):=by rw [ZG (by omega)]; omega
   rw [e1]
   refine (Zd (ZOy k hb hn hk r1 hkind h.1 h.2.1 (d:=d - kk) (by omega)) _).trans ?_
   have hl:=Zkx (kind:=kind) (n:=n) (d:=d - kk) (s:=s1) hkind
   generalize Xm kind n (d - kk) s1 = y at hl ⊢
   simp only
   rw [Zk]
   by_cases hy:y.2.2 = 0
   ·rw [Zh (by simpa using hy),if_neg (by simpa using hy)]
    have:=ZF (A:=List Int) (R:=(List Int × Int × Unit) × (List Int × Int × Unit) × Unit) (step:=fun L1 => Ze3 k L1)
     (fun i out => (UD y.1.length,UD i,y.1,(d:Int),(kk:Int),b,((Zu b y.2.1:Nat):Int),out)) y.1
     (fun l' out => some (if l'.all (sgn · (d - kk)) = true then ((out ++ l'.map (fun x => x * 2 ^ kk),0,()),XB b y.2.1,()) else (([],12,()),XB b y.2.1,())))
     (fun i out => out.length = i)
     (fun L out _ => by grind [Ze3])
     (fun L i hi out ho hL => by
      simp only [Ze3]
      rw [Za (KN hi),Za (Xd hi),ZL hi,e1,ZOA k _ (by omega) (by omega)]
      simp only [QJ]
      rw [UA]
      cases hs:sgn y.1[i] (d - kk) with
      | false => simp
      | true =>
       simp only [HC,cond_false,UC]
       have hsh:=(Zw9 hkd (by omega) hs).2
       rw [Za (by omega),tNc,Ht (by omega),ZG hsh,Za (by grind),Qa hi (by omega),hL _ (by simp; omega)]
       grind)
     k 0 [] rfl (by omega) (Hu _)
    rw [U5] at this
    refine U4 this ?_
    split <;> simp
   ·rw [Za hy,if_pos hy]
  ·rw [Za he,if_pos he]
 grind
end Go.Sh
namespace Go.Sh
open Go Go.Proofs
def QZ (x:Nat):Nat:=if x < 128 then 0 else if x < 192 then 1 else if x < 224 then 2 else if x < 240 then 3 else if x < 248 then 4 else if x < 252 then 5 else if x < 254 then 6 else if x < 255 then 7 else 8
theorem ZPD:∀ x:Fin 256,Zu0 0 (UK.wrap (UD (UH 8 255 ^^^ UH 8 (x.val:Int)).toNat),()) = some (((QZ x.val:Nat):Int),()):=by decide +kernel
theorem ZH0 (k:Nat) {x:Nat} (h:x < 256):Zu0 k (UK.wrap (UD (UH 8 255 ^^^ UH 8 (x:Int)).toNat),()) = some (((QZ x:Nat):Int),()):=ZPD ⟨x,h⟩
theorem ZF9 (x:Nat):QZ x ≤ 8:=by
 unfold QZ
 repeat' split
 all_goals omega
theorem ZPt:∀ (x:Fin 256) (k:Fin 8),Jx.wrap (UD (UH 64 (Jx.wrap (x.val:Int)) &&& UH 64 (UP (127:Int) ((2:Int) ^ min k.val 64))).toNat) = ((x.val % 2 ^ (7 - k.val):Nat):Int):=by decide +kernel
def cgL:Nat → List Int → Nat → Nat → Option (Nat × Nat)
 | 0,_,a,g => some (a,g)
 | n + 1,[],a,g => cgL n [] (a * 64) (g * 64 + 63)
 | n + 1,x :: xs,a,g => if x.toNat / 64 = 2 then cgL n xs (a * 64 + x.toNat % 64) (g * 64 + x.toNat % 64) else none
def ZaS (b:List Int):Nat × Nat × Int:=match b with
 | [] => (0,0,10)
 | x :: xs => if QZ x.toNat = 0 then (x.toNat,1,0) else if QZ x.toNat = 1 then (0,0,2) else if 7 < QZ x.toNat then (0,0,2)
  else match cgL (QZ x.toNat - 1) xs (x.toNat % 2 ^ (7 - QZ x.toNat)) (x.toNat % 2 ^ (7 - QZ x.toNat)) with
   | none => (0,0,2)
   | some (a,g) => if g < 2 ^ Y8 (QZ x.toNat - 1) then (0,0,2) else if xs.length + 1 < QZ x.toNat then (0,0,10) else (a,QZ x.toNat,0)
theorem ZS7 {a m:Nat} (ha:a < 1125899906842624) (hm:m < 64):Jx.wrap (UD (UH 64 (Jx.wrap ((a:Int) * 64)) ||| UH 64 (m:Int)).toNat) = ((a * 64 + m:Nat):Int):=by
 have h1:Jx.wrap ((a:Int) * 64) = ((a * 64:Nat):Int):=by rw [ZG (by omega)]; omega
 rw [h1,orN (by omega) (by omega)]
 have:=Ec (i:=6) (show m < 2 ^ 6 from hm) a
 rw [Hy] at this
 rw [show a * 64 = a * 2 ^ 6 from rfl,← this,ZG (by omega)]
theorem ZXk {x:Nat} (hx:x < 256):Jx.wrap (UD (UH 64 (Jx.wrap (x:Int)) &&& UH 64 63).toNat) = ((x % 64:Nat):Int):=by
 rw [ZG (n:=(x:Int)) (by omega),show (63:Int) = ((63:Nat):Int) from rfl,ZGA (by omega) (by omega),show (63:Nat) = 2 ^ 6 - 1 from rfl,Hq,ZG (by omega)]
theorem ZHi (k:Nat) {b:List Int} (hb:Zo b = true) {kk:Nat} (h2:2 ≤ kk) (h7:kk ≤ 7):∀ (d m i a g:Nat),i + d = kk → 1 ≤ i → d < m → a < 2 ^ (6 * i + 6) → g < 2 ^ (6 * i + 6) →
  Zg (fun L1 => Zb2 k L1) m ((i:Int),(kk:Int),b,(a:Int),(g:Int)) = some (match cgL d (b.drop i) a g with
   | none => (0,0,2,())
   | some (a,g) => if g < 2 ^ Y8 (kk - 1) then (0,0,2,()) else if b.length < kk then (0,0,10,()) else ((a:Int),(kk:Int),0,()),()):=by
 intro d
 induction d with
 | zero =>
  intro m i a g hi h1 hm ha hg
  obtain ⟨m,rfl⟩:=Zm hm
  rw [Zc]
  simp only [Zb2]
  have e1:Jx.wrap ((kk:Int) - 1) = ((kk - 1:Nat):Int):=by rw [ZG (by omega)]; omega
  rw [Zh (by omega),e1,ZN8 k (kk - 1) (by omega)]
  simp only [QJ,cgL]
  have hr:Y8 (kk - 1) ≤ 31:=by unfold Y8; split <;> omega
  rw [Za (by omega),ZdM hr]
  grind
 | succ d ih =>
  intro m i a g hi h1 hm ha hg
  obtain ⟨m,rfl⟩:=Zm (show 0 < m by omega)
  rw [Zc]
  simp only [Zb2]
  have hpow:2 ^ (6 * i + 6) ≤ 2 ^ 42:=Hf (by omega) (by omega)
  have hnext:2 ^ (6 * (i + 1) + 6) = 64 * 2 ^ (6 * i + 6):=by grind
  have e2:Jx.wrap ((i:Int) + 1) = ((i + 1:Nat):Int):=by rw [ZG (by omega)]; rfl
  rw [Za (by omega)]
  by_cases hlt:i < b.length
  ·obtain ⟨x,hx,hxe⟩:=QM hb hlt
   rw [Za (by simp only [WH]; omega),Za (by simp only [WH]; omega),tNc,Xf hlt,hxe,Uk hlt,hxe]
   have hd:((x:Nat):Int).fdiv 64 = ((x / 64:Nat):Int):=by grind
   rw [hd,Zk]
   simp only [cgL,tNc]
   by_cases h64:x / 64 = 2
   ·rw [Zh (by omega),if_pos h64,Za (by simp only [WH]; omega),ZXk hx,ZS7 (by omega) (by omega),ZS7 (by omega) (by omega),e2]
    exact ih m (i + 1) _ _ (by omega) (by omega) (by omega) (by omega) (by omega)
   ·rw [Za (by omega),if_neg h64]
  ·rw [Zh (by simp only [WH]; omega),show (0:Int) = ((0:Nat):Int) from rfl,show (63:Int) = ((63:Nat):Int) from rfl,ZS7 (by omega) (by omega),ZS7 (by omega) (by omega),e2]
   have hd0:b.drop i = []:=UF (by omega)
   have hd1:b.drop (i + 1) = []:=UF (by omega)
   have:=ih m (i + 1) (a * 64 + 0) (g * 64 + 63) (by omega) (by omega) (by omega) (by omega) (by omega)
   rw [hd1] at this
   rw [hd0]
   exact this
theorem ZHj (k:Nat) {b:List Int} (hb:Zo b = true) (hk:20 < k):ZBa k (b,()) = some (((((ZaS b).1:Nat):Int),(((ZaS b).2.1:Nat):Int),(ZaS b).2.2,()),()):=by
 show Zgc k (Zm9 k) _ = _
 simp only [Zgc]
 match b,hb with
 | [],_ => rfl
 | x :: xs,hb =>
  obtain ⟨y,hy,hye⟩:=QM hb (i:=0) (by simp)
  simp only [Eh] at hye
  subst hye
  rw [show (UD ((y:Int) :: xs).length == (0:Int)) = false from by rfl]
  simp only [cond_false]
  have hpos:(0:Int) ≤ 0 ∧ (0:Int) < UD ((y:Int) :: xs).length:=by simp_all
  rw [Za hpos,show ((y:Int) :: xs).getD 0 0 = (y:Int) from rfl,ZH0 k hy]
  simp only [QJ]
  unfold ZaS
  simp only [tNc]
  have h8:=ZF9 y
  rw [Zw]
  by_cases h0:QZ y = 0
  ·rw [Za (by omega),Za hpos,if_pos h0,ZG (by omega)]
   rfl
  ·rw [Zh (by omega),if_neg h0,Zw]
   by_cases h1:QZ y = 1
   ·simp_all
   ·rw [Zh (by omega),if_neg h1]
    by_cases h7:7 < QZ y
    ·grind
    ·rw [Zh (by omega),if_neg h7,Za hpos,Za (by omega),Za hpos,Za (by omega)]
     have hm:=ZPt ⟨y,hy⟩ ⟨QZ y,by omega⟩
     simp only at hm
     rw [hm]
     have hlt:y % 2 ^ (7 - QZ y) < 2 ^ (6 * 1 + 6):=He (Eb _ _) (by omega)
     refine (ZHi k hb (kk:=QZ y) (by omega) (by omega) (QZ y - 1) k 1 _ _ (by omega) (by omega) (by omega) hlt hlt).trans ?_
     grind
def tgL (m x y:Int):Int:=if m = 9 then x + y else if m = 10 then (2 * x + y % 2 + y) / 2 else x
def tgR (m x y:Int):Int:=if m = 8 then x - y else if m = 10 then (2 * x + y % 2 - y) / 2 else y
theorem ZWU {x y:Int} (hx:QG x) (hy:QG y):Jx.wrap (UD (UH 64 (Jx.wrap (x * 2)) ||| UH 64 (Jx.wrap (UD (UH 64 y &&& UH 64 1).toNat))).toNat) = 2 * x + y % 2:=by
 unfold QG at hx hy
 have e1:Jx.wrap (UD (UH 64 y &&& UH 64 1).toNat) = (((y % 2).toNat:Nat):Int):=by
  rw [U8,ZfK,show (UH 64 1).toNat = 1 from rfl,HW]
  have:ZqS y % 2 = (y % 2).toNat:=by unfold ZqS; omega
  rw [this,ZG (by simp only [WH]; omega)]
  rfl
 rw [e1,ZG (n:=x * 2) (by omega),Hj,ZfK,ZfK]
 have e2:ZqS (((y % 2).toNat:Nat):Int) = (y % 2).toNat:=by unfold ZqS; omega
 obtain ⟨q,hq⟩:∃ q,ZqS (x * 2) = q * 2:=⟨ZqS (x * 2) / 2,by unfold ZqS; omega⟩
 have hb:(y % 2).toNat < 2 ^ 1:=by omega
 have:=Ec hb q
 rw [Hy] at this
 rw [e2,hq,show q * 2 = q * 2 ^ 1 from rfl,← this]
 have h3:q * 2 = ZqS (x * 2):=hq.symm
 unfold ZqS at h3
 rw [IntKind.wrap_i64]
 grind
def KP (m:Int) (A B:List Int):List Int:=(A.zip B).map fun x => tgL m x.1 x.2
def KQ (m:Int) (A B:List Int):List Int:=(A.zip B).map fun x => tgR m x.1 x.2
def Wf (x:Int):Bool:=decide (-16777216 ≤ x ∧ x ≤ 16777216)
theorem ZSG (k:Nat) {L R:List Int} (hk:L.length < k) (h:L.length = R.length) (hn:L.length ≤ 8192) :
  ZNS k (L,R,()) = some (if (L.zip R).all (fun x => Wf x.1 && Wf x.2) = true then (ZfC L R,0,()) else ([],12,()),()):=by
 show ZjF k (Zwf k) _ = _
 simp only [ZjF]
 rw [show (UD L.length != UD R.length) = false from by rw [h]; simp]
 simp only [cond_false]
 rw [Zh (by simp only [WH]; omega)]
 have:=ZF (A:=List (Nat × Nat)) (step:=fun L1 => Zfa k L1) (fun i acc => (UD L.length,UD i,L,R,acc)) (L.zip R)
  (fun l acc => some (if l.all (fun x => Wf x.1 && Wf x.2) = true then (acc ++ l.map (fun x => (Je.nearest x.1,Je.nearest x.2)),0,()) else ([],12,()),())) (fun i acc => acc.length = i)
  (fun L1 acc ha => by
   grind [Zfa])
  (fun L1 i hi acc ha hL1 => by
   have hi2:i < L.length:=by simp at hi; omega
   have hi3:i < R.length:=by omega
   simp only [Zfa]
   rw [Za (KN hi2),Za (Xd hi2),Za (Xd hi3),ZL hi2,ZL hi3,UA,H6]
   have hok:∀ x:Int,Wf x = true ↔ (¬ x < -16777216 ∧ ¬ 16777216 < x):=by intro x; unfold Wf; rw [decide_eq_true_eq]; omega
   by_cases h1:L[i] < -16777216
   ·grind
   ·rw [Zh h1]
    by_cases h2:16777216 < L[i]
    ·grind
    ·have hl:Wf L[i] = true:=(hok _).2 ⟨h1,h2⟩
     rw [Zh h2]
     by_cases h3:R[i] < -16777216
     ·grind
     ·rw [Zh h3]
      by_cases h4:16777216 < R[i]
      ·grind
      ·have hr:Wf R[i] = true:=(hok _).2 ⟨h3,h4⟩
       rw [Zh h4,Za (by simp; omega),Qa hi2 (by omega),hL1 _ (by simp [ha]),hl,hr]
       grind) k 0 [] rfl (by simp; omega) (Hu _)
 exact U4 this (by rw [U5]; rfl)
theorem ZP7 {m x y:Int} (hm:ZqK m) (hx:QG x) (hy:QG y) : -300000000 ≤ tgL m x y ∧ tgL m x y ≤ 300000000 ∧ -300000000 ≤ tgR m x y ∧ tgR m x y ≤ 300000000:=by
 unfold QG at hx hy
 unfold tgL tgR
 omega
def Qr (m:Int) (A B:List Int):List (Nat × Nat) × Int :=
 if A.length ≠ B.length then ([],1) else if ((KP m A B).zip (KQ m A B)).all (fun x => Wf x.1 && Wf x.2) = true then (ZfC (KP m A B) (KQ m A B),0) else ([],12)
theorem ZAd {xs:List Int} {g:List Int} {i:Nat} {v:Int} (h:i < xs.length) (hx:∀ j (h:j < i),xs[j]? = g[j]?) (hv:g[i]? = some v):∀ j,j < i + 1 → (xs.set i v)[j]? = g[j]? := by
 grind
theorem ZNu (k:Nat) {A B:List Int} {m:Int} (hm:ZqK m) (hn:A.length ≤ 600) (hk:1000 < k) (hA:∀ x ∈ A,QG x) (hB:∀ x ∈ B,QG x) :
  Zzf k (A,B,m,()) = some (((Qr m A B).1,(Qr m A B).2,()),()):=by
 show Zjz k (Zv2 k) _ = _
 simp only [Zjz]
 rw [Zzv k hm]
 simp only [QJ,HC,cond_false]
 by_cases hl:A.length = B.length
 case neg =>
  rw [Zk,Za (by simp only [WH]; omega)]
  unfold Qr
  rw [if_pos hl]
 rw [show (UD A.length != UD B.length) = false from by rw [hl]; simp]
 simp only [cond_false]
 rw [Zh (by simp only [WH]; omega),Za (by simp only [WH]; omega),Za (by simp only [WH]; omega)]
 have hzl:(A.zip B).length = A.length:=by rw [Ej]; omega
 have hLl:(KP m A B).length = A.length:=by unfold KP; rw [H4,hzl]
 have hRl:(KQ m A B).length = A.length:=by unfold KQ; rw [H4,hzl]
 have hgL:∀ (i:Nat) (h:i < A.length),(KP m A B)[i]? = some (tgL m A[i] (B[i]'(by omega))):=by
  intro i h
  rw [VN (by omega)]
  unfold KP
  rw [Ei,H6]
 have hgR:∀ (i:Nat) (h:i < A.length),(KQ m A B)[i]? = some (tgR m A[i] (B[i]'(by omega))):=by
  intro i h
  rw [VN (by omega)]
  unfold KQ
  rw [Ei,H6]
 have:=ZF (A:=List Int × List Int) (R:=(List (Nat × Nat) × Int × Unit) × Unit) (step:=fun L1 => Zcy k L1)
  (fun i a => (UD A.length,UD i,A,B,m,a.1,a.2)) A
  (fun l' a => some (((Qr m A B).1,(Qr m A B).2,()),()))
  (fun i a => a.1.length = A.length ∧ a.2.length = A.length ∧ (∀ j,j < i → a.1[j]? = (KP m A B)[j]?) ∧ (∀ j,j < i → a.2[j]? = (KQ m A B)[j]?))
  (fun L a ha => by
   simp only [Zcy]
   rw [Zh (ZaZ _)]
   have e1:a.1 = KP m A B:=by
    apply Jr
    grind
   have e2:a.2 = KQ m A B:=by
    apply Jr
    grind
   rw [e1,e2,ZSG k (by omega) (by omega) (by omega)]
   simp only [QJ]
   unfold Qr
   grind)
  (fun L i hi a ha hL => by
   have hi2:i < B.length:=by omega
   have hx:=hA A[i] (Ha hi)
   have hy:=hB B[i] (Ha hi2)
   have hbd:=ZP7 hm hx hy
   have key:Zcy k L (UD A.length,UD i,A,B,m,a.1,a.2) = L (UD A.length,UD (i + 1),A,B,m,a.1.set i (tgL m A[i] B[i]),a.2.set i (tgR m A[i] B[i])):=by
    have hor:=ZWU hx hy
    unfold QG at hx hy
    simp only [Zcy]
    rw [Za (KN hi),Za (Xd hi),Za (Xd hi2),ZL hi,ZL hi2,Zh (by split <;> omega),Zh (by split <;> omega)]
    have c1:(0:Int) ≤ UD i ∧ UD i < UD a.1.length:=by rw [ha.1]; exact Xd hi
    have c2:(0:Int) ≤ UD i ∧ UD i < UD a.2.length:=by rw [ha.2.1]; exact Xd hi
    have c3:(UD i).toNat < a.1.length:=by rw [ha.1]; simpa using hi
    have c4:(UD i).toNat < a.2.length:=by rw [ha.2.1]; simpa using hi
    rw [Zw,Zw,Zw,Zw]
    simp only [dTr c1,dTr c2,dTr c3,dTr c4,cond_true]
    rw [hor,Qa hi (by omega)]
    unfold tgL tgR
    rcases hm with rfl | rfl | rfl | rfl
    ·rfl
    ·rw [ZG (n:=A[i] - B[i]) (by omega)]; rfl
    ·rw [ZG (n:=A[i] + B[i]) (by omega)]; rfl
    ·rw [ZG (n:=2 * A[i] + B[i] % 2 + B[i]) (by omega),ZG (n:=2 * A[i] + B[i] % 2 - B[i]) (by omega),HE _ (by omega),HE _ (by omega)]
     rfl
   rw [key]
   exact hL (a.1.set i (tgL m A[i] B[i]),a.2.set i (tgR m A[i] B[i])) ⟨by simp [ha.1],by simp [ha.2.1],ZAd (by omega) ha.2.2.1 (hgL i hi),ZAd (by omega) ha.2.2.2 (hgR i hi)⟩)
  k 0 (Jd A.length 0,Jd A.length 0) ⟨by simp,by simp,fun j hj => by omega,fun j hj => by omega⟩ (by omega) (Hu _)
 exact this
theorem ZNv (k:Nat) {p:List (Nat × Nat)} {L R:List Int} (hp:PP p L R) (hk:p.length + 4 < k) (hn:p.length ≤ 8192):Zzg k (p,()) = some ((L,R,0,()),()):=by
 show Zp4 k _ = _
 simp only [Zp4]
 rw [ZN0 k hp hk hn (.inl rfl)]
 have hlr:L.length = R.length:=by rw [← hp.hl,hp.hr]
 have e1:Zop 0 L R = L:=by
  unfold Zop
  show (L.zip R).map (fun x => x.1) = L
  exact List.map_fst_zip (by omega)
 have e2:Zoq 0 L R = R:=by
  unfold Zoq
  show (L.zip R).map (fun x => x.2) = R
  exact List.map_snd_zip (by omega)
 rw [e1,e2]
 rfl
end Go.Sh
namespace Go.Sh
open Go Go.Proofs
abbrev InT:=List Int × (List Int × Int × Unit) × Int × Unit
abbrev inp (b:List Int) (s:IS):InT:=(b,XB b s.1,s.2,())
theorem XP (k:Nat) {b:List Int} (hb:Zo b = true) (hn:b.length < 268435456) (hk:100 < k) {s:IS} (hs:Zf b s.1) {w:Nat} (hw:w ≤ 32) :
  WN k (inp b s,(w:Int),()) = some ((((gI w s).1:Nat):Int),inp b (gI w s).2,()):=by
 show Zqe k _ = _
 simp only [Zqe]
 unfold gI
 rw [Zw]
 by_cases h:s.2 = 0
 ·rw [Za h,if_pos h,XE k hb (by omega) hs hw hk]
  rfl
 ·rw [Zh h,if_neg h]
  rfl
theorem Ws (k:Nat) {b:List Int} {s:IS} (ok:Bool) (code:Int):We k (inp b s,ok,code,()) = some ((),inp b (mI ok s code),()):=by
 show Zqd k _ = _
 simp only [Zqd]
 unfold mI
 grind
def KT (c:Int) (m:Nat):Bool:=if c = 1 then m == 0 else m == 1 || (decide (8 ≤ m) && decide (m ≤ 10))
theorem ZOo (k:Nat) (c d r:Int) (m:Nat):Zzt k ((c,d,r,()),(m:Int),()) = some (KT c m,()):=by
 show Zqf k _ = _
 simp only [Zqf]
 unfold KT
 rw [Zw,show ((m:Int) == (0:Int)) = (m == 0) from Wo m 0,show ((m:Int) == (1:Int)) = (m == 1) from Wo m 1]
 by_cases h:c = 1
 ·rw [Za h,if_pos h]
 ·rw [Zh h,if_neg h]
  cases m == 1 with
  | true => rfl
  | false =>
   simp only [cond_false,Bool.false_or]
   by_cases h8:8 ≤ m
   ·rw [Za (by omega),dTr h8,UC]
    simp_all <;> omega
   grind
def Zkd:Nat → IS → IS
 | 0,s => s
 | n + 1,s => Zkd n (gI 8 s).2
theorem Zrs {b:List Int}:∀ (n:Nat) (s:IS),Zf b s.1 → Zf b (Zkd n s).1
 | 0,s,h => h
 | n + 1,s,h => Zrs n _ (Z8 h 8)
def ZhO (b:List Int) (s:IS):Nat × IS :=
 if s.2 ≠ 0 then (0,s) else ((ZaS (b.drop (Zu b s.1 / 8))).1,mI (decide ((ZaS (b.drop (Zu b s.1 / 8))).1 ≤ 2147483647)) (Zkd (ZaS (b.drop (Zu b s.1 / 8))).2.1 (s.1,(ZaS (b.drop (Zu b s.1 / 8))).2.2)) 2)
theorem ZlK {b:List Int} {s:IS} (h:Zf b s.1):Zf b (ZhO b s).2.1:=by
 unfold ZhO
 split
 ·exact h
 ·exact Z7 (Zrs (ZaS (b.drop (Zu b s.1 / 8))).2.1 (s.1,(ZaS (b.drop (Zu b s.1 / 8))).2.2) h) _ _
theorem ZW {b:List Int} (h:Zo b = true) (i:Nat):Zo (b.drop i) = true :=
 Ve.2 fun x hx => Ve.1 h x (JS hx)
theorem Xn {b:List Int} (h:Zo b = true) (i:Nat):Zo (b.take i) = true :=
 Ve.2 fun x hx => Ve.1 h x (JT hx)
theorem ZIL (b:List Int):(ZaS b).2.1 ≤ 8:=by
 unfold ZaS
 grind
theorem ZOs (k:Nat) {b:List Int} (hb:Zo b = true) (hn:b.length < 268435456) (hk:1000 < k) {s:IS} (hs:Zf b s.1) :
  Zqg k (inp b s,()) = some ((((ZhO b s).1:Nat):Int),inp b (ZhO b s).2,()):=by
 show ZjL k (Zws k) _ = _
 simp only [ZjL]
 unfold ZhO
 rw [Zk]
 by_cases h:s.2 = 0
 ·rw [Zh (by simpa using h),if_neg (by simpa using h)]
  have e51:ZaP k ((b,((Zu b s.1:Nat):Int),()),()) = some (((Zu b s.1:Nat):Int),XB b s.1,()):=rfl
  rw [e51]
  simp only [QJ]
  have hp:Zu b s.1 ≤ 8 * b.length:=by unfold Zu; omega
  rw [ZrC,ZG (n:=((Zu b s.1 / 8:Nat):Int)) (by omega),Za (by simp only [WH]; omega),tNc,show (UD b.length).toNat = b.length from rfl,Ea]
  rw [ZHj k (ZW hb _) (by omega)]
  simp only [QJ]
  have hu:=ZIL (b.drop (Zu b s.1 / 8))
  generalize ZaS (b.drop (Zu b s.1 / 8)) = c at hu
  have H:∀ (d m i:Nat) (t:IS),Zf b t.1 → d < m → i + d ≤ 8 →
    Zg (fun L1 => Zfh k L1) m (((i + d:Nat):Int),(i:Int),((c.1:Nat):Int),b,t.2,b,((Zu b t.1:Nat):Int)) = some (((c.1:Nat):Int),inp b (mI (decide (c.1 ≤ 2147483647)) (Zkd d t) 2),()):=by
   intro d
   induction d with
   | zero =>
    intro m i t ht hm hi
    obtain ⟨m,rfl⟩:=Zm hm
    rw [Zc]
    simp only [Zfh]
    rw [Zh (by omega)]
    refine (Zd (Ws k (b:=b) (s:=t) _ _) _).trans ?_
    have:decide (((c.1:Nat):Int) ≤ 2147483647) = decide (c.1 ≤ 2147483647):=by
     grind
    rw [this]
    rfl
   | succ d ih =>
    intro m i t ht hm hi
    obtain ⟨m,rfl⟩:=Zm (show 0 < m by omega)
    rw [Zc]
    simp only [Zfh]
    rw [Za (by omega)]
    refine (Zd (XP k hb hn (by omega) ht (w:=8) (by omega)) _).trans ?_
    have e2:Jx.wrap ((i:Int) + 1) = ((i + 1:Nat):Int):=by rw [ZG (by omega)]; rfl
    rw [e2]
    have:=ih m (i + 1) (gI 8 t).2 (Z8 ht 8) (by omega) (by omega)
    rw [show i + 1 + d = i + (d + 1) by omega] at this
    exact this
  have:=H c.2.1 k 0 (s.1,c.2.2) hs (by omega) (by omega)
  rw [Ua] at this
  exact this
 ·rw [Za h,if_pos h]
  rfl
def ZdU (of:List Int → Nat) (b:List Int) (w:Nat) (s:IS):IS:=if (gI w s).2.2 ≠ 0 then (gI w s).2 else mI ((gI w s).1 == of (b.take (Zu b s.1 / 8))) (gI w s).2 16
theorem Zt2 {of:List Int → Nat} {b:List Int} {s:IS} (h:Zf b s.1) (w:Nat):Zf b (ZdU of b w s).1:=by
 unfold ZdU
 split
 ·exact Z8 h _
 ·exact Z7 (Z8 h _) _ _
theorem QF (s:IS) (code:Int):mI true s code = s:=by unfold mI; rw [if_neg (by simp)]
theorem Zze (k:Nat) {b:List Int} (hb:Zo b = true) (hn:b.length < 268435456) (hk:b.length + 1000 < k) {s:IS} (hs:Zf b s.1) {w:Nat} (hw:w ≤ 32) :
  Zmq k (inp b s,(w:Int),(),()) = some ((),inp b (ZdU ZoN b w s),()):=by
 show Zp3 k _ = _
 simp only [Zp3]
 have e51:ZaP k ((b,((Zu b s.1:Nat):Int),()),()) = some (((Zu b s.1:Nat):Int),XB b s.1,()):=rfl
 rw [e51]
 simp only [QJ]
 refine (Zd (XP k hb hn (by omega) hs hw) _).trans ?_
 unfold ZdU
 simp only
 rw [Zk]
 by_cases h:(gI w s).2.2 = 0
 ·rw [Zh (by simpa using h),if_neg (by simpa using h)]
  have hp:Zu b s.1 ≤ 8 * b.length:=by unfold Zu; omega
  rw [ZrC,ZG (n:=((Zu b s.1 / 8:Nat):Int)) (by omega),Za (by simp only [WH]; omega),tNc,U5]
  have htl:(b.take (Zu b s.1 / 8)).length ≤ b.length:=by rw [Jz]; omega
  refine (Zd (ZMV k (b.take (Zu b s.1 / 8)) (Xn hb _) (by omega) (by omega)) _).trans ?_
  simp only
  rw [Wo]
  exact Zd (Ws k (b:=b) (s:=(gI w s).2) _ _) _
 ·rw [Za h,if_pos h]
  refine (Zd (Ws k (b:=b) (s:=(gI w s).2) _ _) _).trans ?_
  rw [QF]
theorem ZA6 (k:Nat) {b:List Int} (hb:Zo b = true) (hn:b.length < 268435456) (hk:b.length + 1000 < k) {s:IS} (hs:Zf b s.1) {w:Nat} (hw:w ≤ 32) :
  ZuA k (inp b s,(w:Int),(),()) = some ((),inp b (ZdU Km b w s),()):=by
 show Zhn k _ = _
 simp only [Zhn]
 have e51:ZaP k ((b,((Zu b s.1:Nat):Int),()),()) = some (((Zu b s.1:Nat):Int),XB b s.1,()):=rfl
 rw [e51]
 simp only [QJ]
 refine (Zd (XP k hb hn (by omega) hs hw) _).trans ?_
 unfold ZdU
 simp only
 rw [Zk]
 by_cases h:(gI w s).2.2 = 0
 ·rw [Zh (by simpa using h),if_neg (by simpa using h)]
  have hp:Zu b s.1 ≤ 8 * b.length:=by unfold Zu; omega
  rw [ZrC,ZG (n:=((Zu b s.1 / 8:Nat):Int)) (by omega),Za (by simp only [WH]; omega),tNc,U5]
  have htl:(b.take (Zu b s.1 / 8)).length ≤ b.length:=by rw [Jz]; omega
  refine (Zd (ZM3 k (b.take (Zu b s.1 / 8)) (Xn hb _) (by omega) (by omega)) _).trans ?_
  simp only
  rw [Wo]
  exact Zd (Ws k (b:=b) (s:=(gI w s).2) _ _) _
 ·rw [Za h,if_pos h]
  refine (Zd (Ws k (b:=b) (s:=(gI w s).2) _ _) _).trans ?_
  rw [QF]
def hd1 (s:IS):IS:=mI ((gI 15 s).1 == 32764) (gI 15 s).2 11
def hd2 (s:IS):IS:=mI ((gI 1 s).1 == 0) (gI 1 s).2 2
def hd3 (s:IS):Nat × IS:=((gI 4 s).1,mI ((gI 4 s).1 == 6 || (gI 4 s).1 == 7) (gI 4 s).2 2)
def hd4 (s:IS):IS:=mI ((gI 4 s).1 == 0) (gI 4 s).2 2
def hd5 (c:Int) (s:IS):Nat × IS:=((gI 4 s).1,mI (KT c (gI 4 s).1) (gI 4 s).2 2)
def hd6 (kind:Nat) (s:IS):Nat × IS:=if s.2 = 0 then ((gI (8 * (kind - 5)) s).1 + 1,mI (decide ((gI (8 * (kind - 5)) s).1 + 1 ≤ 512)) (gI (8 * (kind - 5)) s).2 1) else (0,s)
abbrev HdT:=Nat × Nat × Nat × IS
def Zlz (b:List Int) (kind mode num:Nat) (s:IS):HdT:=(mode,num,(hd6 kind s).1,ZdU ZoN b 8 (hd6 kind s).2)
def ZrY (b:List Int) (kind mode:Nat) (s:IS):HdT:=Zlz b kind mode (ZhO b s).1 (ZhO b s).2
def ZzP (c:Int) (b:List Int) (kind:Nat) (s:IS):HdT:=ZrY b kind (hd5 c s).1 (hd4 (hd5 c s).2)
def ZjW (c:Int) (b:List Int) (kind:Nat) (s:IS):HdT:=ZzP c b kind (hd4 s)
def YD (c:Int) (b:List Int) (s:IS):HdT:=ZjW c b (hd3 (hd2 (hd1 s))).1 (hd3 (hd2 (hd1 s))).2
abbrev ZXg:=(Int × Int × Int × Unit) × InT × Unit
def ZvW (k:Nat) (kind mode num:Int) (w:InT):Option ZXg :=
 bif w.2.2.1 == (0:Int) then (WN k (w,Jx.wrap ((8:Int) * Jx.wrap (Jx.wrap (kind - (6:Int)) + (1:Int))),())).bind fun y => (We k (y.2.1,decide (Jx.wrap (y.1 + (1:Int)) ≤ (512:Int)),1,())).bind fun y_10 => (Zmq k (y_10.2.1,8,(),())).bind fun y_11 => some ((mode,num,Jx.wrap (y.1 + (1:Int)),()),y_11.2.1,())
 else (We k (w,decide ((0:Int) ≤ (512:Int)),1,())).bind fun y => (Zmq k (y.2.1,8,(),())).bind fun y => some ((mode,num,0,()),y.2.1,())
def ZvV (k:Nat) (sh:Int × Int × Int × Unit) (kind:Int) (w:InT):Option ZXg :=
 (WN k (w,4,())).bind fun y_2 => (We k (y_2.2.1,y_2.1 == (0:Int),2,())).bind fun y_3 => (WN k (y_3.2.1,4,())).bind fun y_4 => (Zzt k (sh,y_4.1,())).bind fun y_5 => (We k (y_4.2.1,y_5.1,2,())).bind fun y_6 => (WN k (y_6.2.1,4,())).bind fun y_7 => (We k (y_7.2.1,y_7.1 == (0:Int),2,())).bind fun y_8 => (Zqg k (y_8.2.1,())).bind fun y_9 => ZvW k kind y_4.1 y_9.1 y_9.2.1
theorem ZIx (k:Nat) (w:InT) (sh:Int × Int × Int × Unit):ZFp k (w,sh,()) =
  (WN k (w,15,())).bind fun y => (We k (y.2.1,y.1 == (32764:Int),11,())).bind fun y => (WN k (y.2.1,1,())).bind fun y => (We k (y.2.1,y.1 == (0:Int),2,())).bind fun y => (WN k (y.2.1,4,())).bind fun y =>
   bif y.1 == (6:Int) then (We k (y.2.1,true,2,())).bind fun y_1 => ZvV k sh y.1 y_1.2.1 else (We k (y.2.1,y.1 == (7:Int),2,())).bind fun y_1 => ZvV k sh y.1 y_1.2.1:=rfl
theorem ZwI {w:Nat} {s:IS} (h:(gI w s).2.2 = 0):s.2 = 0:=by
 unfold gI at h
 grind
theorem ZtK {b:List Int} {s:IS} (h:(ZhO b s).2.2 = 0):s.2 = 0:=by
 unfold ZhO at h
 grind
theorem ZqB {s:IS} (h:(hd4 s).2 = 0):s.2 = 0:=ZwI ((Zbx (by decide)).1 h).1
theorem ZzN {c:Int} {s:IS} (h:(hd5 c s).2.2 = 0):s.2 = 0 ∧ KT c (hd5 c s).1 = true:=⟨ZwI ((Zbx (by decide)).1 h).1,((Zbx (by decide)).1 h).2⟩
theorem ZPh {s:IS} (h:(hd3 s).2.2 = 0):(hd3 s).1 = 6 ∨ (hd3 s).1 = 7:=by
 have:=((Zbx (by decide)).1 h).2
 show (gI 4 s).1 = 6 ∨ (gI 4 s).1 = 7
 simpa using this
theorem ZzO {b:List Int} {s:IS} (h:Zf b s.1) (kind:Nat):Zf b (hd6 kind s).2.1:=by
 unfold hd6
 split
 ·exact Z7 (Z8 h _) _ _
 ·exact h
theorem Zzd (k:Nat) {b:List Int} (hb:Zo b = true) (hn:b.length < 268435456) (hk:b.length + 1000 < k) {s:IS} (hs:Zf b s.1) {kind:Nat} (hkind:s.2 = 0 → kind = 6 ∨ kind = 7) (mode num:Nat) :
  ZvW k (kind:Int) (mode:Int) (num:Int) (inp b s) = some (((((Zlz b kind mode num s).1:Nat):Int),(((Zlz b kind mode num s).2.1:Nat):Int),(((Zlz b kind mode num s).2.2.1:Nat):Int),()),inp b (Zlz b kind mode num s).2.2.2,()):=by
 unfold ZvW Zlz hd6
 rw [Zw]
 by_cases h:s.2 = 0
 ·rw [Za h]
  simp only [if_pos h]
  have e1:Jx.wrap ((8:Int) * Jx.wrap (Jx.wrap ((kind:Int) - (6:Int)) + (1:Int))) = ((8 * (kind - 5):Nat):Int):=by
   rcases hkind h with rfl | rfl <;> rfl
  have hw:8 * (kind - 5) ≤ 32:=by rcases hkind h with rfl | rfl <;> omega
  rw [e1]
  refine (Zd (XP k hb hn (by omega) hs hw) _).trans ?_
  have hlt:=ZYw (8 * (kind - 5)) s
  have r1:=Z8 hs (8 * (kind - 5))
  have h32:2 ^ (8 * (kind - 5)) ≤ 2 ^ 32:=Hf (by omega) hw
  generalize gI (8 * (kind - 5)) s = x at hlt r1 ⊢
  have e2:Jx.wrap (((x.1:Nat):Int) + 1) = ((x.1 + 1:Nat):Int):=by rw [ZG (by omega)]; rfl
  have e3:decide (((x.1 + 1:Nat):Int) ≤ 512) = decide (x.1 + 1 ≤ 512):=by
   grind
  simp only
  rw [e2,e3]
  refine (Zd (Ws k (b:=b) (s:=x.2) _ _) _).trans ?_
  refine (Zd (Zze k hb hn hk (Z7 r1 _ _) (w:=8) (by omega)) _).trans ?_
  rfl
 ·rw [Zh h]
  simp only [if_neg h]
  refine (Zd (Ws k (b:=b) (s:=s) _ _) _).trans ?_
  rw [show decide ((0:Int) ≤ 512) = true from rfl,QF]
  refine (Zd (Zze k hb hn hk hs (w:=8) (by omega)) _).trans ?_
  rfl
theorem Zzc (k:Nat) {b:List Int} (hb:Zo b = true) (hn:b.length < 268435456) (hk:b.length + 1000 < k) {s:IS} (hs:Zf b s.1) {kind:Nat} (hkind:s.2 = 0 → kind = 6 ∨ kind = 7) (c d r:Int) :
  ZvV k (c,d,r,()) (kind:Int) (inp b s) = some (((((ZjW c b kind s).1:Nat):Int),(((ZjW c b kind s).2.1:Nat):Int),(((ZjW c b kind s).2.2.1:Nat):Int),()),inp b (ZjW c b kind s).2.2.2,()):=by
 unfold ZvV ZjW
 refine (Zd (XP k hb hn (by omega) hs (w:=4) (by omega)) _).trans ?_
 refine (Zd (Ws k (b:=b) (s:=(gI 4 s).2) _ _) _).trans ?_
 rw [show ((((gI 4 s).1:Nat):Int) == (0:Int)) = ((gI 4 s).1 == 0) from Wo _ 0]
 have r1:Zf b (hd4 s).1:=Z7 (Z8 hs _) _ _
 have k1:=fun h => hkind (ZqB (s:=s) h)
 change ((WN k (inp b (hd4 s),4,())).bind _) = _
 generalize hd4 s = s1 at r1 k1 ⊢
 unfold ZzP
 refine (Zd (XP k hb hn (by omega) r1 (w:=4) (by omega)) _).trans ?_
 refine (Zd (ZOo k c d r (gI 4 s1).1) _).trans ?_
 refine (Zd (Ws k (b:=b) (s:=(gI 4 s1).2) _ _) _).trans ?_
 have r2:Zf b (hd5 c s1).2.1:=Z7 (Z8 r1 _) _ _
 have k2:=fun h => k1 (ZzN (c:=c) (s:=s1) h).1
 change ((WN k (inp b (hd5 c s1).2,4,())).bind fun y_7 => (We k (y_7.2.1,y_7.1 == (0:Int),2,())).bind fun y_8 => (Zqg k (y_8.2.1,())).bind fun y_9 => ZvW k (kind:Int) (((hd5 c s1).1:Nat):Int) y_9.1 y_9.2.1) = _
 generalize (hd5 c s1).1 = mode
 generalize (hd5 c s1).2 = s2 at r2 k2 ⊢
 refine (Zd (XP k hb hn (by omega) r2 (w:=4) (by omega)) _).trans ?_
 refine (Zd (Ws k (b:=b) (s:=(gI 4 s2).2) _ _) _).trans ?_
 rw [show ((((gI 4 s2).1:Nat):Int) == (0:Int)) = ((gI 4 s2).1 == 0) from Wo _ 0]
 have r3:Zf b (hd4 s2).1:=Z7 (Z8 r2 _) _ _
 have k3:=fun h => k2 (ZqB (s:=s2) h)
 change ((Zqg k (inp b (hd4 s2),())).bind _) = _
 generalize hd4 s2 = s3 at r3 k3 ⊢
 unfold ZrY
 refine (Zd (ZOs k hb hn (by omega) r3) _).trans ?_
 exact Zzd k hb hn hk (ZlK r3) (fun h => k3 (ZtK h)) mode (ZhO b s3).1
theorem ZNj (k:Nat) {b:List Int} (hb:Zo b = true) (hn:b.length < 268435456) (hk:b.length + 1000 < k) {s:IS} (hs:Zf b s.1) (c d r:Int) :
  ZFp k (inp b s,(c,d,r,()),()) = some (((((YD c b s).1:Nat):Int),(((YD c b s).2.1:Nat):Int),(((YD c b s).2.2.1:Nat):Int),()),inp b (YD c b s).2.2.2,()):=by
 rw [ZIx]
 unfold YD
 refine (Zd (XP k hb hn (by omega) hs (w:=15) (by omega)) _).trans ?_
 refine (Zd (Ws k (b:=b) (s:=(gI 15 s).2) _ _) _).trans ?_
 rw [show ((((gI 15 s).1:Nat):Int) == (32764:Int)) = ((gI 15 s).1 == 32764) from Wo _ 32764]
 have r1:Zf b (hd1 s).1:=Z7 (Z8 hs _) _ _
 change ((WN k (inp b (hd1 s),1,())).bind _) = _
 generalize hd1 s = s1 at r1 ⊢
 refine (Zd (XP k hb hn (by omega) r1 (w:=1) (by omega)) _).trans ?_
 refine (Zd (Ws k (b:=b) (s:=(gI 1 s1).2) _ _) _).trans ?_
 rw [show ((((gI 1 s1).1:Nat):Int) == (0:Int)) = ((gI 1 s1).1 == 0) from Wo _ 0]
 have r2:Zf b (hd2 s1).1:=Z7 (Z8 r1 _) _ _
 change ((WN k (inp b (hd2 s1),4,())).bind _) = _
 generalize hd2 s1 = s2 at r2 ⊢
 refine (Zd (XP k hb hn (by omega) r2 (w:=4) (by omega)) _).trans ?_
 simp only
 rw [show ((((gI 4 s2).1:Nat):Int) == (6:Int)) = ((gI 4 s2).1 == 6) from Wo _ 6,show ((((gI 4 s2).1:Nat):Int) == (7:Int)) = ((gI 4 s2).1 == 7) from Wo _ 7]
 have r3:Zf b (hd3 s2).2.1:=Z7 (Z8 r2 _) _ _
 have fin:=Zzc k hb hn hk r3 (fun h => ZPh h) c d r
 unfold hd3 at fin ⊢
 cases h6:(gI 4 s2).1 == 6 with
 | true =>
  rw [h6] at fin
  simp only [cond_true]
  refine (Zd (Ws k (b:=b) (s:=(gI 4 s2).2) _ _) _).trans ?_
  exact fin
 | false =>
  rw [h6] at fin
  simp only [cond_false]
  refine (Zd (Ws k (b:=b) (s:=(gI 4 s2).2) _ _) _).trans ?_
  exact fin
end Go.Sh
namespace Go.Sh
open Go Go.Proofs
def Zhj (n:Nat):List Int → List Bool → List (List Int) → List (List Int) × Int × List Bool
 | [],r,acc => (acc,0,r)
 | d :: ds,r,acc => if (ZZ n d.toNat r).2.1 ≠ 0 then ([],(ZZ n d.toNat r).2.1,(ZZ n d.toNat r).2.2) else Zhj n ds (ZZ n d.toNat r).2.2 (acc ++ [(ZZ n d.toNat r).1])
abbrev RdR:=(Int × List (List Int)) × Int × Int
def Zr7 (c d r num:Int) (pos:Nat) (out:List (List Int)):RdR:=if KH c d r num out ≠ 0 then ((0,[]),0,KH c d r num out) else ((num,out),((pos / 8:Nat):Int),0)
def ZmF (c d r num:Int) (pos:Nat) (m:Int) (A B:List Int):RdR:=if (Qr m A B).2 ≠ 0 then ((0,[]),0,(Qr m A B).2) else Zr7 c d r num pos [KP m A B,KQ m A B]
def ZC4 (c d r:Int) (b:List Int) (mode num:Nat) (chs:List (List Int)) (rr:List Bool):RdR :=
 if (ZdU Km b 16 ((alS rr).2,(alS rr).1)).2 ≠ 0 then ((0,[]),0,(ZdU Km b 16 ((alS rr).2,(alS rr).1)).2)
 else if 1 < c then ZmF c d r num (Zu b (ZdU Km b 16 ((alS rr).2,(alS rr).1)).1) (if mode = 1 then 0 else mode) (chs.getD 0 []) (chs.getD 1 [])
 else Zr7 c d r num (Zu b (ZdU Km b 16 ((alS rr).2,(alS rr).1)).1) chs
def Zuh (c d r:Int) (b:List Int) (h:HdT):RdR :=
 if h.2.2.2.2 ≠ 0 then ((0,[]),0,h.2.2.2.2)
 else if (Zhj h.2.2.1 (WX c d h.1) h.2.2.2.1 []).2.1 ≠ 0 then ((0,[]),0,(Zhj h.2.2.1 (WX c d h.1) h.2.2.2.1 []).2.1)
 else ZC4 c d r b h.1 h.2.1 (Zhj h.2.2.1 (WX c d h.1) h.2.2.2.1 []).1 (Zhj h.2.2.1 (WX c d h.1) h.2.2.2.1 []).2.2
def W8 (c d r:Int) (b:List Int):RdR:=if XL c d r = false then ((0,[]),0,2) else Zuh c d r b (YD c b (ZA b,0))
def Zd5 (x:RdR):((Int × List (List Int) × Unit) × Int × Int × Unit) × Unit:=(((x.1.1,x.1.2,()),x.2.1,x.2.2,()),())
theorem ZfT {n d:Nat} {r:List Bool} (h:(ZZ n d r).2.1 = 0):(ZZ n d r).1.length ≤ 520 ∧ d ≤ 25 ∧ ∀ x ∈ (ZZ n d r).1,sgn x d = true:=by
 unfold ZZ at h ⊢
 split at h
 ·simp at h
 ·rename_i h1
  rw [if_neg h1]
  have h1:1 ≤ n ∧ n ≤ 512 ∧ 4 ≤ d ∧ d ≤ 25:=by simpa using h1
  have hz:=Zkh (d:=d) (s:=(r,0))
  generalize ZP d (r,0) = hd at h hz ⊢
  obtain ⟨kind,kk,s1⟩:=hd
  simp only at h hz ⊢
  split at h
  ·rename_i h2; exact absurd h h2
  ·rename_i h2
   rw [if_neg h2]
   obtain ⟨hkd,hkind⟩:=hz (by simpa using h2)
   have hl:=Zkx (kind:=kind) (n:=n) (d:=d - kk) (s:=s1) hkind
   generalize Xm kind n (d - kk) s1 = y at h hl ⊢
   split at h
   ·rename_i h3; exact absurd h h3
   ·rename_i h3
    rw [if_neg h3]
    split at h
    ·rename_i h4
     rw [if_pos h4]
     refine ⟨by simp; omega,by omega,fun x hx => ?_⟩
     obtain ⟨z,hz,rfl⟩:=VF.1 hx
     exact (Zw9 hkd (by omega) (Ve.1 h4 z hz)).1
    ·simp at h
theorem Zbu {x:Int} (h:Wf x = true):Wy x:=by
 unfold Wf at h
 rw [decide_eq_true_eq] at h
 exact h
abbrev ZJy:=((Int × List (List Int) × Unit) × Int × Int × Unit) × Unit
theorem ZEC (k:Nat) (hk:1000 < k) (c d r num:Int) (out:List (List Int)) {b:List Int} (hn:b.length < 268435456) (rr:List Bool) :
  ((ZpP k ((c,d,r,()),(num,out,()),())).bind fun y_3 => bif y_3.1 != (0:Int) then some (((((0:Int),[],()),0,y_3.1,()),()):ZJy) else (ZaP k ((b,((Zu b rr:Nat):Int),()),())).bind fun y => some (((num,out,()),Jx.wrap (Int.tdiv y.1 (8:Int)),0,()),())) = some (Zd5 (Zr7 c d r num (Zu b rr) out)):=by
 refine (Zd (ZMO k c d r num out (by omega)) _).trans ?_
 unfold Zr7
 simp only
 rw [Zk]
 by_cases h:KH c d r num out = 0
 ·rw [Zh (by simpa using h),if_neg (by simpa using h)]
  have e51:ZaP k ((b,((Zu b rr:Nat):Int),()),()) = some (((Zu b rr:Nat):Int),XB b rr,()):=rfl
  refine (Zd e51 _).trans ?_
  have hp:Zu b rr ≤ 8 * b.length:=by unfold Zu; omega
  simp only
  rw [ZrC,ZG (n:=((Zu b rr / 8:Nat):Int)) (by omega)]
  rfl
 ·rw [Za h,if_pos h]
  rfl
theorem Zyj (k:Nat) (hk:2000 < k) (c d r num:Int) {A B:List Int} {m:Int} (hm:ZqK m) (hA:A.length ≤ 520 ∧ ∀ x ∈ A,QG x) (hB:B.length ≤ 520 ∧ ∀ x ∈ B,QG x) {b:List Int} (hn:b.length < 268435456) (rr:List Bool) :
  ((Zzf k (A,B,m,())).bind fun y_1 => bif y_1.1.2.1 != (0:Int) then some (((((0:Int),[],()),0,y_1.1.2.1,()),()):ZJy) else (Zzg k (y_1.1.1,())).bind fun y_2 => bif y_2.1.2.2.1 != (0:Int) then some ((((0:Int),[],()),0,y_2.1.2.2.1,()),()) else (ZpP k ((c,d,r,()),(num,[y_2.1.1,y_2.1.2.1],()),())).bind fun y_3 => bif y_3.1 != (0:Int) then some ((((0:Int),[],()),0,y_3.1,()),()) else (ZaP k ((b,((Zu b rr:Nat):Int),()),())).bind fun y => some (((num,[y_2.1.1,y_2.1.2.1],()),Jx.wrap (Int.tdiv y.1 (8:Int)),0,()),())) =
   some (Zd5 (ZmF c d r num (Zu b rr) m A B)):=by
 refine (Zd (ZNu k hm (by omega) (by omega) hA.2 hB.2) _).trans ?_
 unfold ZmF
 have key:(Qr m A B).2 = 0 → A.length = B.length ∧ (Qr m A B).1 = ZfC (KP m A B) (KQ m A B) ∧ ((KP m A B).zip (KQ m A B)).all (fun x => Wf x.1 && Wf x.2) = true:=by
  unfold Qr
  grind
 simp only
 rw [Zk]
 by_cases h:(Qr m A B).2 = 0
 ·rw [Zh (by simpa using h),if_neg (by simpa using h)]
  obtain ⟨hl,e1,e2⟩:=key h
  have hLl:(KP m A B).length = A.length:=by unfold KP; simp_all
  have hRl:(KQ m A B).length = A.length:=by unfold KQ; simp_all
  generalize KP m A B = L at e1 e2 hLl ⊢
  generalize KQ m A B = R at e1 e2 hRl ⊢
  have hsm:(∀ x ∈ L,Wy x) ∧ ∀ x ∈ R,Wy x:=by
   have hall:=Ve.1 e2
   constructor
   ·intro x hx
    obtain ⟨i,hi,rfl⟩:=Eu hx
    have:=hall ((L.zip R)[i]'(by rw [Ej]; omega)) (Ha _)
    rw [H6,Jh] at this
    exact Zbu this.1
   ·intro x hx
    obtain ⟨i,hi,rfl⟩:=Eu hx
    have:=hall ((L.zip R)[i]'(by rw [Ej]; omega)) (Ha _)
    rw [H6,Jh] at this
    exact Zbu this.2
  have hpp:=ZzW (show L.length = R.length by omega) hsm.1 hsm.2
  rw [e1]
  have hjl:(ZfC L R).length ≤ 520:=by rw [hpp.hl]; omega
  refine (Zd (ZNv k hpp (by omega) (by omega)) _).trans ?_
  simp only
  rw [show ((0:Int) != 0) = false from rfl]
  simp only [cond_false]
  exact ZEC k (by omega) c d r num [L,R] hn rr
 ·rw [Za h,if_pos h]
  rfl
theorem ZA0 (c d m:Int):(WX c d m).length ≤ 2 ∧ (c ≠ 1 → (WX c d m).length = 2) ∧ ((1 ≤ d ∧ d ≤ 24) → ∀ x ∈ WX c d m,1 ≤ x):=by
 unfold WX
 grind
theorem ZLu (k:Nat) {b:List Int} (hb:Zo b = true) (hn:b.length < 268435456) (hk:8 * b.length + 50000 < k) {c d r:Int} (hc:c = 1 ∨ c = 2) {mode num n:Nat} (hm:KT c mode = true) (ds:List Int) (hd:∀ x ∈ ds,1 ≤ x) (hdl:ds.length ≤ 2) (hdl2:c ≠ 1 → ds.length = 2) (zz:Int) :
  ∀ (e j i:Nat) (rr:List Bool) (acc:List (List Int)),e < j → i + e = ds.length → acc.length = i → Zf b rr → (∀ l ∈ acc,l.length ≤ 520 ∧ ∀ x ∈ l,QG x) →
  Zg (fun L1 => ZeE k L1) j (((ds.length:Nat):Int),(i:Int),ds,(n:Int),(mode:Int),b,(0:Int),b,((Zu b rr:Nat):Int),zz,(num:Int),acc,c,d,r) =
   some (Zd5 (if (Zhj n (ds.drop i) rr acc).2.1 ≠ 0 then ((0,[]),0,(Zhj n (ds.drop i) rr acc).2.1) else ZC4 c d r b mode num (Zhj n (ds.drop i) rr acc).1 (Zhj n (ds.drop i) rr acc).2.2)):=by
 intro e
 induction e with
 | zero =>
  intro j i rr acc hj hi ha hr hacc
  obtain ⟨j,rfl⟩:=Zm hj
  rw [Zc]
  simp only [ZeE]
  rw [Zh (by omega),UF (by omega)]
  show _ = some (Zd5 (if (0:Int) ≠ 0 then _ else ZC4 c d r b mode num acc rr))
  rw [if_neg (by simp)]
  refine (Zd (ZNr k hb (by omega) hr (by omega)) _).trans ?_
  refine (Zd (ZA6 k hb hn (by omega) (s:=((alS rr).2,(alS rr).1)) (Zxo hr) (w:=16) (by omega)) _).trans ?_
  unfold ZC4
  generalize ZdU Km b 16 ((alS rr).2,(alS rr).1) = s
  simp only
  rw [Zk]
  by_cases h:s.2 = 0
  ·rw [Zh (by simpa using h),if_neg (by simpa using h)]
   rcases hc with rfl | rfl
   ·rw [Zh (by omega),if_neg (by omega)]
    exact ZEC k (by omega) 1 d r num acc hn s.1
   ·rw [Za (by omega),if_pos (by omega)]
    have hlen:acc.length = 2:=by have:=hdl2 (by omega); omega
    match acc,hlen,hacc with
    | [A,B],_,hacc =>
     have hA:=hacc A (by simp)
     have hB:=hacc B (by simp)
     have p1:(0:Int) ≤ 0 ∧ (0:Int) < UD [A,B].length:=by simp
     have p2:0 < [A,B].length:=by simp
     have p3:(0:Int) ≤ 1 ∧ (1:Int) < UD [A,B].length:=by simp
     have p4:1 < [A,B].length:=by simp
     have hmd:ZqK (if mode = 1 then 0 else (mode:Int)):=by
      unfold KT at hm
      rw [if_neg (by omega)] at hm
      simp only [Bool.or_eq_true,beq_iff_eq,Jh,decide_eq_true_eq] at hm
      unfold ZqK
      split <;> omega
     rw [Za p1,Za p2,Za p3,Za p4,Za p1,Za p2,Za p3,Za p4,show ((mode:Int) == (1:Int)) = (mode == 1) from Wo _ 1]
     by_cases h1:mode = 1
     ·rw [show (mode == 1) = true from by simp [h1]]
      rw [if_pos h1] at hmd ⊢
      exact Zyj k (by omega) 2 d r num hmd hA hB hn s.1
     ·rw [show (mode == 1) = false from by simp [h1]]
      rw [if_neg h1] at hmd ⊢
      exact Zyj k (by omega) 2 d r num hmd hA hB hn s.1
  ·rw [Za h,if_pos h]
   rfl
 | succ e ih =>
  intro j i rr acc hj hi ha hr hacc
  obtain ⟨j,rfl⟩:=Zm (show 0 < j by omega)
  rw [Zc]
  simp only [ZeE]
  have hil:i < ds.length:=by omega
  rw [Za (by omega),Za (by simp only [WH]; omega),tNc,Xf hil,Uk hil]
  have hdi:=hd ds[i] (Ha hil)
  have hde:ds[i] = ((ds[i].toNat:Nat):Int):=by omega
  have e46:=ZNn k hb hn hk hr n ds[i].toNat
  rw [← hde] at e46
  refine (Zd e46 _).trans ?_
  unfold Zhj
  have hok:=ZfT (n:=n) (d:=ds[i].toNat) (r:=rr)
  have hrr:=ZbR hr n ds[i].toNat
  generalize ZZ n ds[i].toNat rr = q at hok hrr ⊢
  simp only
  rw [Zk]
  by_cases h:q.2.1 = 0
  ·rw [Zh (by simpa using h),Za (by simp only [Ur]; omega)]
   have e2:Jx.wrap ((i:Int) + 1) = ((i + 1:Nat):Int):=by rw [ZG (by omega)]; rfl
   rw [e2]
   obtain ⟨o1,o2,o3⟩:=hok h
   have:=ih j (i + 1) q.2.2 (acc ++ [q.1]) (by omega) (by omega) (by simp; omega) hrr (by
    intro l hl
    rcases Js.1 hl with hl | hl
    ·exact hacc l hl
    ·rw [Vx.1 hl]
     refine ⟨o1,fun x hx => ?_⟩
     have:=o3 x hx
     unfold sgn at this
     unfold QG
     split at this
     ·omega
     ·rw [decide_eq_true_eq,QV] at this
      have h24:2 ^ (ds[i].toNat - 1) ≤ 2 ^ 24:=Hf (by omega) (by omega)
      omega)
   refine this.trans ?_
   simp only [if_neg (show ¬ q.2.1 ≠ 0 from fun hh => hh h)]
  ·rw [Za h]
   simp only [if_pos h]
   rfl
theorem ZqF {c:Int} {b:List Int} {s:IS} (h:(YD c b s).2.2.2.2 = 0):KT c (YD c b s).1 = true:=by
 unfold YD ZjW ZzP ZrY Zlz at h ⊢
 generalize (hd3 (hd2 (hd1 s))).1 = kind at h ⊢
 generalize hd4 (hd3 (hd2 (hd1 s))).2 = s3 at h ⊢
 simp only at h ⊢
 have h0:(hd6 kind (ZhO b (hd4 (hd5 c s3).2)).2).2.2 = 0:=by
  unfold ZdU at h
  split at h
  ·rename_i h1; exact absurd h h1
  ·exact ZwI ((Zbx (by decide)).1 h).1
 have h1:(ZhO b (hd4 (hd5 c s3).2)).2.2 = 0:=by
  unfold hd6 at h0
  grind
 exact (ZzN (ZqB (ZtK h1))).2
theorem ZLw (k:Nat) (c d r:Int) {b:List Int} (hb:Zo b = true) (hn:b.length < 268435456) (hk:8 * b.length + 50000 < k):ZLr k ((c,d,r,()),b,()) = some (Zd5 (W8 c d r b)):=by
 show Ziv k (Zu7 k) _ = _
 simp only [Ziv]
 rw [Zo6 k c d r]
 simp only [QJ]
 unfold W8
 cases hs:XL c d r with
 | false => rfl
 | true =>
  have hsh:=of_decide_eq_true hs
  simp only [if_true,H5,if_false]
  rw [show ((0:Int) != 0) = false from rfl]
  simp only [cond_false]
  have e44:Zzb k (b,()) = some (inp b (ZA b,0) |>.2.1,()):=by
   show Ze2 k _ = _
   simp only [Ze2]
   have:ZjJ k (b,()) = some (b,()):=by show Yk _ = _; unfold Yk; rw [Za (by simp only; omega)]
   rw [this]
   have hp:Zu b (ZA b) = 0:=by unfold Zu; rw [Qc]; omega
   simp_all
  refine (Zd e44 _).trans ?_
  refine (Zd (ZNj k hb hn (by omega) (s:=(ZA b,0)) (Zka b) c d r) _).trans ?_
  unfold Zuh
  have hmode:=ZqF (c:=c) (b:=b) (s:=(ZA b,0))
  have hrest:Zf b (YD c b (ZA b,0)).2.2.2.1:=by
   unfold YD ZjW ZzP ZrY Zlz
   exact Zt2 (ZzO (ZlK (Z7 (Z8 (Z7 (Z8 (Z7 (Z8 (Z7 (Z8 (Z7 (Z8 (Z7 (Z8 (Zka b) _) _ _) _) _ _) _) _ _) _) _ _) _) _ _) _) _ _)) _) _
  generalize YD c b (ZA b,0) = h at hmode hrest ⊢
  obtain ⟨mode,num,n,s⟩:=h
  simp only at hmode hrest ⊢
  rw [Zk]
  by_cases he:s.2 = 0
  ·rw [Zh (by simpa using he),if_neg (by simpa using he)]
   have hm:=hmode he
   have hc:c = 1 ∨ c = 2:=by omega
   have hcm:c = 1 ∧ (mode:Int) = 0 ∨ c = 2:=by
    rcases hc with rfl | rfl
    ·unfold KT at hm
     simp_all
    ·exact .inr rfl
   refine (Zd (ZM1 k (c:=c) (d:=d) (r:=r) (m:=(mode:Int)) hcm (by omega)) _).trans ?_
   have hdl:=ZA0 c d mode
   have:=ZLu k hb hn hk (c:=c) (d:=d) (r:=r) hc (mode:=mode) (num:=num) (n:=n) hm (WX c d mode) (hdl.2.2 (by omega)) hdl.1 hdl.2.1 0 (WX c d mode).length k 0 s.1 [] (by omega) (by omega) rfl hrest (by simp)
   rw [U5] at this
   simp only
   rw [he]
   exact this
  ·rw [Za he,if_pos he]
   rfl
end Go.Sh
namespace Go.Sh
open Go Go.Proofs
def Sm (ch:List (List Int)):Prop:=ch.length ≤ 1048576 ∧ ∀ l ∈ ch,l.length ≤ 1048576
theorem ZJR:∀ x:Fin 256,Yj (fun j => x.val.testBit (7 - j)) = x.val:=by decide +kernel
theorem ZDr {b:List Int} (h:Zo b = true):Z3 (ZA b) = b:=by
 apply HS
 ·rw [QL,Qc]; omega
 ·intro i h1 h2
  obtain ⟨x,hx,hxe⟩:=QM h h2
  rw [XU,hxe]
  have:WW (ZA b) i = Yj (fun j => x.testBit (7 - j)):=by
   have key:∀ j,j < 8 → (ZA b).getD (8 * i + j) false = x.testBit (7 - j):=by
    intro j hj
    rw [Xf (by rw [Qc]; omega),Zkv (by omega)]
    have:(8 * i + j) / 8 = i:=by omega
    simp only [this,hxe,Ui]
    congr 1
    omega
   unfold WW Yj
   simp only
   rw [key 0 (by omega),key 1 (by omega),key 2 (by omega),key 3 (by omega),key 4 (by omega),key 5 (by omega),key 6 (by omega),key 7 (by omega)]
  rw [this]
  have:=ZJR ⟨x,hx⟩
  simp only at this
  rw [this]
theorem Zh9 (c a w:Nat):Zb c (a + w) = Zb (c / 2 ^ w) a ++ Zb c w:=by
 induction a with
 | zero => simp [Zb]
 | succ a ih =>
  rw [show a + 1 + w = (a + w) + 1 by omega]
  simp only [Zb,J0]
  rw [ih,Nat.testBit_div_two_pow]
end Go.Sh
namespace Go.Sh
open Go Go.Proofs
theorem ZC9 (c:Int) (b:List Int) {s:IS} (hs:Zf b s.1):Zf b (YD c b s).2.2.2.1:=by
 unfold YD ZjW ZzP ZrY Zlz
 exact Zt2 (ZzO (ZlK (Z7 (Z8 (Z7 (Z8 (Z7 (Z8 (Z7 (Z8 (Z7 (Z8 (Z7 (Z8 hs _) _ _) _) _ _) _) _ _) _) _ _) _) _ _) _) _ _)) _) _
end Go.Sh
namespace Go.Sh
open Go Go.Proofs
def ZK (n size:Nat):Nat:=(n + size - 1) / size
theorem Zaa {n size i:Nat} (hs:1 ≤ size):i < ZK n size ↔ i * size < n:=by
 unfold ZK
 rw [Nat.lt_div_iff_mul_lt (by omega)]
 omega
section prog
variable {k:Nat} {c d r:Int} {tags:List ByteArray} {ch:List (List Int)}
end prog
end Go.Sh
namespace Go.Sh
open Go Go.Proofs
section prog
variable {k:Nat} {c d r:Int} {tags:List ByteArray} {ch:List (List Int)}
noncomputable def Zmw (d r:Nat) (tags:List ByteArray) (ch:List (List Int)) (size:Nat) (lens:List Nat):List Int:=Z3 (Zei d r tags ch size lens)
end prog
end Go.Sh
namespace Go.Sh
open Go Go.Proofs
theorem KB {A X:List Bool} (h:A.length % 8 = 0):Z3 (A ++ X) = Z3 A ++ Z3 X:=by
 have hA:(Z3 A).length = A.length / 8:=by rw [QL]; omega
 apply HS
 ·rw [JP,QL,QL,QL,JP]; omega
 ·intro i h1 h2
  rw [XU]
  by_cases hi:i < (Z3 A).length
  ·rw [Es hi,XU]
   congr 1
   unfold WW Yj
   have:∀ j,j < 8 → (A ++ X).getD (8 * i + j) false = A.getD (8 * i + j) false:=by
    intro j hj
    simp only [VR]
    rw [List.getElem?_append_left (by omega)]
   simp only []
   rw [this 0 (by omega),this 1 (by omega),this 2 (by omega),this 3 (by omega),this 4 (by omega),this 5 (by omega),this 6 (by omega),this 7 (by omega)]
  ·rw [List.getElem_append_right (by omega),XU]
   congr 1
   unfold WW Yj
   have:∀ j,j < 8 → (A ++ X).getD (8 * i + j) false = X.getD (8 * (i - (Z3 A).length) + j) false:=by
    intro j hj
    simp only [VR]
    rw [List.getElem?_append_right (by omega)]
    congr 2
    omega
   simp only []
   rw [this 0 (by omega),this 1 (by omega),this 2 (by omega),this 3 (by omega),this 4 (by omega),this 5 (by omega),this 6 (by omega),this 7 (by omega)]
abbrev ZT (l:List Int):ByteArray:=UR (UT (fun n => UX n.toNat) l).toArray
theorem ZAh {a b:List Int} (ha:Zo a = true) (hb:Zo b = true) (h:ZT a = ZT b):a = b:=by
 have h1:UT (fun (n:Int) => UX n.toNat) a = UT (fun (n:Int) => UX n.toNat) b:=by
  have:=congrArg (fun x => x.data.toList) h
  simpa using this
 have hl:a.length = b.length:=by have:=congrArg UO h1; simpa using this
 apply HS hl
 intro i h2 h3
 obtain ⟨x,hx,hxe⟩:=QM ha h2
 obtain ⟨y,hy,hye⟩:=QM hb h3
 have h4:(UT (fun (n:Int) => UX n.toNat) a)[i]? = (UT (fun (n:Int) => UX n.toNat) b)[i]? := by rw [h1]
 rw [Vg,Vg,VN h2,VN h3,hxe,hye] at h4
 simp only [Option.map_some,VE.injEq,Ui] at h4
 have h5:=congrArg UInt8.toNat h4
 rw [EA,EA,H7 hx,H7 hy] at h5
 rw [hxe,hye,h5]
end Go.Sh
namespace Go.Sh
open Go Go.Proofs
def SP (p A:List Bool):Prop:=p <+: A ∧ p.length < A.length
theorem SP.split {p A B:List Bool} (h:SP p (A ++ B)):SP p A ∨ ∃ q,p = A ++ q ∧ SP q B:=by
 obtain ⟨h1,h2⟩:=h
 by_cases hl:p.length < A.length
 ·exact .inl ⟨Ew h1 (Ev A B) (by omega),hl⟩
 ·right
  obtain ⟨t,ht⟩:=Ew (Ev A B) h1 (by omega)
  refine ⟨t,ht.symm,?_,?_⟩
  ·rw [← ht] at h1
   exact (List.prefix_append_right_inj A).1 h1
  grind
theorem SP.no {p:List Bool} (h:SP p []):False:=by have:=h.2; simp at this
structure Enc {α:Type} (f:List Bool → α × Int × List Bool) (v:α) (A:List Bool):Prop where
 ok:∀ r,f (A ++ r) = (v,0,r)
 tail:∀ p,SP p A → (f p).2.1 = 10
theorem ZPa {n w:Nat} (h:n < 2 ^ w):Enc (Zn w) n (Zb n w) where
 ok:=fun r => by
  have hl:=Zi n w
  unfold Zn
  rw [if_pos (by rw [JP]; omega),List.take_append_of_le_length (by omega),El (by omega),Kc,H7 h,H9,UF (by omega),VS,hl,H8,U5]
 tail:=fun p hp => by
  have:=hp.2
  rw [Zi] at this
  unfold Zn
  rw [if_neg (by omega)]
end Go.Sh
namespace Go.Sh
open Go Go.Proofs
structure Made (c d r n:Int) (ch:List (List Int)) (mode num N:Nat) (ls:List (List Int)) (ds:List Int):Prop where
 hm:mode < 16
 hmb:KT c mode = true
 hnum:num < 2 ^ 31
 hn:n = (num:Int)
 h1:1 ≤ N
 h2:N ≤ 512
 els:ls = (ZPp ch).1
 eds:ds = WX c d (mode:Int)
 emode:(ZPp ch).2 = (mode:Int)
 eN:(ch.headD []).length = N
 len:ls.length = ds.length
 all:∀ (i:Nat) (h1:i < ls.length) (h2:i < ds.length),ls[i].length = N ∧ (4 ≤ ds[i].toNat ∧ ds[i].toNat ≤ 25) ∧ ∀ x ∈ ls[i],sgn x ds[i].toNat = true
 bytes:(ZXa c d r n ch).1 = Z3 (Zuq (ZbO mode num N ++ Zeo ls ds))
theorem Made.parts {c d r n:Int} {ch:List (List Int)} {mode num N:Nat} {ls:List (List Int)} {ds:List Int} (M:Made c d r n ch mode num N ls ds) :
  ∃ pad crc:Nat,pad < 8 ∧ crc < 2 ^ 16 ∧ ((Zeo ls ds).length + pad) % 8 = 0 ∧ (ZbO mode num N).length % 8 = 0 ∧ crc = Km (Z3 (ZbO mode num N ++ (Zeo ls ds ++ Jd pad false))) ∧
   Zuq (ZbO mode num N ++ Zeo ls ds) = ZbO mode num N ++ (Zeo ls ds ++ (Jd pad false ++ Zb crc 16)):=by
 have hh:(ZbO mode num N).length % 8 = 0:=by
  have:=Zz6 mode num N
  unfold ZbO
  rw [JP,Zi]
  omega
 refine ⟨ZS9 (ZbO mode num N ++ Zeo ls ds).length,Km (Z3 (Zq5 (ZbO mode num N ++ Zeo ls ds))),by unfold ZS9; omega,ZJV (ZhQ _),?_,hh,?_,?_⟩
 ·unfold ZS9
  rw [JP]
  omega
 ·unfold Zq5
  rw [Ju]
 ·unfold Zuq Zq5
  simp only [Ju]
end Go.Sh
namespace Go.Sh
open Go Go.Proofs
abbrev IS2:=List Bool × Bool
def gG (w:Nat) (s:IS2):Nat × IS2:=((Zn w s.1).1,((Zn w s.1).2.2,s.2 || (Zn w s.1).2.1 != 0))
def WR:Nat → IS2 → IS2
 | 0,s => s
 | n + 1,s => WR n (gG 8 s).2
def ZX:Nat → IS2 → List Nat × IS2
 | 0,s => ([],s)
 | n + 1,s => ((gG 8 s).1 :: (ZX n (gG 8 s).2).1,(ZX n (gG 8 s).2).2)
def YE:List Nat → Nat
 | [] => 0
 | x :: l => x + 256 * YE l
def QS (most:Nat) (s:IS2):Nat × IS2 :=
 if most < YE (ZX 4 s).1 then (0,((ZX 4 s).2.1,true)) else (YE (ZX 4 s).1,(ZX 4 s).2)
def KX:Nat → IS2 → List ByteArray × IS2
 | 0,s => ([],s)
 | n + 1,s => (Wa (ZX (QS 12 s).1 (QS 12 s).2).1 :: (KX n (ZX (QS 12 s).1 (QS 12 s).2).2).1,(KX n (ZX (QS 12 s).1 (QS 12 s).2).2).2)
def inS (b:List Int) (s:IS2):(List Int × Int × Unit) × Bool × Unit:=(XB b s.1,s.2,())
theorem Ki {b:List Int} {s:IS2} (h:Zf b s.1) (w:Nat):Zf b (gG w s).2.1:=ZD h w
theorem Ka {b:List Int}:∀ (n:Nat) {s:IS2},Zf b s.1 → Zf b (WR n s).1
 | 0,_,h => h
 | n + 1,s,h => Ka n (Ki h 8)
theorem Zbg {b:List Int}:∀ (n:Nat) {s:IS2},Zf b s.1 → Zf b (ZX n s).2.1
 | 0,_,h => h
 | n + 1,s,h => Zbg n (Ki h 8)
theorem Zqw {b:List Int} (m:Nat) {s:IS2} (h:Zf b s.1):Zf b (QS m s).2.1:=by
 unfold QS
 have:=Zbg 4 h
 generalize ZX 4 s = q at *
 split <;> exact this
theorem Zhh:∀ (n:Nat) (s:IS2),(ZX n s).1.length = n
 | 0,_ => rfl
 | n + 1,s => by simp [ZX,Zhh n]
theorem Zxv:∀ (n:Nat) (s:IS2),QA (ZX n s).1
 | 0,_ => by intro x hx; cases hx
 | n + 1,s => by
  intro x hx
  simp only [ZX,VL] at hx
  rcases hx with rfl | hx
  ·exact Q3 8 s.1
  ·exact Zxv n _ x hx
theorem ZzI (m:Nat) (s:IS2):(QS m s).1 ≤ m:=by
 unfold QS
 split
 ·exact Hu _
 ·omega
section prog
variable {k:Nat} {b:List Int}
theorem WZ (hb:Zo b = true) (hn:b.length < 268435456) (hk:100 < k) {s:IS2} (hs:Zf b s.1) {w:Nat} (hw:w ≤ 32):Wr k (inS b s,(w:Int),()) = some (((gG w s).1:Int),inS b (gG w s).2,()):=by
 show ZhD k _ = _
 obtain ⟨r,bd⟩:=s
 simp only [ZhD,inS]
 refine (Zd (XE k hb (by omega) hs hw hk) _).trans ?_
 unfold gG
 cases bd with
 | true => rfl
 | false => simp only [cond_false,Bool.false_or]
theorem ZFa (hb:Zo b = true) (hn:b.length < 268435456) (hk:100 < k) (N:Nat) (hN:N < 1000000):∀ (n i fuel:Nat) (s:IS2),i + n = N → n < fuel → Zf b s.1 →
  Zg (fun L1 => ZaL k L1) fuel ((N:Int),(i:Int),s.2,(XB b s.1).1,(XB b s.1).2.1) = some ((),inS b (WR n s),())
 | 0,i,fuel + 1,s,h1,h2,h3 => by
  rw [Zc]
  simp only [ZaL]
  rw [Zh (by omega)]
  rfl
 | n + 1,i,fuel + 1,s,h1,h2,h3 => by
  rw [Zc]
  simp only [ZaL]
  rw [Za (by omega)]
  refine U4 (congrArg (fun x => H0 x _) (WZ hb hn hk h3 (w:=8) (by omega))) ?_
  simp only [QJ]
  rw [Zkm (by omega)]
  exact ZFa hb hn hk N hN n (i + 1) fuel (gG 8 s).2 (by omega) (by omega) (Ki h3 8)
 | 0,_,0,_,_,h2,_ => absurd h2 (U1 _)
 | n + 1,_,0,_,_,h2,_ => absurd h2 (U2 _)
theorem ZaM (hb:Zo b = true) (hn:b.length < 268435456) (hk:100 < k) {N:Nat} (hN:N < 1000000) (hkn:N < k) {s:IS2} (hs:Zf b s.1):XF k (inS b s,(N:Int),()) = some ((),inS b (WR N s),()) :=
 ZFa hb hn hk N hN N 0 k s (by omega) hkn hs
theorem ZwN (l:List Nat) (x:Nat):YE (l ++ [x]) = YE l + 256 ^ l.length * x:=by
 induction l with
 | nil => simp [YE]
 | cons y l ih =>
  simp only [J0,YE,ih,JF,H1]
  rw [En,Vj]
  congr 2
  rw [← Hw,V9 256]
theorem ZqM:∀ {l:List Nat},QA l → YE l < 256 ^ l.length
 | [],_ => by simp [YE]
 | x :: l,h => by
  have h1:=h x (Jl ..)
  have h2:=ZqM fun y hy => h y (Jn x hy)
  simp only [YE,JF,H1]
  omega
theorem ZPE {a x i:Nat} (ha:a < 256 ^ i) (hx:x < 256) (hi:i < 4):Jx.wrap (UD (UH 64 (a:Int) ||| UH 64 (Jx.wrap ((x:Int) * (2:Int) ^ min (((8 * i:Nat):Int)).toNat 64))).toNat) = ((a + 256 ^ i * x:Nat):Int):=by
 have e1:min (((8 * i:Nat):Int)).toNat 64 = 8 * i:=by omega
 have e2:(256:Nat) ^ i = 2 ^ (8 * i):=by rw [Nat.pow_mul]
 have h24:2 ^ (8 * i) ≤ 2 ^ 24:=Hf (by omega) (by omega)
 have hm:x * 2 ^ (8 * i) ≤ 255 * 2 ^ 24:=J3 (by omega) h24
 rw [e2] at ha ⊢
 rw [e1,show (x:Int) * (2:Int) ^ (8 * i) = ((x * 2 ^ (8 * i):Nat):Int) by simp,ZrZ (by omega),Hj,Zem (by omega),Zem (by omega),Zq0 ha]
 rw [show UD (a + x * 2 ^ (8 * i)) = ((a + x * 2 ^ (8 * i):Nat):Int) from rfl,ZrZ (by omega),V9 x]
theorem Zmf:∀ (n:Nat) (s:IS2),ZX (n + 1) s = ((ZX n s).1 ++ [(gG 8 (ZX n s).2).1],(gG 8 (ZX n s).2).2)
 | 0,s => rfl
 | n + 1,s => by
  conv => lhs; rw [ZX]
  rw [Zmf n]
  rfl
theorem ZFd (hb:Zo b = true) (hn:b.length < 268435456) (hk:100 < k) (most:Nat) {s:IS2} (hs:Zf b s.1):∀ (n i fuel:Nat),i + n = 4 → n < fuel →
  Zg (fun L1 => ZaN k L1) fuel (((8 * i:Nat):Int),((YE (ZX i s).1:Nat):Int),(most:Int),(ZX i s).2.2,(XB b (ZX i s).2.1).1,(XB b (ZX i s).2.1).2.1) = some (((QS most s).1:Int),inS b (QS most s).2,())
 | 0,i,fuel + 1,h1,h2 => by
  obtain rfl:i = 4:=by omega
  rw [Zc]
  simp only [ZaN]
  rw [Zh (by omega)]
  unfold QS
  by_cases h:most < YE (ZX 4 s).1
  ·rw [Za (by omega),if_pos h]; rfl
  ·rw [Zh (by omega),if_neg h]; rfl
 | n + 1,i,fuel + 1,h1,h2 => by
  rw [Zc]
  simp only [ZaN]
  rw [Za (by omega)]
  refine U4 (congrArg (fun x => H0 x _) (WZ hb hn hk (Zbg i hs) (w:=8) (by omega))) ?_
  simp only [QJ]
  have hl:=ZqM (Zxv i s)
  rw [Zhh] at hl
  rw [Za (by omega),show Jx.wrap (((8 * i:Nat):Int) + 8) = ((8 * (i + 1):Nat):Int) by rw [ZG (by omega)]; omega]
  have hx:(gG 8 (ZX i s).2).1 < 256:=Q3 8 _
  rw [ZPE hl hx (by omega)]
  have ih:=ZFd hb hn hk most hs n (i + 1) fuel (by omega) (by omega)
  rw [Zmf,ZwN,Zhh] at ih
  exact ih
 | 0,_,0,_,h2 => absurd h2 (U1 _)
 | n + 1,_,0,_,h2 => absurd h2 (U2 _)
theorem ZpN (hb:Zo b = true) (hn:b.length < 268435456) (hk:100 < k) (most:Nat) {s:IS2} (hs:Zf b s.1):ZgE k (inS b s,(most:Int),()) = some (((QS most s).1:Int),inS b (QS most s).2,()) :=
 ZFd hb hn hk most hs 4 0 k rfl (by omega)
end prog
end Go.Sh
namespace Go.Sh
open Go Go.Proofs
theorem ZYv {n w:Nat} (h:n < 2 ^ w) (r:List Bool):gG w (Zb n w ++ r,false) = (n,(r,false)):=by
 have:=(ZPa h).ok r
 unfold gG
 simp only
 rw [this]
 rfl
theorem ZWI {w:Nat} {x r:List Bool} (h:x.length = w):(gG w (x ++ r,false)).2 = (r,false):=by
 unfold gG Zn
 simp only
 rw [if_pos (by rw [Xj]; omega),H9,UF (by omega),h,H8,VS,U5]
 rfl
theorem ZAf:∀ (n:Nat) {x:List Bool} (r:List Bool),x.length = 8 * n → WR n (x ++ r,false) = (r,false)
 | 0,x,r,h => by
  have:x = []:=List.eq_nil_of_length_eq_zero h
  subst this
  rfl
 | n + 1,x,r,h => by
  unfold WR
  conv => lhs; rw [← List.take_append_drop 8 x,Ju]
  rw [ZWI (by rw [Jz]; omega)]
  exact ZAf n r (by rw [Vh]; omega)
theorem ZzL {w:Nat} {s:IS2} (h:s.2 = true):(gG w s).2.2 = true:=by unfold gG; simp [h]
theorem ZO8 {w:Nat} {s:IS2} (h:(gG w s).2.2 = false):s.2 = false:=by
 cases hs:s.2 with
 | false => rfl
 | true => rw [ZzL hs] at h; cases h
theorem ZcZ:∀ (n:Nat) {s:IS2},(ZX n s).2.2 = false → s.2 = false
 | 0,_,h => h
 | n + 1,s,h => ZO8 (ZcZ n h)
theorem ZO6 {m:Nat} {s:IS2} (h:(QS m s).2.2 = false):¬ m < YE (ZX 4 s).1 ∧ (ZX 4 s).2.2 = false:=by
 unfold QS at h
 generalize ZX 4 s = q at *
 by_cases hm:m < YE q.1
 ·rw [if_pos hm] at h; cases h
 ·rw [if_neg hm] at h; exact ⟨hm,h⟩
theorem Zly {m:Nat} {s:IS2} (h:(QS m s).2.2 = false):s.2 = false:=ZcZ 4 (ZO6 h).2
theorem Zt4:∀ (n:Nat) {s:IS2},(KX n s).2.2 = false → s.2 = false
 | 0,_,h => h
 | n + 1,s,h => Zly (ZcZ _ (Zt4 n h))
def Zg5 (s:IS2):List ByteArray × IS2:=KX (QS 8 s).1 (QS 8 s).2
end Go.Sh
namespace Go.Sh
open Go Go.Proofs
section prog
variable {k:Nat} {b:List Int}
abbrev ZYV:=((((Int × Int × Int × Unit) × List ByteArray × List (List Int) × Unit) × Int × Int × Unit) × ((List Int × Int × Unit) × Bool × Unit) × Unit)
abbrev L49:=Int × Int × Int × Int × Bool × List Int × Int × Int × Int × Int × List ByteArray × Int × Int × Int → Option ZYV
theorem ZER (hb:Zo b = true) (hn:b.length < 268435456) (hk:100 < k) (L1:L49) (N:Nat) (hN:N < 1000) (i1 n1 sz n c d r:Int) (tags:List ByteArray) (htl:tags.length < 1000):∀ (m i fuel:Nat) (s:IS2) (acc:List Nat),i + m = N → acc.length = i → m < fuel → Zf b s.1 →
  Zg (fun L2 => ZaB k L1 L2) fuel ((N:Int),(i:Int),i1,n1,sz,n,s.2,b,((Zu b s.1:Nat):Int),Zj acc,c,d,r,tags,0,0,0) =
   L1 (n1,Jx.wrap (i1 + 1),sz,n,(ZX m s).2.2,b,((Zu b (ZX m s).2.1:Nat):Int),c,d,r,tags ++ [Wa (acc ++ (ZX m s).1)],0,0,0)
 | 0,i,fuel + 1,s,acc,h1,h2,h3,h4 => by
  rw [Zc]
  simp only [ZaB]
  rw [Zh (by omega),Za (by simp; omega)]
  simp only [ZX,Vf,Wa]
 | m + 1,i,fuel + 1,s,acc,h1,h2,h3,h4 => by
  rw [Zc]
  simp only [ZaB]
  rw [Za (by omega)]
  refine U4 (congrArg (fun x => H0 x _) (WZ hb hn hk h4 (w:=8) (by omega))) ?_
  simp only [QJ]
  have hx:(gG 8 s).1 < 256:=Q3 8 s.1
  rw [wu8 (n:=((gG 8 s).1:Int)) (by omega),show (((gG 8 s).1:Nat):Int) = UD (gG 8 s).1 from rfl,Za (by simp [Zj]; omega),Zkm (by omega),show Zj acc ++ [UD (gG 8 s).1] = Zj (acc ++ [(gG 8 s).1]) by simp [Zj]]
  refine U4 (ZER hb hn hk L1 N hN i1 n1 sz n c d r tags htl m (i + 1) fuel (gG 8 s).2 (acc ++ [(gG 8 s).1]) (by omega) (by simp; omega) (by omega) (Ki h4 8)) ?_
  simp only [ZX,Ju,Ey]
 | 0,_,0,_,_,_,_,h3,_ => absurd h3 (U1 _)
 | m + 1,_,0,_,_,_,_,h3,_ => absurd h3 (U2 _)
theorem ZSf (hb:Zo b = true) (hn:b.length < 268435456) (hk:100 < k) (sz n c d r:Int) (N:Nat) (hN:N < 1000):∀ (m i fuel:Nat) (s:IS2) (acc:List ByteArray),i + m = N → acc.length = i → m < fuel → Zf b s.1 →
  Zg (fun L1 => YY k (ZeT k L1) L1) fuel ((N:Int),(i:Int),sz,n,s.2,b,((Zu b s.1:Nat):Int),c,d,r,acc,0,0,0) =
   some ((((c,d,r,()),acc ++ (KX m s).1,[],()),sz,n,()),inS b (KX m s).2,()):=by
 intro m
 induction m with
 | zero =>
  intro i fuel s acc h1 h2 h3 h4
  obtain ⟨fuel,rfl⟩:∃ f,fuel = f + 1:=⟨fuel - 1,by omega⟩
  rw [Zc]
  simp only [YY]
  rw [Zh (by omega)]
  simp only [KX,Vf]
  rfl
 | succ m ih =>
  intro i fuel s acc h1 h2 h3 h4
  obtain ⟨fuel,rfl⟩:∃ f,fuel = f + 1:=⟨fuel - 1,by omega⟩
  rw [Zc]
  simp only [YY]
  rw [Za (by omega)]
  refine U4 (congrArg (fun x => H0 x _) (ZpN hb hn hk 12 h4)) ?_
  simp only [QJ]
  have hle:=ZzI 12 s
  have hr:=Zqw 12 h4
  rw [show KX (m + 1) s = (Wa (ZX (QS 12 s).1 (QS 12 s).2).1 :: (KX m (ZX (QS 12 s).1 (QS 12 s).2).2).1,(KX m (ZX (QS 12 s).1 (QS 12 s).2).2).2) from rfl]
  generalize QS 12 s = F at *
  obtain ⟨F1,F2⟩:=F
  simp only at *
  have key:=ZER hb hn hk (Zg (fun L1 => YY k (ZeT k L1) L1) fuel) F1 (by omega) (i:Int) (N:Int) sz n c d r acc (by omega) F1 0 k F2 [] (by omega) rfl (by omega) hr
  refine U4 key ?_
  have hq:=Zbg F1 hr
  generalize ZX F1 F2 = Q at *
  obtain ⟨Q1,Q2⟩:=Q
  simp only at *
  rw [Zkm (by omega)]
  refine U4 (ih (i + 1) fuel Q2 (acc ++ [Wa Q1]) (by omega) (by simp; omega) (by omega) hq) ?_
  simp only [Ju,Ey]
end prog
end Go.Sh
namespace Go.Sh
open Go Go.Proofs
theorem ZNR (k:Nat) (l:List Int) (hk:2000000 < k) (hl:l.length ≤ 1048576):ZNP k (l,l,()) = some (true,()):=by
 show ZjE k (Zwd k) _ = _
 simp only [ZjE]
 rw [show (UD l.length != UD l.length) = false from by simp]
 simp only [cond_false]
 have:=Q8 (A:=Unit) (R:=Bool × Unit) (step:=fun L1 => Ze9 k L1) (fun i _ => (UD i,l,l)) l (fun _ _ => some (true,()))
  (fun L _ => by simp only [Ze9]; rw [Zh (ZaZ _)])
  (fun L i hi _ hL => by
   simp only [Ze9]
   rw [Za (KN hi),Za (Xd hi),Za (Xd hi),Zk,Zh (by simp),Qa hi (by omega)]
   exact hL ()) k 0 () (by omega) (Hu _)
 exact this
theorem ZMx (k:Nat) (n:Int) {ch:List (List Int)} (hk:2000000 < k) (h:Sm ch):ZMt k ((n,ch,()),(n,ch,()),()) = some (true,()):=by
 show Zjj k (ZvI k) _ = _
 simp only [Zjj]
 have hs:=h.1
 rw [Zk,Zh (by simp),show (UD ch.length != UD ch.length) = false from by simp]
 simp only [cond_false]
 have:=Q8 (A:=Unit) (R:=Bool × Unit) (step:=fun L1 => ZeU k L1) (fun i _ => (UD i,n,ch,n,ch)) ch (fun _ _ => some (true,()))
  (fun L _ => by simp only [ZeU]; rw [Zh (ZaZ _)])
  (fun L i hi _ hL => by
   simp only [ZeU]
   rw [Za (KN hi),Za (Xd hi),Za (Xd hi),ZL hi,ZNR k _ hk (h.2 _ (Ha hi))]
   simp only [QJ,HC,cond_false]
   rw [Qa hi (by omega)]
   exact hL ()) k 0 () (by omega) (Hu _)
 exact this
theorem ZB8 {k:Nat} (hk:2000000 < k) (c d r:Int) {tags:List ByteArray} {ch:List (List Int)} (hS:Small tags ch):Zvm k (((c,d,r,()),tags,ch,()),((c,d,r,()),tags,ch,()),()) = some (true,()):=by
 show Zdo k (ZiP k) _ = _
 simp only [Zdo]
 rw [show (!(decide True && (decide True && (decide True && true)))) = false by decide,show (UD tags.length != UD tags.length) = false by simp]
 simp only [cond_false]
 rw [ZMx k 0 hk ⟨hS.cl,hS.chan⟩]
 simp only [QJ,HC,cond_false]
 have htl:=hS.tl
 have:=Q8 (A:=Unit) (step:=fun L1 => Zap k L1) (fun i _ => (UD i,c,d,r,tags,ch,c,d,r,tags,ch)) tags (fun _ _ => some (true,()))
  (fun L _ => by simp only [Zap]; rw [Zh (ZaZ _)])
  (fun L i hi _ hL => by
   simp only [Zap]
   rw [Za (KN hi),Za (Xd hi),Za (Xd hi),ZL hi,Zox,show (!decide (tags[i] = tags[i])) = false by simp]
   simp only [cond_false]
   rw [Qa hi (by omega)]
   exact hL ()) k 0 () (by omega) (Hu _)
 exact this
section prog
variable {k:Nat} {c d r:Int} {tags:List ByteArray} {ch:List (List Int)}
end prog
end Go.Sh
namespace Go.Sh
open Go Go.Proofs
abbrev Zoh:=(((Int × Int × Int × Unit) × List ByteArray × List (List Int) × Unit) × Int × Unit) × Unit
abbrev L23:=Int × Int × Int × List Int × List Int × Int × Int × Int × Int × List ByteArray × List (List Int) × Int × Int × Int × List Int → Option Zoh
section prog
variable {k:Nat} {c d r:Int} {tags:List ByteArray} {ch:List (List Int)}
end prog
end Go.Sh
namespace Go.Sh
open Go Go.Proofs
section prog
variable {k:Nat} {c d r:Int} {tags:List ByteArray} {ch:List (List Int)}
def ZGD:Zoh:=(((((0:Int),(0:Int),(0:Int),()),[],[],()),2,()),())
theorem ZUN {B:List Int} (hB:B.length ≤ 100000):Zzb k (B,()) = some ((B,((Zu B (ZA B):Nat):Int),()),()):=by
 show Ze2 k _ = _
 simp only [Ze2]
 have:ZjJ k (B,()) = some (B,()):=by show Yk _ = _; unfold Yk; rw [Za (by simp only; omega)]
 rw [this]
 have hp:Zu B (ZA B) = 0:=by unfold Zu; rw [Qc]; omega
 rw [hp]
 rfl
end prog
end Go.Sh
namespace Go.Sh
open Go Go.Proofs
def ch1 (b:Bool):UInt8:=if b then 49 else 48
def K8 (bs:List Bool):ByteArray:=⟨(bs.map ch1).toArray⟩
theorem ZcR (bs:List Bool):(K8 bs).data.toList = bs.map ch1:=by simp [K8]
theorem Qt (bs:List Bool):(K8 bs).size = bs.length:=by rw [← Q0,ZcR,H4]
theorem Qn (a b:List Bool):K8 a ++ K8 b = K8 (a ++ b):=by
 apply Zej
 simp [K8]
theorem ZAu (bs:List Bool) (i j:Nat):(K8 bs).extract i j = K8 ((bs.take j).drop i):=by
 apply Zej
 rw [ZcR,ByteArray.data_extract]
 simp [K8,List.extract]
 rw [List.drop_take]
def Zbv (bs:List Bool):List Int:=bs.map fun b => if b then 49 else 48
theorem Zz2 (bs:List Bool):UR (UT (fun (n:Int) => UX n.toNat) (Zbv bs)).toArray = K8 bs:=by
 unfold Zbv K8
 rw [VY]
 congr 2
 apply Ek
 intro b _
 cases b <;> rfl
theorem Zxu (n w:Nat):Zb n (w + 1) = Zb (n / 2) w ++ [n.testBit 0]:=by
 have:=Zh9 n w 1
 rw [Nat.pow_one] at this
 rw [this]
 rfl
theorem ZUJ:∀ m:Fin 2,UD ((UR #[48,49]).data.toList.getD m.val 0).toNat = if m.val = 1 then 49 else 48:=by decide
theorem ZM6 (k:Nat):∀ (j m n:Nat) (suf:List Int),j < m → j + suf.length < 4294967296 → n < 9223372036854775808 →
  Zg (fun L1 => Zju k L1) m ((j:Int) - 1,(n:Int),Jd j 0 ++ suf) = some (UR (UT (fun (n:Int) => UX n.toNat) (Zbv (Zb n j) ++ suf)).toArray,()):=by
 intro j
 induction j with
 | zero =>
  intro m n suf hm hl hn
  obtain ⟨m,rfl⟩:=Zm hm
  rfl
 | succ j ih =>
  intro m n suf hm hl hn
  obtain ⟨m,rfl⟩:=Zm (show 0 < m by omega)
  rw [Zc]
  simp only [Zju]
  have e0:((j + 1:Nat):Int) - 1 = (j:Int):=by omega
  have e1:((n:Int)).tmod 2 = ((n % 2:Nat):Int):=by rfl
  have e2:((n:Int)).tdiv 2 = ((n / 2:Nat):Int):=by rfl
  have hlen:(Jd (j + 1) (0:Int) ++ suf).length = j + 1 + suf.length:=by simp
  rw [e0,e1,e2,Za (by omega),Za (by omega),Za (by grind),Za (by rw [hlen,Ui]; omega)]
  have h2:n % 2 < 2:=UY _ (by omega)
  have ht:=ZUJ ⟨n % 2,h2⟩
  simp only at ht
  rw [Ui,Ui,ht,ZG (n:=(j:Int) - 1) (by omega),ZG (n:=((n / 2:Nat):Int)) (by omega)]
  have hset:(Jd (j + 1) (0:Int) ++ suf).set j (if n % 2 = 1 then 49 else 48) = Jd j 0 ++ ((if n % 2 = 1 then 49 else 48) :: suf):=by
   rw [List.replicate_succ' (n:=j),Ju,List.set_append_right _ _ (by simp)]
   simp
  have key:Zbv (Zb n (j + 1)) ++ suf = Zbv (Zb (n / 2) j) ++ ((if n % 2 = 1 then 49 else 48) :: suf):=by
   rw [Zxu]
   unfold Zbv
   simp_all
  rw [hset,ih m (n / 2) _ (by omega) (by simp; omega) (by omega),key]
theorem Yn (k n w:Nat) (hk:w < k) (hw:w < 4294967296) (hn:n < 9223372036854775808):W7 k ((n:Int),(w:Int),()) = some (K8 (Zb n w),()):=by
 show Zjt k (ZvP k) _ = _
 simp only [Zjt]
 rw [Za (by omega),ZG (n:=(w:Int) - 1) (by omega),Ui]
 have:=ZM6 k w k n [] hk (by simpa using hw) hn
 rw [Vf,Vf,Zz2] at this
 exact this
def ZgX (f:Nat → Bool):Nat → Nat
 | 0 => 0
 | j + 1 => 2 * ZgX f j + (f j).toNat
theorem ZYy (f:Nat → Bool):ZgX f 8 = Yj f:=by
 simp only [ZgX,Yj]
 omega
theorem ZFX (f:Nat → Bool):∀ j,ZgX f j < 2 ^ j
 | 0 => by simp [ZgX]
 | j + 1 => by
  have:=ZFX f j
  simp only [ZgX,H1]
  cases f j <;> simp <;> omega
theorem Zut (b:Bool):Jx.wrap (UK.wrap (UD (ch1 b).toNat - 48)) = ((b.toNat:Nat):Int):=by cases b <;> rfl
theorem ZIw (k:Nat) (L1:Int × ByteArray × List Int → Option (List Int × Unit)) (bs:List Bool) (hb:bs.length ≤ 4000000000) (i:Nat) (hi:i ≤ 4000000000) (out:List Int) (ho:out.length < 1000000000):∀ (d m j:Nat),j + d = 8 → d < m →
  Zg (fun L2 => Ze1 k L1 L2) m (((i + j:Nat):Int),(i:Int),((ZgX (fun j => bs.getD (i + j) false) j:Nat):Int),K8 bs,out) = L1 (((i + 8:Nat):Int),K8 bs,out ++ [((Yj (fun j => bs.getD (i + j) false):Nat):Int)]):=by
 intro d
 induction d with
 | zero =>
  intro m j hj hm
  obtain ⟨m,rfl⟩:=Zm hm
  obtain rfl:j = 8:=by omega
  rw [Zc]
  simp only [Ze1]
  have hlt:=ZoF (fun j => bs.getD (i + j) false)
  rw [ZG (n:=(i:Int) + 8) (by omega),Zh (by omega),Za (by grind),ZYy,wu8 (by omega)]
  rfl
 | succ d ih =>
  intro m j hj hm
  obtain ⟨m,rfl⟩:=Zm (show 0 < m by omega)
  rw [Zc]
  simp only [Ze1]
  have hlt:=ZFX (fun j => bs.getD (i + j) false) j
  have h8:2 ^ j ≤ 2 ^ 8:=Hf (by omega) (by omega)
  have e2:Jx.wrap (((i + j:Nat):Int) + 1) = ((i + (j + 1):Nat):Int):=by rw [ZG (by omega)]; omega
  rw [ZG (n:=(i:Int) + 8) (by omega),Za (by omega),Qt,e2]
  generalize hv:ZgX (fun j => bs.getD (i + j) false) j = v at hlt
  by_cases hb2:i + j < bs.length
  ·rw [Za (by simp only [HZ]; omega),Za (by simp only [HZ]; omega),Ui,ZcR]
   have hg:(bs.map ch1).getD (i + j) 0 = ch1 (bs.getD (i + j) false):=by
    simp_all
   have hbt:(bs.getD (i + j) false).toNat ≤ 1:=by cases bs.getD (i + j) false <;> decide
   rw [hg,Zut,ZG (n:=2 * (v:Int)) (by omega),ZG (by omega)]
   have:=ih m (j + 1) (by omega) (by omega)
   simp_all [ZgX,hv]
  ·rw [Zh (by simp only [HZ]; omega),ZG (n:=2 * (v:Int)) (by omega)]
   have hg:bs.getD (i + j) false = false:=by simp_all
   have:=ih m (j + 1) (by omega) (by omega)
   simp_all [ZgX,hv,hg,Bool.toNat_false,JH]
theorem Zp0 (k:Nat) (bs:List Bool) (hk:bs.length + 100 < k) (hb:bs.length ≤ 3000000000):Zy9 k (K8 bs,()) = some (Z3 bs,()):=by
 show Zjw k (ZvU k) _ = _
 simp only [Zjw]
 have H:∀ (d m q:Nat) (out:List Int),q + d = (bs.length + 7) / 8 → d < m → out = (Z3 bs).take q →
   Zg (fun L1 => Zcx k (ZpZ k L1) L1) m (((8 * q:Nat):Int),K8 bs,out) = some (Z3 bs,()):=by
  intro d
  induction d with
  | zero =>
   intro m q out hq hm ho
   obtain ⟨m,rfl⟩:=Zm hm
   rw [Zc]
   simp only [Zcx]
   rw [Qt,Zh (by simp only [HZ]; omega),ho,El (by rw [QL]; omega)]
  | succ d ih =>
   intro m q out hq hm ho
   obtain ⟨m,rfl⟩:=Zm (show 0 < m by omega)
   rw [Zc]
   simp only [Zcx]
   rw [Qt,Za (by simp only [HZ]; omega)]
   have hol:out.length = q:=by rw [ho,Jz,QL]; omega
   have:=ZIw k (Zg (fun L1 => Zcx k (ZpZ k L1) L1) m) bs (by omega) (8 * q) (by omega) out (by omega) 8 k 0 (by omega) (by omega)
   refine U4 this ?_
   rw [show 8 * q + 8 = 8 * (q + 1) by omega]
   refine ih m (q + 1) _ (by omega) (by omega) ?_
   rw [List.take_add_one,VN (by rw [QL]; omega),XU,ho]
   rfl
 exact H ((bs.length + 7) / 8) k 0 [] (by omega) (by omega) (by simp)
theorem ZIV (bs:List Bool):UT (fun (b:UInt8) => UD b.toNat) (K8 bs).data.toList = Zbv bs:=by
 rw [ZcR,VY]
 unfold Zbv
 apply Ek
 intro b _
 cases b <;> rfl
theorem ZM8 (k:Nat) {b:List Int} (hb:Zo b = true) (hk:b.length + 100 < k) (hn:b.length ≤ 100000000):ZFl k (b,()) = some (K8 (ZA b),()):=by
 show Zjv k (ZvS k) _ = _
 simp only [Zjv]
 have e1:Jx.wrap ((8:Int) * UD b.length) = ((8 * b.length:Nat):Int):=by simp only [HZ]; rw [ZG (by omega)]; omega
 rw [e1,Za (by omega)]
 have:=ZF (A:=List Bool) (R:=ByteArray × Unit) (step:=fun L1 => Ze0 k L1) (fun i a => (UD i,b,Zbv a)) b
  (fun l' a => some (K8 (a ++ ZA l'),())) (fun i a => a.length = 8 * i)
  (fun L a _ => by
   simp only [Ze0]
   rw [Zh (ZaZ _),Zz2]
   simp [ZA])
  (fun L i hi a ha hL => by
   simp only [Ze0]
   obtain ⟨x,hx,hxe⟩:=QM hb hi
   rw [Za (KN hi),Za (Xd hi),ZL hi,hxe,ZG (n:=(x:Int)) (by omega)]
   have e35:=Yn k x 8 (by omega) (by omega) (by omega)
   refine (Zd e35 _).trans ?_
   simp only
   rw [ZIV,Za (by unfold Zbv; rw [H4,H4,Zi]; omega),Qa hi (by omega)]
   have e2:Zbv a ++ Zbv (Zb x 8) = Zbv (a ++ Zb x 8):=by unfold Zbv; rw [List.map_append]
   rw [e2,hL (a ++ Zb x 8) (by rw [JP,Zi]; omega),ZcW,Ui,Ju])
  k 0 [] (by simp) (by omega) (Hu _)
 rw [U5,VS] at this
 exact this
end Go.Sh
namespace Go.Sh
open Go Go.Proofs
def Xe (s p r:Nat) (b:Bool):Nat:=if (r / 2 ^ (s - 1) % 2 + b.toNat) % 2 = 1 then (2 * r % 2 ^ s) ^^^ p else 2 * r % 2 ^ s
theorem ZoT {s p r:Nat} {b:Bool} (hp:p < 2 ^ s):Xe s p r b < 2 ^ s:=by
 have h:2 * r % 2 ^ s < 2 ^ s:=UY _ (Hs (by omega))
 unfold Xe
 split
 ·exact Nat.xor_lt_two_pow h hp
 ·exact h
theorem ZJf {s p r j y:Nat} {b:Bool} (hs:j + 1 ≤ s) (hp:p < 2 ^ s) (hr:r < 2 ^ s) (hy:y < 2 ^ j) :
  Zeq s p (r ^^^ ((b.toNat * 2 ^ j + y) * 2 ^ (s - (j + 1)))) = Xe s p r b ^^^ (y * 2 ^ (s - j)):=by
 obtain ⟨t,rfl⟩:∃ t,s = j + 1 + t:=⟨s - (j + 1),by omega⟩
 have e1:j + 1 + t - (j + 1) = t:=by omega
 have e2:j + 1 + t - 1 = j + t:=by omega
 have e3:j + 1 + t - j = t + 1:=by omega
 unfold Zeq Xe
 rw [e1,e2,e3]
 have hw:(b.toNat * 2 ^ j + y) * 2 ^ t = b.toNat * 2 ^ (j + t) + y * 2 ^ t:=by grind
 have hyt:y * 2 ^ t < 2 ^ (j + t):=by rw [Nat.pow_add]; exact Nat.mul_lt_mul_of_pos_right hy (Hs (by omega))
 have hy2:y * 2 ^ (t + 1) = y * 2 ^ t * 2:=by rw [H1,Hw]
 rw [hw,hy2]
 generalize y * 2 ^ t = z at hyt
 have hbz:b.toNat * 2 ^ (j + t) + z < 2 ^ (j + 1 + t):=by
  rw [show j + 1 + t = (j + t) + 1 by omega,H1]
  cases b <;> simp <;> omega
 have hxor:(r ^^^ (b.toNat * 2 ^ (j + t) + z)) / 2 ^ (j + t) % 2 = (r / 2 ^ (j + t) % 2 + b.toNat) % 2:=by
  have h1:(r ^^^ (b.toNat * 2 ^ (j + t) + z)).testBit (j + t) = (r.testBit (j + t) ^^ b):=by
   rw [Nat.testBit_xor]
   congr 1
   rw [Ed]
   have:(b.toNat * 2 ^ (j + t) + z) / 2 ^ (j + t) = b.toNat:=by
    rw [V9,Nat.mul_add_div (Hs (by omega)),HX hyt,JH]
   rw [this]
   cases b <;> rfl
  grind
 have hlow:2 * (r ^^^ (b.toNat * 2 ^ (j + t) + z)) % 2 ^ (j + 1 + t) = (2 * r % 2 ^ (j + 1 + t)) ^^^ (z * 2):=by
  have d1:2 * (r ^^^ (b.toNat * 2 ^ (j + t) + z)) = (2 * r) ^^^ (2 * (b.toNat * 2 ^ (j + t) + z)):=by
   have:=Nat.shiftLeft_xor_distrib (a:=r) (b:=b.toNat * 2 ^ (j + t) + z) (i:=1)
   simp only [Hy,Nat.pow_one] at this
   grind
  rw [d1,Nat.xor_mod_two_pow]
  congr 1
  have h2:2 * (b.toNat * 2 ^ (j + t) + z) = b.toNat * 2 ^ (j + 1 + t) + z * 2:=by
   grind
  rw [h2,V9,Nat.mul_add_mod,H7]
  grind
 rw [hxor,hlow]
 have hfin:∀ w:Nat,w < 2 → (2 * r % 2 ^ (j + 1 + t) ^^^ z * 2) ^^^ w * p = (if w = 1 then (2 * r % 2 ^ (j + 1 + t)) ^^^ p else 2 * r % 2 ^ (j + 1 + t)) ^^^ (z * 2):=by
  intro w hw
  match w,hw with
  | 0,_ => simp
  | 1,_ => grind
 exact hfin _ (UY _ (by omega))
theorem Zmi {s p:Nat} (hp:p < 2 ^ s):∀ (j x r:Nat),j ≤ s → r < 2 ^ s → Zbi s p j (r ^^^ ((x % 2 ^ j) * 2 ^ (s - j))) = (Zb x j).foldl (Xe s p) r
 | 0,x,r,_,hr => by simp [Zbi,Zb,Em]
 | j + 1,x,r,hs,hr => by
  have hx:x % 2 ^ (j + 1) = (x.testBit j).toNat * 2 ^ j + x % 2 ^ j:=by
   rw [Ez,Ed]
   have h2:x / 2 ^ j % 2 < 2:=UY _ (by omega)
   generalize x / 2 ^ j % 2 = m at h2
   match m,h2 with
   | 0,_ => simp
   | 1,_ => simp; omega
  rw [hx]
  show Zbi s p j (Zeq s p _) = _
  rw [ZJf hs hp hr (UY _ (Hs (by omega))),Zmi hp j x _ (by omega) (ZoT hp)]
  rfl
theorem ZxE {s p r x:Nat} (hs:8 ≤ s) (hp:p < 2 ^ s) (hr:r < 2 ^ s) (hx:x < 256):(Zb x 8).foldl (Xe s p) r = Zbj s p r x:=by
 have:=Zmi hp 8 x r hs hr
 rw [show x % 2 ^ 8 = x from H7 hx] at this
 exact this.symm
theorem ZIB (k:Nat) {s p:Nat} (hs:8 ≤ s) (hs':s ≤ 16) (hp:p < 2 ^ s) (L1:Int × ByteArray × Int × Int × Int → Option (Int × Unit)) (S:ByteArray) {i x:Nat} (hi:i < S.size) (hx:(S.data.toList.getD i 0).toNat = x) (hn:S.size < 4294967296) :
  ∀ (j m r:Nat),j ≤ 8 → j < m → r < 2 ^ s →
  Zg (fun L2 => Zfg k L1 L2) m ((j:Int) - 1,(r:Int),(s:Int),S,(i:Int),(p:Int)) = L1 (((i + 1:Nat):Int),S,(((Zb x j).foldl (Xe s p) r:Nat):Int),(s:Int),(p:Int)):=by
 have hxl:x < 256:=by rw [← hx]; exact (S.data.toList.getD i 0).toNat_lt
 have h16:2 ^ s ≤ 2 ^ 16:=Hf (by omega) hs'
 intro j
 induction j with
 | zero =>
  intro m r hj hm hr
  obtain ⟨m,rfl⟩:=Zm hm
  rw [Zc]
  simp only [Zfg]
  rw [Zh (by omega),ZG (n:=(i:Int) + 1) (by omega)]
  rfl
 | succ j ih =>
  intro m r hj hm hr
  obtain ⟨m,rfl⟩:=Zm (show 0 < m by omega)
  rw [Zc]
  simp only [Zfg]
  have e0:((j + 1:Nat):Int) - 1 = (j:Int):=by omega
  have e1:Jx.wrap ((s:Int) - 1) = ((s - 1:Nat):Int):=by rw [ZG (by omega)]; omega
  rw [e0,e1,Za (by omega),Za (by omega),Za (by simp only [HZ]; omega),Za (by omega),Za (by omega),ZdM (by omega)]
  have hne:¬ ((2 ^ s:Nat):Int) = 0:=by
   omega
  rw [Za hne]
  simp only [Ui,Ht (show s - 1 ≤ 64 by omega),Ht (show j ≤ 64 by omega),Zmt]
  have ebit:∀ v:Nat,v < 18446744073709551616 → Jx.wrap (UD (UH 64 (v:Int) &&& UH 64 1).toNat) = ((v % 2:Nat):Int):=by
   intro v hv
   rw [show (1:Int) = ((1:Nat):Int) from rfl,ZGA hv (by omega),HW,ZG (by omega)]
  have hd1:r / 2 ^ (s - 1) ≤ r:=H3 _ _
  have hd2:x / 2 ^ j ≤ x:=H3 _ _
  have ex:Jx.wrap (UD (S.data.toList.getD i 0).toNat) = (x:Int):=by rw [hx]; simp only [HZ]; rw [ZG (by omega)]
  rw [ex,Zmt,ebit _ (by omega),ebit _ (by omega)]
  have m1:r / 2 ^ (s - 1) % 2 < 2:=UY _ (by omega)
  have m2:x / 2 ^ j % 2 < 2:=UY _ (by omega)
  have htb:x.testBit j = decide (x / 2 ^ j % 2 = 1):=Ed
  have exor:Jx.wrap (UD (UH 64 ((r / 2 ^ (s - 1) % 2:Nat):Int) ^^^ UH 64 ((x / 2 ^ j % 2:Nat):Int)).toNat) = (((r / 2 ^ (s - 1) % 2 + (x.testBit j).toNat) % 2:Nat):Int):=by
   rw [htb]
   generalize r / 2 ^ (s - 1) % 2 = u at m1
   generalize x / 2 ^ j % 2 = v at m2
   match u,v,m1,m2 with
   | 0,0,_,_ => rfl
   | 0,1,_,_ => rfl
   | 1,0,_,_ => rfl
   | 1,1,_,_ => rfl
  have e2r:(Jx.wrap ((2:Int) * (r:Int))).tmod ((2 ^ s:Nat):Int) = ((2 * r % 2 ^ s:Nat):Int):=by
   rw [ZG (by omega),show (2:Int) * (r:Int) = ((2 * r:Nat):Int) from by push_cast; rfl,Ef (by omega)]
   rfl
  have ej:Jx.wrap ((j:Int) - 1) = (j:Int) - 1:=ZG (by omega)
  rw [exor,e2r,ej,Zw]
  have hmlt:2 * r % 2 ^ s < 2 ^ s:=UY _ (Hs (by omega))
  have hlt:=ZoT (s:=s) (p:=p) (r:=r) (b:=x.testBit j) hp
  have hfold:(Zb x (j + 1)).foldl (Xe s p) r = (Zb x j).foldl (Xe s p) (Xe s p r (x.testBit j)):=rfl
  rw [hfold]
  by_cases h1:(r / 2 ^ (s - 1) % 2 + (x.testBit j).toNat) % 2 = 1
  ·have ed:Xe s p r (x.testBit j) = (2 * r % 2 ^ s) ^^^ p:=by unfold Xe; rw [if_pos h1]
   rw [Za (by omega),ZXb (by omega) (by omega),← ed,ZG (by omega)]
   exact ih m _ (by omega) (by omega) hlt
  ·have ed:Xe s p r (x.testBit j) = 2 * r % 2 ^ s:=by unfold Xe; rw [if_neg h1]
   rw [Zh (by omega),← ed]
   exact ih m _ (by omega) (by omega) hlt
theorem Zzq (k:Nat) {l:List Int} {s p:Nat} (hs:8 ≤ s) (hs':s ≤ 16) (hp:p < 2 ^ s) (hl:Zo l = true) (hk:l.length + 20 < k) (hk':l.length < 4294967296) :
  ZFF k (ZT l,(s:Int),(p:Int),()) = some (((ZJW s p (ZhM l):Nat):Int),()):=by
 show ZjK k (Zwp k) _ = _
 simp only [ZjK]
 have hsz:(ZT l).size = l.length:=by rw [← Q0]; simp
 have:=ZF (A:=Nat) (R:=Int × Unit) (step:=fun L1 => Zff k (Zwq k L1) L1) (fun i r => (UD i,ZT l,(r:Int),(s:Int),(p:Int))) l
  (fun l' r => some ((((ZhM l').foldl (Zbj s p) r:Nat):Int),())) (fun i r => r < 2 ^ s)
  (fun L r _ => by
   simp only [Zff]
   rw [hsz,Zh (ZaZ _)]
   rfl)
  (fun L i hi r hr hL => by
   simp only [Zff]
   rw [hsz,Za (KN hi)]
   obtain ⟨x,hx,hxe⟩:=QM hl hi
   have hg:((ZT l).data.toList.getD i 0).toNat = x:=by
    simp_all
   have:=ZIB k hs hs' hp L (ZT l) (i:=i) (by omega) hg (by omega) 8 k r (by omega) (by omega) hr
   refine U4 this ?_
   rw [ZxE hs hp hr hx]
   have h2:=hL (Zbj s p r x) (Zhk hs hp hr hx)
   refine U4 h2 ?_
   rw [hxe]
   rfl)
  k 0 0 (Hs (by omega)) (by omega) (Hu _)
 rw [U5] at this
 exact this
theorem ZM9 (k:Nat) {l:List Int} (hl:Zo l = true) (hk:l.length + 20 < k) (hk':l.length < 4294967296):ZaO k (ZT l,()) = some (((ZoN l:Nat):Int),()):=by
 show ZpY k _ = _
 simp only [ZpY]
 exact Zd (Zzq k (s:=8) (p:=7) (by omega) (by omega) (by omega) hl hk hk') _
theorem ZNh (k:Nat) {l:List Int} (hl:Zo l = true) (hk:l.length + 20 < k) (hk':l.length < 4294967296):Zza k (ZT l,()) = some (((Km l:Nat):Int),()):=by
 show Zp2 k _ = _
 simp only [Zp2]
 exact Zd (Zzq k (s:=16) (p:=32773) (by omega) (by omega) (by omega) hl hk hk') _
end Go.Sh
namespace Go.Sh
open Go Go.Proofs
theorem Zqb (k kk:Nat) (h:kk ≤ 100):ZFE k ((kk:Int),()) = some (((Y8 kk:Nat):Int),()):=by
 show Zqa k _ = _
 simp only [Zqa]
 unfold Y8
 by_cases h1:kk = 1
 ·subst h1; rfl
 ·rw [show (((kk:Nat):Int) == (1:Int)) = false from by rw [Zw]; simp; omega,if_neg h1]
  simp only [cond_false]
  rw [ZG (n:=5 * (kk:Int)) (by omega),ZG (by omega)]
  congr 2
end Go.Sh
namespace Go.Sh
open Go Go.Proofs
theorem Zo7 (k:Nat) (c d r:Int):Zmn k ((c,d,r,()),()) = some (XL c d r,()):=by
 show Zez k _ = _
 simp only [Zez]
 have rest:(bif decide ((4:Int) ≤ d) then bif decide (d ≤ (24:Int)) then bif decide ((1:Int) ≤ r) then some (decide (r ≤ (655350:Int)),()) else some (false,()) else some (false,()) else some (false,())) = some (decide (4 ≤ d ∧ d ≤ 24 ∧ 1 ≤ r ∧ r ≤ 655350),()):=by
  grind
 have fin:∀ b:Bool,b = decide (1 ≤ c ∧ c ≤ 2) → some ((b && decide (4 ≤ d ∧ d ≤ 24 ∧ 1 ≤ r ∧ r ≤ 655350)),()) = some (XL c d r,()):=by
  rintro b rfl
  unfold XL
  congr 2
  grind
 rw [Zw,Zw]
 by_cases h1:c = 1
 ·simp_all
 ·rw [Zh h1]
  by_cases h2:c = 2
  ·simp_all
  ·rw [Zh h2]
   have:=fin false (by rw [decide_eq_false (by omega)])
   simpa using this
theorem Zy8 (k:Nat) (x:Int) {d:Nat} (hd:d ≤ 40):Ztr k (x,(d:Int),()) = some (sgn x d,()):=by
 show ZeW k _ = _
 simp only [ZeW]
 unfold sgn
 rw [Zw,Zw]
 by_cases h0:d = 0
 ·rw [Za (by omega),if_pos h0]
 ·rw [Zh (by omega),if_neg h0]
  have e1:Jx.wrap ((d:Int) - 1) = ((d - 1:Nat):Int):=by rw [ZG (by omega)]; omega
  have hp:2 ^ (d - 1) ≤ 2 ^ 39:=Hf (by omega) (by omega)
  have e2:Jx.wrap ((1:Int) * (2:Int) ^ min (((d - 1:Nat):Int)).toNat 64) = ((2 ^ (d - 1):Nat):Int):=by
   rw [Ui,Ht (by omega),H2,QV]
   generalize 2 ^ (d - 1) = Q at hp ⊢
   rw [ZG (by omega)]
  rw [e1,e2,Za (by omega),QV]
  generalize 2 ^ (d - 1) = Q at hp ⊢
  rw [ZG (n:=0 - (Q:Int)) (by omega)]
  grind
theorem ZKQ (k:Nat) (hk:1000 < k) (c d r n:Int) {ch:List (List Int)} (hs:Sm ch):Zo9 k ((c,d,r,()),(n,ch,()),()) = some (KH c d r n ch,()):=by
 show Zis k (ZuM k) _ = _
 simp only [Zis]
 rw [Zo7]
 simp only [VJ]
 unfold KH
 cases hsh:XL c d r with
 | false => rfl
 | true =>
  have hb:=of_decide_eq_true hsh
  simp only [HC,cond_false,H5,if_false]
  by_cases h1:n < 0
  ·rw [Za h1,if_pos (.inl h1)]
  rw [Zh h1]
  by_cases h2:2147483647 < n
  ·rw [Za h2,if_pos (.inr (.inl h2))]
  rw [Zh h2,Zk]
  by_cases h3:(ch.length:Int) = c
  case neg => simp_all
  rw [Zh (by simpa using h3),if_neg (by omega)]
  have hpos:0 < ch.length:=by omega
  have hlast:(Jx.wrap (c - 1)).toNat = ch.length - 1 ∧ (0:Int) ≤ Jx.wrap (c - 1) ∧ Jx.wrap (c - 1) < UD ch.length:=by rw [ZG (by omega)]; simp only [HZ]; omega
  rw [Za (by simp only [HZ]; omega)]
  have hhd:ch.getD 0 [] = ch.headD []:=by cases ch <;> rfl
  rw [hhd]
  have hlen2:ch.length = 1 ∨ ch.length = 2:=by omega
  have hall:ch.all (ZaX (ch.headD []).length) = decide (1 ≤ (ch.headD []).length ∧ (ch.headD []).length ≤ 512 ∧ (ch.getD (ch.length - 1) []).length = (ch.headD []).length):=by
   match ch,hlen2 with
   | [a],_ =>
    simp_all [UA,List.all_nil,Bool.and_true,List.headD_cons,ZaX,Ur,H8,List.getD_cons_zero]
   | [a,b],_ =>
    show (ZaX a.length a && (ZaX a.length b && true)) = decide (1 ≤ a.length ∧ a.length ≤ 512 ∧ b.length = a.length)
    unfold ZaX
    grind
  rw [hall]
  generalize hN:(ch.headD []).length = N
  by_cases h4:(N:Int) < 1
  ·grind
  rw [Zh (by simp only [HZ]; omega)]
  by_cases h5:512 < N
  ·grind
  rw [Zh (by simp only [HZ]; omega),Za ⟨hlast.2.1,hlast.2.2⟩,hlast.1,Zk]
  by_cases h6:(ch.getD (ch.length - 1) []).length = N
  case neg => grind
  rw [Zh (by simp only [HZ]; omega),decide_eq_true (by omega),if_neg (by simp)]
  have hlens:∀ l ∈ ch,l.length = N:=by
   have:ch.all (ZaX N) = true:=by grind
   intro l hl
   have:=of_decide_eq_true (Ve.1 this l hl)
   exact this.1
  obtain ⟨dn,hdn⟩:=Int.eq_ofNat_of_zero_le (show 0 ≤ d by omega)
  subst hdn
  rw [Ui]
  have hcn:c = ((ch.length:Nat):Int):=h3.symm
  subst hcn
  have inner:∀ (L1:Int × Int × Int × Int × Int × Int × List (List Int) → Option (Int × Unit)) (q:Nat) (hq:q < ch.length),Zpa k L1 ((0:Int),UD N,(q:Int),n,ch,((ch.length:Nat):Int),(dn:Int),r) =
    bif ch[q].all (fun x => sgn x dn) then L1 (((q + 1:Nat):Int),UD N,((ch.length:Nat):Int),(dn:Int),r,n,ch) else some (12,()):=by
   intro L1 q hq
   have hql:=hlens ch[q] (Ha hq)
   have hgq:ch.getD q [] = ch[q]:=Xf hq
   exact QN (R:=Int × Unit) (step:=fun L2 => ZeD k L1 L2) (fun i => (UD i,UD N,(q:Int),n,ch,((ch.length:Nat):Int),(dn:Int),r)) ch[q] (fun x => sgn x dn) (some (12,())) (L1 (((q + 1:Nat):Int),UD N,((ch.length:Nat):Int),(dn:Int),r,n,ch))
    (fun L => by
     simp only [ZeD]
     rw [hql,Zh (ZaZ _),ZG (n:=(q:Int) + 1) (by omega)]
     rfl)
    (fun L i hi => by
     simp only [ZeD]
     rw [Za (by rw [← hql]; exact KN hi),Za (by simp only [HZ]; omega),Ui,hgq,Za (Xd hi),ZL hi,Zy8 k _ (by omega)]
     simp only [VJ]
     cases sgn ch[q][i] dn with
     | false => rfl
     | true =>
      simp only [HC,cond_false,cond_true]
      rw [Qa hi (by omega)]) k (by omega)
  have outer:=QN (R:=Int × Unit) (step:=fun L1 => ZeC k (Zpa k L1) L1) (fun i => (UD i,UD N,((ch.length:Nat):Int),(dn:Int),r,n,ch)) ch (fun l => l.all fun x => sgn x dn) (some (12,())) (some (0,()))
   (fun L => by
    grind [ZeC,HZ])
   (fun L i hi => by
    grind [ZeC,HZ]) k (by omega)
  refine U4 outer ?_
  grind
theorem ZAr (n:Int) : -1 ≤ n.tmod 2 ∧ n.tmod 2 ≤ 1:=by
 grind
theorem Zzs (k:Nat) {n:Int} (h : -1000000000000 ≤ n ∧ n ≤ 1000000000000):ZFH k (n,()) = some (n / 2,()):=by
 show Zqc k _ = _
 simp only [Zqc]
 have e1:Jx.wrap (n.tmod 2 + 2) = n.tmod 2 + 2:=by
  have:=ZAr n
  exact ZG (by omega)
 have e2:(n.tmod 2 + 2).tmod 2 = n % 2:=by
  grind
 rw [e1,e2,ZG (n:=n - n % 2) (by omega)]
 have e3:(n - n % 2).tdiv 2 = n / 2:=by
  grind
 rw [e3,ZG (by omega)]
theorem ZNg (k:Nat) (d m:Int) (hd:0 ≤ d ∧ d ≤ 100):ZFo k (d,m,()) = some ((if m = 9 then d + 1 else d,if m = 8 ∨ m = 10 then d + 1 else d,()),()):=by
 show Zp1 k _ = _
 simp only [Zp1]
 rw [ZG (n:=d + 1) (by omega),Zw,Zw,Zw]
 grind
end Go.Sh
namespace Go.Sh
open Go Go.Proofs
theorem ZsO (k:Nat) (x:Int):ZuZ k (x,()) = some (!Wi x,()):=by
 show Zla k _ = _
 simp only [Zla]
 unfold Wi
 by_cases h1 : -2147483648 < x
 ·rw [Za h1]
  by_cases h2:x < 2147483648
  ·simp_all
  simp_all
 grind
theorem Zsz (k:Nat) (l:List Int) (hk:l.length < k) (hn:l.length < 4294967296):ZuK k (l,()) = some (!l.any Wi,()):=by
 show Zga k (Zm5 k) _ = _
 simp only [Zga]
 have:=QN (R:=Bool × Unit) (step:=fun L1 => Zb0 k L1) (fun i => (UD i,l)) l (fun x => !Wi x) (some (false,())) (some (true,()))
  (fun L => by grind [Zb0])
  (fun L i hi => by
   simp only [Zb0]
   rw [Za (KN hi),Za (Xd hi),ZL hi,ZsO]
   simp only [VJ]
   rw [Qa hi (by omega)]
   cases Wi l[i] <;> rfl) k hk
 refine U4 this ?_
 grind
theorem ZHT (k:Nat) (c:List Int) (sh:Int) (hk:10 < k):ZBm k ((c,sh,()),()) = some (KO c sh,()):=by
 show Zgp k (ZnB k) _ = _
 simp only [Zgp]
 unfold KO
 by_cases h1:(8:Int) < UD c.length
 ·grind
 ·simp only [HZ] at h1
  rw [Zh (by simp only [HZ]; omega)]
  by_cases h2:sh < 0
  ·grind
  ·rw [Zh h2]
   by_cases h3:15 < sh
   ·grind
   ·rw [Zh h3,decide_eq_true (by omega)]
    have:=QN (R:=Bool × Unit) (step:=fun L1 => Zcc k L1) (fun i => (UD i,c,sh)) c Zd2 (some (false,())) (some (true,()))
     (fun L => by grind [Zcc])
     (fun L i hi => by
      simp only [Zcc]
      rw [Za (KN hi),Za (Xd hi),Za (Xd hi),ZL hi,Qa hi (by omega)]
      unfold Zd2
      grind) k (by omega)
    refine U4 this ?_
    grind
theorem ZO5 {a Q:Int} (hQ:0 < Q):a.fdiv Q = if a.tmod Q < 0 then a.tdiv Q - 1 else a.tdiv Q:=by
 rw [HE _ (by omega)]
 have h1:=Int.tmod_add_mul_tdiv a Q
 have h2 : -Q < a.tmod Q ∧ a.tmod Q < Q:=by
  rcases Int.le_total 0 a with h | h
  ·rw [Ef h]
   have:=Int.emod_nonneg a (show Q ≠ 0 by omega)
   have:=Er a hQ
   omega
  ·have e:=Int.neg_tmod (a := -a) (b:=Q)
   rw [Int.neg_neg] at e
   rw [e,Ef (by omega)]
   have:=Int.emod_nonneg (-a) (show Q ≠ 0 by omega)
   have:=Er (-a) hQ
   omega
 generalize a.tmod Q = r at h1 h2 ⊢
 generalize a.tdiv Q = q at h1 ⊢
 rw [← h1,Eo _ _ (by omega)]
 split
 ·have h3:(r + Q) / Q = 0:=Ep (by omega) (by omega)
  have h4:=Eo r 1 (show Q ≠ 0 by omega)
  rw [Int.mul_one,h3] at h4
  omega
 ·rw [Ep (by omega) (by omega)]
  omega
theorem ZId (k:Nat) {x sh:Int} (hx : -140737488355328 ≤ x ∧ x ≤ 140737488355328) (hsh:0 ≤ sh ∧ sh ≤ 15):ZBv k (x,sh,()) = some (x.fdiv (2 ^ sh.toNat),()):=by
 show Zlg k _ = _
 simp only [Zlg]
 have hb:=Zqr (x:=x) (b:=140737488355328) sh.toNat hx (by omega)
 rw [Ht (by omega),H2]
 have hp:2 ^ sh.toNat ≤ 2 ^ 15:=Hf (by omega) (by omega)
 have hp0:0 < 2 ^ sh.toNat:=Hs (by omega)
 rw [QV] at hb ⊢
 generalize 2 ^ sh.toNat = Q at *
 have e:=ZO5 (a:=x) (Q:=(Q:Int)) (by omega)
 rw [Za hsh.1,ZG (n:=(Q:Int)) (by omega),Za (by omega),Za (by omega)]
 by_cases h:x.tmod (Q:Int) < 0
 ·rw [if_pos h] at e
  rw [Za h,ZG (n:=x.tdiv (Q:Int)) (by omega),ZG (by omega),e]
 ·rw [if_neg h] at e
  rw [Zh h,ZG (n:=x.tdiv (Q:Int)) (by omega),e]
theorem ZHV (k:Nat) {c s:List Int} {sh:Int} {p:Nat} (hk:c.length < k) (hl:c.length ≤ 8) (hcp:c.length ≤ p) (hps:p ≤ s.length) (hn:s.length ≤ 4294967296) (hsh:0 ≤ sh ∧ sh ≤ 15) (hc:∀ x ∈ c,ZxA x) (hs:∀ x ∈ s,QU x) :
  ZBn k ((c,sh,()),s,(p:Int),()) = some (ZcH c sh (s.take p),()):=by
 show Zgq k (ZnD k) _ = _
 simp only [Zgq]
 have hta:(s.take p).length = p:=by simp; omega
 have hzl:(c.zip (s.take p).reverse).length = c.length:=by simp_all
 have hterm:=ZkI hc (fun x hx => hs x (JT hx):∀ x ∈ s.take p,QU x)
 have hI:=ZF (A:=Int) (R:=Int × Unit) (step:=fun L1 => Zcd k L1) (fun i acc => (UD i,acc,s,(p:Int),c,sh)) (c.zip (s.take p).reverse)
  (fun l acc => some ((acc + Zl2 (l.map fun x => x.1 * x.2)).fdiv (2 ^ sh.toNat),())) (fun i acc => i ≤ 8 ∧ -((i:Int) * 4398046511104) ≤ acc ∧ acc ≤ (i:Int) * 4398046511104)
  (fun L acc h => by
   simp only [Zcd]
   rw [hzl,Zh (ZaZ _)]
   rw [hzl] at h
   have h8:(c.length:Int) ≤ 8:=by omega
   rw [ZId k (by omega) hsh]
   simp [Zl2])
  (fun L i hi acc hacc hL => by
   have hi2:i < c.length:=by omega
   have hi3:i < (s.take p).reverse.length:=by simp; omega
   simp only [Zcd]
   have e1:Jx.wrap (Jx.wrap ((p:Int) - 1) - UD i) = ((p - 1 - i:Nat):Int):=by
    simp only [HZ]
    rw [ZG (n:=(p:Int) - 1) (by omega),ZG (by omega)]; omega
   rw [Za (KN hi2),Za (Xd hi2),e1,Za (by simp only [HZ]; omega),ZL hi2,Ui]
   have e2:s.getD (p - 1 - i) 0 = (s.take p).reverse[i]:=by
    grind
   rw [e2]
   have hz:(c.zip (s.take p).reverse)[i] = (c[i],(s.take p).reverse[i]):=by simp
   have ht:=hterm (c[i] * (s.take p).reverse[i]) (VF.2 ⟨(c[i],(s.take p).reverse[i]),by rw [← hz]; exact Ha _,rfl⟩)
   have hi8:(i:Int) ≤ 8:=by omega
   rw [ZG (n:=c[i] * (s.take p).reverse[i]) (by omega),ZG (n:=acc + c[i] * (s.take p).reverse[i]) (by omega),Qa hi2 (by omega)]
   grind [Zl2]) k 0 0 ⟨by omega,by omega,by omega⟩ (by omega) (Hu _)
 refine U4 hI ?_
 rw [U5,Int.zero_add]
 rfl
theorem ZOn (k:Nat) (o:Nat) (ho:o ≤ 4):Zzr k ((o:Int),()) = some (((ZhG o,0,()),0,()),()) :=
 match o,ho with
 | 0,_ => rfl
 | 1,_ => rfl
 | 2,_ => rfl
 | 3,_ => rfl
 | 4,_ => rfl
end Go.Sh
namespace Go.Sh
open Go Go.Proofs
theorem ZH8 (k:Nat) (n o:Int):ZBt k (n,o,()) = some (ZbI n o,()):=by
 show Zle k _ = _
 simp only [Zle]
 unfold ZbI
 grind
theorem ZHX (k:Nat) {p n o size:Nat} (hp:p ≤ 15) (hsz:n / 2 ^ p = size) (hnn:n < 4294967296):∀ (d i m:Nat) (r:List Int) (out:List (List Int)),d < m → i + d = 2 ^ p → 0 < i → out.length = i → r.length = d * size → r.length < 4294967296 →
  Zg (fun L1 => YN k L1) m ((i:Int),(p:Int),(n:Int),(o:Int),r,out) = some (out ++ YK size d r,()):=by
 have h15:2 ^ p ≤ 2 ^ 15:=Hf (by omega) hp
 have hd:size ≤ n:=by rw [← hsz]; exact H3 _ _
 intro d
 induction d with
 | zero =>
  intro i m r out hm hi h0 ho hr hn
  obtain ⟨m,rfl⟩:=Zm hm
  rw [Zc]
  simp only [YN]
  rw [Za (by omega),ZdM (by omega),Zh (by omega),Za (by omega)]
  simp [YK]
 | succ d ih =>
  intro i m r out hm hi h0 ho hr hn
  obtain ⟨m,rfl⟩:=Zm (show 0 < m by omega)
  rw [Zc]
  simp only [YN]
  have hs:(d + 1) * size = d * size + size:=by rw [Jg,Jp]
  have hle:size ≤ r.length:=by omega
  have e0:(n:Int).fdiv (2 ^ min ((p:Int)).toNat 64) = (size:Int):=by grind
  rw [Za (by omega),ZdM (by omega),Za (by omega),Za (by omega),Zw,Zh (by omega),e0]
  rw [Za (by simp only [HZ]; omega),Za (by grind),Za (by simp only [HZ]; omega)]
  rw [Ui,show (UD r.length).toNat = r.length from rfl,Ea,U5,ZG (n:=(i:Int) + 1) (by omega)]
  have:=ih (i + 1) m (r.drop size) (out ++ [r.take size]) (by omega) (by omega) (by omega) (by simp; omega) (by rw [Vh]; omega) (by rw [Vh]; omega)
  grind [YK]
theorem ZHY (k:Nat) {l:List Int} {o p:Nat} (hp:p ≤ 15) (hn:l.length + o < 4294967296) (hk:32768 < k) :
  ZBo k (l,(o:Int),(p:Int),()) = some (if Zft (l.length + o) o p = true then KI l o p else [],()):=by
 show Zgr k (ZnF k) _ = _
 have h15:2 ^ p ≤ 2 ^ 15:=Hf (by omega) hp
 have h0:0 < 2 ^ p:=Hs (by omega)
 simp only [Zgr]
 have e1:Jx.wrap (UD l.length + (o:Int)) = ((l.length + o:Nat):Int):=by rw [ZG (by simp only [HZ]; omega)]; rfl
 have e2:(((l.length + o:Nat):Int)).tmod (((2 ^ p:Nat)):Int) = (((l.length + o) % 2 ^ p:Nat):Int):=by
  rfl
 have e3:(((l.length + o:Nat):Int)).fdiv (2 ^ min ((p:Int)).toNat 64) = (((l.length + o) / 2 ^ p:Nat):Int):=by grind
 rw [e1,ZdM (by omega),e2,e3,Za (by omega),Za (by omega),Zk]
 unfold Zft
 by_cases hm:(l.length + o) % 2 ^ p = 0
 case neg => grind
 rw [Zh (by rw [hm]; simp),decide_eq_true hm,UC,Za (by omega)]
 by_cases ho:o ≤ (l.length + o) / 2 ^ p
 case neg => grind
 rw [Zh (by omega),decide_eq_true ho,if_pos rfl]
 obtain ⟨j,rfl⟩:=Zm (show 0 < k by omega)
 show Zg (fun L1 => YN (j + 1) L1) (j + 1) _ = _
 rw [Zc]
 simp only [YN]
 have hd:(l.length + o) / 2 ^ p ≤ l.length + o:=H3 _ _
 have hmul:2 ^ p * ((l.length + o) / 2 ^ p) = l.length + o:=by have:=Nat.div_add_mod (l.length + o) (2 ^ p); omega
 unfold KI
 rw [e3,ZdM (by omega)]
 generalize hsz:(l.length + o) / 2 ^ p = size at ho hd hmul
 have e4:Jx.wrap ((size:Int) - (o:Int)) = ((size - o:Nat):Int):=by rw [ZG (by omega)]; omega
 have e5:(2 ^ p - 1) * size = 2 ^ p * size - size:=by rw [Nat.sub_mul,Jp]
 have hps:size ≤ 2 ^ p * size:=Nat.le_mul_of_pos_left _ h0
 rw [e4,Za (by omega),Za (by omega),Za (by omega),Zw,Za (by rfl),Za (by simp only [HZ]; omega),Za (by simp),Za (by simp only [HZ]; omega)]
 rw [Ui,show (UD l.length).toNat = l.length from rfl,Ea,U5,show Jx.wrap ((0:Int) + 1) = ((1:Nat):Int) from by decide]
 exact ZHX (j + 1) hp hsz (by omega) (2 ^ p - 1) 1 j _ _ (by omega) (by omega) (by omega) rfl (by rw [Vh,e5]; omega) (by rw [Vh]; omega)
end Go.Sh
namespace Go.Sh
open Go Go.Proofs
theorem KE (a b:List Int):ZT a ++ ZT b = ZT (a ++ b):=by
 apply Zej
 simp [ZT]
theorem Qy (a:List Int):(ZT a).size = a.length:=by rw [← Q0]; simp
theorem Zkw {n:Nat} (a w:Nat) (h:n < 2 ^ w):Zb n (a + w) = Jd a false ++ Zb n w:=by
 rw [Zh9,HX h]
 congr 1
 induction a with
 | zero => rfl
 | succ a ih => rw [show Zb 0 (a + 1) = (0:Nat).testBit a :: Zb 0 a from rfl,ih,Nat.zero_testBit]; rfl
end Go.Sh
namespace Go.Sh
open Go Go.Proofs
def Zrz (tags:List ByteArray):List Nat:=tags.flatMap fun t => leN t.size 4 ++ WS t
theorem ZJj (tags:List ByteArray):ZAk tags = Ke (Zrz tags):=by
 unfold ZAk Zrz Ke
 rw [List.flatMap_assoc]
 simp only [List.flatMap_append]
theorem ZP3 (tags:List ByteArray):(Zrz tags).length = ZrA tags:=by
 unfold Zrz ZrA
 simp_all [Xj,QW,Zab]
theorem ZbG (a b:List Nat):Wa a ++ Wa b = Wa (a ++ b):=by
 unfold Wa
 apply Zej
 simp [Zj]
theorem Yf (a:List Nat):(Wa a).size = a.length:=by simp [Wa,Zj,UQ]
theorem ZmC (s:ByteArray):s = Wa (WS s):=by
 apply Zej
 simp only [Wa,WS,Zj,VY]
 conv => lhs; rw [← List.map_id s.data.toList]
 apply Ek
 intro x _
 simp
theorem Zhz (k:Nat) {n:Nat} (h:n < 1000000):K1 k ((n:Int),()) = some (Wa (leN n 4),()):=by
 show some (UR _,()) = _
 have f1:=Zfp n 256
 have f2:=Zfp n 65536
 have f3:=Zfp n 16777216
 simp only [Int.cast_ofNat_Int] at f1 f2 f3
 rw [f1,f2,f3,u8m,u8m,u8m,u8m]
 have e:leN n 4 = [n % 256,n / 256 % 256,n / 65536 % 256,n / 16777216 % 256]:=by simp [leN,List.range_succ]
 rw [e]
 rfl
section prog
variable {k:Nat} {c d r:Int} {tags:List ByteArray} {ch:List (List Int)}
def ZrV (v2:ByteArray) (l:List Nat):ByteArray:=v2 ++ ZT (Z3 (Zb 132 8 ++ Zb l.length 24)) ++ Wa l
theorem ZR9 (hk:1000 ≤ k) (hT:Tg tags) (acc:List Nat) (ha:acc.length ≤ 1000) (v2:ByteArray) (hv:v2.size ≤ 1000000) :
  Xt k ((0:Int),Wa acc,v2,c,d,r,tags,ch) = some (ZrV v2 (acc ++ Zrz tags),()):=by
 have key:=ZF (A:=List Nat) (step:=fun L3 => Zax k L3) (fun i a => (UD i,Wa a,v2,c,d,r,tags,ch)) tags
  (fun rest a => some (ZrV v2 (a ++ Zrz rest),())) (fun i a => a.length ≤ acc.length + 16 * i)
  (fun L a hI => by
   have h8:=hT.1
   simp only [Zax]
   rw [Zh (ZaZ _)]
   have hs:=Yf a
   refine (Zd (Yn k 132 8 (by omega) (by omega) (by omega)) _).trans ?_
   simp only [hs]
   refine (Zd (Yn k a.length 24 (by omega) (by omega) (by omega)) _).trans ?_
   simp only
   rw [Za (by rw [Qt,Qt,Zi,Zi]; omega),Qn]
   refine (Zd (Zp0 k (Zb 132 8 ++ Zb a.length 24) (by simp only [Xj,Zi]; omega) (by simp only [Xj,Zi]; omega)) _).trans ?_
   have hp:(ZT (Z3 (Zb 132 8 ++ Zb a.length 24))).size = 4:=by
    rw [Qy,QL]; simp only [Xj,Zi]
   have hp2:(UR (UT (fun n => UX n.toNat) (Z3 (Zb 132 8 ++ Zb a.length 24))).toArray) = ZT (Z3 (Zb 132 8 ++ Zb a.length 24)):=rfl
   simp only [hp2,hp]
   grind [Zrz,ZrV])
  (fun L i hi a hI hL => by
   have h8:=hT.1
   have ht:=hT.2 _ (Ha hi)
   simp only [Zax]
   rw [Za (KN hi),Za (Xd hi),ZL hi]
   refine (Zd (Zhz k (n:=tags[i].size) (by omega)) _).trans ?_
   simp only
   rw [Za (by rw [Yf,Yf,QW]; omega),Za (Xd hi),ZbG,Za (by rw [Yf,Xj,QW]; omega),Qa hi (by omega)]
   have e:Wa (a ++ leN tags[i].size 4) ++ tags[i] = Wa (a ++ (leN tags[i].size 4 ++ WS tags[i])):=by
    conv => lhs; rw [ZmC tags[i]]
    rw [ZbG,Ju,← ZmC]
   grind [Xj,QW,Zab,Zrz,Ju])
  k 0 acc (by omega) (by have:=hT.1; omega) (by omega)
 rw [U5] at key
 exact key
end prog
end Go.Sh
namespace Go.Sh
open Go Go.Proofs
theorem ZI6 {size n i at_:Nat} (h1:i * size < 2 ^ 32) (h2:at_ < 2 ^ 32):Zb (i * size) 64 ++ Zb at_ 64 ++ Zb (min size (n - i * size)) 16 = Za2 size n i at_:=by
 have z:Zb 0 32 = Jd 32 false:=by decide
 have e1:=Zkw (n:=i * size) 32 32 h1
 have e2:=Zkw (n:=at_) 32 32 h2
 unfold Za2
 simp_all
def Zif (tags:List ByteArray):List Nat:=leN 7 4 ++ ZcS ++ leN tags.length 4 ++ Zrz tags
section prog
variable {k:Nat} {c d r:Int} {tags:List ByteArray} {ch:List (List Int)}
theorem ZyJ (hk:1000 ≤ k) (hT:Tg tags) (v6:ByteArray) (hv:v6.size ≤ 1000000) :
  ((K1 k (7,())).bind fun y_1 => bif decide (UQ y_1.1 + (7:Nat) < (1099511627776:Nat)) then (K1 k (UD tags.length,())).bind fun y_2 => bif decide ((y_1.1 ++ UR #[115,104,101,108,108,97,99]).size + UQ y_2.1 < (1099511627776:Nat)) then Xt k ((0:Int),y_1.1 ++ UR #[115,104,101,108,108,97,99] ++ y_2.1,v6,c,d,r,tags,ch) else none else none) = some (ZrV v6 (Zif tags),()):=by
 have h8:=hT.1
 refine (Zd (Zhz k (n:=7) (by omega)) _).trans ?_
 simp only
 rw [Za (by rw [Yf,QW]; omega)]
 refine (Zd (Zhz k (n:=tags.length) (by omega)) _).trans ?_
 simp only
 have hv7:UR #[115,104,101,108,108,97,99] = Wa ZcS:=rfl
 rw [hv7,ZbG,Za (by rw [Yf,Yf,Xj,QW,QW]; simp only [ZcS,JF,HV]; omega),ZbG]
 refine (ZR9 hk hT _ (by simp only [Xj,QW,ZcS,JF,HV]; omega) v6 hv).trans ?_
 unfold Zif
 rfl
theorem ZR8 (hk:100000 ≤ k) (hT:Tg tags) {size n:Nat} {lens:List Nat} (hL:Lens size n lens) (hn:n ≤ 4096) (bs:List Bool) (hb:bs.length ≤ 1000) (v6:ByteArray) (hv:v6.size ≤ 1000) :
  Zcs k ((0:Int),Zj lens,K8 bs,(size:Int),((0:Nat):Int),(n:Int),v6,c,d,r,tags,ch) = some (ZrV (v6 ++ ZT (Z3 (bs ++ ZgT size n 0 0 lens))) (Zif tags),()):=by
 have hll:=hL.len
 have hsz:=hL.sz
 have key:=ZF (A:=List Bool × Nat) (step:=fun L2 => Zaw k (Xt k) L2) (fun i a => (UD i,Zj lens,K8 a.1,(size:Int),(a.2:Int),(n:Int),v6,c,d,r,tags,ch)) lens
  (fun rest a => some (ZrV (v6 ++ ZT (Z3 (a.1 ++ ZgT size n (lens.length - rest.length) a.2 rest))) (Zif tags),())) (fun i a => a.1.length = bs.length + 144 * i ∧ a.2 ≤ 65536 * i)
  (fun L a hI => by
   simp only [Zaw]
   rw [ZC,Zh (ZaZ _)]
   refine (Zd (Zp0 k a.1 (by omega) (by omega)) _).trans ?_
   have hp2:(UR (UT (fun n => UX n.toNat) (Z3 a.1)).toArray) = ZT (Z3 a.1):=rfl
   have hps:(ZT (Z3 a.1)).size ≤ 20000:=by rw [Qy,QL]; omega
   simp only [hp2]
   rw [Za (by omega)]
   refine (ZyJ (by omega) hT (v6 ++ ZT (Z3 a.1)) (by rw [ByteArray.size_append]; omega)).trans ?_
   simp only [ZgT,Vf])
  (fun L i hi a hI hLn => by
   simp only [Zaw]
   have hmul:i * size < n + 1:=by have:=hL.in_ i hi; omega
   have hsm:=hL.small _ (Ha hi)
   have hgt:(Zj lens).getD (Int.toNat (UD i)) 0 = ((lens[i]:Nat):Int):=by
    grind [Zj]
   rw [ZC,Za (KN hi),show UD i * (size:Int) = ((i * size:Nat):Int) by simp,ZG (n:=((i * size:Nat):Int)) (by omega)]
   refine (Zd (Yn k (i * size) 64 (by omega) (by omega) (by omega)) _).trans ?_
   simp only
   rw [Za (by rw [Qt,Qt,Zi]; omega),Qn]
   refine (Zd (Yn k a.2 64 (by omega) (by omega) (by omega)) _).trans ?_
   simp only
   rw [Za (by rw [Qt,Qt,Zi,Xj,Zi]; omega),Qn,ZG (n:=(n:Int) - _) (by omega)]
   have hmin:(if (n:Int) - ((i * size:Nat):Int) < (size:Int) then (n:Int) - ((i * size:Nat):Int) else (size:Int)) = ((min size (n - i * size):Nat):Int):=by
    split <;> omega
   rw [hmin]
   refine (Zd (Yn k (min size (n - i * size)) 16 (by omega) (by omega) (by omega)) _).trans ?_
   simp only
   rw [Za (by rw [Qt,Qt,Zi,Xj,Xj,Zi,Zi]; omega),Qn,Za (Xd hi),hgt,Qa hi (by omega),ZG (n:=(a.2:Int) + _) (by omega)]
   have e:a.1 ++ Zb (i * size) 64 ++ Zb a.2 64 ++ Zb (min size (n - i * size)) 16 = a.1 ++ Za2 size n i a.2:=by
    rw [← ZI6 (n:=n) (by omega) (by omega)]
    simp only [Ju]
   rw [e]
   refine U4 (hLn (a.1 ++ Za2 size n i a.2,a.2 + lens[i]) ⟨by simp only [Xj,ZhR]; omega,by simp only; omega⟩) ?_
   have e2:(lens.drop (i + 1)).length + 1 = (lens.drop i).length:=by simp only [Vh]; omega
   simp only [JF,Ju]
   have e3:ZgT size n i a.2 (lens[i] :: lens.drop (i + 1)) = Za2 size n i a.2 ++ ZgT size n (i + 1) (a.2 + lens[i]) (lens.drop (i + 1)):=rfl
   grind)
  k 0 (bs,0) ⟨by simp,by simp⟩ (by omega) (by omega)
 rw [U5,H8] at key
 exact key
end prog
end Go.Sh
namespace Go.Sh
open Go Go.Proofs
theorem ZtH {l:List Nat} (h:l ≠ []) (x:Nat):Yv (l ++ [x]) = min (Yv l) x:=by
 match l,h with
 | y :: t,_ => simp [Yv,Eg]
theorem ZlG (l:List Nat) (x:Nat):Yt (l ++ [x]) = max (Yt l) x:=by
 match l with
 | [] => simp [Yt]
 | y :: t => simp [Yt,Eg]
section prog
variable {k:Nat} {c d r:Int} {tags:List ByteArray} {ch:List (List Int)}
abbrev L45:=Int × List Int × Int × Int × Int × Int × Int × Int × Int × List ByteArray × List (List Int) → Option (ByteArray × Unit)
theorem ZR7 (hk:1000 ≤ k) {lens:List Nat} (hl:lens.length ≤ 300) (size n:Int) (R:Option (ByteArray × Unit))
  (hend:∀ L:L45,YX k (Zcs k) (Xt k) L (UD lens.length,Zj lens,(Yv lens:Int),(Yt lens:Int),size,n,c,d,r,tags,ch) = R) :
  Zi5 k ((0:Int),Zj lens,(0:Int),(0:Int),size,n,c,d,r,tags,ch) = R:=by
 have key:=ZF (A:=Nat × Nat) (step:=fun L1 => YX k (Zcs k) (Xt k) L1) (fun i a => (UD i,Zj lens,(a.1:Int),(a.2:Int),size,n,c,d,r,tags,ch)) lens
  (fun _ _ => R) (fun i a => a = (Yv (lens.take i),Yt (lens.take i)))
  (fun L a hI => by
   rw [Ea] at hI
   subst hI
   exact hend L)
  (fun L i hi a hI hLn => by
   have hgt:(Zj lens).getD (Int.toNat (UD i)) 0 = ((lens[i]:Nat):Int):=by
    rw [ZL (by rw [ZC]; exact hi)]
    simp [Zj]
   have hgt0:(Zj lens).getD (UD i).toNat 0 = ((lens[i]:Nat):Int):=hgt
   have htk:lens.take (i + 1) = lens.take i ++ [lens[i]]:=List.take_succ_eq_append_getElem hi
   have hmx:(if (a.2:Int) < ((lens[i]:Nat):Int) then ((lens[i]:Nat):Int) else (a.2:Int)) = ((max a.2 lens[i]:Nat):Int):=by
    split <;> omega
   simp only [YX]
   rw [ZC,Za (KN hi)]
   by_cases hz:i = 0
   ·rw [show (UD i == (0:Int)) = true by simp [hz]]
    simp only [cond_true]
    rw [Za (Xd hi),Za (Xd hi),hgt,Qa hi (by omega),hmx]
    refine hLn (lens[i],max a.2 lens[i]) ?_
    rw [htk,ZlG,hI]
    simp [hz,Yv]
   ·rw [show (UD i == (0:Int)) = false by simp [hz]]
    simp only [cond_false]
    have hne:lens.take i ≠ []:=by
     intro h
     have:=congrArg UO h
     rw [Jz,HV] at this
     omega
    rw [Za (Xd hi),hgt,hmx]
    by_cases hlt:lens[i] < a.1
    ·rw [Za (by omega),Za (Xd hi),Za (Xd hi),Qa hi (by omega)]
     refine hLn (lens[i],max a.2 lens[i]) ?_
     rw [htk,ZlG,ZtH hne,hI]
     rw [hI] at hlt
     simp only at hlt
     rw [Nat.min_eq_right (by omega)]
    ·rw [Zh (by omega),Za (Xd hi),Qa hi (by omega)]
     refine hLn (a.1,max a.2 lens[i]) ?_
     rw [htk,ZlG,ZtH hne,hI]
     rw [hI] at hlt
     simp only at hlt
     rw [Ht (by omega)])
  k 0 (0,0) (by simp [Yv,Yt]) (by omega) (by omega)
 exact key
end prog
end Go.Sh
namespace Go.Sh
open Go Go.Proofs
def ZcB (c d r size n small great:Nat):List Bool:=Zb 0 8 ++ Zb 34 24 ++ Zb size 16 ++ Zb size 16 ++ Zb small 24 ++ Zb great 24 ++ Zb r 20 ++ Zb (c - 1) 3 ++ Zb (d - 1) 5 ++ Zb n 36
theorem ZFY {c d r size n small great:Nat} (hn:n < 2 ^ 32):Ke X2 ++ ZcB c d r size n small great = ZtF c d r size n small great:=by
 have e1:=Zkw (n:=n) 4 32 hn
 have z:Zb 0 4 = Jd 4 false:=by decide
 have z2:KU 0 0 34 = Zb 0 8 ++ Zb 34 24:=by decide
 unfold ZcB ZtF
 simp_all
theorem ZlB (c d r size n small great:Nat):(ZcB c d r size n small great).length = 176:=by simp [ZcB,Zi]
section prog
variable {k:Nat} {tags:List ByteArray} {ch:List (List Int)} {d r:Nat}
noncomputable def Zqx (d r:Nat) (ch:List (List Int)) (size:Nat) (lens:List Nat):ByteArray:=Wa X2 ++ ZT (Z3 (ZcB ch.length d r size (ch.getD 0 []).length (Yv lens) (Yt lens))) ++ Wa (ZfU d ch)
noncomputable def Zui (d r:Nat) (tags:List ByteArray) (ch:List (List Int)) (size:Nat) (lens:List Nat):ByteArray :=
 if 2 ≤ lens.length then ZrV (Zqx d r ch size lens ++ ZT (Z3 (Zb 3 8 ++ Zb (18 * lens.length) 24 ++ ZgT size (ch.getD 0 []).length 0 0 lens))) (Zif tags) else ZrV (Zqx d r ch size lens) (Zif tags)
theorem KL {α:Type} {n w:Nat} (hk:1000 ≤ k) (hw:w ≤ 64) (hn:n < 9223372036854775808) (K:ByteArray × Unit → Option α):(W7 k ((n:Int),(w:Int),())).bind K = K (K8 (Zb n w),()):=by
 rw [Yn k n w (by omega) (by omega) hn]; rfl
theorem ZCs (hk:16777216 ≤ k) (h0:chk (ch.length:Int) (d:Int) (r:Int) tags ch = 0) {size:Nat} {lens:List Nat} (hL:Lens size (ch.getD 0 []).length lens) :
  Zvv k ((((ch.length:Int),(d:Int),(r:Int),()),tags,ch,()),(size:Int),Zj lens,()) = some (Zui d r tags ch size lens,()):=by
 obtain ⟨hg,hshape,-,htv,ht8⟩:=Zep h0
 have hT:=Good0.tg htv ht8
 have hsh:=of_decide_eq_true hshape
 have hs:=hL.sz
 have hn4:=hg.n4
 have hc1:=hg.c1
 have hll:=hL.len
 have hmin:Yv lens < 65536:=ZF5 (by omega) hL.small
 have hmax:Yt lens < 65536:=ZF3 (by omega) hL.small
 show Zds k _ _ = _
 simp only [Zds]
 rw [Za (by simp only [WH]; omega)]
 refine ZR7 (by omega) hll _ _ _ ?_
 intro L
 simp only [YX]
 rw [ZC,Zh (ZaZ _)]
 have e1:Jx.wrap ((ch.length:Int) - 1) = ((ch.length - 1:Nat):Int):=by rw [ZG (by omega)]; omega
 have e2:Jx.wrap ((d:Int) - 1) = ((d - 1:Nat):Int):=by rw [ZG (by omega)]; omega
 rw [e1,e2]
 have sz:∀ bs:List Bool,(K8 bs).size = bs.length:=Qt
 refine (KL (n:=0) (w:=8) (by omega) (by omega) (by omega) _).trans ?_
 refine (KL (n:=34) (w:=24) (by omega) (by omega) (by omega) _).trans ?_
 simp only
 rw [Za (by simp only [sz,Zi]; omega),Qn]
 refine (KL (n:=size) (w:=16) (by omega) (by omega) (by omega) _).trans ?_
 simp only
 rw [Za (by simp only [sz,Zi,Xj]; omega),Qn]
 refine (KL (n:=size) (w:=16) (by omega) (by omega) (by omega) _).trans ?_
 simp only
 rw [Za (by simp only [sz,Zi,Xj]; omega),Qn]
 refine (KL (n:=Yv lens) (w:=24) (by omega) (by omega) (by omega) _).trans ?_
 simp only
 rw [Za (by simp only [sz,Zi,Xj]; omega),Qn]
 refine (KL (n:=Yt lens) (w:=24) (by omega) (by omega) (by omega) _).trans ?_
 simp only
 rw [Za (by simp only [sz,Zi,Xj]; omega),Qn]
 refine (KL (n:=r) (w:=20) (by omega) (by omega) (by omega) _).trans ?_
 simp only
 rw [Za (by simp only [sz,Zi,Xj]; omega),Qn]
 refine (KL (n:=ch.length - 1) (w:=3) (by omega) (by omega) (by omega) _).trans ?_
 simp only
 rw [Za (by simp only [sz,Zi,Xj]; omega),Qn]
 refine (KL (n:=d - 1) (w:=5) (by omega) (by omega) (by omega) _).trans ?_
 simp only
 rw [Za (by simp only [sz,Zi,Xj]; omega),Qn]
 refine (KL (n:=(ch.getD 0 []).length) (w:=36) (by omega) (by omega) (by omega) _).trans ?_
 simp only
 rw [Za (by simp only [sz,Zi,Xj]; omega),Qn]
 rw [show Zb 0 8 ++ Zb 34 24 ++ Zb size 16 ++ Zb size 16 ++ Zb (Yv lens) 24 ++ Zb (Yt lens) 24 ++ Zb r 20 ++ Zb (ch.length - 1) 3 ++ Zb (d - 1) 5 ++ Zb (ch.getD 0 []).length 36 = ZcB ch.length d r size (ch.getD 0 []).length (Yv lens) (Yt lens) from rfl]
 have hil:=ZlB ch.length d r size (ch.getD 0 []).length (Yv lens) (Yt lens)
 refine (Zd (Zp0 k (ZcB ch.length d r size (ch.getD 0 []).length (Yv lens) (Yt lens)) (by omega) (by omega)) _).trans ?_
 have hp2:(UR (UT (fun n => UX n.toNat) (Z3 (ZcB ch.length d r size (ch.getD 0 []).length (Yv lens) (Yt lens)))).toArray) = ZT (Z3 (ZcB ch.length d r size (ch.getD 0 []).length (Yv lens) (Yt lens))):=rfl
 have hps:(ZT (Z3 (ZcB ch.length d r size (ch.getD 0 []).length (Yv lens) (Yt lens)))).size = 22:=by rw [Qy,QL,hil]
 have hmg:UR #[102,76,97,67] = Wa X2:=rfl
 have hmz:(Wa X2).size = 4:=rfl
 simp only [hp2,hps,hmg]
 rw [Za (by omega),ZBY hk h0]
 simp only [QJ]
 rw [show Wa (Zr3 (Za8 (nbD (d:Int)) ch (ch.getD 0 []).length)) = Wa (ZfU d ch) from rfl]
 have hsz:(Wa (ZfU d ch)).size = 16:=by rw [Yf,ZfV]
 rw [Za (by simp_all)]
 have hfs:(Wa X2 ++ ZT (Z3 (ZcB ch.length d r size (ch.getD 0 []).length (Yv lens) (Yt lens))) ++ Wa (ZfU d ch)).size = 42:=by
  simp_all
 rw [show Wa X2 ++ ZT (Z3 (ZcB ch.length d r size (ch.getD 0 []).length (Yv lens) (Yt lens))) ++ Wa (ZfU d ch) = Zqx d r ch size lens from rfl] at hfs ⊢
 unfold Zui
 by_cases h2:2 ≤ lens.length
 ·rw [Za (by simp only [WH]; omega),if_pos h2]
  have e3:Jx.wrap ((18:Int) * UD lens.length) = ((18 * lens.length:Nat):Int):=by rw [ZG (by simp only [WH]; omega)]; simp
  rw [e3]
  refine (KL (n:=3) (w:=8) (by omega) (by omega) (by omega) _).trans ?_
  refine (KL (n:=18 * lens.length) (w:=24) (by omega) (by omega) (by omega) _).trans ?_
  simp only
  rw [Za (by simp only [sz,Zi]; omega),Qn]
  exact ZR8 (by omega) hT hL hn4 (Zb 3 8 ++ Zb (18 * lens.length) 24) (by simp only [Xj,Zi]; omega) _ (by omega)
 ·rw [Zh (by simp only [WH]; omega),if_neg h2]
  exact ZyJ (by omega) hT _ (by omega)
end prog
end Go.Sh
namespace Go.Sh
open Go Go.Proofs
theorem Zq2 {l:List Nat} (h:QA l):Z3 (Ke l) = Zj l:=by
 have hb:Zo (Zj l) = true:=by
  unfold Zo Zj
  rw [Ve]
  intro x hx
  obtain ⟨n,hn,rfl⟩:=VF.1 hx
  have:=h n hn
  grind
 have e:ZA (Zj l) = Ke l:=by
  unfold ZA Zj Ke
  rw [List.flatMap_map]
  rfl
 rw [← e,ZDr hb]
theorem ZXr (l:List Nat):(Ke l).length % 8 = 0:=by rw [XV]; omega
theorem Kf {a b:List Nat} (ha:QA a) (hb:QA b):QA (a ++ b):=by
 intro x hx
 rcases Js.1 hx with h | h
 ·exact ha x h
 ·exact hb x h
theorem ZDe (n i:Nat):QA (leN n i):=by
 intro x hx
 obtain ⟨j,_,rfl⟩:=VF.1 hx
 exact UY _ (by omega)
theorem ZW7 (tags:List ByteArray):QA (Zrz tags):=by
 intro x hx
 unfold Zrz at hx
 obtain ⟨t,_,ht⟩:=List.mem_flatMap.1 hx
 exact Kf (ZDe _ _) (ZmB _) x ht
theorem ZUL (tags:List ByteArray):QA (Zif tags):=by
 unfold Zif
 refine Kf (Kf (Kf (ZDe _ _) ?_) (ZDe _ _)) (ZW7 tags)
 intro x hx
 simp only [ZcS,VL,Uu,or_false] at hx
 omega
theorem ZJU (tags:List ByteArray):(Zif tags).length = 15 + ZrA tags:=by
 unfold Zif
 simp only [Xj,QW,ZP3,ZcS,JF,HV]
theorem ZQG (tags:List ByteArray):Yl tags = (Zb 132 8 ++ Zb (Zif tags).length 24) ++ Ke (Zif tags):=by
 have z:Zb 1 1 ++ Zb 4 7 = Zb 132 8:=by decide
 unfold Yl KU
 rw [ZJU,z,ZJj]
 rfl
theorem ZJi (size n:Nat) (lens:List Nat):Zl3 size n lens = if 2 ≤ lens.length then Zb 3 8 ++ Zb (18 * lens.length) 24 ++ ZgT size n 0 0 lens else []:=by
 rfl
theorem ZgO (l:List Nat):ZT (Zj l) = Wa l:=rfl
theorem ZGz {ch:List (List Int)} (hn:(ch.getD 0 []).length < 2 ^ 32) (d r:Nat) (tags:List ByteArray) (size:Nat) (lens:List Nat):Zui d r tags ch size lens = ZT (Zmw d r tags ch size lens):=by
 have hmb:QA X2:=by
  intro x hx
  simp only [X2,VL,Uu,or_false] at hx
  omega
 have hi8:(ZcB ch.length d r size (ch.getD 0 []).length (Yv lens) (Yt lens)).length % 8 = 0:=by rw [ZlB]
 have fr:Zqx d r ch size lens = ZT (Z3 (ZtF ch.length d r size (ch.getD 0 []).length (Yv lens) (Yt lens) ++ Ke (ZfU d ch))):=by
  unfold Zqx
  rw [← ZFY hn,KB (by rw [Xj]; have:=ZXr X2; omega),KB (ZXr _),Zq2 hmb,Zq2 (ZW6 d ch),← KE,← KE,ZgO,ZgO]
 have hf8:(ZtF ch.length d r size (ch.getD 0 []).length (Yv lens) (Yt lens) ++ Ke (ZfU d ch)).length % 8 = 0:=by
  rw [← ZFY hn]
  simp only [Xj,XV,ZlB]; omega
 have h32:(Zb 132 8 ++ Zb (Zif tags).length 24).length % 8 = 0:=by simp [Zi]
 have en:∀ X:List Bool,X.length % 8 = 0 → ZrV (ZT (Z3 X)) (Zif tags) = ZT (Z3 (X ++ Yl tags)):=by
  intro X hX
  unfold ZrV
  rw [ZQG,KB hX,KB h32,Zq2 (ZUL tags),← KE,← KE,ZgO,ByteArray.append_assoc]
 unfold Zmw Zei Zui
 rw [ZJi]
 have htab:(ZgT size (ch.getD 0 []).length 0 0 lens).length % 8 = 0:=by rw [ZAj]; omega
 by_cases h2:2 ≤ lens.length
 ·rw [if_pos h2,if_pos h2,fr,KE,← KB hf8]
  grind [Xj,Zi]
 grind
end Go.Sh
namespace Go.Sh
open Go Go.Proofs
abbrev dst (b:List Int) (r:List Bool):ByteArray × Int × Unit:=(K8 (ZA b),((Zu b r:Nat):Int),())
theorem ZJ0 {b:List Int} {r:List Bool} (hr:Zf b r) (h:0 < r.length):(K8 (ZA b)).data.toList.getD (Zu b r) 0 = ch1 r[0]:=by
 have hl:=hr.len
 have hp:Zu b r < 8 * b.length:=by unfold Zu; omega
 have hg:=hr.get (i:=0) h
 simp only [JH] at hg
 rw [ZcR,Xf (by grind),Ei,hg]
theorem Zso (b:List Int):(K8 (ZA b)).size = 8 * b.length:=by rw [Qt,Qc]
theorem ZtV {r:List Bool} (h:0 < r.length):r = r[0] :: r.drop 1:=by
 have:=Uk (l:=r) (i:=0) h
 rwa [U5] at this
theorem ZUM {b:List Int} {r:List Bool} (hr:Zf b r) (hn:b.length < 536870912) (h:0 < r.length):Jx.wrap (((Zu b r:Nat):Int) + 1) = ((Zu b (r.drop 1):Nat):Int):=by
 have hl:=hr.len
 have hp:Zu b r < 8 * b.length:=by unfold Zu; omega
 rw [QX hr (by omega),ZG (by omega)]; rfl
theorem ZNH (k:Nat) {b:List Int} (hn:b.length < 536870912):∀ (w m i v:Nat) (r:List Bool),Zf b r → w ≤ r.length → w < m → i + w ≤ 32 → v < 2 ^ i →
  Zg (fun L1 => Ze7 k L1) m ((i:Int),((i + w:Nat):Int),(v:Int),K8 (ZA b),((Zu b r:Nat):Int)) = some (((((r.take w).foldl (fun a b => 2 * a + b.toNat) v:Nat):Int),0,()),dst b (r.drop w),()):=by
 intro w
 induction w with
 | zero =>
  intro m i v r hr hw hm hi hv
  obtain ⟨m,rfl⟩:=Zm hm
  rw [Zc]
  grind [Ze7]
 | succ w ih =>
  intro m i v r hr hw hm hi hv
  obtain ⟨m,rfl⟩:=Zm (show 0 < m by omega)
  rw [Zc]
  simp only [Ze7]
  have hl:=hr.len
  have hp:Zu b r < 8 * b.length:=by unfold Zu; omega
  have h0:0 < r.length:=by omega
  rw [Za (by omega),Za (by rw [Zso]; simp only [HZ]; omega),Ui,ZJ0 hr h0,Zut,ZUM hr hn h0]
  have hv2:v < 2 ^ 32:=VZ hv (Hf (by omega) (by omega))
  have hb1:r[0].toNat < 2:=by cases r[0] <;> decide
  have e1:Jx.wrap (Jx.wrap ((2:Int) * (v:Int)) + ((r[0].toNat:Nat):Int)) = ((2 * v + r[0].toNat:Nat):Int):=by
   rw [ZG (n:=(2:Int) * (v:Int)) (by omega),ZG (by omega)]
   omega
  have e2:Jx.wrap ((i:Int) + 1) = ((i + 1:Nat):Int):=by rw [ZG (by omega)]; rfl
  rw [e1,e2]
  have hp2:2 * v + r[0].toNat < 2 ^ (i + 1):=by
   rw [H1]
   omega
  have:=ih m (i + 1) (2 * v + r[0].toNat) (r.drop 1) (hr.drop 1) (by rw [Vh]; omega) (by omega) (by omega) hp2
  rw [show i + 1 + w = i + (w + 1) by omega] at this
  rw [this]
  have e4:(r.drop 1).drop w = r.drop (w + 1):=by rw [List.drop_drop]; congr 1; omega
  have e5:r.take (w + 1) = r[0] :: (r.drop 1).take w:=by
   conv => lhs; rw [ZtV h0]
   rfl
  rw [e4,e5,HT]
theorem Qw (k:Nat) {b:List Int} (hn:b.length < 536870912) {r:List Bool} (hr:Zf b r) {w:Nat} (hw:w ≤ 32) (hk:100 < k) :
  ZN k (dst b r,(w:Int),()) = some (((((Zn w r).1:Nat):Int),(Zn w r).2.1,()),dst b (Zn w r).2.2,()):=by
 show ZjB k (Zv7 k) _ = _
 simp only [ZjB]
 have hl:=hr.len
 rw [Zh (by omega),Zh (by omega)]
 have e1:Jx.wrap (UD (K8 (ZA b)).size - ((Zu b r:Nat):Int)) = (r.length:Int):=by
  rw [Zso]
  unfold Zu
  simp only [HZ]
  rw [ZG (by omega)]
  omega
 rw [e1]
 unfold Zn
 by_cases h:w ≤ r.length
 ·rw [Zh (by omega),if_pos h]
  have:=ZNH k hn w k 0 0 r hr h (by omega) (by omega) (by simp)
  rw [Ua] at this
  exact this
 grind
theorem ZkU (k:Nat) {b:List Int} (hn:b.length < 536870912) {r:List Bool} (hr:Zf b r) {w:Nat} (hw:w ≤ 32) (hk:100 < k) :
  ZkS k (dst b r,(w:Int),()) = some (((ZY w r).1,(ZY w r).2.1,()),dst b (ZY w r).2.2,()):=by
 show ZkT k _ = _
 simp only [ZkT]
 refine (Zd (Qw k hn hr hw hk) _).trans ?_
 unfold Zn ZY
 by_cases h:w ≤ r.length
 ·rw [if_pos h,if_pos h]
  simp only
  rw [show ((0:Int) == 0) = true from rfl]
  simp only [cond_true]
  have hlt:=WL (r.take w)
  rw [Jz,Ht h] at hlt
  generalize Qk (r.take w) = v at hlt
  unfold ZW3
  by_cases h0:0 < w
  ·have e1:Jx.wrap ((w:Int) - 1) = ((w - 1:Nat):Int):=by rw [ZG (by omega)]; omega
   have h32:2 ^ w ≤ 2 ^ 32:=Hf (by omega) hw
   have h31:2 ^ (w - 1) ≤ 2 ^ 31:=Hf (by omega) (by omega)
   have e2:Jx.wrap ((1:Int) * (2:Int) ^ min (((w - 1:Nat):Int)).toNat 64) = ((2 ^ (w - 1):Nat):Int):=by
    rw [Ui,Ht (by omega),H2,QV]
    generalize 2 ^ (w - 1) = P at h31 ⊢
    rw [ZG (by omega)]
   rw [Za (by omega),e1,Za (by omega),e2]
   by_cases hle:2 ^ (w - 1) ≤ v
   ·rw [Za (by exact_mod_cast hle),if_pos ⟨h0,hle⟩,Za (by omega),Ui,Ht (by omega),H2,QV]
    generalize 2 ^ w = Q at h32 hlt ⊢
    rw [ZG (n:=(Q:Int)) (by omega),ZG (by omega)]
   grind
  simp_all
 ·rw [if_neg h,if_neg h]
  rfl
theorem ZOO (k:Nat) {b:List Int} (hn:b.length < 536870912) {r0:List Bool} (hr0:Zf b r0):∀ (r:List Bool) (m n:Nat),Zf b r → r.length < m → n + r.length = r0.length →
  Zg (fun L1 => Zfl k L1) m (((Zu b r:Nat):Int),K8 (ZA b),((Zu b r0:Nat):Int)) = some (((match Zha n r with | some (n,r') => (n:Int) | none => 0),(match Zha n r with | some (n,r') => 0 | none => 10),()),dst b (match Zha n r with | some (n,r') => r' | none => r0),()):=by
 intro r
 induction r with
 | nil =>
  intro m n hr hm hl
  obtain ⟨m,rfl⟩:=Zm hm
  rw [Zc]
  simp only [Zfl]
  rw [Zh (by rw [Zso]; unfold Zu; simp_all)]
  rfl
 | cons x r ih =>
  intro m n hr hm hl
  obtain ⟨m,rfl⟩:=Zm (show 0 < m by omega)
  rw [Zc]
  simp only [Zfl]
  have hlen:=hr.len
  have hlen0:=hr0.len
  simp only [JF] at hlen hl hm
  have hp:Zu b (x :: r) < 8 * b.length:=by unfold Zu; simp only [JF]; omega
  have h0:0 < (x :: r).length:=by simp
  have hd:=ZJ0 hr h0
  have e2:=ZUM hr hn h0
  simp only [Eh] at hd
  rw [List.drop_one,List.tail_cons] at e2
  have hr':Zf b r:=by have:=hr.drop 1; simp_all
  rw [Za (by rw [Zso]; simp only [HZ]; omega),Za (by rw [Zso]; simp only [HZ]; omega),Ui,hd,e2]
  cases x with
  | true =>
   rw [show (UD (ch1 true).toNat == (49:Int)) = true from rfl]
   simp only [cond_true]
   have e3:Jx.wrap (((Zu b (true :: r):Nat):Int) - ((Zu b r0:Nat):Int)) = (n:Int):=by
    unfold Zu at hp ⊢
    simp only [JF] at hp ⊢
    rw [ZG (by omega)]
    omega
   rw [e3]
   rfl
  | false =>
   rw [show (UD (ch1 false).toNat == (49:Int)) = false from rfl]
   simp only [cond_false]
   exact ih m (n + 1) hr' (by omega) (by omega)
theorem Zzz (k:Nat) {b:List Int} (hn:b.length < 536870912) {r:List Bool} (hr:Zf b r) (hk:8 * b.length < k) :
  Zms k (dst b r,()) = some (((((YI r).1:Nat):Int),(YI r).2.1,()),dst b (YI r).2.2,()):=by
 show ZjP k (ZwA k) _ = _
 simp only [ZjP]
 have hl:=hr.len
 refine (ZOO k hn hr r k 0 hr (by omega) (by omega)).trans ?_
 unfold YI
 grind
theorem ZND (k:Nat) {b:List Int} (hn:b.length < 536870912) {r0:List Bool}:∀ (p m:Nat) (r:List Bool),Zf b r → p ≤ r.length → p < m →
  Zg (fun L1 => Ze6 k L1) m (((Zu b r:Nat):Int),((Zu b r + p:Nat):Int),K8 (ZA b),((Zu b r0:Nat):Int)) = some (if (r.take p).all (fun x => !x) then (0,dst b (r.drop p),()) else (2,dst b r0,())):=by
 intro p
 induction p with
 | zero =>
  intro m r hr hp hm
  obtain ⟨m,rfl⟩:=Zm hm
  rw [Zc]
  grind [Ze6]
 | succ p ih =>
  intro m r hr hp hm
  obtain ⟨m,rfl⟩:=Zm (show 0 < m by omega)
  rw [Zc]
  simp only [Ze6]
  have hlen:=hr.len
  have hpos:Zu b r < 8 * b.length:=by unfold Zu; omega
  have h0:0 < r.length:=by omega
  rw [Za (by omega),Za (by rw [Zso]; simp only [HZ]; omega),Ui,ZJ0 hr h0,ZUM hr hn h0]
  have e5:r.take (p + 1) = r[0] :: (r.drop 1).take p:=by
   conv => lhs; rw [ZtV h0]
   rfl
  rw [e5,UA]
  cases hx:r[0] with
  | true => rfl
  | false =>
   rw [show (UD (ch1 false).toNat == (49:Int)) = false from rfl]
   simp only [cond_false]
   have e4:Zu b r + (p + 1) = Zu b (r.drop 1) + p:=by rw [QX hr (by omega)]; omega
   rw [e4,ih m (r.drop 1) (hr.drop 1) (by rw [Vh]; omega) (by omega)]
   simp_all
theorem ZNE (k:Nat) {b:List Int} (hn:b.length < 536870912) {r:List Bool} (hr:Zf b r) (hk:10 < k) :
  Zzk k (dst b r,()) = some ((alS r).1,dst b (alS r).2,()):=by
 show ZjA k (Zv5 k) _ = _
 simp only [ZjA]
 have hlen:=hr.len
 have hp:Zu b r ≤ 8 * b.length:=by unfold Zu; omega
 have e0:(((Zu b r:Nat):Int) + 7).tdiv 8 = (((Zu b r + 7) / 8:Nat):Int):=by
  rfl
 have e:(Zu b r + 7) / 8 * 8 = Zu b r + r.length % 8:=by unfold Zu; omega
 rw [ZG (n:=((Zu b r:Nat):Int) + 7) (by omega),e0,ZG (n:=(((Zu b r + 7) / 8:Nat):Int)) (by omega),ZG (by omega)]
 rw [show (((Zu b r + 7) / 8:Nat):Int) * 8 = (((Zu b r + 7) / 8 * 8:Nat):Int) by omega,e]
 refine (ZND k hn (r.length % 8) k r hr (Eb _ _) (by omega)).trans ?_
 unfold alS
 split <;> rfl
theorem ZRr (k:Nat) {b:List Int} (hn:b.length < 268435456) {r:List Bool} (hr:Zf b r) {w:Nat} (hw:w ≤ 32) (hk:100 < k) (a:Int) :
  Zlf k (dst b r,a,true,(w:Int),()) = some (((ZY w r).1,(ZY w r).2.1,()),dst b (ZY w r).2.2,()):=by
 show Zch k _ = _
 simp only [Zch,cond_true]
 exact Zd (ZkU k (by omega) hr hw hk) _
theorem ZLm (k:Nat) {b:List Int} (hn:b.length < 268435456) {r:List Bool} (hr:Zf b r) {kk:Nat} (hkk:kk ≤ 30) (hk:8 * b.length + 100 < k) (a:Int) :
  Zlf k (dst b r,(kk:Int),false,a,()) = some (((Zbe kk r).1,(Zbe kk r).2.1,()),dst b (Zbe kk r).2.2,()):=by
 show Zch k _ = _
 simp only [Zch,cond_false]
 refine (Zd (Zzz k (by omega) hr (by omega)) _).trans ?_
 unfold Zbe
 have hu:=Zxi (r:=r)
 have hl:=hr.len
 simp only
 rw [Zk]
 by_cases h1:(YI r).2.1 = 0
 case neg => rw [Za h1,if_pos h1]
 rw [Zh (by simpa using h1),if_neg (by simpa using h1)]
 refine (Zd (Qw k (by omega) (KG hr) (w:=kk) (by omega) (by omega)) _).trans ?_
 simp only
 rw [Zk]
 by_cases h2:(Zn kk (YI r).2.2).2.1 = 0
 case neg => rw [Za h2,if_pos h2]
 rw [Zh (by simpa using h2),if_neg (by simpa using h2)]
 have hP:2 ^ kk ≤ 2 ^ 30:=Hf (by omega) hkk
 have hg:=Q3 kk (YI r).2.2
 have hq:(YI r).1 * 2 ^ kk ≤ 4294967296 * 2 ^ 30:=J3 (by omega) hP
 have e1:Jx.wrap (Jx.wrap ((((YI r).1:Nat):Int) * (2:Int) ^ min ((kk:Int)).toNat 64) + (((Zn kk (YI r).2.2).1:Nat):Int)) = (((YI r).1 * 2 ^ kk + (Zn kk (YI r).2.2).1:Nat):Int):=by
  rw [Ui,Ht (by omega),QV,← HK]
  generalize (YI r).1 * 2 ^ kk = X at hq ⊢
  generalize (2:Nat) ^ kk = Q at hP hg
  rw [ZG (n:=(X:Int)) (by omega),ZG (by omega)]
  omega
 have hF:(YI r).1 * 2 ^ kk + (Zn kk (YI r).2.2).1 ≤ 4611686018427387904 + 1073741824:=by
  omega
 rw [Za (by omega),e1]
 generalize (YI r).1 * 2 ^ kk + (Zn kk (YI r).2.2).1 = F at hF
 by_cases h3:4294967295 ≤ F
 ·rw [Za (by omega),if_pos h3]
 ·rw [Zh (by omega),if_neg h3]
  have e2:((F:Nat):Int).tmod 2 = ((F % 2:Nat):Int):=by rfl
  rw [e2,Zw]
  unfold Zoe
  by_cases h4:F % 2 = 1
  ·rw [Za (by omega),if_pos h4,ZG (n:=((F:Nat):Int) + 1) (by omega),ZG (n:=0 - (((F:Nat):Int) + 1)) (by omega)]
   have e3:(0 - (((F:Nat):Int) + 1)).tdiv 2 = -(((F:Nat):Int) + 1) / 2:=by
    grind
   rw [e3,ZG (by omega)]
  ·rw [Zh (by omega),if_neg h4]
   have e3:(((F:Nat):Int)).tdiv 2 = ((F:Nat):Int) / 2:=Int.tdiv_eq_ediv_of_nonneg (by omega)
   rw [e3,ZG (by omega)]
theorem ZkV (k:Nat) {b:List Int} (hn:b.length < 268435456) {w n:Nat} (hw:w ≤ 32) (hnn:n ≤ 4096) (hk:5000 < k) {r:List Bool} (hr:Zf b r) :
  KK k (dst b r,(n:Int),(w:Int),()) = some (((Qp (ZY w) n r []).1,(Qp (ZY w) n r []).2.1,()),dst b (Qp (ZY w) n r []).2.2,()):=by
 show Zgj k (Znn k) _ = _
 simp only [Zgj]
 suffices H:∀ (d m i:Nat) (r:List Bool) (acc:List Int),Zf b r → d < m → i + d ≤ 4096 → acc.length ≤ i →
   Zg (fun L1 => Zb8 k L1) m ((i:Int),((i + d:Nat):Int),(w:Int),K8 (ZA b),((Zu b r:Nat):Int),acc) = some (((Qp (ZY w) d r acc).1,(Qp (ZY w) d r acc).2.1,()),dst b (Qp (ZY w) d r acc).2.2,()) by
  have:=H n k 0 r [] hr (by omega) (by omega) (by simp)
  rw [Ua] at this
  exact this
 intro d
 induction d with
 | zero =>
  intro m i r acc hr hm hi ha
  obtain ⟨m,rfl⟩:=Zm hm
  rw [Zc]
  simp only [Zb8]
  rw [Zh (by omega)]
  rfl
 | succ d ih =>
  intro m i r acc hr hm hi ha
  obtain ⟨m,rfl⟩:=Zm (show 0 < m by omega)
  rw [Zc]
  simp only [Zb8]
  rw [Za (by omega)]
  refine (Zd (ZkU k (by omega) hr hw (by omega)) _).trans ?_
  simp only
  unfold Qp
  rw [Zk]
  by_cases h:(ZY w r).2.1 = 0
  ·rw [Zh (by simpa using h),if_neg (by simpa using h),Za (by grind),show Jx.wrap ((i:Int) + 1) = ((i + 1:Nat):Int) from by rw [ZG (by omega)]; omega]
   have:=ih m (i + 1) (ZY w r).2.2 (acc ++ [(ZY w r).1]) (Xv hr w) (by omega) (by omega) (by simp; omega)
   grind
  ·rw [Za h,if_pos h]
end Go.Sh
