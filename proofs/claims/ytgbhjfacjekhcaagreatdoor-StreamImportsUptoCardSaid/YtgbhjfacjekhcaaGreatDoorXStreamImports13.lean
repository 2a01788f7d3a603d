/-
  What the row needs, part 13.
-/
import Derived.Test.YtgbhjfacjekhcaaGreatDoorXStreamImports12
set_option linter.unusedSimpArgs false
set_option linter.unusedVariables false
set_option linter.unusedSectionVars false
open BitVec renaming ofInt→UH
open Bool renaming not_true→HC,and_eq_true→Jh,false_eq_true→JJ,true_eq_false→H5,not_false→EB,or_eq_true→V5,true_and→UC
open ByteArray renaming mk→UR,size→UQ
open Eq renaming trans→U4
open Go.FloatKind renaming f64→Je
open Int renaming ofNat_eq_natCast→HZ,ofNat→UD,toNat_natCast→Ui,tdiv→UJ,toNat→US,natCast_ediv→EC,tdiv_eq_ediv_of_nonneg→ED
open Go.IntKind renaming i64→Jx,u8→UK
open List renaming length_drop→Vh,length_take→Jz,replicate→Jd,drop_drop→JE,take_length→Ea,drop_zero→U5,nil_append→VS,all_eq_true→Ve,getElem_mem→Ha,length_zip→Ej,length_append→JP,length_map→H4,mem_singleton→Vx,drop_eq_getElem_cons→Uk,getElem_cons_zero→Eh,getElem_of_mem→Eu,getElem_zip→H6,map→UT,take_of_length_le→El,append_assoc→Ju,append_nil→Vf,drop_eq_nil_of_le→UF,drop_succ_cons→EE,getD_eq_getElem?_getD→VR,getElem?_append_right→Vs,getElem?_drop→Jo,length_replicate→Uq,mem_append→Js,mem_cons→VL,replicate_succ'→EF,take_succ_cons→EG
open Nat renaming pow_le_pow_right→Hf,lt_of_lt_of_le→VZ,min_eq_left→Ht,le_refl→Jj,lt_irrefl→U1,mul_assoc→Hw,zero_le→Hu
open Option renaming bind_some→VJ,map_eq_some_iff→V2,map_some→VC,some→VE,bind→H0
open UInt8 renaming ofNat→UX
namespace Go.Sh
open Go Go.Proofs
theorem ZjY {one:Zl6} {n:Nat} {r:List Bool} {acc:List Int} (h:(one r).2.1 = 0):Qp one (n + 1) r acc = Qp one n (one r).2.2 (acc ++ [(one r).1]):=if_neg (by simpa using h)
theorem ZgH {one:Zl6} {n:Nat} {r:List Bool} {acc:List Int} (h:(one r).2.1 ≠ 0):Qp one (n + 1) r acc = ([],(one r).2.1,(one r).2.2):=if_pos h
def ZGx (acc:List Int) (x:List Int × Int × List Bool):List Int × Int × List Bool:=if x.2.1 ≠ 0 then ([],x.2.1,x.2.2) else (acc ++ x.1,0,x.2.2)
theorem Zh7 {acc:List Int} {x:List Int × Int × List Bool} (h:x.2.1 = 0):ZGx acc x = (acc ++ x.1,0,x.2.2):=if_neg (by simpa using h)
theorem Zeh {acc:List Int} {x:List Int × Int × List Bool} (h:x.2.1 ≠ 0):ZGx acc x = ([],x.2.1,x.2.2):=if_pos h
theorem ZGy (acc l:List Int) (x:List Int × Int × List Bool):ZGx acc (ZGx l x) = ZGx (acc ++ l) x:=by
 by_cases h:x.2.1 = 0
 ·rw [Zh7 h,Zh7 h,Zh7 (by rfl),Ju]
 ·rw [Zeh h,Zeh h]
  exact Zeh h
theorem ZlE {one:Zl6}:∀ (n:Nat) (r:List Bool) (acc:List Int),Qp one n r acc = ZGx acc (Qp one n r [])
 | 0,r,acc => by rw [Zh7 (by rfl)]; simp [Qp]
 | n + 1,r,acc => by
  by_cases h:(one r).2.1 = 0
  ·rw [ZjY h,ZjY h,ZlE n _ (acc ++ [(one r).1]),ZlE n _ ([] ++ [(one r).1]),ZGy,VS]
  ·rw [ZgH h,ZgH h,Zeh h]
theorem Zmg {size:Nat}:∀ (d:Nat) (r:List Int),r.length = d * size → ∀ (i:Nat) (h:i < (YK size d r).length),((YK size d r)[i]).length = size
 | 0,r,_,i,h => by simp [YK] at h
 | d + 1,r,hr,0,h => by
  show (r.take size).length = size
  grind
 | d + 1,r,hr,i + 1,h => by
  rw [Nat.add_mul,Nat.one_mul] at hr
  exact Zmg d (r.drop size) (by rw [Vh]; omega) i (by simpa [YK] using h)
theorem ZGP {l:List Int} {n o p:Nat} (hn:l.length + o = n) (hf:Zft n o p = true) (i:Nat) (h:i < (KI l o p).length):((KI l o p)[i]).length = n / 2 ^ p - if i = 0 then o else 0:=by
 subst hn
 unfold Zft at hf
 simp only [Jh,decide_eq_true_eq] at hf
 obtain ⟨hm,ho⟩:=hf
 have h0:0 < 2 ^ p:=Nat.pow_pos (by omega)
 have hmul:2 ^ p * ((l.length + o) / 2 ^ p) = l.length + o:=by have:=Nat.div_add_mod (l.length + o) (2 ^ p); omega
 have e3:(2 ^ p - 1) * ((l.length + o) / 2 ^ p) = 2 ^ p * ((l.length + o) / 2 ^ p) - (l.length + o) / 2 ^ p:=by rw [Nat.sub_mul,Nat.one_mul]
 have hps:(l.length + o) / 2 ^ p ≤ 2 ^ p * ((l.length + o) / 2 ^ p):=Nat.le_mul_of_pos_left _ h0
 match i with
 | 0 =>
  show (l.take _).length = _
  simp_all
 | i + 1 =>
  rw [if_neg (by omega),Nat.sub_zero]
  exact Zmg (2 ^ p - 1) _ (by rw [Vh,e3]; omega) i (by simpa [KI] using h)
abbrev ZmL:=(List Int × Int × Unit) × (ByteArray × Int × Unit) × Unit
theorem ZHB (k:Nat) {b:List Int} (hn:b.length < 268435456) (hk:8 * b.length + 5000 < k) (L1:Int × List (List Int) × Int × ByteArray × Int × List Int → Option ZmL)
  {cs:List (List Int)} {i:Nat} (hi:i < cs.length) (hcl:cs.length ≤ 32768) (hc:cs[i].length ≤ 512) (m:Int) (val:Int) (fl:Bool) (wd:Int) (one:Zl6) (hone:∀ r,Zf b r → Zlf k (dst b r,val,fl,wd,()) = some (((one r).1,(one r).2.1,()),dst b (one r).2.2,())) (hrest:∀ r,Zf b r → Zf b (one r).2.2) :
  ∀ (d j q:Nat) (r:List Bool) (acc:List Int),Zf b r → d < j → q + d = cs[i].length → acc.length ≤ i * 512 + q →
  Zg (fun L2 => Zb9 k L1 L2) j ((q:Int),cs,(i:Int),val,fl,wd,m,K8 (ZA b),((Zu b r:Nat):Int),acc) =
   if (Qp one d r acc).2.1 ≠ 0 then some (([],(Qp one d r acc).2.1,()),dst b (Qp one d r acc).2.2,()) else L1 (((i + 1:Nat):Int),cs,m,K8 (ZA b),((Zu b (Qp one d r acc).2.2:Nat):Int),(Qp one d r acc).1):=by
 intro d
 have hgi:cs.getD i [] = cs[i]:=Xf hi
 induction d with
 | zero =>
  intro j q r acc hr hj hq ha
  obtain ⟨j,rfl⟩:=Zm hj
  rw [Zc]
  simp only [Zb9]
  rw [Za (by simp only [HZ]; omega),Ui,hgi,Zh (by simp only [HZ]; omega),show Jx.wrap ((i:Int) + 1) = ((i + 1:Nat):Int) from by rw [ZG (by omega)]; omega]
  simp [Qp]
 | succ d ih =>
  intro j q r acc hr hj hq ha
  obtain ⟨j,rfl⟩:=Zm (show 0 < j by omega)
  rw [Zc]
  simp only [Zb9]
  rw [Za (by simp only [HZ]; omega),Ui,hgi,Za (by simp only [HZ]; omega)]
  refine (Zd (hone r hr) _).trans ?_
  simp only
  rw [Zk]
  by_cases h:(one r).2.1 = 0
  ·rw [ZjY h,Zh (by simpa using h),Za (by grind),show Jx.wrap ((q:Int) + 1) = ((q + 1:Nat):Int) from by rw [ZG (by omega)]; omega]
   exact ih j (q + 1) (one r).2.2 (acc ++ [(one r).1]) (hrest r hr) (by omega) (by omega) (by simp; omega)
  ·rw [ZgH h,Za h,if_pos h]
theorem ZAP {m n o p d i:Nat} {r:List Bool} {acc:List Int} (h:(Q6 m (n / 2 ^ p - if i = 0 then o else 0) r).2.1 = 0):Qz m n o p (d + 1) i r acc = Qz m n o p d (i + 1) (Q6 m (n / 2 ^ p - if i = 0 then o else 0) r).2.2 (acc ++ (Q6 m (n / 2 ^ p - if i = 0 then o else 0) r).1):=if_neg (by simpa using h)
theorem Zl8 {m n o p d i:Nat} {r:List Bool} {acc:List Int} (h:(Q6 m (n / 2 ^ p - if i = 0 then o else 0) r).2.1 ≠ 0):Qz m n o p (d + 1) i r acc = ([],(Q6 m (n / 2 ^ p - if i = 0 then o else 0) r).2.1,(Q6 m (n / 2 ^ p - if i = 0 then o else 0) r).2.2):=if_pos h
theorem ZHA (k:Nat) {b:List Int} (hn:b.length < 268435456) (hk:8 * b.length + 5000 < k) {cs:List (List Int)} {n o p m:Nat} (hm:m = 0 ∨ m = 1) (hcl:cs.length ≤ 32768) (hnn:n ≤ 512) (hcs:∀ (i:Nat) (h:i < cs.length),cs[i].length = n / 2 ^ p - if i = 0 then o else 0) :
  ∀ (d j i:Nat) (r:List Bool) (acc:List Int),Zf b r → d < j → i + d = cs.length → acc.length ≤ i * 512 →
  Zg (fun L1 => YM k (Zc5 k L1) L1) j ((i:Int),cs,(m:Int),K8 (ZA b),((Zu b r:Nat):Int),acc) = some (((Qz m n o p d i r acc).1,(Qz m n o p d i r acc).2.1,()),dst b (Qz m n o p d i r acc).2.2,()):=by
 intro d
 have hdiv:n / 2 ^ p ≤ n:=Nat.div_le_self _ _
 induction d with
 | zero =>
  intro j i r acc hr hj hi ha
  obtain ⟨j,rfl⟩:=Zm hj
  rw [Zc]
  simp only [YM]
  rw [Zh (by simp only [HZ]; omega)]
  rfl
 | succ d ih =>
  intro j i r acc hr hj hi ha
  obtain ⟨j,rfl⟩:=Zm (show 0 < j by omega)
  rw [Zc]
  simp only [YM]
  have hi2:i < cs.length:=by omega
  have hci:=hcs i hi2
  have hc5:cs[i].length ≤ 512:=by omega
  have hq1:cs[i].length < k:=by clear hci hcs; omega
  have he4:Jx.wrap ((4:Int) + (m:Int)) = ((4 + m:Nat):Int):=by rw [ZG (by omega)]; omega
  rw [Za (by simp only [HZ]; omega),he4]
  refine (Zd (Qw k (by omega) hr (w:=4 + m) (by omega) (by omega)) _).trans ?_
  simp only
  have hg15:[(15:Int),31].getD ((m:Int)).toNat 0 = ((Zeb (m:Int):Nat):Int):=by rcases hm with rfl | rfl <;> rfl
  have hlt:=Q3 (4 + m) r
  rw [Za (by omega),Za (by omega),hg15,Zw,Zk]
  -- what a part gives
  have fin:∀ (one:Zl6) (r':List Bool) (val:Int) (fl:Bool) (wd:Int),(∀ r,Zf b r → Zlf k (dst b r,val,fl,wd,()) = some (((one r).1,(one r).2.1,()),dst b (one r).2.2,())) → (∀ r,Zf b r → Zf b (one r).2.2) → Zf b r' →
    Q6 m (n / 2 ^ p - if i = 0 then o else 0) r = Qp one (n / 2 ^ p - if i = 0 then o else 0) r' [] →
    Zc5 k (Zg (fun L1 => YM k (Zc5 k L1) L1) j) ((0:Int),cs,(i:Int),val,fl,wd,(m:Int),K8 (ZA b),((Zu b r':Nat):Int),acc) = some (((Qz m n o p (d + 1) i r acc).1,(Qz m n o p (d + 1) i r acc).2.1,()),dst b (Qz m n o p (d + 1) i r acc).2.2,()):=by
   intro one r' val fl wd hone hrest hr' hp
   have hN:=ZHB k hn hk (Zg (fun L1 => YM k (Zc5 k L1) L1) j) hi2 hcl hc5 (m:Int) val fl wd one hone hrest cs[i].length k 0 r' acc hr' hq1 (Nat.zero_add _) (Nat.le_trans ha (Nat.le_add_right _ _))
   refine hN.trans ?_
   rw [hci,ZlE,← hp]
   have hlen:=ZlO m (n / 2 ^ p - if i = 0 then o else 0) r
   have hprest:=ZdN hr m (n / 2 ^ p - if i = 0 then o else 0)
   by_cases h:(Q6 m (n / 2 ^ p - if i = 0 then o else 0) r).2.1 = 0
   ·rw [ZAP h,Zh7 h,if_neg (by simp)]
    generalize Q6 m (n / 2 ^ p - if i = 0 then o else 0) r = P at hlen hprest
    exact ih j (i + 1) P.2.2 (acc ++ P.1) hprest (by omega) (by omega) (by rw [JP]; omega)
   ·rw [Zl8 h,Zeh h,if_pos h]
  have err:∀ (e:Int) (r':List Bool),e ≠ 0 → Q6 m (n / 2 ^ p - if i = 0 then o else 0) r = ([],e,r') → Qz m n o p (d + 1) i r acc = ([],e,r'):=by
   intro e r' he hp
   rw [Zl8 (by rw [hp]; exact he),hp]
  by_cases h1:(Zn (4 + m) r).2.1 = 0
  ·rw [Za h1]
   by_cases h2:(Zn (4 + m) r).1 = Zeb m
   ·rw [Zw,Za (by omega)]
    refine (Zd (Qw k (by omega) (ZD hr _) (w:=5) (by omega) (by omega)) _).trans ?_
    simp only
    rw [Zk]
    have hlt5:=Q3 5 (Zn (4 + m) r).2.2
    by_cases h3:(Zn 5 (Zn (4 + m) r).2.2).2.1 = 0
    ·rw [Zh (by simpa using h3),decide_eq_true (show (((Zn (4 + m) r).1:Nat):Int) = ((Zeb (m:Int):Nat):Int) by omega)]
     refine fin (ZY (Zn 5 (Zn (4 + m) r).2.2).1) (Zn 5 (Zn (4 + m) r).2.2).2.2 _ true _ (fun r hr => ZRr k hn hr (by omega) (by omega) _) (fun r hr => Xv hr _) (ZD (ZD hr _) _) ?_
     unfold Q6
     simp_all
    ·rw [Za h3]
     rw [err _ _ h3 (by unfold Q6; rw [if_neg (by simpa using h1),if_pos h2,if_pos h3])]
   ·rw [Zw,Zh (by omega),Zh (by simpa using h1),decide_eq_false (show ¬ (((Zn (4 + m) r).1:Nat):Int) = ((Zeb (m:Int):Nat):Int) by omega)]
    have h30:(Zn (4 + m) r).1 ≤ 30:=by
     grind
    refine fin (Zbe (Zn (4 + m) r).1) (Zn (4 + m) r).2.2 _ false _ (fun r hr => ZLm k hn hr h30 (by omega) _) (fun r hr => ZlL hr _) (ZD hr _) ?_
    unfold Q6
    simp_all
  ·rw [Zh h1,Za h1]
   rw [err _ _ h1 (by unfold Q6; rw [if_pos h1])]
theorem ZHC (k:Nat) {b:List Int} (hn:b.length < 268435456) {r:List Bool} (hr:Zf b r) (hk:8 * b.length + 50000 < k) (n o:Nat) :
  Zhp k (dst b r,(n:Int),(o:Int),()) = some (((XA n o r).1,(XA n o r).2.1,()),dst b (XA n o r).2.2,()):=by
 show Zgm k (Znq k) _ = _
 simp only [Zgm]
 refine (Zd (ZH8 k n o) _).trans ?_
 unfold XA
 simp only
 cases hb:ZbI (n:Int) (o:Int) with
 | false => rfl
 | true =>
  have hbb:=of_decide_eq_true hb
  simp only [HC,cond_false,H5,if_false]
  refine (Zd (Qw k (by omega) hr (w:=2) (by omega) (by omega)) _).trans ?_
  simp only
  rw [Zk]
  by_cases h1:(Zn 2 r).2.1 = 0
  case neg => rw [Za h1,if_pos h1]
  rw [Zh (by simpa using h1),if_neg (by simpa using h1)]
  by_cases h2:1 < (Zn 2 r).1
  ·rw [Za (by omega),if_pos h2]
  rw [Zh (by omega),if_neg h2]
  refine (Zd (Qw k (by omega) (ZD hr _) (w:=4) (by omega) (by omega)) _).trans ?_
  simp only
  rw [Zk]
  have hlt4:=Q3 4 (Zn 2 r).2.2
  have hr2:=ZD (ZD hr 2) 4
  have hm:(Zn 2 r).1 = 0 ∨ (Zn 2 r).1 = 1:=by omega
  generalize (Zn 2 r).1 = m at hm h2 ⊢
  generalize Zn 4 (Zn 2 r).2.2 = G at hlt4 hr2 ⊢
  by_cases h3:G.2.1 = 0
  case neg => rw [Za h3,if_pos h3]
  rw [Zh (by simpa using h3),if_neg (by simpa using h3)]
  have e1:Jx.wrap ((n:Int) - (o:Int)) = ((n - o:Nat):Int):=by rw [ZG (by omega)]; omega
  have hlen:(Jd (n - o) (0:Int)).length = n - o:=Uq
  rw [e1,Za (by omega),Ui]
  refine (Zd (ZHY k (l:=Jd (n - o) (0:Int)) (o:=o) (p:=G.1) (by omega) (by rw [hlen]; omega) (by omega)) _).trans ?_
  simp only
  rw [hlen,show n - o + o = n by omega]
  cases hf:Zft n o G.1 with
  | false => rfl
  | true =>
   simp only [if_true,H5,if_false]
   have hne:(KI (Jd (n - o) (0:Int)) o G.1).isEmpty = false:=rfl
   rw [hne]
   simp only [cond_false]
   have hcl:=ZJX (Jd (n - o) (0:Int)) o G.1
   have h15:2 ^ G.1 ≤ 2 ^ 15:=Hf (by omega) (by omega)
   have:=ZHA k hn (by omega) (cs:=KI (Jd (n - o) (0:Int)) o G.1) (n:=n) (o:=o) (p:=G.1) (m:=m) hm (by omega) (by omega) (fun i h => ZGP (by rw [hlen]; omega) hf i h) (2 ^ G.1) k 0 G.2.2 [] hr2 (by omega) (by omega) (by simp)
   exact this
theorem ZHE (k:Nat) {c warm res:List Int} {sh:Int} (hk:1000 < k) (hc:c.length ≤ 8192) (hw:warm.length ≤ 900) (hr:res.length ≤ 900) :
  Zhq k ((c,sh,()),warm,res,()) = some (((Yy c sh warm res).1,(Yy c sh warm res).2,()),()):=by
 show Zgn k (Znr k) _ = _
 simp only [Zgn]
 refine (Zd (ZHT k c sh (by omega)) _).trans ?_
 unfold Yy
 simp only
 cases hm:KO c sh with
 | false => rfl
 | true =>
  simp only [HC,cond_false,H5,if_false]
  rw [Zk]
  by_cases hl:warm.length = c.length
  case neg => grind
  rw [Zh (by simp only [HZ]; omega),if_neg (by simpa using hl)]
  refine (Zd (Zsz k warm (by omega) (by omega)) _).trans ?_
  simp only
  cases hww:warm.any Wi with
  | true => rfl
  | false =>
   simp only [EB,HC,cond_false,JJ,if_false]
   refine (Zd (Zsz k res (by omega) (by omega)) _).trans ?_
   simp only
   cases hwr:res.any Wi with
   | true => rfl
   | false =>
    simp only [EB,HC,cond_false,JJ,if_false]
    rw [Za (by omega),VS]
    obtain ⟨hc8,hsh,hcR⟩:=ZfE hm
    have hnw:=ZcE hww
    have hnr:=ZcE hwr
    suffices H:∀ (d i m:Nat) (out:List Int),i + d = res.length → d < m → out.length = warm.length + i → (∀ x ∈ out,QU x) →
      Zg (fun L1 => Zca k L1) m ((i:Int),res,c,sh,out) = some (((Zg3 c sh (res.drop i) out).1,(Zg3 c sh (res.drop i) out).2,()),()) by
     have:=H res.length 0 k warm (by omega) (by omega) (by omega) hnw
     rw [U5] at this
     exact this
    intro d
    induction d with
    | zero =>
     intro i m out hi hm2 ho hout
     obtain ⟨m,rfl⟩:=Zm hm2
     rw [Zc]
     simp only [Zca]
     rw [Zh (by simp only [HZ]; omega),UF (by omega)]
     rfl
    | succ d ih =>
     intro i m out hi hm2 ho hout
     obtain ⟨m,rfl⟩:=Zm (show 0 < m by omega)
     rw [Zc]
     simp only [Zca]
     have hi2:i < res.length:=by omega
     rw [Za (by simp only [HZ]; omega),Za (by simp only [HZ]; omega),Ui,Xf hi2]
     have hf:=ZHV k (c:=c) (s:=out) (sh:=sh) (p:=out.length) (by omega) hc8 (by omega) (Jj _) (by omega) hsh hcR hout
     rw [Ea] at hf
     refine (Zd hf _).trans ?_
     simp only
     have hpb:=ZmG (sh:=sh) hcR hout hc8
     have hx:=hnr res[i] (Ha hi2)
     unfold QU at hx
     rw [ZG (n:=res[i] + ZcH c sh out) (by omega)]
     refine (Zd (ZsO k _) _).trans ?_
     simp only
     rw [Uk hi2]
     unfold Zg3
     cases hwx:Wi (res[i] + ZcH c sh out) with
     | true => rfl
     | false =>
      simp only [EB,HC,cond_false,JJ,if_false]
      rw [Za (by grind),show Jx.wrap ((i:Int) + 1) = ((i + 1:Nat):Int) from by rw [ZG (by omega)]; omega]
      refine ih (i + 1) m _ (by omega) (by omega) (by simp; omega) ?_
      intro y hy
      rcases Js.1 hy with hy | hy
      ·exact hout y hy
      ·rw [Vx.1 hy]; exact ZmJ hwx
end Go.Sh
namespace Go.Sh
open Go Go.Proofs
theorem ZhJ {w:Nat}:∀ (n:Nat) (s:IS) (acc:List Int),s.2 ≠ 0 → (Xh w n s acc).2 = s
 | 0,s,acc,_ => rfl
 | n + 1,s,acc,h => by
  unfold Xh
  rw [if_neg h]
  exact ZhJ n s _ h
theorem ZgI {w:Nat}:∀ (n:Nat) (r:List Bool) (acc:List Int),((Qp (ZY w) n r acc).2.1 = 0 → Xh w n (r,0) acc = ((Qp (ZY w) n r acc).1,((Qp (ZY w) n r acc).2.2,0))) ∧
  ((Qp (ZY w) n r acc).2.1 ≠ 0 → (Xh w n (r,0) acc).2 = ((Qp (ZY w) n r acc).2.2,(Qp (ZY w) n r acc).2.1))
 | 0,r,acc => ⟨fun _ => rfl,fun h => absurd rfl h⟩
 | n + 1,r,acc => by
  have e:Xh w (n + 1) (r,0) acc = Xh w n ((ZY w r).2.2,(ZY w r).2.1) (acc ++ [(ZY w r).1]):=if_pos rfl
  rw [e]
  by_cases h:(ZY w r).2.1 = 0
  ·rw [ZjY h,h]
   exact ZgI n _ _
  ·rw [ZgH h]
   exact ⟨fun h2 => absurd h2 h,fun _ => ZhJ n _ _ h⟩
def Zma (x:List Int × IS):List Int × Int × List Bool:=(x.1,x.2.2,x.2.1)
def Wb (o:Option ZmL) (b:List Int) (x:List Int × Int × List Bool):Prop :=
 ∃ (L:List Int) (st:ByteArray × Int × Unit),o = some ((L,x.2.1,()),st,()) ∧ (x.2.1 = 0 → L = x.1 ∧ st = dst b x.2.2)
theorem Qj {o:Option ZmL} {b:List Int} {x:List Int × Int × List Bool} {L:List Int} {e:Int} {st:ByteArray × Int × Unit} (h:o = some ((L,e,()),st,())) (hx:x.2.1 = e) (he:e ≠ 0):Wb o b x :=
 ⟨L,st,by rw [h,hx],fun h0 => absurd (hx.symm.trans h0) he⟩
theorem ZdI {o:Option ZmL} {b:List Int} {x:List Int × Int × List Bool} (h:o = some ((x.1,x.2.1,()),dst b x.2.2,())):Wb o b x :=
 ⟨x.1,dst b x.2.2,h,fun _ => ⟨rfl,rfl⟩⟩
def dbZ (k:Nat) (n c:Int) (coefs:List Int) (sh:Int) (warm:List Int) (st:ByteArray × Int × Unit):Option ZmL :=
 (Zhp k (st,n,c,())).bind fun y_5 => bif y_5.1.2.1 != (0:Int) then some (([],y_5.1.2.1,()),(y_5.2.1.1,y_5.2.1.2.1,()),()) else (Zhq k ((coefs,sh,()),warm,y_5.1.1,())).bind fun y => some ((y.1.1,y.1.2.1,()),(y_5.2.1.1,y_5.2.1.2.1,()),())
def dbN (k:Nat) (n c:Int) (warm:List Int) (st:ByteArray × Int × Unit):Option ZmL :=
 (ZN k (st,4,())).bind fun y_2 => bif y_2.1.2.1 != (0:Int) then some (([],y_2.1.2.1,()),(y_2.2.1.1,y_2.2.1.2.1,()),()) else bif y_2.1.1 != (11:Int) then some (([],2,()),(y_2.2.1.1,y_2.2.1.2.1,()),()) else (ZN k ((y_2.2.1.1,y_2.2.1.2.1,()),5,())).bind fun y_3 => bif y_3.1.2.1 != (0:Int) then some (([],y_3.1.2.1,()),(y_3.2.1.1,y_3.2.1.2.1,()),()) else bif decide ((15:Int) < y_3.1.1) then some (([],2,()),(y_3.2.1.1,y_3.2.1.2.1,()),()) else
  (KK k ((y_3.2.1.1,y_3.2.1.2.1,()),c,12,())).bind fun y_4 => bif y_4.1.2.1 != (0:Int) then some (([],y_4.1.2.1,()),(y_4.2.1.1,y_4.2.1.2.1,()),()) else dbZ k n c y_4.1.1 y_3.1.1 warm (y_4.2.1.1,y_4.2.1.2.1,())
def dbM (k:Nat) (n d kind c:Int) (st:ByteArray × Int × Unit):Option ZmL :=
 bif decide (n < c) then some (([],2,()),(st.1,st.2.1,()),()) else (KK k ((st.1,st.2.1,()),c,d,())).bind fun y => bif y.1.2.1 != (0:Int) then some (([],y.1.2.1,()),(y.2.1.1,y.2.1.2.1,()),()) else
  (Zzr k (if (4:Int) < c then (4:Int) else c,())).bind fun y_1 => bif decide ((32:Int) ≤ kind) then dbN k n c y.1.1 (y.2.1.1,y.2.1.2.1,()) else dbZ k n c y_1.1.1.1 y_1.1.1.2.1 y.1.1 (y.2.1.1,y.2.1.2.1,())
theorem ZID (k:Nat) (T:ByteArray) (p n d kind:Int):YC k ((T,p,()),n,d,kind,()) =
  bif kind == (0:Int) then (ZkS k ((T,p,()),d,())).bind fun y => bif y.1.2.1 != (0:Int) then some (([],y.1.2.1,()),(y.2.1.1,y.2.1.2.1,()),()) else ZwC k ((0:Int),n,y.1.1,y.2.1.1,y.2.1.2.1,[])
  else bif kind == (1:Int) then (KK k ((T,p,()),n,d,())).bind fun y => some ((y.1.1,y.1.2.1,()),(y.2.1.1,y.2.1.2.1,()),())
  else bif decide ((32:Int) ≤ kind) then dbM k n d kind (Jx.wrap (kind - (31:Int))) (T,p,()) else dbM k n d kind (Jx.wrap (kind - (8:Int))) (T,p,()):=rfl
theorem ZxG (k:Nat) {b:List Int} (hn:b.length < 268435456) (hk:8 * b.length + 50000 < k) {r:List Bool} (hr:Zf b r) {n c:Nat} (hnn:n ≤ 512) {coefs warm:List Int} {sh:Int} (hc:coefs.length ≤ 8192) (hw:warm.length ≤ 900) :
  Wb (dbZ k n c coefs sh warm (dst b r)) b (Zma (Zd0 coefs sh c n warm (r,0))):=by
 have hl:=ZlV (n:=n) (o:=c) r
 have hf:=ZHC k hn hr hk n c
 unfold Zd0 Zma
 simp only
 by_cases h:(XA n c r).2.1 = 0
 ·rw [if_neg (by simpa using h)]
  refine ZdI ?_
  refine (Zd hf _).trans ?_
  simp only
  rw [Zk,Zh (by simpa using h)]
  exact Zd (ZHE k (by omega) hc hw (by omega)) _
 ·rw [if_pos h]
  refine Qj (L:=[]) (e:=(XA n c r).2.1) (st:=dst b (XA n c r).2.2) ?_ rfl h
  refine (Zd hf _).trans ?_
  simp only
  rw [Zk,Za h]
theorem gI0 (w:Nat) (r:List Bool):gI w (r,0) = ((Zn w r).1,(Zn w r).2.2,(Zn w r).2.1):=if_pos rfl
theorem ZbN {w:Nat} {s:IS} (h:s.2 ≠ 0):gI w s = (0,s):=if_neg h
theorem WE {ok:Bool} {s:IS} {code:Int} (h:s.2 ≠ 0):mI ok s code = s:=if_neg (fun hh => h hh.1)
theorem YF {r:List Bool} {code:Int}:mI false (r,0) code = (r,code):=if_pos ⟨rfl,rfl⟩
theorem ZGN {s:IS} (h:s.2 ≠ 0):KS s = s:=by unfold KS; rw [ZbN h]; exact WE h
theorem ZkC {s:IS} (h:s.2 ≠ 0):(WM s).2 = s:=by unfold WM; rw [ZbN h]; exact WE h
theorem ZbV {c n:Nat} {warm:List Int} {sh:Nat} {s:IS} (h:s.2 ≠ 0):Zib c n warm sh (Xh 12 c s []) = ([],s):=by
 unfold Zib
 have e:=ZhJ (w:=12) c s [] h
 rw [e,if_pos h]
theorem ZJY (k:Nat) {b:List Int} (hn:b.length < 268435456) (hk:8 * b.length + 50000 < k) {r:List Bool} (hr:Zf b r) {n c:Nat} (hnn:n ≤ 512) (hc:c ≤ 8) {warm:List Int} (hw:warm.length ≤ 900) :
  Wb (dbN k n c warm (dst b r)) b (Zma (Zib c n warm (WM (KS (r,0))).1 (Xh 12 c (WM (KS (r,0))).2 []))):=by
 have h4:=Qw k (by omega) hr (w:=4) (by omega) (by omega)
 have hr4:=ZD hr 4
 have eA:KS (r,0) = mI ((Zn 4 r).1 == 11) ((Zn 4 r).2.2,(Zn 4 r).2.1) 2:=by unfold KS; rw [gI0]
 rw [eA]
 generalize Zn 4 r = G at h4 hr4 ⊢
 by_cases h1:G.2.1 = 0
 case neg =>
  rw [WE h1]
  rw [show (WM (G.2.2,G.2.1)).2 = (G.2.2,G.2.1) from ZkC h1,ZbV h1]
  refine Qj (L:=[]) (st:=dst b G.2.2) ?_ rfl h1
  refine (Zd h4 _).trans ?_
  simp only
  rw [Zk,Za h1]
  rfl
 rw [h1]
 by_cases h2:G.1 = 11
 case neg =>
  rw [show (G.1 == 11) = false by simpa using h2,YF]
  rw [show (WM (G.2.2,2)).2 = (G.2.2,2) from ZkC (show (2:Int) ≠ 0 by decide),ZbV (show (2:Int) ≠ 0 by decide)]
  refine Qj (L:=[]) (st:=dst b G.2.2) (e:=2) ?_ rfl (by decide)
  refine (Zd h4 _).trans ?_
  grind
 rw [show (G.1 == 11) = true by simpa using h2,QF]
 have h5:=Qw k (by omega) hr4 (w:=5) (by omega) (by omega)
 have hr5:=ZD hr4 5
 have hl5:=Q3 5 G.2.2
 have eB:WM (G.2.2,0) = ((Zn 5 G.2.2).1,mI (decide ((Zn 5 G.2.2).1 ≤ 15)) ((Zn 5 G.2.2).2.2,(Zn 5 G.2.2).2.1) 2):=by unfold WM; rw [gI0]
 rw [eB]
 generalize Zn 5 G.2.2 = H at h5 hr5 hl5 ⊢
 have go1:∀ o,((ZN k (dst b G.2.2,5,())).bind fun y_3 => bif y_3.1.2.1 != (0:Int) then some (([],y_3.1.2.1,()),(y_3.2.1.1,y_3.2.1.2.1,()),()) else bif decide ((15:Int) < y_3.1.1) then some (([],2,()),(y_3.2.1.1,y_3.2.1.2.1,()),()) else
   (KK k ((y_3.2.1.1,y_3.2.1.2.1,()),(c:Int),12,())).bind fun y_4 => bif y_4.1.2.1 != (0:Int) then some (([],y_4.1.2.1,()),(y_4.2.1.1,y_4.2.1.2.1,()),()) else dbZ k n c y_4.1.1 y_3.1.1 warm (y_4.2.1.1,y_4.2.1.2.1,())) = o → dbN k n c warm (dst b r) = o:=by
  intro o ho
  refine (Zd h4 _).trans ?_
  simp_all
 by_cases h3:H.2.1 = 0
 case neg =>
  rw [WE h3,ZbV h3]
  refine Qj (L:=[]) (st:=dst b H.2.2) (go1 _ ?_) rfl h3
  refine (Zd h5 _).trans ?_
  simp only
  rw [Zk,Za h3]
  rfl
 rw [h3]
 by_cases h6:H.1 ≤ 15
 case neg =>
  rw [decide_eq_false h6,YF,ZbV (show (2:Int) ≠ 0 by decide)]
  refine Qj (L:=[]) (st:=dst b H.2.2) (e:=2) (go1 _ ?_) rfl (by decide)
  grind
 rw [decide_eq_true h6,QF]
 have h7:=ZkV k hn (w:=12) (n:=c) (by omega) (by omega) (by omega) hr5
 obtain ⟨l1,l2⟩:=ZgI (w:=12) c H.2.2 []
 have hr7:=ZaY (b:=b) (one:=ZY 12) (fun r h => Xv h 12) c H.2.2 [] hr5
 have hl7:=ZcC (one:=ZY 12) c H.2.2 []
 generalize Qp (ZY 12) c H.2.2 [] = J at h7 l1 l2 hr7 hl7
 have go2:∀ o,((KK k (dst b H.2.2,(c:Int),12,())).bind fun y_4 => bif y_4.1.2.1 != (0:Int) then some (([],y_4.1.2.1,()),(y_4.2.1.1,y_4.2.1.2.1,()),()) else dbZ k n c y_4.1.1 H.1 warm (y_4.2.1.1,y_4.2.1.2.1,())) = o → dbN k n c warm (dst b r) = o:=by
  grind
 unfold Zib
 by_cases h8:J.2.1 = 0
 ·rw [l1 h8]
  simp only
  rw [if_neg (by simp)]
  rw [go2 (dbZ k n c J.1 H.1 warm (dst b J.2.2)) (by
   simp_all)]
  exact ZxG k hn hk hr7 hnn (by simp at hl7; omega) hw
 ·rw [l2 h8,if_pos h8]
  refine Qj (L:=[]) (st:=dst b J.2.2) (go2 _ ?_) rfl h8
  refine (Zd h7 _).trans ?_
  simp only
  rw [Zk,Za h8]
  rfl
theorem ZxF (k:Nat) {b:List Int} (hn:b.length < 268435456) (hk:8 * b.length + 50000 < k) {r:List Bool} (hr:Zf b r) {n c d:Nat} (hnn:n ≤ 512) (hc:c ≤ 8) (hd:d ≤ 32) {kind:Int} {num:Bool} (hnum:num = decide (32 ≤ kind)) :
  Wb (dbM k n d kind c (dst b r)) b (Zma (ZbU num c n d (r,0))):=by
 unfold dbM
 by_cases h1:c ≤ n
 case neg =>
  have hb:ZbU num c n d (r,0) = ([],(r,2)):=by
   unfold ZbU
   rw [decide_eq_false h1,YF]
   rfl
  rw [hb]
  exact Qj (L:=[]) (e:=2) (by rw [Za (by omega)]) rfl (by decide)
 have hb:ZbU num c n d (r,0) = Zmb num c n (Xh d c (r,0) []):=by
  unfold ZbU
  rw [decide_eq_true h1,QF]
  exact if_neg (by simp)
 rw [hb,Zh (by omega)]
 have h7:=ZkV k hn (w:=d) (n:=c) (by omega) (by omega) (by omega) hr
 obtain ⟨l1,l2⟩:=ZgI (w:=d) c r []
 have hr7:=ZaY (b:=b) (one:=ZY d) (fun r h => Xv h d) c r [] hr
 have hl7:=ZcC (one:=ZY d) c r []
 generalize Qp (ZY d) c r [] = J at h7 l1 l2 hr7 hl7
 rw [h7]
 simp only [VJ]
 rw [Zk]
 unfold Zmb
 by_cases h8:J.2.1 = 0
 case neg =>
  rw [Za h8]
  refine Qj (L:=[]) (st:=dst b J.2.2) rfl ?_ h8
  rw [l2 h8]
  cases num with
  | true =>
   rw [if_pos rfl,show KS (J.2.2,J.2.1) = (J.2.2,J.2.1) from ZGN h8,show (WM (J.2.2,J.2.1)).2 = (J.2.2,J.2.1) from ZkC h8,ZbV h8]
   rfl
  | false => rw [if_neg (by decide),if_pos h8]; rfl
 rw [Zh (by simpa using h8),l1 h8]
 have e4:(if (4:Int) < (c:Int) then (4:Int) else (c:Int)) = ((min 4 c:Nat):Int):=by split <;> omega
 rw [e4,ZOn k (min 4 c) (by omega)]
 simp only [VJ]
 simp at hl7
 cases num with
 | true =>
  rw [Za (of_decide_eq_true hnum.symm),if_pos rfl]
  exact ZJY k hn hk hr7 hnn hc (by omega)
 | false =>
  rw [Zh (of_decide_eq_false hnum.symm),if_neg (by decide),if_neg (by simp)]
  have hf:(ZhG (min 4 c)).length ≤ 8192:=by rw [Zqt _ (by omega)]; omega
  exact ZxG k hn hk hr7 hnn hf (by omega)
theorem ZOR (k:Nat) {b:List Int} (hn:b.length < 268435456) (hk:8 * b.length + 50000 < k) {r:List Bool} (hr:Zf b r) {kind n d:Nat} (hkd:Zd4 kind = true) (h1:1 ≤ n) (hnn:n ≤ 512) (hd:d ≤ 32) :
  Wb (YC k (dst b r,(n:Int),(d:Int),(kind:Int),())) b (Zma (Xm kind n d (r,0))):=by
 have hkb:kind = 0 ∨ kind = 1 ∨ 8 ≤ kind ∧ kind ≤ 12 ∨ 32 ≤ kind ∧ kind ≤ 39:=of_decide_eq_true hkd
 rw [ZID]
 unfold Xm
 rw [Zw,Zw]
 by_cases h0:kind = 0
 ·rw [Za (by omega),if_pos h0]
  have hf:=ZkU k (b:=b) (by omega) hr hd (by omega)
  have e:Xh d 1 (r,0) [] = ([(ZY d r).1],(ZY d r).2.2,(ZY d r).2.1):=by
   rfl
  rw [e]
  generalize ZY d r = G at hf
  by_cases hg:G.2.1 = 0
  ·refine ZdI ?_
   refine (Zd hf _).trans ?_
   simp only
   rw [Zk,Zh (by simpa using hg)]
   have hloop:∀ (e j i:Nat),i + e = n → e < j → Zg (fun L1 => Zfm k L1) j ((i:Int),(n:Int),G.1,K8 (ZA b),((Zu b G.2.2:Nat):Int),Jd i G.1) = some ((Jd n G.1,0,()),dst b G.2.2,()):=by
    intro e
    induction e with
    | zero =>
     intro j i hi hj
     obtain ⟨j,rfl⟩:=Zm hj
     rw [Zc]
     grind [Zfm]
    | succ e ih =>
     intro j i hi hj
     obtain ⟨j,rfl⟩:=Zm (show 0 < j by omega)
     rw [Zc]
     simp only [Zfm]
     rw [Za (by omega),Za (by simp; omega),show Jx.wrap ((i:Int) + 1) = ((i + 1:Nat):Int) from by rw [ZG (by omega)]; omega,← EF]
     grind
   refine (hloop n k 0 (by omega) (by omega)).trans ?_
   show _ = some ((Jd n G.1,G.2.1,()),dst b G.2.2,())
   rw [hg]
  ·refine Qj (L:=[]) (st:=dst b G.2.2) ?_ rfl hg
   refine (Zd hf _).trans ?_
   simp only
   rw [Zk,Za hg]
   rfl
 rw [Zh (by omega),if_neg h0]
 by_cases h2:kind = 1
 ·rw [Za (by omega),if_pos h2]
  have hf:=ZkV k hn (w:=d) (n:=n) hd (by omega) (by omega) hr
  obtain ⟨l1,l2⟩:=ZgI (w:=d) n r []
  generalize Qp (ZY d) n r [] = J at hf l1 l2
  by_cases hg:J.2.1 = 0
  ·rw [l1 hg]
   refine ZdI ?_
   refine (Zd hf _).trans ?_
   show some ((J.1,J.2.1,()),dst b J.2.2,()) = _
   rw [hg]
   rfl
  ·refine Qj (L:=J.1) (st:=dst b J.2.2) ?_ (show (Xh d n (r,0) []).2.2 = J.2.1 by rw [l2 hg]) hg
   exact Zd hf _
 rw [Zh (by omega),if_neg h2]
 by_cases h3:31 < kind
 ·rw [Za (by omega),if_pos h3,ZG (by omega),show (kind:Int) - 31 = ((kind - 31:Nat):Int) by omega]
  exact ZxF k hn hk hr hnn (by omega) hd (by rw [decide_eq_true (by omega)])
 ·rw [Zh (by omega),if_neg h3,ZG (by omega),show (kind:Int) - 8 = ((kind - 8:Nat):Int) by omega]
  exact ZxF k hn hk hr hnn (by omega) hd (by rw [decide_eq_false (by omega)])
end Go.Sh
namespace Go.Sh
open Go Go.Proofs
def ZoW (k:Nat) (d w:Int) (y:(List Int × Int × Unit) × (ByteArray × Int × Unit) × Unit):Option ZmL :=
 bif y.1.2.1 != (0:Int) then some (([],y.1.2.1,()),(y.2.1.1,y.2.1.2.1,()),()) else Zp6 k ((0:Int),d,w,y.2.1.1,y.2.1.2.1,y.1.1)
def ZQI (k:Nat) (n d kind:Int) (st:ByteArray × Int × Unit) (e:Int):Option ZmL :=
 bif e != (0:Int) then some (([],e,()),(st.1,st.2.1,()),()) else bif decide (d ≤ (0:Int)) then some (([],2,()),(st.1,st.2.1,()),()) else
  (YC k ((st.1,st.2.1,()),n,Jx.wrap (d - (0:Int)),kind,())).bind fun y => ZoW k d 0 y
def ZkK (k:Nat) (n d kind:Int) (st:ByteArray × Int × Unit):Option ZmL :=
 (ZN k ((st.1,st.2.1,()),1,())).bind fun y_1 => bif y_1.1.2.1 == (0:Int) then bif y_1.1.1 == (1:Int) then
  (Zms k ((y_1.2.1.1,y_1.2.1.2.1,()),())).bind fun y_2 => bif y_2.1.2.1 != (0:Int) then some (([],y_2.1.2.1,()),(y_2.2.1.1,y_2.2.1.2.1,()),()) else bif decide (d ≤ Jx.wrap (y_2.1.1 + (1:Int))) then some (([],2,()),(y_2.2.1.1,y_2.2.1.2.1,()),()) else
   (YC k ((y_2.2.1.1,y_2.2.1.2.1,()),n,Jx.wrap (d - Jx.wrap (y_2.1.1 + (1:Int))),kind,())).bind fun y => ZoW k d (Jx.wrap (y_2.1.1 + (1:Int))) y
  else ZQI k n d kind (y_1.2.1.1,y_1.2.1.2.1,()) y_1.1.2.1 else ZQI k n d kind (y_1.2.1.1,y_1.2.1.2.1,()) y_1.1.2.1
theorem ZIz (k:Nat) (T:ByteArray) (p n d:Int):Zp5 k ((T,p,()),n,d,()) =
  bif decide (n < (1:Int)) then some (([],1,()),(T,p,()),()) else bif decide ((512:Int) < n) then some (([],1,()),(T,p,()),()) else bif decide (d < (4:Int)) then some (([],1,()),(T,p,()),()) else bif decide ((25:Int) < d) then some (([],1,()),(T,p,()),()) else
   (ZN k ((T,p,()),1,())).bind fun y => bif y.1.2.1 != (0:Int) then some (([],y.1.2.1,()),(y.2.1.1,y.2.1.2.1,()),()) else bif y.1.1 == (1:Int) then some (([],2,()),(y.2.1.1,y.2.1.2.1,()),()) else
   (ZN k ((y.2.1.1,y.2.1.2.1,()),6,())).bind fun y => bif y.1.2.1 != (0:Int) then some (([],y.1.2.1,()),(y.2.1.1,y.2.1.2.1,()),()) else
    bif decide ((1:Int) < y.1.1) then
     bif decide (y.1.1 < (8:Int)) then bif decide (y.1.1 < (32:Int)) then some (([],2,()),(y.2.1.1,y.2.1.2.1,()),()) else bif decide ((39:Int) < y.1.1) then some (([],2,()),(y.2.1.1,y.2.1.2.1,()),()) else ZkK k n d y.1.1 (y.2.1.1,y.2.1.2.1,())
     else bif decide ((12:Int) < y.1.1) then bif decide (y.1.1 < (32:Int)) then some (([],2,()),(y.2.1.1,y.2.1.2.1,()),()) else bif decide ((39:Int) < y.1.1) then some (([],2,()),(y.2.1.1,y.2.1.2.1,()),()) else ZkK k n d y.1.1 (y.2.1.1,y.2.1.2.1,())
     else ZkK k n d y.1.1 (y.2.1.1,y.2.1.2.1,())
    else ZkK k n d y.1.1 (y.2.1.1,y.2.1.2.1,()):=rfl
theorem ZaU {α:Type} {o:Option α} {a:α} {K:α → Option ZmL} {b:List Int} {x:List Int × Int × List Bool} (h:o = some a) (hK:Wb (K a) b x):Wb (o.bind K) b x:=by
 rw [Zd h]
 exact hK
def ZDC (d w:Nat) (y:List Int × IS):List Int × Int × List Bool :=
 if y.2.2 ≠ 0 then ([],y.2.2,y.2.1) else if y.1.all (sgn · (d - w)) = true then (y.1.map (fun x => x * 2 ^ w),0,y.2.1) else ([],12,y.2.1)
theorem ZSF (k:Nat) {b:List Int} (hk:3000 < k) {d w:Nat} (hw:w < d) (hd:d ≤ 25) {o:Option ZmL} {y:List Int × IS} (ho:Wb o b (Zma y)) (hl:y.1.length ≤ 1000) :
  Wb (o.bind fun y => ZoW k d w y) b (ZDC d w y):=by
 obtain ⟨L,st,ho,hz⟩:=ho
 unfold ZDC
 by_cases h:y.2.2 = 0
 case neg =>
  rw [if_pos h]
  refine Qj (L:=[]) (e:=y.2.2) (st:=(st.1,st.2.1,())) ?_ rfl h
  refine (Zd ho _).trans ?_
  unfold ZoW Zma
  simp only
  rw [Zk,Za h]
 rw [if_neg (by simpa using h)]
 obtain ⟨rfl,rfl⟩:=hz h
 have ho':(o.bind fun y => ZoW k d w y) = Zp6 k ((0:Int),(d:Int),(w:Int),K8 (ZA b),((Zu b y.2.1:Nat):Int),y.1):=by
  refine (Zd ho _).trans ?_
  unfold ZoW Zma
  simp_all
 rw [ho']
 have e1:Jx.wrap ((d:Int) - (w:Int)) = ((d - w:Nat):Int):=by rw [ZG (by omega)]; omega
 have hP:2 ^ w ≤ 2 ^ 25:=Hf (by omega) (by omega)
 have e2:Jx.wrap ((1:Int) * (2:Int) ^ min ((w:Int)).toNat 64) = (2:Int) ^ w:=by
  rw [Ui,Ht (by omega),Int.one_mul,QV]
  generalize 2 ^ w = Q at hP ⊢
  rw [ZG (by omega)]
 -- the loop writes into the same list
 suffices H:∀ (e i m:Nat) (pre post:List Int),post.length = e → pre.length = i → i + e ≤ 1000 → e < m →
   Zg (fun L1 => Ze5 k L1) m ((i:Int),(d:Int),(w:Int),K8 (ZA b),((Zu b y.2.1:Nat):Int),pre ++ post) =
    some (if post.all (sgn · (d - w)) = true then ((pre ++ post.map (fun x => x * 2 ^ w),0,()),dst b y.2.1,()) else (([],12,()),dst b y.2.1,())) by
  have:=H y.1.length 0 k [] y.1 rfl rfl (by omega) (by omega)
  rw [VS,VS] at this
  by_cases ha:y.1.all (sgn · (d - w)) = true
  ·rw [if_pos ha]
   rw [if_pos ha] at this
   exact ZdI this
  ·rw [if_neg ha]
   rw [if_neg ha] at this
   exact Qj this rfl (show (12:Int) ≠ 0 by decide)
 intro e
 induction e with
 | zero =>
  intro i m pre post hp hi hie hm
  obtain ⟨m,rfl⟩:=Zm hm
  obtain rfl:=List.eq_nil_of_length_eq_zero hp
  rw [Zc]
  grind [Ze5,HZ]
 | succ e ih =>
  intro i m pre post hp hi hie hm
  obtain ⟨m,rfl⟩:=Zm (show 0 < m by omega)
  match post,hp with
  | x :: post,hp =>
   rw [Zc]
   simp only [Ze5]
   have hlen:(pre ++ x :: post).length = i + e + 1:=by rw [JP,hp,hi]; omega
   have hget:(pre ++ x :: post).getD i 0 = x:=by
    grind
   have hset:∀ v,(pre ++ x :: post).set i v = (pre ++ [v]) ++ post:=by
    simp_all
   rw [Za (by grind),Za (by grind),Za (by rw [hlen,Ui]; omega),Ui,hget,e1]
   refine (Zd (Zy8 k x (by omega)) _).trans ?_
   simp only
   rw [List.all_cons]
   cases hsx:sgn x (d - w) with
   | false => rfl
   | true =>
    simp only [HC,cond_false,UC]
    have hsh:=(Zw9 hw (by omega) hsx).2
    rw [Za (by grind),Za (by rw [hlen]; omega),Za (by omega),Za (by grind),Za (by rw [hlen]; omega),e2,ZG hsh,hset,show Jx.wrap ((i:Int) + 1) = ((i + 1:Nat):Int) from by rw [ZG (by omega)]; omega]
    have:=ih (i + 1) m (pre ++ [x * 2 ^ w]) post (by simpa using hp) (by simp [hi]) (by omega) (by omega)
    rw [this]
    simp
theorem Zzj (k:Nat) {b:List Int} (hn:b.length < 268435456) (hk:8 * b.length + 50000 < k) {r:List Bool} (hr:Zf b r) (n d:Nat) :
  Wb (Zp5 k (dst b r,(n:Int),(d:Int),())) b (ZZ n d r):=by
 rw [ZIz]
 by_cases hh:1 ≤ n ∧ n ≤ 512 ∧ 4 ≤ d ∧ d ≤ 25
 case neg =>
  have hs:ZZ n d r = ([],1,r):=if_pos hh
  rw [hs]
  refine Qj (L:=[]) (e:=1) (st:=dst b r) ?_ rfl (by decide)
  grind
 have hs:ZZ n d r = (if (ZP d (r,0)).2.2.2 ≠ 0 then ([],(ZP d (r,0)).2.2.2,(ZP d (r,0)).2.2.1) else ZDC d (ZP d (r,0)).2.1 (Xm (ZP d (r,0)).1 n (d - (ZP d (r,0)).2.1) (ZP d (r,0)).2.2)):=by
  unfold ZZ ZDC
  rw [if_neg (by simpa using hh)]
 rw [hs,Zh (by omega),Zh (by omega),Zh (by omega),Zh (by omega)]
 unfold ZP
 -- the first bit
 have hf1:=Qw k (by omega) hr (w:=1) (by omega) (by omega)
 have hr1:=ZD hr 1
 have hl1:=Q3 1 r
 have e1:Zd9 (r,0) = mI ((Zn 1 r).1 == 0) ((Zn 1 r).2.2,(Zn 1 r).2.1) 2:=by unfold Zd9; rw [gI0]
 rw [e1]
 generalize Zn 1 r = G1 at hf1 hr1 hl1 ⊢
 have bad2:∀ s:IS,s.2 ≠ 0 → YH s = (0,s):=by
  intro s hs
  unfold YH
  rw [ZbN hs]
  show (0,mI _ s 2) = _
  rw [WE hs]
 have bad3:∀ (kind:Nat) (s:IS),s.2 ≠ 0 → (KW kind d s).2.2 = s:=by
  intro kind s hs
  unfold KW
  rw [ZbN hs,if_neg (by simp)]
  show mI _ s 2 = s
  rw [WE hs]
 by_cases g1:G1.2.1 = 0
 case neg =>
  rw [show mI (G1.1 == 0) (G1.2.2,G1.2.1) 2 = (G1.2.2,G1.2.1) from WE g1,bad2 _ g1,bad3 _ _ g1,if_pos g1]
  refine Qj (L:=[]) (st:=dst b G1.2.2) ?_ rfl g1
  grind
 rw [g1]
 by_cases g2:G1.1 = 0
 case neg =>
  rw [show (G1.1 == 0) = false by simpa using g2,YF,bad2 _ (show (2:Int) ≠ 0 by decide),bad3 _ _ (show (2:Int) ≠ 0 by decide),if_pos (show (2:Int) ≠ 0 by decide)]
  refine Qj (L:=[]) (e:=2) (st:=dst b G1.2.2) ?_ rfl (by decide)
  grind
 rw [show (G1.1 == 0) = true by simpa using g2,QF]
 refine ZaU hf1 ?_
 simp only
 rw [Zk,Zh (by simpa using g1),Zw,Zh (by omega)]
 -- the kind
 have hf6:=Qw k (by omega) hr1 (w:=6) (by omega) (by omega)
 have hr6:=ZD hr1 6
 have hl6:=Q3 6 G1.2.2
 have e6:YH (G1.2.2,0) = ((Zn 6 G1.2.2).1,mI (Zd4 (Zn 6 G1.2.2).1) ((Zn 6 G1.2.2).2.2,(Zn 6 G1.2.2).2.1) 2):=by unfold YH; rw [gI0]
 rw [e6]
 generalize Zn 6 G1.2.2 = G6 at hf6 hr6 hl6 ⊢
 by_cases g3:G6.2.1 = 0
 case neg =>
  rw [show mI (Zd4 G6.1) (G6.2.2,G6.2.1) 2 = (G6.2.2,G6.2.1) from WE g3,bad3 _ _ g3,if_pos g3]
  refine ZaU hf6 ?_
  simp only
  rw [Zk,Za g3]
  exact Qj (L:=[]) (st:=dst b G6.2.2) rfl rfl g3
 rw [g3]
 refine ZaU hf6 ?_
 simp only
 rw [Zk,Zh (by simpa using g3)]
 by_cases hkb:Zd4 G6.1 = true
 case neg =>
  have hk0:¬ (G6.1 = 0 ∨ G6.1 = 1 ∨ 8 ≤ G6.1 ∧ G6.1 ≤ 12 ∨ 32 ≤ G6.1 ∧ G6.1 ≤ 39):=by
   intro hh
   exact hkb (decide_eq_true hh)
  have hkf:Zd4 G6.1 = false:=by simpa using hkb
  rw [hkf,YF,bad3 _ _ (show (2:Int) ≠ 0 by decide),if_pos (show (2:Int) ≠ 0 by decide)]
  have hfin:Wb (some (([],2,()),(K8 (ZA b),((Zu b G6.2.2:Nat):Int),()),())) b ([],2,G6.2.2):=Qj (L:=[]) (st:=dst b G6.2.2) rfl rfl (by decide)
  grind
 have hkk:G6.1 = 0 ∨ G6.1 = 1 ∨ 8 ≤ G6.1 ∧ G6.1 ≤ 12 ∨ 32 ≤ G6.1 ∧ G6.1 ≤ 39:=of_decide_eq_true hkb
 rw [hkb,QF]
 suffices H:Wb (ZkK k n d ((G6.1:Nat):Int) (dst b G6.2.2)) b
   (if (KW G6.1 d (G6.2.2,0)).2.2.2 ≠ 0 then ([],(KW G6.1 d (G6.2.2,0)).2.2.2,(KW G6.1 d (G6.2.2,0)).2.2.1) else ZDC d (KW G6.1 d (G6.2.2,0)).2.1 (Xm (KW G6.1 d (G6.2.2,0)).1 n (d - (KW G6.1 d (G6.2.2,0)).2.1) (KW G6.1 d (G6.2.2,0)).2.2)) by
  grind
 -- wasted bits
 generalize G6.1 = kind at hkb hkk ⊢
 generalize G6.2.2 = r6 at hr6 ⊢
 unfold ZkK
 have hf7:=Qw k (by omega) hr6 (w:=1) (by omega) (by omega)
 have hr7:=ZD hr6 1
 have hl7:=Q3 1 r6
 have e7:KW kind d (r6,0) = if (Zn 1 r6).1 = 1 ∧ (Zn 1 r6).2.1 = 0 then (kind,(YI (Zn 1 r6).2.2).1 + 1,mI (decide ((YI (Zn 1 r6).2.2).1 + 1 < d)) ((YI (Zn 1 r6).2.2).2.2,(YI (Zn 1 r6).2.2).2.1) 2)
   else (kind,0,mI (decide (0 < d)) ((Zn 1 r6).2.2,(Zn 1 r6).2.1) 2):=by unfold KW; rw [gI0]
 generalize Zn 1 r6 = G7 at hf7 hr7 hl7 e7
 refine ZaU hf7 ?_
 simp only
 have body:∀ (w:Nat) (r':List Bool),w < d → Zf b r' → 
   Wb ((YC k (dst b r',(n:Int),((d - w:Nat):Int),(kind:Int),())).bind fun y => ZoW k d w y) b (ZDC d w (Xm kind n (d - w) (r',0))):=by
  intro w r' hwd hr'
  have:=Zkx (kind:=kind) (n:=n) (d:=d - w) (s:=(r',0)) hkb
  exact ZSF k (by omega) hwd (by omega) (ZOR k hn hk hr' hkb (by omega) (by omega) (by omega)) (by omega)
 have no:¬ (G7.1 = 1 ∧ G7.2.1 = 0) → Wb (ZQI k n d kind (dst b G7.2.2) G7.2.1) b
   (if (mI (decide (0 < d)) (G7.2.2,G7.2.1) 2).2 ≠ 0 then ([],(mI (decide (0 < d)) (G7.2.2,G7.2.1) 2).2,(mI (decide (0 < d)) (G7.2.2,G7.2.1) 2).1) else ZDC d 0 (Xm kind n (d - 0) (mI (decide (0 < d)) (G7.2.2,G7.2.1) 2))):=by
  intro _
  unfold ZQI
  rw [Zk,decide_eq_true (by omega:0 < d),QF]
  by_cases g8:G7.2.1 = 0
  ·rw [Zh (by simpa using g8),Zh (by omega),g8,if_neg (by simp),ZG (by omega),show (d:Int) - 0 = ((d - 0:Nat):Int) by omega]
   exact body 0 G7.2.2 (by omega) hr7
  ·rw [Za g8,if_pos g8]
   exact Qj (L:=[]) (st:=dst b G7.2.2) rfl rfl g8
 rw [Zw]
 by_cases g8:G7.2.1 = 0
 case neg =>
  simp_all
 rw [Za g8,Zw]
 by_cases g9:G7.1 = 1
 case neg =>
  rw [Zh (by omega),e7,if_neg (show ¬ (G7.1 = 1 ∧ G7.2.1 = 0) from fun h => g9 h.1)]
  exact no (by intro h; exact g9 h.1)
 rw [Za (by omega),e7,if_pos (show G7.1 = 1 ∧ G7.2.1 = 0 from ⟨g9,g8⟩)]
 have hfu:=Zzz k (b:=b) (by omega) hr7 (by omega)
 have hru:=KG hr7
 have hul:=Zxi (r:=G7.2.2)
 have hl7':=hr7.len
 generalize YI G7.2.2 = U at hfu hru hul ⊢
 refine ZaU hfu ?_
 simp only
 rw [Zk]
 by_cases u1:U.2.1 = 0
 case neg =>
  rw [Za u1,show mI (decide (U.1 + 1 < d)) (U.2.2,U.2.1) 2 = (U.2.2,U.2.1) from WE u1,if_pos u1]
  exact Qj (L:=[]) (st:=dst b U.2.2) rfl rfl u1
 rw [Zh (by simpa using u1),u1,show Jx.wrap (((U.1:Nat):Int) + 1) = ((U.1 + 1:Nat):Int) from by rw [ZG (by omega)]; omega]
 by_cases u2:U.1 + 1 < d
 ·rw [Zh (by omega),decide_eq_true u2,QF,if_neg (by simp),ZG (by omega),show (d:Int) - ((U.1 + 1:Nat):Int) = ((d - (U.1 + 1):Nat):Int) by omega]
  exact body (U.1 + 1) U.2.2 u2 hru
 ·rw [Za (by omega),decide_eq_false u2,YF,if_pos (show (2:Int) ≠ 0 by decide)]
  exact Qj (L:=[]) (st:=dst b U.2.2) rfl rfl (by decide)
end Go.Sh
namespace Go.Sh
open Go Go.Proofs
abbrev T92:=(Int × Int × Int × Unit) × Unit
theorem Za7 {l:List Int} (hl:Zo l = true) {i:Nat} (h:i < l.length):UD ((ZT l).data.toList.getD i 0).toNat = l[i]:=by
 obtain ⟨x,hx,hxe⟩:=QM hl h
 simp_all <;> omega
theorem ZOH (k:Nat) (V:ByteArray) (c:Nat) (D:List Bool) (hD:D.length ≤ 60):∀ (d m i:Nat),i + d = D.length → d < m →
  Zg (fun L4 => ZaR k L4) m ((i:Int),K8 D,((Qk (D.take i):Nat):Int),(c:Int),V) = ZaR k (fun _ => none) (((D.length:Nat):Int),K8 D,((Qk D:Nat):Int),(c:Int),V):=by
 intro d
 induction d with
 | zero =>
  intro m i hi hm
  obtain ⟨m,rfl⟩:=Zm hm
  rw [Zc]
  obtain rfl:i = D.length:=by omega
  rw [Ea]
  simp only [ZaR]
  have q:¬ (((D.length:Nat):Int) < UD D.length):=by simp only [HZ]; omega
  rw [Qt,Zh q,Zh q]
 | succ d ih =>
  intro m i hi hm
  obtain ⟨m,rfl⟩:=Zm (show 0 < m by omega)
  rw [Zc]
  have hi2:i < D.length:=by omega
  conv => lhs; simp only [ZaR]
  rw [Qt,Za (by simp only [HZ]; omega),Za (by simp only [HZ]; omega),Ui,ZcR,Xf (by rw [H4]; exact hi2),List.getElem_map,Zut]
  have hlt:=WL (D.take i)
  have h60:2 ^ (D.take i).length ≤ 2 ^ 60:=Hf (by omega) (by rw [Jz]; omega)
  have e3:Qk (D.take (i + 1)) = 2 * Qk (D.take i) + D[i].toNat:=by
   rw [List.take_add_one,List.getElem?_eq_getElem hi2]
   show Qk (D.take i ++ [D[i]]) = _
   rw [Xa]
   show _ * 2 ^ 1 + (2 * 0 + D[i].toNat) = _
   omega
  have e1:Jx.wrap (Jx.wrap ((2:Int) * ((Qk (D.take i):Nat):Int)) + ((D[i].toNat:Nat):Int)) = ((Qk (D.take (i + 1)):Nat):Int):=by
   have hb1:D[i].toNat < 2:=by cases D[i] <;> decide
   rw [e3]
   generalize Qk (D.take i) = v at hlt
   rw [ZG (n:=(2:Int) * (v:Int)) (by omega),ZG (by omega)]
   omega
  rw [e1,show Jx.wrap ((i:Int) + 1) = ((i + 1:Nat):Int) from by rw [ZG (by omega)]; omega]
  grind
def ZGR (v c n:Nat):Nat × Nat × Int:=if v < 2 ^ Y8 (c - 1) then (0,0,2) else if n < c then (0,0,10) else (v,c,0)
def ZtN (x:Nat × Nat × Int):T92:=(((x.1:Int),(x.2.1:Int),x.2.2,()),())
theorem Zw4 {c:Nat} (h1:1 ≤ c) (h:c ≤ 7):Y8 c ≤ 40:=by
 have:∀ c:Fin 8,1 ≤ c.val → Y8 c.val ≤ 40:=by decide
 exact this ⟨c,by omega⟩ h1
theorem ZjM (k:Nat) (hk:100 < k) {V:ByteArray} (hV:V.size < 4294967296) {c:Nat} (hc:2 ≤ c ∧ c ≤ 7) (D:List Bool) (hD:D.length ≤ 60):ZdF k ((0:Int),K8 D,(0:Int),(c:Int),V) = some (ZtN (ZGR (Qk D) c V.size)):=by
 refine (ZOH k V c D hD D.length k 0 (by omega) (by omega)).trans ?_
 simp only [ZaR]
 rw [Qt,Zh (by simp only [HZ]; omega)]
 have e1:Jx.wrap ((c:Int) - 1) = ((c - 1:Nat):Int):=by rw [ZG (by omega)]; omega
 rw [e1]
 refine (Zd (Zqb k (c - 1) (by omega)) _).trans ?_
 simp only
 have hr:=Zw4 (c:=c - 1) (by omega) (by omega)
 have hP:2 ^ Y8 (c - 1) ≤ 2 ^ 40:=Hf (by omega) hr
 have e2:Jx.wrap ((1:Int) * (2:Int) ^ min (((Y8 (c - 1):Nat):Int)).toNat 64) = ((2 ^ Y8 (c - 1):Nat):Int):=by
  rw [Ui,Ht (by omega),Int.one_mul,QV]
  generalize 2 ^ Y8 (c - 1) = Q at hP ⊢
  rw [ZG (by omega)]
 rw [Za (by omega),e2]
 unfold ZGR
 by_cases h1:Qk D < 2 ^ Y8 (c - 1)
 ·rw [Za (by exact_mod_cast h1),if_pos h1]
  rfl
 ·rw [Zh (by intro h; exact h1 (by exact_mod_cast h)),if_neg h1]
  by_cases h2:V.size < c
  ·rw [Za (by simp only [HZ]; omega),if_pos h2]
   rfl
  ·rw [Zh (by simp only [HZ]; omega),if_neg h2]
   rfl
theorem ZIC (k:Nat) (hk:200 < k) {V:ByteArray} (hV:V.size < 4294967296) {c:Nat} (hc:2 ≤ c ∧ c ≤ 7):∀ (d m:Nat) (D:List Bool),D.length + d = Y8 c → d < m →
  Zg (fun L3 => Zfk k (ZdF k) L3) m (K8 D,(c:Int),V) = some (ZtN (ZGR (Qk (D ++ Jd d true)) c V.size)):=by
 have hr:=Zw4 (c:=c) (by omega) (by omega)
 intro d
 induction d with
 | zero =>
  intro m D hD hm
  obtain ⟨m,rfl⟩:=Zm hm
  rw [Zc]
  simp only [Zfk]
  refine (Zd (Zqb k c (by omega)) _).trans ?_
  simp only
  rw [Qt,Zh (by simp only [HZ]; omega)]
  simp only [List.replicate_zero,Vf]
  exact ZjM k (by omega) hV hc D (by omega)
 | succ d ih =>
  intro m D hD hm
  obtain ⟨m,rfl⟩:=Zm (show 0 < m by omega)
  rw [Zc]
  simp only [Zfk]
  refine (Zd (Zqb k c (by omega)) _).trans ?_
  simp only
  rw [Qt,Za (by simp only [HZ]; omega),Za (by omega),show UR #[49] = K8 [true] from rfl,Qn]
  grind
theorem Zl7:∀ n:Nat,Qk (Jd n true) = 2 ^ n - 1
 | 0 => rfl
 | n + 1 => by
  rw [EF,Xa,Zl7 n]
  show (2 ^ n - 1) * 2 ^ 1 + 1 = _
  grind
theorem Zxx:∀ (n a g:Nat),cgL n [] a g = some (a * 64 ^ n,g * 64 ^ n + (64 ^ n - 1))
 | 0,a,g => by simp [cgL]
 | n + 1,a,g => by
  unfold cgL
  rw [Zxx n]
  have:0 < 64 ^ n:=Nat.pow_pos (by omega)
  rw [Nat.pow_succ,Hw,Nat.mul_comm 64,Nat.add_mul,Hw,Nat.mul_comm 64]
  congr 2
  omega
def ZYH (c n:Nat) (x:Option (Nat × Nat)):Nat × Nat × Int:=match x with
 | none => (0,0,2)
 | some (_,g) => ZGR g c n
theorem ZSI (k:Nat) (hk:300 < k) {l:List Int} (hl:Zo l = true) (hn:l.length < 4294967296) {c:Nat} (hc:2 ≤ c ∧ c ≤ 7):∀ (d m i:Nat) (D:List Bool),i + d = c → 1 ≤ i → i ≤ l.length → d < m → D.length + 6 * d = Y8 c →
  Zg (fun L2 => Zfj k (Zwx k) (ZdF k) L2) m ((i:Int),(c:Int),ZT l,K8 D) = some (ZtN (ZYH c l.length (cgL d (l.drop i) (Qk D) (Qk D)))):=by
 have hr:=Zw4 (c:=c) (by omega) (by omega)
 have hsz:=Qy l
 intro d
 induction d with
 | zero =>
  intro m i D hi h1 hil hm hD
  obtain ⟨m,rfl⟩:=Zm hm
  rw [Zc]
  simp only [Zfj]
  rw [Zh (by omega),hsz,Zh (by simp only [HZ]; omega)]
  refine (ZjM k (by omega) (by rw [hsz]; omega) hc D (by omega)).trans ?_
  rw [hsz]
  unfold cgL
  rfl
 | succ d ih =>
  intro m i D hi h1 hil hm hD
  obtain ⟨m,rfl⟩:=Zm (show 0 < m by omega)
  rw [Zc]
  simp only [Zfj]
  rw [Za (by omega),hsz,Zw]
  by_cases he:i = l.length
  ·rw [Za (by simp only [HZ]; omega),Za (by simp only [HZ]; omega)]
   refine (ZIC k (by omega) (by rw [hsz]; omega) hc (6 * (d + 1)) k D hD (by omega)).trans ?_
   rw [hsz,UF (by omega),Zxx,Xa,Zl7,Uq]
   rw [show 2 ^ (6 * (d + 1)) = 64 ^ (d + 1) from by rw [Nat.pow_mul]]
   rfl
  ·have hi2:i < l.length:=by omega
   obtain ⟨x,hx,hxe⟩:=QM hl hi2
   rw [Zh (by simp only [HZ]; omega),Za (by simp only [HZ]; omega),Ui,Za7 hl hi2,hxe,ZG (n:=(x:Int)) (by omega),Zk]
   have e1:((x:Nat):Int).fdiv 64 = ((x / 64:Nat):Int):=by grind
   have e2:((x:Nat):Int).tmod 64 = ((x % 64:Nat):Int):=by rfl
   rw [e1,e2,Uk hi2,hxe]
   unfold cgL
   rw [Ui]
   by_cases h2:x / 64 = 2
   ·rw [Zh (by omega),if_pos h2,Za (by simp only [HZ]; omega)]
    refine (Zd (Yn k (x % 64) 6 (by omega) (by omega) (by omega)) _).trans ?_
    simp only
    rw [Za (by rw [Qt,Qt,Zi]; omega),Qn,show Jx.wrap ((i:Int) + 1) = ((i + 1:Nat):Int) from by rw [ZG (by omega)]; omega]
    have:=ih m (i + 1) (D ++ Zb (x % 64) 6) (by omega) (by omega) (by omega) (by omega) (by rw [JP,Zi]; omega)
    rw [Xa,Kc,Zi,show x % 64 % 2 ^ 6 = x % 64 from by omega] at this
    exact this
   ·rw [Za (by omega),if_neg h2]
    rfl
end Go.Sh
namespace Go.Sh
open Go Go.Proofs
def ZD2 (k:Nat) (L2:Int × Int × ByteArray × ByteArray → Option T92) (v0:Int) (v1:ByteArray):Option T92 :=
 bif v0 == (0:Int) then bif decide ((0:Int) ≤ (0:Int) ∧ (0:Int) < UD v1.size) then some ((Jx.wrap (UD (v1.data.toList.getD (0:Nat) 0).toNat),1,0,()),()) else none else bif v0 == (1:Int) then some ((0,0,2,()),()) else bif v0 == (8:Int) then some ((0,0,2,()),()) else
  bif decide ((0:Int) ≤ (0:Int) ∧ (0:Int) < UD v1.size) then (W7 k (Jx.wrap (UD (v1.data.toList.getD (0:Nat) 0).toNat),8,())).bind fun y => bif decide (((0:Int) ≤ if (8:Int) < Jx.wrap (v0 + (1:Int)) then (8:Int) else Jx.wrap (v0 + (1:Int))) ∧ (if (8:Int) < Jx.wrap (v0 + (1:Int)) then (8:Int) else Jx.wrap (v0 + (1:Int))) ≤ UD (UQ y.1) ∧ UD (UQ y.1) ≤ UD (UQ y.1)) then L2 ((1:Int),v0,v1,ByteArray.extract y.1 (if (8:Int) < Jx.wrap (v0 + (1:Int)) then (8:Int) else Jx.wrap (v0 + (1:Int))).toNat (UD (UQ y.1)).toNat) else none else none
def ZXv (x:Int) (v0:Int):Bool:=Jx.wrap (UD (UH (64:Nat) (x.fdiv ((2:Int) ^ min (Jx.wrap ((7:Int) - v0)).toNat (64:Nat))) &&& UH (64:Nat) (1:Int)).toNat) == (1:Int)
theorem Zfi (k:Nat) (L2:Int × Int × ByteArray × ByteArray → Option T92) (L1:Int × ByteArray → Option T92) (v0:Int) (v1:ByteArray):ZjO k L2 L1 (v0,v1) =
  bif decide (v0 < (8:Int)) then bif decide ((0:Int) ≤ (0:Int) ∧ (0:Int) < UD v1.size) then bif decide ((0:Int) ≤ Jx.wrap ((7:Int) - v0)) then bif ZXv (Jx.wrap (UD (v1.data.toList.getD (0:Nat) 0).toNat)) v0 then L1 (Jx.wrap (v0 + (1:Int)),v1) else ZD2 k L2 v0 v1 else none else none else ZD2 k L2 v0 v1:=rfl
theorem ZxH:∀ (x:Fin 256) (j:Fin 8),j.val ≤ QZ x.val → ZXv (x.val:Int) (j.val:Int) = decide (j.val < QZ x.val):=by decide +kernel
theorem ZDn:∀ x:Fin 256,2 ≤ QZ x.val → QZ x.val ≤ 7 → (Zb x.val 8).drop (QZ x.val + 1) = Zb (x.val % 2 ^ (7 - QZ x.val)) (7 - QZ x.val):=by decide +kernel
theorem ZI9 {c:Nat} (h:2 ≤ c ∧ c ≤ 7):7 - c + 6 * (c - 1) = Y8 c:=by
 obtain ⟨r2,r3,r4,r5,r6,r7⟩:=ZPO
 grind
theorem ZJS:∀ (n:Nat) (xs:List Int) (a a' g g':Nat),cgL n xs a g = some (a',g') → n ≤ xs.length → a = g → a' = g'
 | 0,xs,a,a',g,g',h,_,he => by
  unfold cgL at h
  grind
 | n + 1,[],a,a',g,g',h,hl,_ => by simp at hl
 | n + 1,x :: xs,a,a',g,g',h,hl,he => by
  unfold cgL at h
  split at h
  ·exact ZJS n xs _ _ _ _ h (by simpa using hl) (by rw [he])
  ·cases h
theorem ZOL (k:Nat) (hk:400 < k) {l:List Int} (hl:Zo l = true) (hn:l.length < 4294967296):ZaQ k (ZT l,()) = some (ZtN (ZaS l)):=by
 show ZjN k (Zww k) _ = _
 simp only [ZjN]
 match l,hl,hn with
 | [],_,_ =>
  have e:((ZT []).toList == (UR #[]).toList) = true:=by rw [Zox]; exact decide_eq_true rfl
  rw [e]
  rfl
 | x0 :: xs,hl,hn =>
  have hsz:=Qy (x0 :: xs)
  have hne:((ZT (x0 :: xs)).toList == (UR #[]).toList) = false:=by
   simp_all
  rw [hne]
  simp only [cond_false]
  obtain ⟨x,hx,hxe⟩:=QM hl (i:=0) (by simp)
  simp only [Eh] at hxe
  subst hxe
  have hg:=Za7 hl (i:=0) (by simp)
  simp only [Eh] at hg
  have hlen:(ZT ((x:Int) :: xs)).size = xs.length + 1:=by rw [hsz]; rfl
  have hones:=ZF9 x
  -- QZ are counted
  have run:∀ (d j m:Nat),j + d = QZ x → d < m → Zg (fun L1 => ZjO k (Zqp k) L1) m ((j:Int),ZT ((x:Int) :: xs)) = ZD2 k (Zqp k) ((QZ x:Nat):Int) (ZT ((x:Int) :: xs)):=by
   intro d
   induction d with
   | zero =>
    intro j m hj hm
    obtain ⟨m,rfl⟩:=Zm hm
    obtain rfl:j = QZ x:=by omega
    rw [Zc,Zfi]
    by_cases h8:QZ x < 8
    ·have ht:=ZxH ⟨x,hx⟩ ⟨QZ x,h8⟩ (Jj _)
     rw [Za (by omega),hlen,Za (by simp only [HZ]; omega),ZG (n:=(7:Int) - ((QZ x:Nat):Int)) (by omega),Za (by omega),hg,ZG (n:=(x:Int)) (by omega)]
     simp_all
    ·rw [Zh (by omega)]
   | succ d ih =>
    intro j m hj hm
    obtain ⟨m,rfl⟩:=Zm (show 0 < m by omega)
    rw [Zc,Zfi]
    have ht:=ZxH ⟨x,hx⟩ ⟨j,by omega⟩ (show j ≤ QZ x by omega)
    simp only at ht
    rw [Za (by omega),hlen,Za (by simp only [HZ]; omega),ZG (n:=(7:Int) - (j:Int)) (by omega),Za (by omega),hg,ZG (n:=(x:Int)) (by omega),ht,decide_eq_true (by omega)]
    simp only [cond_true]
    rw [show Jx.wrap ((j:Int) + 1) = ((j + 1:Nat):Int) from by rw [ZG (by omega)]; omega]
    exact ih (j + 1) m (by omega) (by omega)
  refine (run (QZ x) 0 k (by omega) (by omega)).trans ?_
  unfold ZD2 ZaS
  simp only [Ui]
  rw [Zw]
  by_cases h0:QZ x = 0
  ·rw [Za (by omega),if_pos h0,hlen,Za (by simp only [HZ]; omega),hg,ZG (n:=(x:Int)) (by omega)]
   rfl
  rw [Zh (by omega),if_neg h0,Zw]
  by_cases h1:QZ x = 1
  ·rw [Za (by omega),if_pos h1]
   rfl
  rw [Zh (by omega),if_neg h1,Zw]
  by_cases h7:7 < QZ x
  ·rw [Za (by omega),if_pos h7]
   rfl
  rw [Zh (by omega),if_neg h7,hlen,Za (by simp only [HZ]; omega),hg,ZG (n:=(x:Int)) (by omega)]
  refine (Zd (Yn k x 8 (by omega) (by omega) (by omega)) _).trans ?_
  simp only
  have hc:2 ≤ QZ x ∧ QZ x ≤ 7:=by omega
  have e1:(if (8:Int) < Jx.wrap (((QZ x:Nat):Int) + 1) then (8:Int) else Jx.wrap (((QZ x:Nat):Int) + 1)) = ((QZ x + 1:Nat):Int):=by
   rw [ZG (by omega),if_neg (by omega)]
   rfl
  have hfirst:=ZDn ⟨x,hx⟩ hc.1 hc.2
  simp only at hfirst
  have e2:(K8 (Zb x 8)).extract (QZ x + 1) 8 = K8 (Zb (x % 2 ^ (7 - QZ x)) (7 - QZ x)):=by
   rw [ZAu,El (by rw [Zi]; omega),hfirst]
  rw [e1,Qt,Zi,Za (by simp only [HZ]; omega),Ui,show (UD 8).toNat = 8 from rfl,e2]
  have hroom:=ZI9 hc
  have htwo:=ZSI k (by omega) hl (by omega) hc (QZ x - 1) k 1 (Zb (x % 2 ^ (7 - QZ x)) (7 - QZ x)) (by omega) (by omega) (by simp) (by omega) (by rw [Zi]; exact hroom)
  refine htwo.trans ?_
  rw [Kc,Nat.mod_mod,List.drop_one,List.tail_cons]
  refine congrArg (fun z => some (ZtN z)) ?_
  generalize QZ x = c at hc h0 h1 h7 ⊢
  generalize hq:cgL (c - 1) xs (x % 2 ^ (7 - c)) (x % 2 ^ (7 - c)) = q
  match q,hq with
  | none,_ => rfl
  | some (a,g),hq =>
   show ZGR g c (xs.length + 1) = (if g < 2 ^ Y8 (c - 1) then (0,0,2) else if xs.length + 1 < c then (0,0,10) else (a,c,0))
   unfold ZGR
   by_cases g1:g < 2 ^ Y8 (c - 1)
   ·rw [if_pos g1,if_pos g1]
   ·rw [if_neg g1,if_neg g1]
    by_cases g2:xs.length + 1 < c
    ·rw [if_pos g2,if_pos g2]
    ·rw [if_neg g2,if_neg g2,ZJS (c - 1) xs _ _ _ _ hq (by omega) rfl]
end Go.Sh
namespace Go.Sh
open Go Go.Proofs
theorem Q4 (b:List Int) (i j:Nat):(ZT b).extract i j = ZT ((b.take j).drop i):=by
 apply Zej
 rw [ByteArray.data_extract]
 simp [List.extract]
 rw [List.drop_take,← List.map_drop,← List.map_take]
theorem ZFW {s:IS} (h:s.2 ≠ 0):hd2 s = s:=by unfold hd2; rw [ZbN h]; exact WE h
theorem ZSM {s:IS} (h:s.2 ≠ 0):(hd3 s).2 = s:=by unfold hd3; rw [ZbN h]; exact WE h
theorem Zn9 {s:IS} (h:s.2 ≠ 0):hd4 s = s:=by unfold hd4; rw [ZbN h]; exact WE h
theorem ZSN {c:Int} {s:IS} (h:s.2 ≠ 0):(hd5 c s).2 = s:=by unfold hd5; rw [ZbN h]; exact WE h
theorem ZSP {kind:Nat} {s:IS} (h:s.2 ≠ 0):hd6 kind s = (0,s):=if_neg h
theorem ZPA {b:List Int} {s:IS} (h:s.2 ≠ 0):ZhO b s = (0,s):=if_pos h
theorem Zki {of:List Int → Nat} {b:List Int} {w:Nat} {s:IS} (h:s.2 ≠ 0):ZdU of b w s = s:=by unfold ZdU; rw [ZbN h]; exact if_pos h
theorem ZqE {b:List Int} {kind mode num:Nat} {s:IS} (h:s.2 ≠ 0):(Zlz b kind mode num s).2.2.2 = s:=by unfold Zlz; rw [ZSP h]; exact Zki h
theorem Zfx {b:List Int} {kind mode:Nat} {s:IS} (h:s.2 ≠ 0):(ZrY b kind mode s).2.2.2 = s:=by unfold ZrY; rw [ZPA h]; exact ZqE h
theorem ZqD {c:Int} {b:List Int} {kind:Nat} {s:IS} (h:s.2 ≠ 0):(ZzP c b kind s).2.2.2 = s:=by
 unfold ZzP
 have e:=ZSN (c:=c) h
 rw [e,Zn9 h]
 exact Zfx h
theorem ZqC {c:Int} {b:List Int} {kind:Nat} {s:IS} (h:s.2 ≠ 0):(ZjW c b kind s).2.2.2 = s:=by
 unfold ZjW
 rw [Zn9 h]
 exact ZqD h
theorem ZdH {w:Nat} {r:List Bool} (h:(Zn w r).2.1 = 0):w ≤ r.length ∧ (Zn w r).2.2 = r.drop w:=by
 unfold Zn at h ⊢
 grind
theorem Zrr:∀ (n:Nat) (r:List Bool),8 * n ≤ r.length → Zkd n (r,0) = (r.drop (8 * n),0)
 | 0,r,_ => rfl
 | n + 1,r,h => by
  unfold Zkd
  rw [gI0]
  have e:Zn 8 r = (Qk (r.take 8),0,r.drop 8):=if_pos (by omega)
  rw [e]
  have:=Zrr n (r.drop 8) (by rw [Vh]; omega)
  simp_all <;> omega
theorem ZIK {l:List Int} (h:(ZaS l).2.2 = 0):(ZaS l).2.1 ≤ l.length:=by
 unfold ZaS at h ⊢
 grind
abbrev T52:=(Int × (Int × List (List Int) × Unit) × Int × Int × Unit) × (ByteArray × Int × Unit) × Unit
def Zbc (e:Int) (st:ByteArray × Int × Unit):Option T52:=some ((0,((0:Int),[],()),0,e,()),(st.1,st.2.1,()),())
def ZWJ (k:Nat) (a5:ByteArray) (kind mode num:Int) (st:ByteArray × Int × Unit):Option T52 :=
 (ZN k (st,Jx.wrap ((8:Int) * Jx.wrap (kind - (5:Int))),())).bind fun y => bif y.1.2.1 != (0:Int) then Zbc y.1.2.1 y.2.1 else bif decide ((512:Int) < Jx.wrap (y.1.1 + (1:Int))) then Zbc 1 y.2.1 else
 (ZN k ((y.2.1.1,y.2.1.2.1,()),8,())).bind fun y_5 => bif y_5.1.2.1 != (0:Int) then Zbc y_5.1.2.1 y_5.2.1 else
 bif decide ((0:Int) ≤ (0:Int) ∧ (0:Int) ≤ Jx.wrap (UJ y.2.1.2.1 (8:Int)) ∧ Jx.wrap (UJ y.2.1.2.1 (8:Int)) ≤ UD a5.size) then
 (ZaO k (a5.extract (0:Nat) (Jx.wrap (UJ y.2.1.2.1 (8:Int))).toNat,())).bind fun y_6 => bif y_5.1.1 != y_6.1 then Zbc 16 y_5.2.1 else
 bif mode == (1:Int) then some ((0,(num,[],()),Jx.wrap (y.1.1 + (1:Int)),0,()),(y_5.2.1.1,y_5.2.1.2.1,()),()) else some ((mode,(num,[],()),Jx.wrap (y.1.1 + (1:Int)),0,()),(y_5.2.1.1,y_5.2.1.2.1,()),())
 else none
def ZPj (k:Nat) (a5:ByteArray) (kind mode:Int) (st:ByteArray × Int × Unit):Option T52 :=
 (ZN k ((st.1,st.2.1,()),4,())).bind fun y_3 => bif y_3.1.2.1 != (0:Int) then Zbc y_3.1.2.1 y_3.2.1 else bif y_3.1.1 != (0:Int) then Zbc 2 y_3.2.1 else
 bif decide ((0:Int) ≤ (4:Int) ∧ (4:Int) ≤ UD a5.size ∧ UD a5.size ≤ UD a5.size) then
 (ZaQ k (a5.extract (4:Nat) (UD a5.size).toNat,())).bind fun y_4 => bif y_4.1.2.2.1 != (0:Int) then Zbc y_4.1.2.2.1 y_3.2.1 else bif decide ((2147483647:Int) < y_4.1.1) then Zbc 2 y_3.2.1 else
 ZWJ k a5 kind mode y_4.1.1 (y_3.2.1.1,Jx.wrap (y_3.2.1.2.1 + Jx.wrap ((8:Int) * y_4.1.2.1)),())
 else none
def ZPi (k:Nat) (c:Int) (a5:ByteArray) (kind mode:Int) (st:ByteArray × Int × Unit):Option T52 :=
 bif c == (2:Int) then bif mode != (1:Int) then bif decide (mode < (8:Int)) then Zbc 2 st else bif decide ((10:Int) < mode) then Zbc 2 st else ZPj k a5 kind mode st else ZPj k a5 kind mode st else ZPj k a5 kind mode st
def ZSQ (k:Nat) (c:Int) (a5:ByteArray) (kind:Int) (st:ByteArray × Int × Unit):Option T52 :=
 (ZN k ((st.1,st.2.1,()),4,())).bind fun y_1 => bif y_1.1.2.1 != (0:Int) then Zbc y_1.1.2.1 y_1.2.1 else bif y_1.1.1 != (0:Int) then Zbc 2 y_1.2.1 else
 (ZN k ((y_1.2.1.1,y_1.2.1.2.1,()),4,())).bind fun y_2 => bif y_2.1.2.1 != (0:Int) then Zbc y_2.1.2.1 y_2.2.1 else
 bif c == (1:Int) then bif y_2.1.1 != (0:Int) then Zbc 2 y_2.2.1 else ZPi k c a5 kind y_2.1.1 y_2.2.1 else ZPi k c a5 kind y_2.1.1 y_2.2.1
theorem ZIy (k:Nat) (c d r:Int) (T:ByteArray) (p:Int) (a5:ByteArray):Zts k ((c,d,r,()),(T,p,()),a5,()) =
  (ZN k ((T,p,()),15,())).bind fun y => bif y.1.2.1 != (0:Int) then Zbc y.1.2.1 y.2.1 else bif y.1.1 != (32764:Int) then Zbc 11 y.2.1 else
  (ZN k ((y.2.1.1,y.2.1.2.1,()),1,())).bind fun y => bif y.1.2.1 != (0:Int) then Zbc y.1.2.1 y.2.1 else bif y.1.1 != (0:Int) then Zbc 2 y.2.1 else
  (ZN k ((y.2.1.1,y.2.1.2.1,()),4,())).bind fun y => bif y.1.2.1 != (0:Int) then Zbc y.1.2.1 y.2.1 else
  bif y.1.1 != (6:Int) then bif y.1.1 != (7:Int) then Zbc 2 y.2.1 else ZSQ k c a5 y.1.1 y.2.1 else ZSQ k c a5 y.1.1 y.2.1:=rfl
def XC (o:Option T52) (b:List Int) (h:HdT):Prop :=
 (h.2.2.2.2 ≠ 0 → ∃ st:ByteArray × Int × Unit,o = some ((0,((0:Int),[],()),0,h.2.2.2.2,()),st,())) ∧
 (h.2.2.2.2 = 0 → o = some (((if h.1 = 1 then 0 else (h.1:Int)),((h.2.1:Int),[],()),(h.2.2.1:Int),0,()),dst b h.2.2.2.1,()))
theorem QK {o:Option T52} {b:List Int} {h:HdT} {e:Int} {st:ByteArray × Int × Unit} {r:List Bool} (ho:o = Zbc e st) (hh:h.2.2.2 = (r,e)) (he:e ≠ 0):XC o b h :=
 ⟨fun _ => ⟨(st.1,st.2.1,()),by rw [ho,hh]; rfl⟩,fun h0 => absurd (by rw [hh] at h0; exact h0) he⟩
theorem Xc {α:Type} {o:Option α} {a:α} {K:α → Option T52} {b:List Int} {x:HdT} (h:o = some a) (hK:XC (K a) b x):XC (o.bind K) b x:=by
 rw [Zd h]
 exact hK
theorem ZIQ (k:Nat) {b:List Int} (hb:Zo b = true) (hn:b.length < 268435456) (hk:b.length + 1000 < k) {r:List Bool} (hr:Zf b r) {kind mode num:Nat} (hkind:kind = 6 ∨ kind = 7) :
  XC (ZWJ k (ZT b) kind mode num (dst b r)) b (Zlz b kind mode num (r,0)):=by
 unfold ZWJ Zlz hd6
 have ew:Jx.wrap ((8:Int) * Jx.wrap ((kind:Int) - (5:Int))) = ((8 * (kind - 5):Nat):Int):=by rcases hkind with rfl | rfl <;> rfl
 have hw16:8 * (kind - 5) ≤ 16:=by omega
 rw [ew]
 generalize 8 * (kind - 5) = w at hw16
 have hf:=Qw k (b:=b) (by omega) hr (w:=w) (by omega) (by omega)
 have hr1:=ZD hr w
 have hl1:=Q3 w r
 have h16:2 ^ w ≤ 2 ^ 16:=Hf (by omega) hw16
 rw [if_pos rfl,gI0]
 generalize Zn w r = G at hf hr1 hl1 ⊢
 refine Xc hf ?_
 simp only
 rw [Zk]
 by_cases g1:G.2.1 = 0
 case neg =>
  rw [Za g1,show mI (decide (G.1 + 1 ≤ 512)) (G.2.2,G.2.1) 1 = (G.2.2,G.2.1) from WE g1]
  exact QK (r:=G.2.2) rfl (Zki g1) g1
 rw [Zh (by simpa using g1),g1,ZG (n:=((G.1:Nat):Int) + 1) (by omega)]
 by_cases g2:G.1 + 1 ≤ 512
 case neg =>
  rw [Za (by omega),decide_eq_false g2,YF]
  exact QK (r:=G.2.2) rfl (Zki (of:=ZoN) (b:=b) (w:=8) (s:=(G.2.2,1)) (show (1:Int) ≠ 0 by decide)) (by decide)
 rw [Zh (by omega),decide_eq_true g2,QF]
 have hf8:=Qw k (b:=b) (by omega) hr1 (w:=8) (by omega) (by omega)
 have hl8:=hr1.len
 have hpos:Zu b G.2.2 ≤ 8 * b.length:=by unfold Zu; omega
 have eS:ZdU ZoN b 8 (G.2.2,0) = if (Zn 8 G.2.2).2.1 ≠ 0 then ((Zn 8 G.2.2).2.2,(Zn 8 G.2.2).2.1) else mI ((Zn 8 G.2.2).1 == ZoN (b.take (Zu b G.2.2 / 8))) ((Zn 8 G.2.2).2.2,(Zn 8 G.2.2).2.1) 16:=by unfold ZdU; rw [gI0]
 rw [eS]
 generalize Zn 8 G.2.2 = H at hf8 ⊢
 refine Xc hf8 ?_
 simp only
 rw [Zk]
 by_cases g3:H.2.1 = 0
 case neg =>
  rw [Za g3,if_pos g3]
  exact QK (r:=H.2.2) rfl rfl g3
 rw [Zh (by simpa using g3),if_neg (by simpa using g3),g3]
 have e1:(((Zu b G.2.2:Nat):Int)).tdiv 8 = ((Zu b G.2.2 / 8:Nat):Int):=by rfl
 rw [e1,ZG (n:=((Zu b G.2.2 / 8:Nat):Int)) (by omega),Qy,Za (by simp only [HZ]; omega),Ui,Q4,U5]
 refine Xc (ZM9 k (Xn hb _) (by rw [Jz]; omega) (by rw [Jz]; omega)) ?_
 simp only
 rw [Zk]
 by_cases g4:H.1 = ZoN (b.take (Zu b G.2.2 / 8))
 case neg =>
  rw [Za (by omega),show (H.1 == ZoN (b.take (Zu b G.2.2 / 8))) = false by simpa using g4,YF]
  exact QK (r:=H.2.2) rfl rfl (by decide)
 rw [Zh (by omega),show (H.1 == ZoN (b.take (Zu b G.2.2 / 8))) = true by simpa using g4,QF,Zw]
 refine ⟨fun h => absurd rfl h,fun _ => ?_⟩
 grind
theorem ZIP (k:Nat) {b:List Int} (hb:Zo b = true) (hn:b.length < 268435456) (hk:b.length + 1000 < k) {r:List Bool} (hr:Zf b r) (hp:Zu b r = 28) {kind mode:Nat} (hkind:kind = 6 ∨ kind = 7) :
  XC (ZPj k (ZT b) kind mode (dst b r)) b (ZrY b kind mode (hd4 (r,0))):=by
 unfold ZPj
 have hf:=Qw k (b:=b) (by omega) hr (w:=4) (by omega) (by omega)
 have hr1:=ZD hr 4
 have hok:=ZdH (w:=4) (r:=r)
 have e4:hd4 (r,0) = mI ((Zn 4 r).1 == 0) ((Zn 4 r).2.2,(Zn 4 r).2.1) 2:=by unfold hd4; rw [gI0]
 rw [e4]
 generalize Zn 4 r = G at hf hr1 hok ⊢
 refine Xc hf ?_
 simp only
 rw [Zk]
 by_cases g1:G.2.1 = 0
 case neg =>
  rw [Za g1,show mI (G.1 == 0) (G.2.2,G.2.1) 2 = (G.2.2,G.2.1) from WE g1]
  exact QK (r:=G.2.2) rfl (Zfx g1) g1
 obtain ⟨hw,hd⟩:=hok g1
 have hl:=hr.len
 have hp32:Zu b G.2.2 = 32:=by rw [hd,QX hr hw,hp]
 have hl1:=hr1.len
 have hlen:G.2.2.length + 32 = 8 * b.length:=by unfold Zu at hp32; omega
 rw [Zh (by simpa using g1),g1,Zk]
 by_cases g2:G.1 = 0
 case neg =>
  rw [Za (by omega),show (G.1 == 0) = false by simpa using g2,YF]
  exact QK (r:=G.2.2) rfl (Zfx (s:=(G.2.2,2)) (show (2:Int) ≠ 0 by decide)) (by decide)
 rw [Zh (by omega),show (G.1 == 0) = true by simpa using g2,QF]
 rw [Qy,Za (by simp only [HZ]; omega),show (UD b.length).toNat = b.length from rfl,Q4,Ea]
 refine Xc (ZOL k (by omega) (ZW hb 4) (by rw [Vh]; omega)) ?_
 have eN:ZhO b (G.2.2,0) = ((ZaS (b.drop 4)).1,mI (decide ((ZaS (b.drop 4)).1 ≤ 2147483647)) (Zkd (ZaS (b.drop 4)).2.1 (G.2.2,(ZaS (b.drop 4)).2.2)) 2):=by
  unfold ZhO
  simp_all
 have hfit:=ZIK (l:=b.drop 4)
 unfold ZrY
 rw [eN]
 unfold ZtN
 rw [Vh] at hfit
 generalize ZaS (b.drop 4) = C at hfit ⊢
 simp only
 rw [Zk]
 by_cases g3:C.2.2 = 0
 case neg =>
  rw [Za g3]
  have hsk:∀ n,Zkd n (G.2.2,C.2.2) = (G.2.2,C.2.2):=by
   intro n
   induction n with
   | zero => rfl
   | succ n ih =>
    unfold Zkd
    rw [ZbN g3]
    exact ih
  rw [hsk,show mI (decide (C.1 ≤ 2147483647)) (G.2.2,C.2.2) 2 = (G.2.2,C.2.2) from WE g3]
  exact QK (r:=G.2.2) rfl (ZqE (s:=(G.2.2,C.2.2)) g3) g3
 have hfit:=hfit g3
 rw [Zh (by simpa using g3),g3,Zrr _ _ (by omega)]
 by_cases g4:C.1 ≤ 2147483647
 case neg =>
  rw [Za (by omega),decide_eq_false g4,YF]
  exact QK (r:=G.2.2.drop (8 * C.2.1)) rfl (ZqE (s:=(G.2.2.drop (8 * C.2.1),2)) (show (2:Int) ≠ 0 by decide)) (by decide)
 rw [Zh (by omega),decide_eq_true g4,QF]
 have e1:Jx.wrap (((Zu b G.2.2:Nat):Int) + Jx.wrap ((8:Int) * ((C.2.1:Nat):Int))) = ((Zu b (G.2.2.drop (8 * C.2.1)):Nat):Int):=by
  rw [QX hr1 (by omega),ZG (n:=(8:Int) * ((C.2.1:Nat):Int)) (by omega),ZG (by omega)]
  omega
 rw [e1]
 exact ZIQ k hb hn hk (hr1.drop _) hkind
theorem ZtC (k:Nat) {b:List Int} (hb:Zo b = true) (hn:b.length < 268435456) (hk:b.length + 1000 < k) {r:List Bool} (hr:Zf b r) (hp:Zu b r = 20) {kind:Nat} (hkind:kind = 6 ∨ kind = 7) {c:Int} (hc:c = 1 ∨ c = 2) :
  XC (ZSQ k c (ZT b) kind (dst b r)) b (ZjW c b kind (r,0)):=by
 unfold ZSQ ZjW
 have hf:=Qw k (b:=b) (by omega) hr (w:=4) (by omega) (by omega)
 have hr1:=ZD hr 4
 have hok:=ZdH (w:=4) (r:=r)
 have e4:hd4 (r,0) = mI ((Zn 4 r).1 == 0) ((Zn 4 r).2.2,(Zn 4 r).2.1) 2:=by unfold hd4; rw [gI0]
 rw [e4]
 generalize Zn 4 r = G at hf hr1 hok ⊢
 refine Xc hf ?_
 simp only
 rw [Zk]
 by_cases g1:G.2.1 = 0
 case neg =>
  rw [Za g1,show mI (G.1 == 0) (G.2.2,G.2.1) 2 = (G.2.2,G.2.1) from WE g1]
  exact QK (r:=G.2.2) rfl (ZqD (s:=(G.2.2,G.2.1)) g1) g1
 obtain ⟨hw,hd⟩:=hok g1
 have hp24:Zu b G.2.2 = 24:=by rw [hd,QX hr hw,hp]
 rw [Zh (by simpa using g1),g1,Zk]
 by_cases g2:G.1 = 0
 case neg =>
  rw [Za (by omega),show (G.1 == 0) = false by simpa using g2,YF]
  exact QK (r:=G.2.2) rfl (ZqD (s:=(G.2.2,2)) (show (2:Int) ≠ 0 by decide)) (by decide)
 rw [Zh (by omega),show (G.1 == 0) = true by simpa using g2,QF]
 have hf2:=Qw k (b:=b) (by omega) hr1 (w:=4) (by omega) (by omega)
 have hr2:=ZD hr1 4
 have hok2:=ZdH (w:=4) (r:=G.2.2)
 have hl2:=Q3 4 G.2.2
 have e5:hd5 c (G.2.2,0) = ((Zn 4 G.2.2).1,mI (KT c (Zn 4 G.2.2).1) ((Zn 4 G.2.2).2.2,(Zn 4 G.2.2).2.1) 2):=by unfold hd5; rw [gI0]
 unfold ZzP
 rw [e5]
 generalize Zn 4 G.2.2 = H at hf2 hr2 hok2 hl2 ⊢
 refine Xc hf2 ?_
 simp only
 rw [Zk]
 by_cases g3:H.2.1 = 0
 case neg =>
  rw [Za g3,show mI (KT c H.1) (H.2.2,H.2.1) 2 = (H.2.2,H.2.1) from WE g3,Zn9 (s:=(H.2.2,H.2.1)) g3]
  exact QK (r:=H.2.2) rfl (Zfx (s:=(H.2.2,H.2.1)) g3) g3
 obtain ⟨hw2,hd2⟩:=hok2 g3
 have hp28:Zu b H.2.2 = 28:=by rw [hd2,QX hr1 hw2,hp24]
 rw [Zh (by simpa using g3),g3]
 have no:XC (Zbc 2 (dst b H.2.2)) b (ZrY b kind H.1 (hd4 (H.2.2,2))):=by
  rw [Zn9 (s:=(H.2.2,2)) (show (2:Int) ≠ 0 by decide)]
  exact QK (r:=H.2.2) rfl (Zfx (s:=(H.2.2,2)) (show (2:Int) ≠ 0 by decide)) (by decide)
 have yes:=ZIP k hb hn hk hr2 hp28 (mode:=H.1) hkind
 unfold ZPi KT
 rw [Zw,Zw,Zk,Zk]
 rcases hc with rfl | rfl
 ·rw [Za rfl,if_pos rfl]
  by_cases g4:H.1 = 0
  ·rw [Zh (by omega),Zh (by omega),show (H.1 == 0) = true by simpa using g4,QF]
   exact yes
  ·rw [Za (by omega),show (H.1 == 0) = false by simpa using g4,YF]
   exact no
 ·rw [Zh (by omega),Za rfl,if_neg (by omega)]
  by_cases g4:H.1 = 1
  ·rw [Zh (by omega),show ((H.1 == 1) || (decide (8 ≤ H.1) && decide (H.1 ≤ 10))) = true by simp [g4],QF]
   exact yes
  ·rw [Za (by omega)]
   by_cases g5:H.1 < 8
   ·rw [Za (by omega),show ((H.1 == 1) || (decide (8 ≤ H.1) && decide (H.1 ≤ 10))) = false by simp [g4]; omega,YF]
    exact no
   ·rw [Zh (by omega)]
    by_cases g6:10 < H.1
    ·rw [Za (by omega),show ((H.1 == 1) || (decide (8 ≤ H.1) && decide (H.1 ≤ 10))) = false by simp [g4]; omega,YF]
     exact no
    ·rw [Zh (by omega),show ((H.1 == 1) || (decide (8 ≤ H.1) && decide (H.1 ≤ 10))) = true by simp [g4]; omega,QF]
     exact yes
theorem ZNx (k:Nat) {b:List Int} (hb:Zo b = true) (hn:b.length < 268435456) (hk:b.length + 1000 < k) {c:Int} (hc:c = 1 ∨ c = 2) (d rr:Int) :
  ∀ r:List Bool,Zf b r → Zu b r = 0 → XC (Zts k ((c,d,rr,()),dst b r,ZT b,())) b (YD c b (r,0)):=by
 intro r hr hp
 rw [ZIy]
 unfold YD
 have bad:∀ s:IS,s.2 ≠ 0 → (ZjW c b (hd3 s).1 (hd3 s).2).2.2.2 = s:=by
  intro s hs
  have e:=ZSM hs
  rw [e]
  exact ZqC hs
 have hf:=Qw k (b:=b) (by omega) hr (w:=15) (by omega) (by omega)
 have hr1:=ZD hr 15
 have hok:=ZdH (w:=15) (r:=r)
 have e1:hd1 (r,0) = mI ((Zn 15 r).1 == 32764) ((Zn 15 r).2.2,(Zn 15 r).2.1) 11:=by unfold hd1; rw [gI0]
 rw [e1]
 generalize Zn 15 r = G at hf hr1 hok ⊢
 refine Xc hf ?_
 simp only
 rw [Zk]
 by_cases g1:G.2.1 = 0
 case neg =>
  rw [Za g1,show mI (G.1 == 32764) (G.2.2,G.2.1) 11 = (G.2.2,G.2.1) from WE g1,ZFW (s:=(G.2.2,G.2.1)) g1]
  exact QK (r:=G.2.2) rfl (bad (G.2.2,G.2.1) g1) g1
 obtain ⟨hw,hd⟩:=hok g1
 have hp1:Zu b G.2.2 = 15:=by rw [hd,QX hr hw,hp]
 rw [Zh (by simpa using g1),g1,Zk]
 by_cases g2:G.1 = 32764
 case neg =>
  rw [Za (by omega),show (G.1 == 32764) = false by simpa using g2,YF,ZFW (s:=(G.2.2,11)) (show (11:Int) ≠ 0 by decide)]
  exact QK (r:=G.2.2) rfl (bad (G.2.2,11) (show (11:Int) ≠ 0 by decide)) (by decide)
 rw [Zh (by omega),show (G.1 == 32764) = true by simpa using g2,QF]
 have hf2:=Qw k (b:=b) (by omega) hr1 (w:=1) (by omega) (by omega)
 have hr2:=ZD hr1 1
 have hok2:=ZdH (w:=1) (r:=G.2.2)
 have e2:hd2 (G.2.2,0) = mI ((Zn 1 G.2.2).1 == 0) ((Zn 1 G.2.2).2.2,(Zn 1 G.2.2).2.1) 2:=by unfold hd2; rw [gI0]
 rw [e2]
 generalize Zn 1 G.2.2 = H at hf2 hr2 hok2 ⊢
 refine Xc hf2 ?_
 simp only
 rw [Zk]
 by_cases g3:H.2.1 = 0
 case neg =>
  rw [Za g3,show mI (H.1 == 0) (H.2.2,H.2.1) 2 = (H.2.2,H.2.1) from WE g3]
  exact QK (r:=H.2.2) rfl (bad (H.2.2,H.2.1) g3) g3
 obtain ⟨hw2,hd2'⟩:=hok2 g3
 have hp2:Zu b H.2.2 = 16:=by rw [hd2',QX hr1 hw2,hp1]
 rw [Zh (by simpa using g3),g3,Zk]
 by_cases g4:H.1 = 0
 case neg =>
  rw [Za (by omega),show (H.1 == 0) = false by simpa using g4,YF]
  exact QK (r:=H.2.2) rfl (bad (H.2.2,2) (show (2:Int) ≠ 0 by decide)) (by decide)
 rw [Zh (by omega),show (H.1 == 0) = true by simpa using g4,QF]
 have hf3:=Qw k (b:=b) (by omega) hr2 (w:=4) (by omega) (by omega)
 have hr3:=ZD hr2 4
 have hok3:=ZdH (w:=4) (r:=H.2.2)
 have e3:hd3 (H.2.2,0) = ((Zn 4 H.2.2).1,mI ((Zn 4 H.2.2).1 == 6 || (Zn 4 H.2.2).1 == 7) ((Zn 4 H.2.2).2.2,(Zn 4 H.2.2).2.1) 2):=by unfold hd3; rw [gI0]
 rw [e3]
 generalize Zn 4 H.2.2 = J at hf3 hr3 hok3 ⊢
 refine Xc hf3 ?_
 simp only
 rw [Zk]
 by_cases g5:J.2.1 = 0
 case neg =>
  rw [Za g5,show mI (J.1 == 6 || J.1 == 7) (J.2.2,J.2.1) 2 = (J.2.2,J.2.1) from WE g5]
  exact QK (r:=J.2.2) rfl (ZqC (s:=(J.2.2,J.2.1)) g5) g5
 obtain ⟨hw3,hd3'⟩:=hok3 g5
 have hp3:Zu b J.2.2 = 20:=by rw [hd3',QX hr2 hw3,hp2]
 rw [Zh (by simpa using g5),g5,Zk,Zk]
 by_cases g6:J.1 = 6
 ·rw [Zh (by omega),show (J.1 == 6 || J.1 == 7) = true by simp [g6],QF]
  exact ZtC k hb hn hk hr3 hp3 (.inl g6) hc
 ·rw [Za (by omega)]
  by_cases g7:J.1 = 7
  ·rw [Zh (by omega),show (J.1 == 6 || J.1 == 7) = true by simp [g7],QF]
   exact ZtC k hb hn hk hr3 hp3 (.inr g7) hc
  ·rw [Za (by omega),show (J.1 == 6 || J.1 == 7) = false by simp [g6,g7],YF]
   exact QK (r:=J.2.2) rfl (ZqC (s:=(J.2.2,2)) (show (2:Int) ≠ 0 by decide)) (by decide)
theorem ZNz (k:Nat) {b:List Int} (hb:Zo b = true) (hn:b.length < 268435456) (hk:b.length + 1000 < k) {c:Int} (hc:c = 1 ∨ c = 2) (d rr:Int) :
  XC (Zts k ((c,d,rr,()),dst b (ZA b),ZT b,())) b (YD c b (ZA b,0)) :=
 ZNx k hb hn hk hc d rr (ZA b) (Zka b) (by unfold Zu; rw [Qc]; omega)
end Go.Sh
namespace Go.Sh
open Go Go.Proofs
theorem ZQa:Yg.read 4845873199050653696 = .number false 4503599627370496 1:=by decide
theorem ZPs:Yg.read 14069245235905429504 = .number true 4503599627370496 1:=by decide
theorem ZtM {x y:Nat} {n:Int} {s:Bool} (hx:KR x n) (hy:Yg.read y = .number s 4503599627370496 1):Je.format.order x y = some (compare n (if s then -18014398509481984 else 18014398509481984)):=by
 obtain ⟨t,m,i,h1,h2,_,h3⟩:=hx.num
 show (Yg.read x).order (Yg.read y) = _
 rw [h1,hy]
 unfold Ieee.Datum.order
 simp only
 have hmin:min i 1 = i:=by omega
 rw [hmin,h3 i (Int.le_refl _)]
 have e:Ieee.signed s 4503599627370496 (1 - i).toNat = (if s then -18014398509481984 else 18014398509481984) * 2 ^ (-1 - i).toNat:=by
  unfold Ieee.signed
  rw [Nat.shiftLeft_eq,show (1 - i).toNat = 2 + (-1 - i).toNat by omega,Nat.pow_add,← Hw,Int.natCast_mul,Int.natCast_pow]
  grind
 rw [e,Zmh (Int.pow_pos (by omega))]
theorem ZzC (k:Nat) {x:Nat} {v:Int} (hx:KR x (2 * v)) (hv:Wy v):ZFU k (x,()) = some ((v,true,()),()):=by
 show Zqq k _ = _
 simp only [Zqq]
 unfold Wy at hv
 rw [Zq1 hx hx]
 simp only [cond_false]
 rw [ZtM hx ZQa,ZtM hx ZPs]
 have c1:(some (compare (2 * v) (if false = true then -18014398509481984 else 18014398509481984)) == some Ordering.gt) = false:=by
  grind
 have c2:(some (compare (2 * v) (if true = true then -18014398509481984 else 18014398509481984)) == some Ordering.lt) = false:=by
  grind
 rw [c1,c2]
 simp only [cond_false]
 refine (Zd (K4 hx (by omega)) _).trans ?_
 rw [ZgJ (ZfG v (by omega)) hx]
 simp_all
theorem ZsB (k:Nat) (x:Int):ZuN k (x,()) = some (Wf x,()):=by
 show ZkX k _ = _
 simp only [ZkX]
 unfold Wf
 grind
theorem ZzB (k:Nat) {L R:List Int} (h:L.length = R.length) (hn:L.length ≤ 8192) (hk:10000 < k):ZFR k ((L,R,()),()) = some (if (L.zip R).all (fun x => Wf x.1 && Wf x.2) = true then 0 else 12,()):=by
 show ZjQ k (ZwE k) _ = _
 simp only [ZjQ]
 have hzl:(L.zip R).length = L.length:=by rw [Ej]; omega
 rw [Zh (by simp only [HZ]; omega)]
 have:=QN (R:=Int × Unit) (step:=fun L1 => Zfn k L1) (fun i => (UD i,L,R)) (L.zip R) (fun x => Wf x.1 && Wf x.2) (some (12,())) (some (0,()))
  (fun L1 => by grind [Zfn])
  (fun L1 i hi => by
   simp only [Zfn]
   have hi1:i < L.length:=by omega
   have hi2:i < R.length:=by omega
   rw [Za (KN hi1),Za (Xd hi1),ZL hi1]
   refine (Zd (ZsB k _) _).trans ?_
   rw [H6]
   simp only
   cases Wf L[i] with
   | false => rfl
   | true =>
    simp only [HC,cond_false,UC]
    rw [Za (Xd hi2),ZL hi2]
    refine (Zd (ZsB k _) _).trans ?_
    simp only
    rw [Qa hi1 (by omega)]
    cases Wf R[i] <;> rfl) k (by omega)
 refine U4 this ?_
 grind
theorem ZO0 (k:Nat) {L R:List Int} (h:L.length = R.length) (hn:L.length ≤ 8192) (hk:10000 < k):ZOW k ((L,R,()),()) = some (ZfC L R,()):=by
 show ZjR k (ZwH k) _ = _
 simp only [ZjR]
 have hzl:(L.zip R).length = L.length:=by rw [Ej]; omega
 have:=ZF (A:=List (Nat × Nat)) (R:=List (Nat × Nat) × Unit) (step:=fun L1 => Zfo k L1) (fun i a => (UD i,L,R,a)) (L.zip R)
  (fun l' a => some (a ++ l'.map (fun x => (Je.nearest x.1,Je.nearest x.2)),())) (fun i a => a.length = i)
  (fun L1 a _ => by grind [Zfo])
  (fun L1 i hi a ha hL => by
   simp only [Zfo]
   have hi1:i < L.length:=by omega
   have hi2:i < R.length:=by omega
   rw [Za (KN hi1),Za (Xd hi1),Za (Xd hi2),ZL hi1,ZL hi2,Za (by grind),Qa hi1 (by omega)]
   simp_all)
  k 0 [] rfl (by omega) (Hu _)
 rw [U5] at this
 exact this
theorem ZPw {n:Int}:(Jx.wrap (n.tmod 2 + 2)).tmod 2 = n % 2:=by
 have h1:=ZAr n
 have h3:=Int.tmod_add_mul_tdiv n 2
 rw [ZG (by omega),Int.tmod_eq_emod_of_nonneg (by omega)]
 omega
theorem ZOU (k:Nat) {m:Int} (hm:ZqK m):ZOS k (m,()) = some (true,()):=by
 rcases hm with rfl | rfl | rfl | rfl <;> rfl
theorem ZNK (k:Nat) {A B:List Int} {m:Int} (hm:ZqK m) (hn:A.length ≤ 1000) (hk:10000 < k) (hA:∀ x ∈ A,QG x) (hB:∀ x ∈ B,QG x) :
  Zzl k (A,B,m,()) = some (((Qr m A B).1,(Qr m A B).2,()),()):=by
 show ZjC k (Zv9 k) _ = _
 simp only [ZjC]
 refine (Zd (ZOU k hm) _).trans ?_
 simp only [HC,cond_false]
 unfold Qr
 rw [Zk]
 by_cases hl:A.length = B.length
 case neg => grind
 rw [Zh (by simp only [HZ]; omega),if_neg (by simpa using hl),Zh (by simp only [HZ]; omega)]
 have hzl:(A.zip B).length = A.length:=by rw [Ej]; omega
 have hla:(KP m A B).length = A.length:=by unfold KP; rw [H4,hzl]
 have hlb:(KQ m A B).length = A.length:=by unfold KQ; rw [H4,hzl]
 have:=ZF (A:=List Int × List Int) (R:=(List (Nat × Nat) × Int × Unit) × Unit) (step:=fun L1 => Yo k L1) (fun i a => (UD i,A,B,m,a.1,a.2)) (A.zip B)
  (fun l' a => Yo k (fun _ => none) (UD A.length,A,B,m,a.1 ++ l'.map (fun x => tgL m x.1 x.2),a.2 ++ l'.map (fun x => tgR m x.1 x.2))) (fun i a => a.1.length = i ∧ a.2.length = i)
  (fun L1 a _ => by
   grind [Yo])
  (fun L1 i hi a ha hL1 => by
   have hi1:i < A.length:=by omega
   have hi2:i < B.length:=by omega
   have b1:=hA A[i] (Ha hi1)
   have b2:=hB B[i] (Ha hi2)
   have hb1:=b1
   have hb2:=b2
   unfold QG at hb1 hb2
   have key:Yo k L1 (UD i,A,B,m,a.1,a.2) = L1 (UD (i + 1),A,B,m,a.1 ++ [tgL m A[i] B[i]],a.2 ++ [tgR m A[i] B[i]]):=by
    simp only [Yo]
    rw [Za (KN hi1),Za (Xd hi1),Za (Xd hi2),ZL hi1,ZL hi2,Zh (by omega),Zh (by omega),Zh (by omega),Zh (by omega)]
    rw [ZPw,ZG (n:=A[i] - B[i]) (by omega),ZG (n:=A[i] + B[i]) (by omega),ZG (n:=(2:Int) * A[i]) (by omega),ZG (n:=(2:Int) * A[i] + B[i] % 2) (by omega),ZG (n:=(2:Int) * A[i] + B[i] % 2 + B[i]) (by omega),ZG (n:=(2:Int) * A[i] + B[i] % 2 - B[i]) (by omega)]
    have c1:∀ v:Int,a.1.length + [v].length < 2147483648:=fun v => by grind
    have c2:∀ v:Int,a.2.length + [v].length < 2147483648:=fun v => by simp_all
    simp only [decide_eq_true (c1 _),decide_eq_true (c2 _),cond_true,Qa hi1 (show A.length ≤ 4294967296 by omega)]
    rw [Zzs k (n:=(2:Int) * A[i] + B[i] % 2 + B[i]) (by omega),Zzs k (n:=(2:Int) * A[i] + B[i] % 2 - B[i]) (by omega)]
    simp only [VJ,decide_eq_true (c1 _),decide_eq_true (c2 _),cond_true]
    unfold tgL tgR
    grind
   simp_all)
  k 0 ([],[]) ⟨rfl,rfl⟩ (by omega) (Hu _)
 rw [U5] at this
 refine U4 this ?_
 simp only [VS]
 show Yo k (fun _ => none) (UD A.length,A,B,m,KP m A B,KQ m A B) = _
 simp only [Yo]
 rw [Zh (ZaZ _)]
 refine (Zd (ZzB k (by rw [hla,hlb]) (by omega) hk) _).trans ?_
 simp only
 by_cases hf:((KP m A B).zip (KQ m A B)).all (fun x => Wf x.1 && Wf x.2) = true
 ·rw [if_pos hf,if_pos hf,Zk,Zh (by simp)]
  exact Zd (ZO0 k (by rw [hla,hlb]) (by omega) hk) _
 ·rw [if_neg hf,if_neg hf]
  rfl
theorem ZNO (k:Nat) {p:List (Nat × Nat)} {L R:List Int} (hp:PP p L R) (hk:10000 < k) (hn:p.length ≤ 8192):Zzm k (p,()) = some (((L,R,()),0,()),()):=by
 show ZjD k (Zwb k) _ = _
 simp only [ZjD]
 rw [Zh (by simp only [HZ]; omega)]
 have h1:=hp.hl
 have h2:=hp.hr
 have h24:∀ i (h:i < p.length),Wy (L[i]'(hp.hl ▸ h)) ∧ Wy (R[i]'(hp.hr ▸ h)):=fun i h => (hp.at_ i h).2.2
 suffices H:∀ (d i m:Nat),i + d = p.length → d < m → Zg (fun L1 => Ze8 k L1) m ((i:Int),p,L.take i,R.take i) = some (((L,R,()),0,()),()) from H p.length 0 k (by omega) (by omega)
 intro d
 induction d with
 | zero =>
  intro i m hi hm
  obtain ⟨m,rfl⟩:=Zm hm
  rw [Zc]
  simp only [Ze8]
  rw [Zh (by simp only [HZ]; omega),El (by omega),El (by omega)]
  refine (Zd (ZzB k (by omega) (by omega) hk) _).trans ?_
  have hall:(L.zip R).all (fun x => Wf x.1 && Wf x.2) = true:=by
   refine Ve.2 fun x hx => ?_
   obtain ⟨i,hi,rfl⟩:=Eu hx
   have hip:i < p.length:=by rw [Ej] at hi; omega
   obtain ⟨a,b⟩:=h24 i hip
   rw [H6]
   unfold Wy at a b
   unfold Wf
   simp_all
  simp only
  rw [if_pos hall]
  rfl
 | succ d ih =>
  intro i m hi hm
  obtain ⟨m,rfl⟩:=Zm (show 0 < m by omega)
  rw [Zc]
  simp only [Ze8]
  have hi2:i < p.length:=by omega
  obtain ⟨v1,v2,s1,s2⟩:=hp.at_ i hi2
  rw [Za (by simp only [HZ]; omega),Za (by simp only [HZ]; omega),Ui,Xf hi2]
  refine (Zd (ZzC k v1 s1) _).trans ?_
  rw [Za (by simp only [HZ]; omega)]
  refine (Zd (ZzC k v2 s2) _).trans ?_
  simp only [HC,cond_false]
  rw [Za (by simp; omega),Za (by simp; omega),show Jx.wrap ((i:Int) + 1) = ((i + 1:Nat):Int) from by rw [ZG (by omega)]; omega]
  have e1:L.take i ++ [L[i]'(by omega)] = L.take (i + 1):=by simp_all
  have e2:R.take i ++ [R[i]'(by omega)] = R.take (i + 1):=by simp_all
  grind
end Go.Sh
namespace Go.Sh
open Go Go.Proofs
def Zik (e:Int):Option ZJy:=some ((((0:Int),[],()),0,e,()),())
def ZD5 (k:Nat) (c d r num:Int) (out:List (List Int)) (p:Int):Option ZJy :=
 (Zo9 k ((c,d,r,()),(num,out,()),())).bind fun y_9 => bif y_9.1 != (0:Int) then Zik y_9.1 else some (((num,out,()),Jx.wrap (Jx.wrap (UJ p (8:Int)) + (2:Int)),0,()),())
def ZD4 (k:Nat) (c d r:Int) (a3:ByteArray) (mode num:Int) (A B:List Int) (st:ByteArray × Int × Unit):Option ZJy :=
 (Zzk k ((st.1,st.2.1,()),())).bind fun y_4 => bif y_4.1 != (0:Int) then Zik y_4.1 else (ZN k ((y_4.2.1.1,y_4.2.1.2.1,()),16,())).bind fun y_5 => bif y_5.1.2.1 != (0:Int) then Zik y_5.1.2.1 else
 bif decide ((0:Int) ≤ (0:Int) ∧ (0:Int) ≤ Jx.wrap (UJ y_4.2.1.2.1 (8:Int)) ∧ Jx.wrap (UJ y_4.2.1.2.1 (8:Int)) ≤ UD a3.size) then
  (Zza k (a3.extract (0:Nat) (Jx.wrap (UJ y_4.2.1.2.1 (8:Int))).toNat,())).bind fun y_6 => bif y_5.1.1 != y_6.1 then Zik 16 else
  bif c == (2:Int) then (Zzl k (A,B,mode,())).bind fun y_7 => bif y_7.1.2.1 != (0:Int) then Zik y_7.1.2.1 else (Zzm k (y_7.1.1,())).bind fun y_8 => ZD5 k c d r num [y_8.1.1.1,y_8.1.1.2.1] y_4.2.1.2.1
  else ZD5 k c d r num [A] y_4.2.1.2.1
 else none
theorem ZIk (k:Nat) (c d r:Int) (a3:ByteArray):ZED k ((c,d,r,()),a3,()) =
  (Zmn k ((c,d,r,()),())).bind fun y => bif !y.1 then Zik 2 else bif decide (a3.size < (1099511627776:Nat)) then
  (ZFl k (UT (fun b => UD b.toNat) a3.data.toList,())).bind fun y => (Zts k ((c,d,r,()),(y.1,0,()),a3,())).bind fun y => bif y.1.2.2.2.1 != (0:Int) then Zik y.1.2.2.2.1 else
  (ZFo k (d,y.1.1,())).bind fun y_1 => (Zp5 k ((y.2.1.1,y.2.1.2.1,()),y.1.2.2.1,y_1.1.1,())).bind fun y_2 => bif y_2.1.2.1 != (0:Int) then Zik y_2.1.2.1 else
  bif c == (2:Int) then (Zp5 k ((y_2.2.1.1,y_2.2.1.2.1,()),y.1.2.2.1,y_1.1.2.1,())).bind fun y_3 => bif y_3.1.2.1 != (0:Int) then Zik y_3.1.2.1 else ZD4 k c d r a3 y.1.1 y.1.2.1.1 y_2.1.1 y_3.1.1 y_3.2.1
  else ZD4 k c d r a3 y.1.1 y.1.2.1.1 y_2.1.1 [] y_2.2.1
  else none:=rfl
theorem ZJh {b:List Int} (hb:Zo b = true):UT (fun b => UD b.toNat) (ZT b).data.toList = b:=by
 have e:(ZT b).data.toList = b.map (fun n => UX n.toNat):=by simp
 rw [e,List.map_map]
 conv => rhs; rw [← List.map_id b]
 apply List.map_congr_left
 intro x hx
 have:=Ve.1 hb x hx
 simp only [Jh,decide_eq_true_eq] at this
 obtain ⟨v,rfl⟩:=Int.eq_ofNat_of_zero_le this.1
 show (((UX ((v:Int)).toNat).toNat:Nat):Int) = _
 rw [Ui,UInt8.toNat_ofNat']
 show ((v % 2 ^ 8:Nat):Int) = (v:Int)
 omega
theorem ZoU (k:Nat) (hk:1000 < k) (c d r num:Int) {out:List (List Int)} (hs:Sm out) {pos p:Nat} (hp:pos < 1000000000) (he:pos / 8 = p / 8 + 2) :
  ZD5 k c d r num out ((p:Nat):Int) = some (Zd5 (Zr7 c d r num pos out)):=by
 unfold ZD5 Zr7
 refine (Zd (ZKQ k hk c d r num hs) _).trans ?_
 simp only
 rw [Zk]
 by_cases h:KH c d r num out = 0
 ·rw [Zh (by simpa using h),if_neg (by simpa using h)]
  have e1:(((p:Nat):Int)).tdiv 8 = ((p / 8:Nat):Int):=by rw [ED (by omega)]; exact (EC _ _).symm
  rw [e1,ZG (n:=((p / 8:Nat):Int)) (by omega),ZG (by omega),he]
  rfl
 ·rw [Za h,if_pos h]
  rfl
theorem ZA1 (k:Nat) (hk:20000 < k) (c d r:Int) (hc:c = 1 ∨ c = 2) {b:List Int} (hb:Zo b = true) (hn:b.length ≤ 1000) {mode num:Nat} (hm:KT c mode = true) {A B:List Int} {chs:List (List Int)} (h0:chs.getD 0 [] = A) (h1:c = 2 → chs.getD 1 [] = B) (h2:c = 1 → chs = [A])
  (hA:A.length ≤ 520 ∧ ∀ x ∈ A,QG x) (hB:B.length ≤ 520 ∧ ∀ x ∈ B,QG x) {rr:List Bool} (hr:Zf b rr) :
  ZD4 k c d r (ZT b) (if mode = 1 then 0 else (mode:Int)) (num:Int) A B (dst b rr) = some (Zd5 (ZC4 c d r b mode num chs rr)):=by
 unfold ZD4 ZC4
 have hmd:c = 2 → ZqK (if mode = 1 then 0 else (mode:Int)):=by
  intro hc2
  unfold KT at hm
  rw [if_neg (by omega)] at hm
  simp only [V5,Jh,decide_eq_true_eq,beq_iff_eq] at hm
  unfold ZqK
  split <;> omega
 generalize (if mode = 1 then 0 else (mode:Int)) = m at hmd ⊢
 refine (Zd (ZNE k (b:=b) (by omega) hr (by omega)) _).trans ?_
 have hr1:=Zxo hr
 generalize alS rr = a at hr1 ⊢
 simp only
 rw [Zk]
 by_cases g1:a.1 = 0
 case neg =>
  rw [Za g1,Zki (s:=(a.2,a.1)) g1,if_pos g1]
  rfl
 rw [Zh (by simpa using g1),g1]
 have hf:=Qw k (b:=b) (by omega) hr1 (w:=16) (by omega) (by omega)
 have hok:=ZdH (w:=16) (r:=a.2)
 have hl1:=hr1.len
 have hpos:Zu b a.2 ≤ 8 * b.length:=by unfold Zu; omega
 have eS:ZdU Km b 16 (a.2,0) = if (Zn 16 a.2).2.1 ≠ 0 then ((Zn 16 a.2).2.2,(Zn 16 a.2).2.1) else mI ((Zn 16 a.2).1 == Km (b.take (Zu b a.2 / 8))) ((Zn 16 a.2).2.2,(Zn 16 a.2).2.1) 16:=by unfold ZdU; rw [gI0]
 rw [eS]
 generalize Zn 16 a.2 = H at hf hok ⊢
 refine (Zd hf _).trans ?_
 simp only
 rw [Zk]
 by_cases g2:H.2.1 = 0
 case neg =>
  rw [Za g2,if_pos (show H.2.1 ≠ 0 from g2)]
  show _ = some (Zd5 (if H.2.1 ≠ 0 then _ else _))
  rw [if_pos g2]
  rfl
 obtain ⟨hw,hd⟩:=hok g2
 have hp2:Zu b H.2.2 = Zu b a.2 + 16:=by rw [hd,QX hr1 hw]
 have hne:¬ (H.2.1 ≠ 0):=by simpa using g2
 rw [Zh (by simpa using g2),if_neg hne,g2]
 have e1:(((Zu b a.2:Nat):Int)).tdiv 8 = ((Zu b a.2 / 8:Nat):Int):=by rw [ED (by omega)]; exact (EC _ _).symm
 rw [e1,ZG (n:=((Zu b a.2 / 8:Nat):Int)) (by omega),Qy,Za (by simp only [HZ]; omega),Ui,Q4,U5]
 refine (Zd (ZNh k (Xn hb _) (by rw [Jz]; omega) (by rw [Jz]; omega)) _).trans ?_
 rw [Zk]
 by_cases g3:H.1 = Km (b.take (Zu b a.2 / 8))
 case neg =>
  rw [Za (by omega),show (H.1 == Km (b.take (Zu b a.2 / 8))) = false by simpa using g3,YF]
  rfl
 rw [Zh (by omega),show (H.1 == Km (b.take (Zu b a.2 / 8))) = true by simpa using g3,QF]
 show _ = some (Zd5 (if ((0:Int) ≠ 0) then _ else if 1 < c then ZmF c d r num (Zu b H.2.2) m (chs.getD 0 []) (chs.getD 1 []) else Zr7 c d r num (Zu b H.2.2) chs))
 rw [if_neg (by simp),Zw]
 rcases hc with rfl | rfl
 ·rw [Zh (by omega),if_neg (by omega),h2 rfl]
  refine ZoU k (by omega) _ d r num ⟨by simp,fun l hl => ?_⟩ (by omega) (by omega)
  rw [Vx.1 hl]
  omega
 ·rw [Za rfl,if_pos (by omega),h0,h1 rfl]
  unfold ZmF
  have hmm:=hmd rfl
  refine (Zd (ZNK k hmm (by omega) (by omega) hA.2 hB.2) _).trans ?_
  simp only
  rw [Zk]
  by_cases g4:(Qr m A B).2 = 0
  case neg =>
   rw [Za g4,if_pos g4]
   rfl
  rw [Zh (by simpa using g4),if_neg (by simpa using g4)]
  have hj:A.length = B.length ∧ ((KP m A B).zip (KQ m A B)).all (fun x => Wf x.1 && Wf x.2) = true ∧ (Qr m A B).1 = ZfC (KP m A B) (KQ m A B):=by
   unfold Qr at g4 ⊢
   split at g4
   ·simp at g4
   ·rename_i hl
    split at g4
    ·rename_i ha
     rw [if_neg hl,if_pos ha]
     exact ⟨by simpa using hl,ha,rfl⟩
    ·simp at g4
  obtain ⟨hl,hall,hj⟩:=hj
  have hzl:(A.zip B).length = A.length:=by rw [Ej]; omega
  have hla:(KP m A B).length = A.length:=by unfold KP; rw [H4,hzl]
  have hlb:(KQ m A B).length = A.length:=by unfold KQ; rw [H4,hzl]
  have hfar:∀ i (h:i < A.length),Wf ((KP m A B)[i]'(by omega)) = true ∧ Wf ((KQ m A B)[i]'(by omega)) = true:=by
   intro i h
   have hmem:=Ha (l:=(KP m A B).zip (KQ m A B)) (n:=i) (by rw [Ej]; omega)
   have:=Ve.1 hall _ hmem
   rw [H6,Jh] at this
   exact this
  have hpp:=ZzW (L:=KP m A B) (R:=KQ m A B) (by omega)
   (fun x hx => by
    obtain ⟨i,hi,rfl⟩:=Eu hx
    exact Zbu (hfar i (by omega)).1)
   (fun x hx => by
    obtain ⟨i,hi,rfl⟩:=Eu hx
    exact Zbu (hfar i (by omega)).2)
  rw [hj]
  refine (Zd (ZNO k hpp (by omega) (by rw [hpp.hl]; omega)) _).trans ?_
  simp only
  refine ZoU k (by omega) _ d r num ⟨by simp,fun l hl' => ?_⟩ (by omega) (by omega)
  simp only [VL,Vx,List.not_mem_nil,or_false] at hl'
  rcases hl' with rfl | rfl <;> omega
end Go.Sh
namespace Go.Sh
open Go Go.Proofs
theorem Zxz {n:Nat} {d:Int} {ds:List Int} {r:List Bool} {acc:List (List Int)} (h:(ZZ n d.toNat r).2.1 = 0):Zhj n (d :: ds) r acc = Zhj n ds (ZZ n d.toNat r).2.2 (acc ++ [(ZZ n d.toNat r).1]):=if_neg (by simpa using h)
theorem Zxy {n:Nat} {d:Int} {ds:List Int} {r:List Bool} {acc:List (List Int)} (h:(ZZ n d.toNat r).2.1 ≠ 0):Zhj n (d :: ds) r acc = ([],(ZZ n d.toNat r).2.1,(ZZ n d.toNat r).2.2):=if_pos h
theorem ZmI {x:Int} {d:Nat} (hd:d ≤ 25) (h:sgn x d = true):QG x:=by
 unfold sgn at h
 unfold QG
 split at h
 ·simp only [decide_eq_true_eq] at h; omega
 ·rw [decide_eq_true_eq,QV] at h
  have:2 ^ (d - 1) ≤ 2 ^ 24:=Hf (by omega) (by omega)
  generalize 2 ^ (d - 1) = Q at h this
  omega
theorem ZLA (k:Nat) (hk:60000 < k) (c d r:Int) {b:List Int} (hb:Zo b = true) (hn:b.length ≤ 1000):ZED k ((c,d,r,()),ZT b,()) = some (Zd5 (W8 c d r b)):=by
 rw [ZIk]
 refine (Zd (Zo7 k c d r) _).trans ?_
 unfold W8
 simp only
 cases hsh:XL c d r with
 | false => rfl
 | true =>
  have hs:=of_decide_eq_true hsh
  simp only [HC,cond_false,H5,if_false]
  have hc:c = 1 ∨ c = 2:=by omega
  rw [Qy,Za (by omega),ZJh hb]
  refine (Zd (ZM8 k hb (by omega) (by omega)) _).trans ?_
  have hp:(((Zu b (ZA b):Nat):Int)) = 0:=by unfold Zu; rw [Qc]; omega
  have hhead:=ZNz k hb (by omega) (by omega) hc d r
  have ed:dst b (ZA b) = (K8 (ZA b),0,()):=by unfold dst; rw [hp]
  rw [ed] at hhead
  have hmode:=ZqF (c:=c) (b:=b) (s:=(ZA b,0))
  have hrest:=ZC9 c b (s:=(ZA b,0)) (Zka b)
  generalize YD c b (ZA b,0) = h at hhead hmode hrest ⊢
  obtain ⟨mode,num,n,s⟩:=h
  simp only at hmode hrest
  unfold Zuh
  simp only
  by_cases h0:s.2 = 0
  case neg =>
   obtain ⟨st,hst⟩:=hhead.1 h0
   refine (Zd hst _).trans ?_
   simp only
   rw [Zk,Za h0,if_pos h0]
   rfl
  have hst:=hhead.2 h0
  have hm:=hmode h0
  simp only at hst
  rw [if_neg (by simpa using h0)]
  refine (Zd hst _).trans ?_
  simp only
  rw [show ((0:Int) != 0) = false from rfl]
  simp only [cond_false]
  have hdep:WX c d (mode:Int) = if c = 1 then [d] else [if (if mode = 1 then (0:Int) else (mode:Int)) = 9 then d + 1 else d,if (if mode = 1 then (0:Int) else (mode:Int)) = 8 ∨ (if mode = 1 then (0:Int) else (mode:Int)) = 10 then d + 1 else d]:=by
   rcases hc with rfl | rfl
   ·rfl
   ·unfold KT at hm
    rw [if_neg (by omega)] at hm
    simp only [V5,Jh,decide_eq_true_eq,beq_iff_eq] at hm
    obtain rfl | rfl | rfl | rfl:mode = 1 ∨ mode = 8 ∨ mode = 9 ∨ mode = 10:=by omega
    all_goals rfl
  have hM1:c = 1 → (if mode = 1 then (0:Int) else (mode:Int)) = 0:=by
   intro h1
   unfold KT at hm
   rw [if_pos h1] at hm
   have:mode = 0:=by simpa using hm
   subst this
   rfl
  have hE:=fun (A B:List Int) (chs:List (List Int)) (h1:chs.getD 0 [] = A) (h2:c = 2 → chs.getD 1 [] = B) (h3:c = 1 → chs = [A]) (hA:A.length ≤ 520 ∧ ∀ x ∈ A,QG x) (hB:B.length ≤ 520 ∧ ∀ x ∈ B,QG x) (rr:List Bool) (hrr:Zf b rr) =>
   ZA1 k (by omega) c d r hc hb hn (mode:=mode) (num:=num) hm h1 h2 h3 hA hB hrr
  generalize (if mode = 1 then (0:Int) else (mode:Int)) = M at hdep hM1 hE ⊢
  refine (Zd (ZNg k d M (by omega)) _).trans ?_
  simp only
  have hb1:(if M = 9 then d + 1 else d) = d ∨ (if M = 9 then d + 1 else d) = d + 1:=by
   split
   ·exact .inr rfl
   ·exact .inl rfl
  have hb2:(if M = 8 ∨ M = 10 then d + 1 else d) = d ∨ (if M = 8 ∨ M = 10 then d + 1 else d) = d + 1:=by
   split
   ·exact .inr rfl
   ·exact .inl rfl
  have hd1:c = 1 → (if M = 9 then d + 1 else d) = d:=by
   intro h1
   rw [hM1 h1]
   rfl
  rw [hdep]
  generalize (if M = 9 then d + 1 else d) = d1 at hd1 hb1 ⊢
  generalize (if M = 8 ∨ M = 10 then d + 1 else d) = d2 at hb2 ⊢
  have n1:((d1.toNat:Nat):Int) = d1:=by omega
  have n2:((d2.toNat:Nat):Int) = d2:=by omega
  -- the first channel
  have hf1:=Zzj k (b:=b) (by omega) (by omega) hrest n d1.toNat
  rw [n1] at hf1
  obtain ⟨L1,st1,ho1,hz1⟩:=hf1
  have hok1:=ZfT (n:=n) (d:=d1.toNat) (r:=s.1)
  have hr1:=ZbR hrest n d1.toNat
  have hds:∃ ds,(if c = 1 then [d] else [d1,d2]) = d1 :: ds ∧ (c = 1 → ds = []) ∧ (c = 2 → ds = [d2]):=by
   rcases hc with rfl | rfl
   ·exact ⟨[],by rw [if_pos rfl,hd1 rfl],fun _ => rfl,fun h => by omega⟩
   ·exact ⟨[d2],by rw [if_neg (by omega)],fun h => by omega,fun _ => rfl⟩
  obtain ⟨ds,hds,hds1,hds2⟩:=hds
  rw [hds]
  refine (Zd ho1 _).trans ?_
  simp only
  rw [Zk]
  by_cases g1:(ZZ n d1.toNat s.1).2.1 = 0
  case neg =>
   rw [Za g1,Zxy g1,if_pos g1]
   rfl
  obtain ⟨rfl,rfl⟩:=hz1 g1
  obtain ⟨o1,o2,o3⟩:=hok1 g1
  rw [Zh (by simpa using g1),Zxz g1,VS,Zw]
  generalize ZZ n d1.toNat s.1 = X at hr1 o1 o3 ⊢
  have hA:X.1.length ≤ 520 ∧ ∀ x ∈ X.1,QG x:=⟨o1,fun x hx => ZmI o2 (o3 x hx)⟩
  rcases hc with rfl | rfl
  ·rw [Zh (by omega),hds1 rfl]
   have:Zhj n [] X.2.2 [X.1] = ([X.1],0,X.2.2):=rfl
   rw [this]
   exact hE X.1 [] [X.1] rfl (fun h => by omega) (fun _ => rfl) hA ⟨by simp,by simp⟩ X.2.2 hr1
  ·rw [Za rfl,hds2 rfl]
   have hf2:=Zzj k (b:=b) (by omega) (by omega) hr1 n d2.toNat
   rw [n2] at hf2
   obtain ⟨L2,st2,ho2,hz2⟩:=hf2
   have hok2:=ZfT (n:=n) (d:=d2.toNat) (r:=X.2.2)
   have hr2:=ZbR hr1 n d2.toNat
   refine (Zd ho2 _).trans ?_
   simp only
   rw [Zk]
   by_cases g2:(ZZ n d2.toNat X.2.2).2.1 = 0
   case neg =>
    rw [Za g2,Zxy g2,if_pos g2]
    rfl
   obtain ⟨rfl,rfl⟩:=hz2 g2
   obtain ⟨p1,p2,p3⟩:=hok2 g2
   rw [Zh (by simpa using g2),Zxz g2]
   generalize ZZ n d2.toNat X.2.2 = Y at hr2 p1 p3 ⊢
   have:Zhj n [] Y.2.2 ([X.1] ++ [Y.1]) = ([X.1,Y.1],0,Y.2.2):=rfl
   rw [this]
   exact hE X.1 Y.1 [X.1,Y.1] rfl (fun _ => rfl) (fun h => by omega) hA ⟨p1,fun x hx => ZmI p2 (p3 x hx)⟩ Y.2.2 hr2
end Go.Sh
namespace Go.Sh
open Go Go.Proofs
def qle (q:List Int):Nat:=YE ((q.take 4).map US)
def Zkj:Nat → List Int → Option (List ByteArray × List Int)
 | 0,q => some ([],q)
 | n + 1,q => if q.length < 4 ∨ 12 < qle q ∨ q.length < 4 + qle q then none
   else (Zkj n (q.drop (4 + qle q))).map fun x => (ZT ((q.drop 4).take (qle q)) :: x.1,x.2)
theorem Q5 {x:Int} {q:List Int} (h:Zo (x :: q) = true):(0 ≤ x ∧ x < 256) ∧ Zo q = true:=by
 simpa [Zo] using h
theorem Zxw {q:List Int} (h:Zo q = true):Zj (q.map US) = q:=by
 induction q with
 | nil => rfl
 | cons x q ih =>
  obtain ⟨h1,h2⟩:=Q5 h
  have:Zj (((x :: q)).map US) = UD x.toNat :: Zj (q.map US):=rfl
  grind
theorem ZDF {q:List Int} (h:Zo q = true):Wa (q.map US) = ZT q:=by
 rw [← ZgO,Zxw h]
theorem Zn8 {x:Int} {q:List Int} (h:Zo (x :: q) = true):gG 8 (ZA (x :: q),false) = (x.toNat,(ZA q,false)):=by
 obtain ⟨h1,h2⟩:=Q5 h
 rw [ZcW]
 exact ZYv (by omega) _
theorem ZO7 (e:Bool):(gG 8 (ZA [],e)).2.2 = true:=by
 unfold gG Zn
 simp [ZA]
theorem Zid (n:Nat) {s:IS2} (h:s.2 = true):(ZX n s).2.2 = true:=by
 cases hb:(ZX n s).2.2 with
 | true => rfl
 | false => rw [ZcZ n hb] at h; cases h
theorem ZfS:∀ (n:Nat) {s:IS2},s.2 = true → (WR n s).2 = true
 | 0,_,h => h
 | n + 1,s,h => ZfS n (ZzL h)
theorem Zf2:∀ (n:Nat) {q:List Int},Zo q = true → n ≤ q.length → ZX n (ZA q,false) = ((q.take n).map US,(ZA (q.drop n),false))
 | 0,q,_,_ => rfl
 | n + 1,[],_,h => by simp at h
 | n + 1,x :: q,hq,h => by
  have h1:=Zf2 n (Q5 hq).2 (by simpa using h)
  simp only [ZX,Zn8 hq,h1,EG,List.map_cons,EE]
theorem ZkA:∀ (n:Nat) {q:List Int},Zo q = true → q.length < n → (ZX n (ZA q,false)).2.2 = true
 | 0,q,_,h => by omega
 | n + 1,[],_,h => by
  simp only [ZX]
  exact Zid n (ZO7 false)
 | n + 1,x :: q,hq,h => by
  simp only [ZX,Zn8 hq]
  exact ZkA n (Q5 hq).2 (by simpa using h)
theorem Zro:∀ (n:Nat) {q:List Int},Zo q = true → n ≤ q.length → WR n (ZA q,false) = (ZA (q.drop n),false)
 | 0,q,_,_ => rfl
 | n + 1,[],_,h => by simp at h
 | n + 1,x :: q,hq,h => by
  simp only [WR,Zn8 hq,EE]
  exact Zro n (Q5 hq).2 (by simpa using h)
theorem Zrq:∀ (n:Nat) {q:List Int},Zo q = true → q.length < n → (WR n (ZA q,false)).2 = true
 | 0,q,_,h => by omega
 | n + 1,[],_,h => by
  simp only [WR]
  exact ZfS n (ZO7 false)
 | n + 1,x :: q,hq,h => by
  simp only [WR,Zn8 hq]
  exact Zrq n (Q5 hq).2 (by simpa using h)
theorem Zqv (m:Nat) {q:List Int} (hq:Zo q = true) (h:4 ≤ q.length) (hm:qle q ≤ m):QS m (ZA q,false) = (qle q,(ZA (q.drop 4),false)):=by
 unfold QS
 rw [Zf2 4 hq h]
 exact if_neg (by show ¬ m < qle q; omega)
theorem Ztz (m:Nat) {q:List Int} (hq:Zo q = true) (h:q.length < 4 ∨ m < qle q):(QS m (ZA q,false)).2.2 = true:=by
 rcases Nat.lt_or_ge q.length 4 with h1 | h1
 ·have h2:=ZkA 4 hq h1
  unfold QS
  split
  ·rfl
  ·exact h2
 ·rcases h with h | h
  ·omega
  ·unfold QS
   rw [Zf2 4 hq h1]
   have h3:m < YE ((q.take 4).map US):=h
   rw [if_pos h3]
theorem KF (n:Nat) {s:IS2} (h:s.2 = true):(KX n s).2.2 = true:=by
 cases hb:(KX n s).2.2 with
 | true => rfl
 | false => rw [Zt4 n hb] at h; cases h
theorem ZW0 {q:List Int} (h:Zo q = true):qle q < 4294967296:=by
 have h1:QA ((q.take 4).map US):=by
  intro x hx
  obtain ⟨y,hy,rfl⟩:=List.mem_map.1 hx
  have:=Ve.1 h y (List.mem_of_mem_take hy)
  simp_all
 have h2:=ZqM h1
 have h3:256 ^ ((q.take 4).map US).length ≤ 256 ^ 4:=Hf (by omega) (by simp; omega)
 unfold qle
 omega
theorem ZAm:∀ (n:Nat) {q:List Int},Zo q = true → match Zkj n q with
  | some x => KX n (ZA q,false) = (x.1,(ZA x.2,false))
  | none => (KX n (ZA q,false)).2.2 = true
 | 0,q,_ => rfl
 | n + 1,q,hq => by
  simp only [Zkj]
  by_cases h:q.length < 4 ∨ 12 < qle q ∨ q.length < 4 + qle q
  ·rw [if_pos h]
   simp only [KX]
   by_cases h1:q.length < 4 ∨ 12 < qle q
   ·exact KF n (Zid _ (Ztz 12 hq h1))
   ·rw [Zqv 12 hq (by omega) (by omega)]
    refine KF n (ZkA _ (ZW hq 4) ?_)
    grind
  ·rw [if_neg h]
   have ih:=ZAm n (ZW hq (4 + qle q))
   simp only [KX]
   rw [Zqv 12 hq (by omega) (by omega)]
   simp only
   rw [Zf2 (qle q) (ZW hq 4) (by rw [Vh]; omega)]
   simp only [JE]
   rw [ZDF (Xn (ZW hq 4) _)]
   grind
theorem ZAl:∀ (n:Nat) {q:List Int} {x:List ByteArray × List Int},Zkj n q = some x → ∃ j,j ≤ q.length ∧ x.2 = q.drop j ∧ x.1.length = n
 | 0,q,x,h => by
  simp only [Zkj,VE.injEq] at h
  subst h
  exact ⟨0,Hu _,rfl,rfl⟩
 | n + 1,q,x,h => by
  simp only [Zkj] at h
  split at h
  ·cases h
  ·rename_i h1
   obtain ⟨y,h2,rfl⟩:=V2.1 h
   obtain ⟨j,h3,h4,h5⟩:=ZAl n h2
   rw [Vh] at h3
   refine ⟨4 + qle q + j,by omega,?_,by simp [h5]⟩
   rw [h4,JE]
theorem ZDf {a b c d:Nat}:YE [a,b,c,d] = a + 256 * b + 65536 * c + 16777216 * d:=by
 simp only [YE]; omega
theorem ZpO (k:Nat) {q:List Int} (hq:Zo q = true) (h:4 ≤ q.length):K2 k (ZT q,()) = some ((qle q:Int),()):=by
 match q,h with
 | x0 :: x1 :: x2 :: x3 :: q,h =>
  obtain ⟨⟨a0,b0⟩,hq1⟩:=Q5 hq
  obtain ⟨⟨a1,b1⟩,hq2⟩:=Q5 hq1
  obtain ⟨⟨a2,b2⟩,hq3⟩:=Q5 hq2
  obtain ⟨⟨a3,b3⟩,hq4⟩:=Q5 hq3
  have g0:=Za7 hq (i:=0) (by simp)
  have g1:=Za7 hq (i:=1) (by simp)
  have g2:=Za7 hq (i:=2) (by simp)
  have g3:=Za7 hq (i:=3) (by simp)
  have hs:(ZT (x0 :: x1 :: x2 :: x3 :: q)).size = q.length + 4:=by rw [Qy]; simp
  show ZhE k _ = _
  simp only [ZhE]
  rw [hs,Za (by simp only [HZ]; omega),Za (by simp only [HZ]; omega),Za (by simp only [HZ]; omega),Za (by simp only [HZ]; omega),g0,g1,g2,g3]
  simp only [Eh,List.getElem_cons_succ]
  rw [ZG (n:=x0) (by omega),ZG (n:=x1) (by omega),ZG (n:=x2) (by omega),ZG (n:=x3) (by omega),ZG (n:=x1 * 256) (by omega),ZG (n:=x2 * 65536) (by omega),ZG (n:=x3 * 16777216) (by omega),
   ZG (n:=x0 + x1 * 256) (by omega),ZG (n:=x0 + x1 * 256 + x2 * 65536) (by omega),ZG (by omega)]
  have e:qle (x0 :: x1 :: x2 :: x3 :: q) = x0.toNat + 256 * x1.toNat + 65536 * x2.toNat + 16777216 * x3.toNat:=ZDf
  rw [e]
  congr 2
  omega
abbrev ZYU:=(List ByteArray × Int × Bool × Unit) × Unit
def Zz4 (n:Nat) (acc:List ByteArray):Option (List ByteArray × List Int) → Option ZYU
 | some x => some ((acc ++ x.1,((n - x.2.length:Nat):Int),true,()),())
 | none => some (([],0,false,()),())
theorem ZEU {k:Nat} {b:List Int} (hb:Zo b = true) (hn:b.length < 1000000) (N:Nat) (hN:N < 1000):∀ (m i fuel at_:Nat) (acc:List ByteArray),i + m = N → acc.length ≤ 1000 + i → at_ ≤ b.length → m < fuel →
  Zg (fun L1 => ZaE k L1) fuel ((i:Int),(N:Int),ZT b,(at_:Int),acc) = Zz4 b.length acc (Zkj m (b.drop at_))
 | 0,i,fuel + 1,at_,acc,h1,h2,h3,h4 => by
  rw [Zc]
  simp only [ZaE]
  rw [Zh (by omega)]
  simp only [Zkj,Zz4,Vf,Vh]
  grind
 | m + 1,i,fuel + 1,at_,acc,h1,h2,h3,h4 => by
  rw [Zc]
  simp only [ZaE]
  have hs:UD (ZT b).size = (b.length:Int):=by rw [Qy]; rfl
  rw [Za (by omega),hs,ZG (n:=(at_:Int) + 4) (by omega)]
  simp only [Zkj]
  by_cases g1:b.length < at_ + 4
  ·rw [Za (by omega),if_pos (by rw [Vh]; omega)]
   rfl
  ·have e4:(ZT b).extract ((at_:Int)).toNat ((b.length:Int)).toNat = ZT (b.drop at_):=by
    rw [Q4,Ui,Ui,Ea]
   have h4':K2 k ((ZT b).extract ((at_:Int)).toNat ((b.length:Int)).toNat,()) = some ((qle (b.drop at_):Int),()):=by
    rw [e4]; exact ZpO k (ZW hb at_) (by rw [Vh]; omega)
   have hl4:=ZW0 (ZW hb at_)
   rw [Zh (by omega),Za (by omega),h4']
   simp only [VJ]
   by_cases g2:12 < qle (b.drop at_)
   ·rw [Za (by omega),if_pos (by omega)]
    rfl
   ·rw [Zh (by omega),Za (by omega)]
    rw [ZG (n:=(at_:Int) + 4 + (qle (b.drop at_):Int)) (by omega)]
    by_cases g3:b.length < at_ + 4 + qle (b.drop at_)
    ·rw [Za (by omega),if_pos (by rw [Vh]; omega)]
     rfl
    ·rw [Zh (by omega),Za (by omega),Za (by omega)]
     rw [Za (by grind)]
     rw [if_neg (by rw [Vh]; omega)]
     have e5:(at_:Int) + 4 + (qle (b.drop at_):Int) = ((at_ + 4 + qle (b.drop at_):Nat):Int):=by omega
     have e6:(at_:Int) + 4 = ((at_ + 4:Nat):Int):=by omega
     rw [e5,e6,Ui,Ui,Q4,Zkm (by omega)]
     refine U4 (ZEU hb hn N hN m (i + 1) fuel (at_ + 4 + qle (b.drop at_)) _ (by omega) (by simp; omega) (by omega) (by omega)) ?_
     rw [show (b.drop at_).drop (4 + qle (b.drop at_)) = b.drop (at_ + 4 + qle (b.drop at_)) by rw [JE,Nat.add_assoc]]
     have e7:(b.take (at_ + 4 + qle (b.drop at_))).drop (at_ + 4) = ((b.drop at_).drop 4).take (qle (b.drop at_)):=by
      rw [JE,List.drop_take]; congr 1; omega
     rw [e7]
     cases Zkj m (b.drop (at_ + 4 + qle (b.drop at_))) with
     | none => rfl
     | some x => simp only [VC,Zz4,Ju,List.singleton_append]
 | 0,_,0,_,_,_,_,_,h => absurd h (U1 _)
 | m + 1,_,0,_,_,_,_,_,h => absurd h (Nat.not_lt_zero _)
def ZcP (q:List Int):Option (List ByteArray × List Int):=if q.length < 19 ∨ 8 < qle (q.drop 15) then none else Zkj (qle (q.drop 15)) (q.drop 19)
theorem ZCB {k:Nat} (hk:1000 < k) {b:List Int} (hb:Zo b = true) (hn:b.length < 1000000):ZgD k (ZT b,()) = Zz4 b.length [] (ZcP b):=by
 show Zdv k (Zjc k) _ = _
 simp only [Zdv]
 have hs:UD (ZT b).size = (b.length:Int):=by rw [Qy]; rfl
 rw [hs]
 unfold ZcP
 by_cases g1:b.length < 19
 ·rw [Za (by omega),if_pos (by omega)]; rfl
 ·have e4:(ZT b).extract 15 ((b.length:Int)).toNat = ZT (b.drop 15):=by
   rw [Q4,Ui,Ea]
  have h4':K2 k ((ZT b).extract 15 ((b.length:Int)).toNat,()) = some ((qle (b.drop 15):Int),()):=by
   rw [e4]; exact ZpO k (ZW hb 15) (by rw [Vh]; omega)
  rw [Zh (by omega),Za (by omega),h4']
  simp only [VJ]
  by_cases g2:8 < qle (b.drop 15)
  ·rw [Za (by omega),if_pos (by omega)]; rfl
  ·rw [Zh (by omega),Za (by omega),if_neg (by omega)]
   exact ZEU hb hn _ (by omega) (qle (b.drop 15)) 0 k 19 [] (by omega) (by simp) (by omega) (by omega)
theorem ZJk {q:List Int} {x:List ByteArray × List Int} (h:ZcP q = some x):∃ j,j ≤ q.length ∧ x.2 = q.drop j ∧ x.1.length ≤ 8:=by
 unfold ZcP at h
 split at h
 ·cases h
 ·obtain ⟨j,h1,h2,h3⟩:=ZAl _ h
  rw [Vh] at h1
  exact ⟨19 + j,by omega,by rw [h2,JE],by omega⟩
end Go.Sh
namespace Go.Sh
open Go Go.Proofs
def Wk (b:List Int) (at_ w:Nat):Nat:=Qk (((ZA b).drop at_).take w)
structure Hd where
 c:Nat
 d:Nat
 r:Nat
 size:Nat
 n:Nat
 tags:List ByteArray
 q:List Int
def Zse (n size:Nat):Nat:=if 1 < ZK n size then 4 + 18 * ZK n size else 0
def ZgW (b:List Int):Option Hd :=
 if b.length < 42 then none
 else if XL ((Wk b 164 3 + 1:Nat):Int) ((Wk b 167 5 + 1:Nat):Int) (Wk b 144 20:Int) = false ∨ Wk b 64 16 < 16 ∨ 512 < Wk b 64 16 ∨ Wk b 172 4 ≠ 0 ∨ 4096 < Wk b 176 32 then none
 else if b.length < 42 + Zse (Wk b 176 32) (Wk b 64 16) then none
 else (ZcP (b.drop (42 + Zse (Wk b 176 32) (Wk b 64 16)))).map fun x => ⟨Wk b 164 3 + 1,Wk b 167 5 + 1,Wk b 144 20,Wk b 64 16,Wk b 176 32,x.1,x.2⟩
theorem Zqz {w:Nat} {r:List Bool} (h:w ≤ r.length):gG w (r,false) = (Qk (r.take w),(r.drop w,false)):=by
 unfold gG Zn
 simp only [if_pos h]
 rfl
theorem ZdG {w:Nat} {s:IS2} (h:(gG w s).2.2 = false):s.2 = false ∧ (gG w s).2.1.length + w = s.1.length:=by
 have h1:=ZO8 h
 obtain ⟨r,e⟩:=s
 simp only at h1
 subst h1
 refine ⟨rfl,?_⟩
 by_cases hw:w ≤ r.length
 ·rw [Zqz hw]; simp only [Vh]; omega
 ·unfold gG Zn at h
  simp [hw] at h
theorem ZdS:∀ (n:Nat) {s:IS2},(WR n s).2 = false → s.2 = false ∧ (WR n s).1.length + 8 * n = s.1.length
 | 0,s,h => ⟨h,rfl⟩
 | n + 1,s,h => by
  simp only [WR] at h ⊢
  obtain ⟨h1,h2⟩:=ZdS n h
  obtain ⟨h3,h4⟩:=ZdG h1
  exact ⟨h3,by omega⟩
theorem Zrp (n:Nat) {r:List Bool} (h:8 * n ≤ r.length):WR n (r,false) = (r.drop (8 * n),false):=by
 have:=ZAf n (x:=r.take (8 * n)) (r.drop (8 * n)) (by rw [Jz]; omega)
 rwa [List.take_append_drop] at this
theorem ZGr {q:List Int} (hq:Zo q = true):match ZcP q with
  | some x => Zg5 (WR 15 (ZA q,false)) = (x.1,(ZA x.2,false))
  | none => (Zg5 (WR 15 (ZA q,false))).2.2 = true:=by
 unfold ZcP
 by_cases h1:q.length < 15
 ·rw [if_pos (by omega)]
  have h2:=Zrq 15 hq h1
  unfold Zg5
  refine KF _ ?_
  cases hf:(QS 8 (WR 15 (ZA q,false))).2.2 with
  | true => rfl
  | false => rw [Zly hf] at h2; cases h2
 ·rw [Zro 15 hq (by omega)]
  have hq2:=ZW hq 15
  by_cases h2:q.length < 19 ∨ 8 < qle (q.drop 15)
  ·rw [if_pos h2]
   unfold Zg5
   refine KF _ (Ztz 8 hq2 ?_)
   grind
  ·rw [if_neg h2]
   unfold Zg5
   rw [Zqv 8 hq2 (by rw [Vh]; omega) (by omega)]
   simp only [JE]
   exact ZAm _ (ZW hq 19)
section prog
variable {k:Nat} {b:List Int}
abbrev ZXj:=((((Int × Int × Int × Unit) × List ByteArray × List (List Int) × Unit) × Int × Int × Unit) × ((List Int × Int × Unit) × Bool × Unit) × Unit)
theorem ZAn (hk:16777216 ≤ k) (hb:Zo b = true) (hn:b.length ≤ 100000) (size n c d r:Int) {s:IS2} (hs:Zf b s.1) :
  ((XF k (inS b s,15,())).bind fun y_9 => (ZgE k (((y_9.2.1.1.1,y_9.2.1.1.2.1,()),y_9.2.1.2.1,()),8,())).bind fun y_10 => Zi9 k (y_10.1,(0:Int),size,n,y_10.2.1.2.1,y_10.2.1.1.1,y_10.2.1.1.2.1,c,d,r,[],(0:Int),(0:Int),(0:Int))) =
   some ((((c,d,r,()),(Zg5 (WR 15 s)).1,[],()),size,n,()),inS b (Zg5 (WR 15 s)).2,()):=by
 have hk1:100 < k:=by omega
 have hn2:b.length < 268435456:=by omega
 refine U4 (congrArg (fun x => H0 x _) (ZaM hb hn2 hk1 (N:=15) (by omega) (by omega) hs)) ?_
 have hs2:=Ka 15 hs
 generalize WR 15 s = t at *
 simp only [VJ,inS]
 refine U4 (congrArg (fun x => H0 x _) (ZpN hb hn2 hk1 8 (s:=t) hs2)) ?_
 simp only [VJ]
 have hle:=ZzI 8 t
 have hr:=Zqw 8 (s:=t) hs2
 unfold Zg5
 generalize QS 8 t = F at *
 obtain ⟨F1,F2⟩:=F
 simp only at *
 exact ZSf hb hn2 hk1 size n c d r F1 (by omega) F1 0 k F2 [] (by omega) rfl (by omega) hr
theorem Xu {n size:Nat} (h1:16 ≤ size) (h2:size ≤ 512) (h3:n ≤ 4096):ZK n size ≤ 256:=by
 unfold ZK
 have:(n + size - 1) / size < 257:=Nat.div_lt_of_lt_mul (by omega)
 omega
theorem ZzK {n size:Nat} (h1:16 ≤ size) (h2:size ≤ 512) (h3:n ≤ 4096):Jx.wrap ((Jx.wrap (Jx.wrap ((n:Int) + (size:Int)) - 1)).tdiv (size:Int)) = ((ZK n size:Nat):Int):=by
 have:=Xu h1 h2 h3
 rw [ZG (n:=(n:Int) + size) (by omega),ZG (n:=(n:Int) + size - 1) (by omega),show (n:Int) + size - 1 = ((n + size - 1:Nat):Int) by omega,show ((n + size - 1:Nat):Int).tdiv (size:Int) = (((n + size - 1) / size:Nat):Int) from rfl,show (n + size - 1) / size = ZK n size from rfl,ZG (by omega)]
def ZDR (b:List Int) (x:Option ZXj):Prop:=match ZgW b with
 | some h => x = some (((((h.c:Int),(h.d:Int),(h.r:Int),()),h.tags,[],()),(h.size:Int),(h.n:Int),()),inS b (ZA h.q,false),())
 | none => ∃ y z,x = some (y,(z,true,()),())
theorem ZIs (hk:16777216 ≤ k) (hb:Zo b = true) (hn:b.length ≤ 100000):ZDR b (Zvy k (inS b (ZA b,false),())):=by
 have hk1:100 < k:=by omega
 have hn2:b.length < 268435456:=by omega
 have hs0:Zf b (ZA b,false).1:=List.suffix_refl _
 show ZDR b (Zdu k _ _)
 simp only [Zdu,inS]
 rw [show XF k ((XB b (ZA b),false,()),8,()) = _ from ZaM hb hn2 hk1 (N:=8) (by omega) (by omega) hs0]
 have t1:=Ka 8 hs0
 generalize h1:WR 8 (ZA b,false) = s1 at *
 simp only [VJ,inS]
 rw [show Wr k ((XB b s1.1,s1.2,()),16,()) = _ from WZ hb hn2 hk1 (w:=16) t1 (by omega)]
 have t2:=Ki t1 16
 generalize h2:gG 16 s1 = g2 at *
 simp only [VJ,inS]
 rw [show XF k ((XB b g2.2.1,g2.2.2,()),8,()) = _ from ZaM hb hn2 hk1 (N:=8) (by omega) (by omega) t2]
 have t3:=Ka 8 t2
 generalize h3:WR 8 g2.2 = s3 at *
 simp only [VJ,inS]
 rw [show Wr k ((XB b s3.1,s3.2,()),20,()) = _ from WZ hb hn2 hk1 (w:=20) t3 (by omega)]
 have t4:=Ki t3 20
 generalize h4:gG 20 s3 = g4 at *
 simp only [VJ,inS]
 rw [show Wr k ((XB b g4.2.1,g4.2.2,()),3,()) = _ from WZ hb hn2 hk1 (w:=3) t4 (by omega)]
 have t5:=Ki t4 3
 generalize h5:gG 3 g4.2 = g5 at *
 simp only [VJ,inS]
 rw [show Wr k ((XB b g5.2.1,g5.2.2,()),5,()) = _ from WZ hb hn2 hk1 (w:=5) t5 (by omega)]
 have t6:=Ki t5 5
 generalize h6:gG 5 g5.2 = g6 at *
 simp only [VJ,inS]
 rw [show Wr k ((XB b g6.2.1,g6.2.2,()),4,()) = _ from WZ hb hn2 hk1 (w:=4) t6 (by omega)]
 have t7:=Ki t6 4
 generalize h7:gG 4 g6.2 = g7 at *
 simp only [VJ,inS]
 rw [show Wr k ((XB b g7.2.1,g7.2.2,()),32,()) = _ from WZ hb hn2 hk1 (w:=32) t7 (by omega)]
 have t8:=Ki t7 32
 generalize h8:gG 32 g7.2 = g8 at *
 simp only [VJ,inS]
 rw [show XF k ((XB b g8.2.1,g8.2.2,()),16,()) = _ from ZaM hb hn2 hk1 (N:=16) (by omega) (by omega) t8]
 have t9:=Ka 16 t8
 generalize h9:WR 16 g8.2 = s9 at *
 simp only [VJ,inS]
 unfold ZDR ZgW
 by_cases hlen:b.length < 42
 ·have hbad:s9.2 = true:=by
   cases hc:s9.2 with
   | true => rfl
   | false =>
    subst h9
    obtain ⟨a1,b1⟩:=ZdS 16 hc
    subst h8
    obtain ⟨a2,b2⟩:=ZdG a1
    subst h7
    obtain ⟨a3,b3⟩:=ZdG a2
    subst h6
    obtain ⟨a4,b4⟩:=ZdG a3
    subst h5
    obtain ⟨a5,b5⟩:=ZdG a4
    subst h4
    obtain ⟨a6,b6⟩:=ZdG a5
    subst h3
    obtain ⟨a7,b7⟩:=ZdS 8 a6
    subst h2
    obtain ⟨a8,b8⟩:=ZdG a7
    subst h1
    obtain ⟨a9,b9⟩:=ZdS 8 a8
    have:=Qc b
    simp only at b9
    omega
  simp_all
 rw [if_neg hlen]
 have hB:=Qc b
 have e1:s1 = ((ZA b).drop 64,false):=by rw [← h1]; exact Zrp 8 (by omega)
 subst e1
 have e2:g2 = (Wk b 64 16,((ZA b).drop 80,false)):=by
  rw [← h2,Zqz (by rw [Vh]; omega),JE]; rfl
 subst e2
 have e3:s3 = ((ZA b).drop 144,false):=by rw [← h3,Zrp 8 (by rw [Vh]; omega),JE]
 subst e3
 have e4:g4 = (Wk b 144 20,((ZA b).drop 164,false)):=by
  rw [← h4,Zqz (by rw [Vh]; omega),JE]; rfl
 subst e4
 have e5:g5 = (Wk b 164 3,((ZA b).drop 167,false)):=by
  rw [← h5,Zqz (by rw [Vh]; omega),JE]; rfl
 subst e5
 have e6:g6 = (Wk b 167 5,((ZA b).drop 172,false)):=by
  rw [← h6,Zqz (by rw [Vh]; omega),JE]; rfl
 subst e6
 have e7:g7 = (Wk b 172 4,((ZA b).drop 176,false)):=by
  rw [← h7,Zqz (by rw [Vh]; omega),JE]; rfl
 subst e7
 have e8:g8 = (Wk b 176 32,((ZA b).drop 208,false)):=by
  rw [← h8,Zqz (by rw [Vh]; omega),JE]; rfl
 subst e8
 have e9:s9 = (ZA (b.drop 42),false):=by
  rw [← h9,Zrp 16 (by rw [Vh]; omega),JE,← Zhf]
 subst e9
 clear h1 h2 h3 h4 h5 h6 h7 h8 h9 t1 t2 t3 t4 t5 t6 t7 t8
 have q3:Wk b 164 3 < 2 ^ 3:=VZ (WL _) (Hf (by omega) (by rw [Jz]; omega))
 have q5:Wk b 167 5 < 2 ^ 5:=VZ (WL _) (Hf (by omega) (by rw [Jz]; omega))
 generalize Wk b 64 16 = size at *
 generalize Wk b 144 20 = r at *
 generalize Wk b 164 3 = c at *
 generalize Wk b 167 5 = d at *
 generalize Wk b 172 4 = hi at *
 generalize Wk b 176 32 = n at *
 simp only [cond_false]
 have w1:Jx.wrap ((c:Int) + 1) = ((c + 1:Nat):Int):=by rw [ZG (by omega)]; omega
 have w2:Jx.wrap ((d:Int) + 1) = ((d + 1:Nat):Int):=by rw [ZG (by omega)]; omega
 rw [w1,w2,Zo6]
 simp only [VJ]
 by_cases g1:XL ((c + 1:Nat):Int) ((d + 1:Nat):Int) (r:Int) = false
 ·simp_all
 have g1t:XL ((c + 1:Nat):Int) ((d + 1:Nat):Int) (r:Int) = true:=by simpa using g1
 rw [if_pos g1t,Zk,Zh (by simp)]
 by_cases g2:size < 16
 ·rw [if_pos (.inr (.inl g2)),Za (by omega)]
  exact ⟨_,_,rfl⟩
 rw [Zh (by omega)]
 by_cases g3:512 < size
 ·rw [if_pos (.inr (.inr (.inl g3))),Za (by omega)]
  exact ⟨_,_,rfl⟩
 rw [Zh (by omega),Zk]
 by_cases g4:hi = 0
 case neg =>
  simp_all
 rw [Zh (by omega)]
 by_cases g5:4096 < n
 ·rw [if_pos (.inr (.inr (.inr (.inr g5)))),Za (by omega)]
  simp_all <;> omega
 rw [Zh (by omega),Za (by omega),if_neg (fun h => by grind),decide_eq_false (show ¬ (4096:Int) < (n:Int) by omega)]
 have hfr:=Xu (n:=n) (size:=size) (by omega) (by omega) (by omega)
 rw [ZzK (by omega) (by omega) (by omega)]
 have bads:∀ {s:IS2},s.2 = true → (Zg5 (WR 15 s)).2.2 = true:=by
  intro s h
  unfold Zg5
  refine KF _ ?_
  cases hf:(QS 8 (WR 15 s)).2.2 with
  | true => rfl
  | false => have:=Zly hf; rw [ZfS 15 h] at this; cases this
 by_cases h1:1 < ZK n size
 ·rw [Za (by omega)]
  have e4:Jx.wrap (4 + Jx.wrap (18 * ((ZK n size:Nat):Int))) = ((4 + 18 * ZK n size:Nat):Int):=by rw [ZG (n:=18 * _) (by omega),ZG (by omega)]; omega
  rw [e4,show XF k ((XB b (ZA (b.drop 42)),false,()),((4 + 18 * ZK n size:Nat):Int),()) = _ from ZaM hb hn2 hk1 (N:=4 + 18 * ZK n size) (by omega) (by omega) t9]
  have ht:Zse n size = 4 + 18 * ZK n size:=by unfold Zse; rw [if_pos h1]
  rw [ht]
  simp only [VJ,inS]
  have t10:=Ka (4 + 18 * ZK n size) t9
  have key:=ZAn hk hb hn (size:Int) (n:Int) ((c + 1:Nat):Int) ((d + 1:Nat):Int) (r:Int) t10
  simp only [inS] at key
  rw [key]
  clear key
  by_cases hl:b.length < 42 + (4 + 18 * ZK n size)
  ·rw [if_pos hl]
   rw [bads (Zrq (4 + 18 * ZK n size) (ZW hb 42) (by rw [Vh]; omega))]
   exact ⟨_,_,rfl⟩
  ·rw [if_neg hl,Zro _ (ZW hb 42) (by rw [Vh]; omega),JE]
   have:=ZGr (ZW hb (42 + (4 + 18 * ZK n size)))
   cases ht2:ZcP (b.drop (42 + (4 + 18 * ZK n size))) with
   | none => simp_all
   | some x => simp_all
 ·rw [Zh (by omega)]
  have ht:Zse n size = 0:=by unfold Zse; rw [if_neg h1]
  rw [ht,if_neg (by omega),Nat.add_zero]
  have key:=ZAn hk hb hn (size:Int) (n:Int) ((c + 1:Nat):Int) ((d + 1:Nat):Int) (r:Int) t9
  simp only [inS] at key
  rw [key]
  clear key
  have:=ZGr (ZW hb 42)
  cases ht2:ZcP (b.drop 42) with
  | none => simp_all
  | some x => rw [ht2] at this; simp only at this; simp only [VC]; rw [this]; try rfl
end prog
end Go.Sh
namespace Go.Sh
open Go Go.Proofs
theorem ZYW (v:Fin 256) (r:Fin 8):Jx.wrap (UD (UH 64 (Int.fdiv (v.val:Int) ((2:Int) ^ min (7 - r.val) 64)) &&& UH 64 1).toNat) = if v.val.testBit (7 - r.val) then 1 else 0:=by
 revert v r
 decide +kernel
section doc
variable {k:Nat} {b:List Int}
theorem ZSi (hb:Zo b = true) (hn:b.length < 1000000) (at_ W:Nat) (hE:at_ + W < 8000000):∀ (w i v j fuel:Nat),i + w = at_ + W → i + w ≤ 8 * b.length → v < 2 ^ j → j + w ≤ 40 → w < fuel →
  Zg (fun L1 => ZaC k L1) fuel ((i:Int),(at_:Int),(W:Int),(v:Int),ZT b) = some ((((((ZA b).drop i).take w).foldl (fun a b => 2 * a + b.toNat) v:Nat):Int),()):=by
 intro w
 induction w with
 | zero =>
  intro i v j fuel h1 h2 h3 h4 h5
  obtain ⟨fuel,rfl⟩:∃ f,fuel = f + 1:=⟨fuel - 1,by omega⟩
  rw [Zc]
  simp only [ZaC]
  rw [ZG (n:=(at_:Int) + W) (by omega),Zh (by omega)]
  rfl
 | succ w ih =>
  intro i v j fuel h1 h2 h3 h4 h5
  obtain ⟨fuel,rfl⟩:∃ f,fuel = f + 1:=⟨fuel - 1,by omega⟩
  rw [Zc]
  simp only [ZaC]
  have hi:i < 8 * b.length:=by omega
  have h6:i / 8 < b.length:=by omega
  rw [ZG (n:=(at_:Int) + W) (by omega),Za (by omega),ZrC,ZP8,ZG (n:=((i / 8:Nat):Int)) (by omega),Qy,Za (by simp only [HZ]; omega)]
  have e1:Jx.wrap ((7:Int) - ((i % 8:Nat):Int)) = ((7 - i % 8:Nat):Int):=by rw [ZG (by omega)]; omega
  rw [e1,Za (by omega),Ui,Ui]
  obtain ⟨x,hx,hxe⟩:=QM hb h6
  rw [Za7 hb h6,hxe,ZG (n:=(x:Int)) (by omega)]
  have hbit:=ZYW ⟨x,hx⟩ ⟨i % 8,Nat.mod_lt _ (by omega)⟩
  simp only at hbit
  rw [hbit]
  have hg:(ZA b)[i]'(by rw [Qc]; exact hi) = x.testBit (7 - i % 8):=by rw [Zkv hi,hxe,Ui]
  have hd:(ZA b).drop i = (ZA b)[i]'(by rw [Qc]; exact hi) :: (ZA b).drop (i + 1):=Uk _
  rw [hd,EG,List.foldl_cons,hg]
  have hp:2 ^ j ≤ 2 ^ 40:=Hf (by omega) (by omega)
  have e2:Jx.wrap (Jx.wrap (2 * (v:Int)) + if x.testBit (7 - i % 8) = true then 1 else 0) = ((2 * v + (x.testBit (7 - i % 8)).toNat:Nat):Int):=by
   rw [ZG (n:=2 * (v:Int)) (by omega)]
   cases x.testBit (7 - i % 8)
   ·simp only [JJ,if_false,Bool.toNat_false]; rw [ZG (by omega)]; omega
   ·simp only [if_true,Bool.toNat_true]; rw [ZG (by omega)]; omega
  have e3:Jx.wrap ((i:Int) + 1) = ((i + 1:Nat):Int):=by rw [ZG (by omega)]; rfl
  rw [e2,e3]
  have h7:2 * v + (x.testBit (7 - i % 8)).toNat < 2 ^ (j + 1):=by
   grind
  exact ih (i + 1) _ (j + 1) fuel (by omega) (by omega) h7 (by omega) (by omega)
theorem ZaD (hk:1000 < k) (hb:Zo b = true) (hn:b.length < 100000) {at_ W:Nat} (hW:W ≤ 40) (h:at_ + W ≤ 8 * b.length):XX k (ZT b,(at_:Int),(W:Int),()) = some ((Wk b at_ W:Int),()) :=
 ZSi hb (by omega) at_ W (by omega) W at_ 0 0 k rfl h (by omega) (by omega) (by omega)
theorem ZDl (b:List Int) (at_ x y:Nat) (h:at_ + x + y ≤ 8 * b.length):Wk b at_ (x + y) = Wk b at_ x * 2 ^ y + Wk b (at_ + x) y:=by
 unfold Wk
 rw [List.take_add,Xa,JE,Jz,Vh,Qc,Ht (by omega)]
abbrev ZUA:=(((Int × Int × Int × Unit) × List ByteArray × List (List Int) × Unit) × Int × Unit) × Unit
theorem ZPl {b:List Int} {j:Nat} (hj:j ≤ b.length) {x:List ByteArray × List Int} (h:ZcP (b.drop j) = some x):∃ i,j ≤ i ∧ i ≤ b.length ∧ x.2 = b.drop i ∧ x.1.length ≤ 8:=by
 obtain ⟨i,h1,h2,h3⟩:=ZJk h
 rw [Vh] at h1
 exact ⟨j + i,by omega,by omega,by rw [h2,JE],h3⟩
theorem Zhu (hk:20000000 ≤ k) (hb:Zo b = true) (hn:b.length ≤ 900) :
  match ZgW b with
  | none => Zdm k (ZT b,()) = some ZGD
  | some h => ∃ i a u:Nat,i ≤ b.length ∧ h.q = b.drop i ∧ a + u = i ∧ (16 ≤ h.size ∧ h.size ≤ 512) ∧ h.n ≤ 4096 ∧ (1 ≤ h.c ∧ h.c ≤ 8) ∧ h.d ≤ 32 ∧ h.r < 1048576 ∧ h.tags.length ≤ 8 ∧
    Zdm k (ZT b,()) = Ks k ((0:Int),(ZK h.n h.size:Int),ZT h.q,(h.size:Int),(h.n:Int),ZT b,(a:Int),(u:Int),(h.c:Int),(h.d:Int),(h.r:Int),h.tags,Jd h.c [],0,0,0,[]):=by
 have hs:UD (ZT b).size = (b.length:Int):=by rw [Qy]; rfl
 have hF:Zdm k (ZT b,()) = Zdn k (Ks k) (ZT b,()):=rfl
 rw [hF]
 simp only [Zdn]
 rw [hs,Zh (by omega)]
 unfold ZgW
 by_cases g0:b.length < 42
 ·rw [if_pos g0,Za (by omega)]; rfl
 rw [if_neg g0,Zh (by omega)]
 rw [show XX k (ZT b,(64:Int),(16:Int),()) = _ from ZaD (at_:=64) (W:=16) (by omega) hb (by omega) (by omega) (by omega)]
 simp only [VJ]
 rw [show XX k (ZT b,(144:Int),(20:Int),()) = _ from ZaD (at_:=144) (W:=20) (by omega) hb (by omega) (by omega) (by omega)]
 simp only [VJ]
 rw [show XX k (ZT b,(164:Int),(3:Int),()) = _ from ZaD (at_:=164) (W:=3) (by omega) hb (by omega) (by omega) (by omega)]
 simp only [VJ]
 rw [show XX k (ZT b,(167:Int),(5:Int),()) = _ from ZaD (at_:=167) (W:=5) (by omega) hb (by omega) (by omega) (by omega)]
 simp only [VJ]
 rw [show XX k (ZT b,(172:Int),(36:Int),()) = _ from ZaD (at_:=172) (W:=36) (by omega) hb (by omega) (by omega) (by omega)]
 simp only [VJ]
 have hsp:=ZDl b 172 4 32 (by omega)
 simp only [show (4 + 32:Nat) = 36 from rfl,show (172 + 4:Nat) = 176 from rfl] at hsp
 rw [hsp]
 have q2:Wk b 144 20 < 2 ^ 20:=VZ (WL _) (Hf (by omega) (by rw [Jz]; omega))
 have q3:Wk b 164 3 < 2 ^ 3:=VZ (WL _) (Hf (by omega) (by rw [Jz]; omega))
 have q5:Wk b 167 5 < 2 ^ 5:=VZ (WL _) (Hf (by omega) (by rw [Jz]; omega))
 have q7:Wk b 176 32 < 2 ^ 32:=VZ (WL _) (Hf (by omega) (by rw [Jz]; omega))
 generalize Wk b 64 16 = size at *
 generalize Wk b 144 20 = r at *
 generalize Wk b 164 3 = c at *
 generalize Wk b 167 5 = d at *
 generalize Wk b 172 4 = hi at *
 generalize Wk b 176 32 = n at *
 have w1:Jx.wrap (1 + (c:Int)) = ((c + 1:Nat):Int):=by rw [ZG (by omega)]; omega
 have w2:Jx.wrap (1 + (d:Int)) = ((d + 1:Nat):Int):=by rw [ZG (by omega)]; omega
 rw [w1,w2]
 by_cases g2:size < 16
 ·rw [if_pos (.inr (.inl g2)),Za (by omega)]; rfl
 rw [Zh (by omega)]
 by_cases g3:512 < size
 ·rw [if_pos (.inr (.inr (.inl g3))),Za (by omega)]; rfl
 rw [Zh (by omega)]
 by_cases g4:hi = 0
 case neg => rw [if_pos (.inr (.inr (.inr (.inl g4)))),Za (by omega)]; rfl
 subst g4
 rw [Nat.zero_mul,Nat.zero_add] at *
 by_cases g5:4096 < n
 ·rw [if_pos (.inr (.inr (.inr (.inr g5)))),Za (by omega)]; rfl
 rw [Zh (by omega),Zo7]
 simp only [VJ]
 by_cases g1:XL ((c + 1:Nat):Int) ((d + 1:Nat):Int) (r:Int) = false
 ·rw [if_pos (.inl g1),g1]; rfl
 have g1t:XL ((c + 1:Nat):Int) ((d + 1:Nat):Int) (r:Int) = true:=by simpa using g1
 rw [if_neg (fun h => by grind),g1t]
 simp only [HC,cond_false]
 have hfr:=Xu (n:=n) (size:=size) (by omega) (by omega) (by omega)
 rw [Za (by omega),ZzK (by omega) (by omega) (by omega)]
 have ex:∀ j:Nat,(ZT b).extract j ((b.length:Int)).toNat = ZT (b.drop j):=by
  intro j
  rw [Q4,Ui,Ea]
 have close:∀ {j:Nat},42 ≤ j → j ≤ b.length → match (ZcP (b.drop j)).map fun x => (⟨c + 1,d + 1,r,size,n,x.1,x.2⟩:Hd) with
   | none => ((ZgD k (ZT (b.drop j),())).bind fun y_6 => bif !y_6.1.2.2.1 then some (((((0:Int),(0:Int),(0:Int),()),[],[],()),2,()),()) else bif decide ((0:Int) ≤ Jx.wrap ((j:Int) + y_6.1.2.1) ∧ Jx.wrap ((j:Int) + y_6.1.2.1) ≤ (b.length:Int) ∧ (b.length:Int) ≤ (b.length:Int)) then bif decide ((0:Int) ≤ ((c + 1:Nat):Int) ∧ ((c + 1:Nat):Int) ≤ ((c + 1:Nat):Int) ∧ ((c + 1:Nat):Int) < (4294967296:Int)) then Ks k ((0:Int),((ZK n size:Nat):Int),(ZT b).extract (Jx.wrap ((j:Int) + y_6.1.2.1)).toNat ((b.length:Int)).toNat,(size:Int),(n:Int),ZT b,(j:Int),y_6.1.2.1,((c + 1:Nat):Int),((d + 1:Nat):Int),(r:Int),y_6.1.1,Jd (((c + 1:Nat):Int)).toNat [],(0:Int),(0:Int),(0:Int),[]) else none else none) = some ZGD
   | some h => ∃ i a u:Nat,i ≤ b.length ∧ h.q = b.drop i ∧ a + u = i ∧ (16 ≤ h.size ∧ h.size ≤ 512) ∧ h.n ≤ 4096 ∧ (1 ≤ h.c ∧ h.c ≤ 8) ∧ h.d ≤ 32 ∧ h.r < 1048576 ∧ h.tags.length ≤ 8 ∧
    ((ZgD k (ZT (b.drop j),())).bind fun y_6 => bif !y_6.1.2.2.1 then some (((((0:Int),(0:Int),(0:Int),()),[],[],()),2,()),()) else bif decide ((0:Int) ≤ Jx.wrap ((j:Int) + y_6.1.2.1) ∧ Jx.wrap ((j:Int) + y_6.1.2.1) ≤ (b.length:Int) ∧ (b.length:Int) ≤ (b.length:Int)) then bif decide ((0:Int) ≤ ((c + 1:Nat):Int) ∧ ((c + 1:Nat):Int) ≤ ((c + 1:Nat):Int) ∧ ((c + 1:Nat):Int) < (4294967296:Int)) then Ks k ((0:Int),((ZK n size:Nat):Int),(ZT b).extract (Jx.wrap ((j:Int) + y_6.1.2.1)).toNat ((b.length:Int)).toNat,(size:Int),(n:Int),ZT b,(j:Int),y_6.1.2.1,((c + 1:Nat):Int),((d + 1:Nat):Int),(r:Int),y_6.1.1,Jd (((c + 1:Nat):Int)).toNat [],(0:Int),(0:Int),(0:Int),[]) else none else none) =
     Ks k ((0:Int),(ZK h.n h.size:Int),ZT h.q,(h.size:Int),(h.n:Int),ZT b,(a:Int),(u:Int),(h.c:Int),(h.d:Int),(h.r:Int),h.tags,Jd h.c [],0,0,0,[]):=by
  intro j h1 h2
  rw [ZCB (by omega) (ZW hb j) (by rw [Vh]; omega)]
  cases ht:ZcP (b.drop j) with
  | none => rfl
  | some x =>
   obtain ⟨i,i1,i2,i3,i4⟩:=ZPl h2 ht
   simp only [VC]
   refine ⟨i,j,i - j,i2,i3,by omega,by omega,by omega,by omega,by omega,by omega,i4,?_⟩
   simp only [Zz4,VJ,HC,cond_false,VS]
   have e:(b.drop j).length - x.2.length = i - j:=by grind
   have e2:Jx.wrap ((j:Int) + ((i - j:Nat):Int)) = (i:Int):=by rw [ZG (by omega)]; omega
   grind
 by_cases h1:1 < ZK n size
 ·have ht:Zse n size = 4 + 18 * ZK n size:=by unfold Zse; rw [if_pos h1]
  have e4:Jx.wrap (46 + Jx.wrap (18 * ((ZK n size:Nat):Int))) = ((42 + (4 + 18 * ZK n size):Nat):Int):=by rw [ZG (n:=18 * _) (by omega),ZG (by omega)]; omega
  rw [Za (by omega),ht,e4]
  by_cases hl:b.length < 42 + (4 + 18 * ZK n size)
  ·rw [if_pos hl,Za (by omega)]; rfl
  rw [if_neg hl,Zh (by omega),Za (by omega),Ui,ex]
  exact close (by omega) (by omega)
 ·have ht:Zse n size = 0:=by unfold Zse; rw [if_neg h1]
  rw [Zh (by omega),ht,if_neg (by omega),Nat.add_zero,Zh (by omega),Za (by omega),ex]
  grind
end doc
end Go.Sh
namespace Go.Sh
open Go Go.Proofs
structure ReadOk (c:Int) (b:List Int) (x:RdR):Prop where
 len:(x.1.2.length:Int) = c
 same:∀ l ∈ x.1.2,l.length = (x.1.2.headD []).length ∧ l.length ≤ 512
 used:∃ u:Nat,x.2.1 = (u:Int) ∧ u ≤ b.length
theorem ZGa {c d r num:Int} {pos:Nat} {out:List (List Int)} {b:List Int} (hp:pos ≤ 8 * b.length) (h:(Zr7 c d r num pos out).2.2 = 0):ReadOk c b (Zr7 c d r num pos out):=by
 unfold Zr7 at h ⊢
 split at h
 ·rename_i h1; exact absurd h h1
 ·rename_i h1
  rw [if_neg h1]
  have h1:KH c d r num out = 0:=by simpa using h1
  unfold KH at h1
  split at h1
  ·cases h1
  ·split at h1
   ·cases h1
   ·rename_i h2
    split at h1
    ·cases h1
    ·rename_i h3
     have h3:out.all (ZaX (out.headD []).length) = true:=by simpa using h3
     refine ⟨?_,fun l hl => ?_,pos / 8,rfl,by omega⟩
     ·simp only at h2 ⊢; omega
     ·have:=of_decide_eq_true (Ve.1 h3 l hl)
      exact ⟨this.1,by omega⟩
theorem ZPG {c d r num m:Int} {pos:Nat} {A B b:List Int} (hp:pos ≤ 8 * b.length) (h:(ZmF c d r num pos m A B).2.2 = 0):ReadOk c b (ZmF c d r num pos m A B):=by
 unfold ZmF at h ⊢
 split at h
 ·rename_i h6; exact absurd h h6
 ·rename_i h6
  rw [if_neg h6]
  exact ZGa hp h
theorem ZGf (b:List Int) (r:List Bool):Zu b r ≤ 8 * b.length:=by unfold Zu; omega
theorem Zrf {c d r:Int} {b:List Int} (h:(W8 c d r b).2.2 = 0):ReadOk c b (W8 c d r b):=by
 unfold W8 at h ⊢
 split at h
 ·cases h
 ·rename_i h1
  rw [if_neg h1]
  unfold Zuh at h ⊢
  split at h
  ·rename_i h2; exact absurd h h2
  ·rename_i h2
   rw [if_neg h2]
   split at h
   ·rename_i h3; exact absurd h h3
   ·rename_i h3
    rw [if_neg h3]
    unfold ZC4 at h ⊢
    split at h
    ·rename_i h4; exact absurd h h4
    ·rename_i h4
     rw [if_neg h4]
     split at h
     ·rename_i h5
      rw [if_pos h5]
      exact ZPG (ZGf _ _) h
     ·rename_i h5
      rw [if_neg h5]
      exact ZGa (ZGf _ _) h
def Zh3 (acc chs:List (List Int)):List (List Int):=List.zipWith (· ++ ·) acc chs
theorem Zko {acc chs:List (List Int)} (h:acc.length = chs.length):(Zh3 acc chs).length = chs.length:=by simp [Zh3,h]
theorem ZAy {acc chs:List (List Int)} (h:acc.length = chs.length) {j:Nat} (hj:j < chs.length) {a:List (List Int)} (ha:a = (Zh3 acc chs).take j ++ acc.drop j) :
  a.set j (acc.getD j [] ++ chs.getD j []) = (Zh3 acc chs).take (j + 1) ++ acc.drop (j + 1):=by
 have hz:=Zko h
 apply List.ext_getElem?
 intro q
 rw [ha,List.getElem?_set]
 by_cases hq:j = q
 ·subst hq
  rw [if_pos rfl,JP,Jz,Vh,if_pos (by omega),List.getElem?_append_left (by rw [Jz]; omega),List.getElem?_take,if_pos (by omega)]
  grind [Zh3]
 grind
def XY (c d r:Int) (size n:Nat):Nat → Nat → List Int → List (List Int) → List Nat → Option (List (List Int) × List Nat × List Int)
 | 0,_,rest,acc,lens => some (acc,lens,rest)
 | m + 1,i,rest,acc,lens =>
  if (W8 c d r rest).2.2 ≠ 0 ∨ (W8 c d r rest).1.1 ≠ (i:Int) ∨ ((W8 c d r rest).1.2.getD 0 []).length ≠ min size (n - i * size) then none
  else XY c d r size n m (i + 1) (rest.drop (W8 c d r rest).2.1.toNat) (Zh3 acc (W8 c d r rest).1.2) (lens ++ [(W8 c d r rest).2.1.toNat])
structure InvS (cc size n i:Nat) (rest:List Int) (acc:List (List Int)) (lens:List Nat):Prop where
 al:acc.length = cc
 ac:∀ l ∈ acc,l.length = min (i * size) n
 ll:lens.length = i
 ls:∀ x ∈ lens,x ≤ 900
 rl:rest.length ≤ 900
 rb:Zo rest = true
theorem InvS.step {cc size n i:Nat} {d r:Int} {rest:List Int} {acc:List (List Int)} {lens:List Nat} (h:InvS cc size n i rest acc lens) (hc:1 ≤ cc) (hi:i * size < n) (h0:(W8 (cc:Int) d r rest).2.2 = 0)
  (h1:((W8 (cc:Int) d r rest).1.2.getD 0 []).length = min size (n - i * size)) :
  InvS cc size n (i + 1) (rest.drop (W8 (cc:Int) d r rest).2.1.toNat) (Zh3 acc (W8 (cc:Int) d r rest).1.2) (lens ++ [(W8 (cc:Int) d r rest).2.1.toNat]):=by
 obtain ⟨k1,k2,u,k3,k4⟩:=Zrf h0
 generalize W8 (cc:Int) d r rest = x at *
 have hl:x.1.2.length = cc:=by omega
 rw [k3,Ui]
 refine ⟨by rw [Zko (by rw [h.al,hl])]; exact hl,fun l hl2 => ?_,by simp [h.ll],fun y hy => ?_,by rw [Vh]; have:=h.rl; omega,ZW h.rb u⟩
 ·obtain ⟨j,hj,rfl⟩:=List.mem_iff_getElem.1 hl2
  simp only [Zh3,List.length_zipWith] at hj
  simp only [Zh3,List.getElem_zipWith,JP]
  have g1:=h.ac (acc[j]'(by omega)) (Ha _)
  grind
 ·rcases Js.1 hy with hy | hy
  ·exact h.ls y hy
  ·simp only [Vx] at hy
   subst hy
   have:=h.rl
   omega
noncomputable def ZIF (d r size:Nat) (cc:Nat) (tags:List ByteArray) (H:List Int):Option (List (List Int) × List Nat × List Int) → Option Zoh
 | none => some ZGD
 | some x => if x.2.2 = [] ∧ chk (cc:Int) (d:Int) (r:Int) tags x.1 = 0 ∧ Zmw d r tags x.1 size x.2.1 = H then some (((((cc:Int),(d:Int),(r:Int),()),tags,x.1,()),0,()),()) else some ZGD
section prog
variable {k:Nat}
theorem Zrt {cc size n i:Nat} {rest:List Int} {acc:List (List Int)} {lens:List Nat} (h:InvS cc size n i rest acc lens) (hc:cc ≤ 8) (hn:n ≤ 4096) {tags:List ByteArray} (ht:tags.length ≤ 8) (hts:∀ t ∈ tags,t.size ≤ 900):Small tags acc :=
 ⟨by omega,fun t h1 => by have:=hts t h1; omega,by rw [h.al]; omega,fun l hl => by rw [h.ac l hl]; omega⟩
theorem ZF1 {cc size n:Nat} {rest:List Int} {acc:List (List Int)} {lens:List Nat} (hs:16 ≤ size ∧ size ≤ 512) (hn:n ≤ 4096) (hc:1 ≤ cc) (h:InvS cc size n (ZK n size) rest acc lens):Lens size (acc.getD 0 []).length lens:=by
 have hf:=Xu (n:=n) hs.1 hs.2 hn
 have h0:(acc.getD 0 []).length = n:=by
  have hal:=h.al
  rw [Xf (by omega),h.ac _ (Ha _)]
  rcases Nat.lt_or_ge (ZK n size * size) n with h1 | h1
  ·exact absurd ((Zaa (by omega)).2 h1) (U1 _)
  ·omega
 rw [h0]
 refine ⟨hs,by rw [h.ll]; omega,fun x hx => by have:=h.ls x hx; omega,fun i hi => ?_⟩
 rw [h.ll] at hi
 have:=(Zaa (by omega)).1 hi
 omega
theorem ZBZ (hk:100 ≤ k) {acc chs:List (List Int)} (hac:acc.length = chs.length) (hc:chs.length ≤ 8) (ha:∀ l ∈ acc,l.length ≤ 100000) (hch:∀ l ∈ chs,l.length ≤ 100000) (size n i:Nat) (L1:L23) (len:Nat) (rest B:List Int) (at_:Int) (c d r:Int) (lens:List Nat) (tags:List ByteArray) (hl:len ≤ rest.length) (hrl:rest.length < 1000000) (hll:lens.length < 1000) (hi:i < 1000) :
  Zcm k L1 (UD chs.length,(0:Int),chs,(len:Int),rest,(i:Int),(size:Int),(n:Int),B,at_,c,d,r,tags,acc,Zj lens,0,0,0) =
   L1 (((i + 1:Nat):Int),(size:Int),(n:Int),rest.drop len,B,at_,c,d,r,tags,Zh3 acc chs,0,0,0,Zj (lens ++ [len])):=by
 have hz:=Zko hac
 have key:=ZF (A:=List (List Int)) (step:=fun L2 => Zan k L1 L2) (fun j a => (UD chs.length,UD j,chs,(len:Int),rest,(i:Int),(size:Int),(n:Int),B,at_,c,d,r,tags,a,Zj lens,0,0,0)) chs
  (fun _ _ => L1 (((i + 1:Nat):Int),(size:Int),(n:Int),rest.drop len,B,at_,c,d,r,tags,Zh3 acc chs,0,0,0,Zj (lens ++ [len])))
  (fun j a => a.length = chs.length ∧ a = (Zh3 acc chs).take j ++ acc.drop j)
  (fun L a hI => by
   simp only [Zan]
   rw [Zh (ZaZ _),Za (by simp [Zj]; omega),Za (by simp only [HZ]; omega),Zkm (by omega),Ui,show (UD rest.length).toNat = rest.length from rfl,Ea]
   grind [Zj])
  (fun L j hj a hI hL => by
   simp only [Zan]
   have haj:a.getD (UD j).toNat [] = acc.getD j []:=by
    rw [hI.2,show (UD j).toNat = j from rfl]
    simp only [VR]
    rw [Vs (by rw [Jz]; omega),Jz,Ht (by omega),Nat.sub_self,Jo]
    rfl
   have hl1:(acc.getD j []).length ≤ 100000:=by
    simp_all
   have hl2:(chs.getD j []).length ≤ 100000:=by
    simp_all
   rw [hI.1,Za (KN hj),Za (Xd hj),Za (Xd hj),Za (show (UD j).toNat < chs.length from hj),haj]
   rw [show (UD j).toNat = j from rfl,Za (by omega),Za (Xd hj),Za trivial,Za hj,Qa hj (by omega),ZAy hac hj hI.2]
   grind)
  k 0 acc ⟨hac,by simp⟩ (by omega) (by omega)
 exact key
theorem ZB2 (hk:20000000 ≤ k) {cc d r size n:Nat} (hc:1 ≤ cc ∧ cc ≤ 8) (hs:16 ≤ size ∧ size ≤ 512) (hn:n ≤ 4096) {tags:List ByteArray} (ht:tags.length ≤ 8) (hts:∀ t ∈ tags,t.size ≤ 900) (B:List Int) {at_:Nat} (hB:at_ ≤ B.length) (hB2:B.length ≤ 900) (hBb:Zo B = true) :
  ∀ (m i fuel:Nat) (rest:List Int) (acc:List (List Int)) (lens:List Nat),i + m = ZK n size → m < fuel → InvS cc size n i rest acc lens →
  Zg (fun L1 => YQ k (Zcm k L1) L1) fuel ((i:Int),(size:Int),(n:Int),rest,B,(at_:Int),(cc:Int),(d:Int),(r:Int),tags,acc,0,0,0,Zj lens) =
   ZIF d r size cc tags (B.take at_) (XY (cc:Int) (d:Int) (r:Int) size n m i rest acc lens):=by
 have hf:=Xu (n:=n) hs.1 hs.2 hn
 intro m
 induction m with
 | zero =>
  intro i fuel rest acc lens h1 h2 hI
  obtain ⟨fuel,rfl⟩:∃ f,fuel = f + 1:=⟨fuel - 1,by omega⟩
  have hif:i = ZK n size:=by omega
  subst hif
  rw [Zc]
  simp only [YQ]
  have hmul:ZK n size * size ≤ 256 * 512:=Nat.mul_le_mul hf hs.2
  have hge:¬ ZK n size * size < n:=fun h => U1 _ ((Zaa (by omega)).2 h)
  rw [show ((ZK n size:Nat):Int) * (size:Int) = ((ZK n size * size:Nat):Int) by simp,ZG (by omega),Zh (by omega)]
  simp only [XY,ZIF]
  by_cases g1:rest = []
  case neg =>
   have:0 < rest.length:=List.length_pos_iff.2 g1
   rw [Za (by simp only [HZ]; omega),if_neg (fun h => g1 h.1)]
   rfl
  subst g1
  rw [Zh (by simp)]
  have hS:=Zrt hI hc.2 hn ht hts
  rw [Zpm (by omega) hS]
  simp only [VJ]
  by_cases g2:chk (cc:Int) (d:Int) (r:Int) tags acc = 0
  case neg =>
   rw [Zk,Za g2,if_neg (fun h => g2 h.2.1)]
   rfl
  rw [g2,show ((0:Int) != 0) = false from rfl]
  simp only [cond_false]
  have hal:=hI.al
  subst hal
  have hLn:=ZF1 hs hn hc.1 hI
  rw [ZCv (by omega) g2 hS hLn]
  simp only [VJ]
  rw [Za (by simp only [HZ]; omega),Ui,U5]
  rw [show ZvA k (Z3 (Zei d r tags acc size lens),B.take at_,()) = some (decide (Zmw d r tags acc size lens = B.take at_),()) by
   show some ((ZT _).toList == (ZT _).toList,()) = _
   have:((ZT (Z3 (Zei d r tags acc size lens))).toList == (ZT (B.take at_)).toList) = decide (ZT (Z3 (Zei d r tags acc size lens)) = ZT (B.take at_)):=Zox _ _
   rw [this]
   congr 2
   refine decide_eq_decide.2 ⟨fun h => ZAh (ZhQ _) (Xn hBb _) h,fun h => by rw [← h]; rfl⟩]
  simp only [VJ]
  by_cases g3:Zmw d r tags acc size lens = B.take at_
  ·simp_all
  ·rw [decide_eq_false g3,if_neg (by simp [g3])]; rfl
 | succ m ih =>
  intro i fuel rest acc lens h1 h2 hI
  obtain ⟨fuel,rfl⟩:∃ f,fuel = f + 1:=⟨fuel - 1,by omega⟩
  rw [Zc]
  simp only [YQ]
  have hlt:i * size < n:=(Zaa (by omega)).1 (show i < ZK n size by omega)
  rw [show ((i:Nat):Int) * (size:Int) = ((i * size:Nat):Int) by simp,ZG (n:=((i * size:Nat):Int)) (by omega),Za (by omega)]
  have hrl:=hI.rl
  refine (Zd (ZLw k (cc:Int) (d:Int) (r:Int) hI.rb (by omega) (by omega)) _).trans ?_
  unfold Zd5
  simp only
  simp only [XY]
  by_cases g1:(W8 (cc:Int) (d:Int) (r:Int) rest).2.2 = 0
  case neg => rw [Zk,Za g1,if_pos (.inl g1)]; rfl
  rw [Zk,Zh (by simp [g1]),Zk]
  by_cases g2:(W8 (cc:Int) (d:Int) (r:Int) rest).1.1 = (i:Int)
  case neg => rw [Za g2,if_pos (.inr (.inl g2))]; rfl
  rw [Zh (by simp [g2])]
  obtain ⟨k1,k2,u,k3,k4⟩:=Zrf g1
  have hst:=hI.step hc.1 hlt g1
  generalize W8 (cc:Int) (d:Int) (r:Int) rest = x at *
  have hxl:x.1.2.length = cc:=by omega
  rw [Za (by simp only [HZ]; omega)]
  have e1:(if Jx.wrap ((n:Int) - ((i * size:Nat):Int)) < (size:Int) then Jx.wrap ((n:Int) - ((i * size:Nat):Int)) else (size:Int)) = ((min size (n - i * size):Nat):Int):=by
   rw [ZG (by omega)]
   omega
  rw [e1,Zk]
  by_cases g3:(x.1.2.getD 0 []).length = min size (n - i * size)
  case neg => rw [Za (by simp only [HZ]; omega),if_pos (.inr (.inr g3))]; rfl
  rw [Zh (by simp only [HZ]; omega),if_neg (by omega)]
  have hst:=hst g3
  rw [k3,Ui] at hst ⊢
  have key:=ZBZ (k:=k) (by omega) (acc:=acc) (chs:=x.1.2) (by rw [hI.al,hxl]) (by omega) (fun l hl => by rw [hI.ac l hl]; omega) (fun l hl => by have:=(k2 l hl).2; omega) size n i (Zg (fun L1 => YQ k (Zcm k L1) L1) fuel) u rest B (at_:Int) (cc:Int) (d:Int) (r:Int) lens tags k4 (by omega) (by rw [hI.ll]; omega) (by omega)
  grind
end prog
end Go.Sh
namespace Go.Sh
open Go Go.Proofs
abbrev L24:=Int × Int × ByteArray × Int × Int × ByteArray × Int × Int × Int × Int × Int × List ByteArray × List (List Int) × Int × Int × Int × List Int → Option ZUA
theorem ZPY {q:List Int}:((ZT q).toList == (UR #[]).toList) = decide (q = []):=by
 rw [Zox]
 simp_all
section doc
variable {k:Nat}
theorem ZB3 (hk:100 ≤ k) {acc chs:List (List Int)} (hac:acc.length = chs.length) (hc:chs.length ≤ 8) (ha:∀ l ∈ acc,l.length ≤ 100000) (hch:∀ l ∈ chs,l.length ≤ 100000) (size n i fr:Nat) (L1:L24) (len:Nat) (rest:List Int) (B:ByteArray) (at_ kk num:Int) (c d r:Int) (lens:List Nat) (tags:List ByteArray) (hl:len ≤ rest.length) (hrl:rest.length < 1000000) (hll:lens.length < 1000) (hi:i < 1000) :
  Zcp k L1 ((0:Int),(len:Int),ZT rest,(i:Int),(fr:Int),(size:Int),(n:Int),B,at_,kk,num,chs,c,d,r,tags,acc,Zj lens,0,0,0) =
   L1 (((i + 1:Nat):Int),(fr:Int),ZT (rest.drop len),(size:Int),(n:Int),B,at_,kk,c,d,r,tags,Zh3 acc chs,0,0,0,Zj (lens ++ [len])):=by
 have hz:=Zko hac
 have key:=ZF (A:=List (List Int)) (step:=fun L2 => Zao k L1 L2) (fun j a => (UD j,(len:Int),ZT rest,(i:Int),(fr:Int),(size:Int),(n:Int),B,at_,kk,num,chs,c,d,r,tags,a,Zj lens,0,0,0)) chs
  (fun _ _ => L1 (((i + 1:Nat):Int),(fr:Int),ZT (rest.drop len),(size:Int),(n:Int),B,at_,kk,c,d,r,tags,Zh3 acc chs,0,0,0,Zj (lens ++ [len])))
  (fun j a => a.length = chs.length ∧ a = (Zh3 acc chs).take j ++ acc.drop j)
  (fun L a hI => by
   simp only [Zao]
   rw [Zh (ZaZ _),Za (by simp [Zj]; omega),Qy,Za (by simp only [HZ]; omega),Zkm (by omega),Ui,show (UD rest.length).toNat = rest.length from rfl,Q4,Ea]
   grind [Zj])
  (fun L j hj a hI hL => by
   simp only [Zao]
   have haj:a.getD (UD j).toNat [] = acc.getD j []:=by
    rw [hI.2,show (UD j).toNat = j from rfl]
    simp only [VR]
    rw [Vs (by rw [Jz]; omega),Jz,Ht (by omega),Nat.sub_self,Jo]
    rfl
   have hl1:(acc.getD j []).length ≤ 100000:=by
    simp_all
   have hl2:(chs.getD j []).length ≤ 100000:=by
    simp_all
   rw [hI.1,Za (KN hj),Za (Xd hj),Za (show (UD j).toNat < chs.length from hj),Za (Xd hj),haj]
   rw [show (UD j).toNat = j from rfl,Za (by omega),Za (Xd hj),Za trivial,Za hj,Qa hj (by omega),ZAy hac hj hI.2]
   grind)
  k 0 acc ⟨hac,by simp⟩ (by omega) (by omega)
 exact key
theorem ZB6 (hk:20000000 ≤ k) {cc d r size n:Nat} (hc:1 ≤ cc ∧ cc ≤ 8) (hs:16 ≤ size ∧ size ≤ 512) (hn:n ≤ 4096) {tags:List ByteArray} (ht:tags.length ≤ 8) (hts:∀ t ∈ tags,t.size ≤ 900) (B:List Int) {a u:Nat} (hB:a + u ≤ B.length) (hB2:B.length ≤ 900) (hBb:Zo B = true) :
  ∀ (m i fuel:Nat) (rest:List Int) (acc:List (List Int)) (lens:List Nat),i + m = ZK n size → m < fuel → InvS cc size n i rest acc lens →
  Zg (fun L1 => YR k (Zcp k L1) L1) fuel ((i:Int),((ZK n size:Nat):Int),ZT rest,(size:Int),(n:Int),ZT B,(a:Int),(u:Int),(cc:Int),(d:Int),(r:Int),tags,acc,0,0,0,Zj lens) =
   ZIF d r size cc tags (B.take (a + u)) (XY (cc:Int) (d:Int) (r:Int) size n m i rest acc lens):=by
 have hf:=Xu (n:=n) hs.1 hs.2 hn
 intro m
 induction m with
 | zero =>
  intro i fuel rest acc lens h1 h2 hI
  obtain ⟨fuel,rfl⟩:∃ f,fuel = f + 1:=⟨fuel - 1,by omega⟩
  have hif:i = ZK n size:=by omega
  subst hif
  rw [Zc]
  simp only [YR]
  rw [Zh (by omega),ZPY]
  simp only [XY,ZIF]
  by_cases g1:rest = []
  case neg =>
   rw [decide_eq_false g1,if_neg (fun h => g1 h.1)]
   rfl
  subst g1
  rw [decide_eq_true rfl]
  simp only [HC,cond_false]
  have hS:=Zrt hI hc.2 hn ht hts
  rw [ZBN (by omega) hS]
  simp only [VJ]
  by_cases g2:chk (cc:Int) (d:Int) (r:Int) tags acc = 0
  case neg =>
   rw [Zk,Za g2,if_neg (fun h => g2 h.2.1)]
   rfl
  rw [g2,show ((0:Int) != 0) = false from rfl]
  simp only [cond_false]
  have hal:=hI.al
  subst hal
  have hLn:=ZF1 hs hn hc.1 hI
  rw [ZCs (by omega) g2 hLn]
  simp only [VJ]
  obtain ⟨hg,-⟩:=Zep g2
  have hg4:=hg.n4
  rw [ZGz (by omega)]
  have e1:Jx.wrap ((a:Int) + (u:Int)) = ((a + u:Nat):Int):=by rw [ZG (by omega)]; rfl
  rw [e1,Qy,Za (by simp only [HZ]; omega),Ui,Q4,U5]
  have e2:((ZT (Zmw d r tags acc size lens)).toList == (ZT (B.take (a + u))).toList) = decide (Zmw d r tags acc size lens = B.take (a + u)):=by
   rw [Zox]
   refine decide_eq_decide.2 ⟨fun h => ZAh (ZhQ _) (Xn hBb _) h,fun h => by rw [← h]⟩
  rw [e2]
  by_cases g3:Zmw d r tags acc size lens = B.take (a + u)
  ·simp_all
  ·rw [decide_eq_false g3,if_neg (by simp [g3])]; rfl
 | succ m ih =>
  intro i fuel rest acc lens h1 h2 hI
  obtain ⟨fuel,rfl⟩:∃ f,fuel = f + 1:=⟨fuel - 1,by omega⟩
  rw [Zc]
  simp only [YR]
  have hlt:i * size < n:=(Zaa (by omega)).1 (show i < ZK n size by omega)
  rw [Za (by omega)]
  have hrl:=hI.rl
  refine (Zd (ZLA k (by omega) (cc:Int) (d:Int) (r:Int) hI.rb (by omega)) _).trans ?_
  unfold Zd5
  simp only
  simp only [XY]
  by_cases g1:(W8 (cc:Int) (d:Int) (r:Int) rest).2.2 = 0
  case neg => rw [Zk,Za g1,if_pos (.inl g1)]; rfl
  rw [Zk,Zh (by simp [g1]),Zk]
  by_cases g2:(W8 (cc:Int) (d:Int) (r:Int) rest).1.1 = (i:Int)
  case neg => rw [Za g2,if_pos (.inr (.inl g2))]; rfl
  rw [Zh (by simp [g2])]
  obtain ⟨k1,k2,u',k3,k4⟩:=Zrf g1
  have hst:=hI.step hc.1 hlt g1
  generalize W8 (cc:Int) (d:Int) (r:Int) rest = x at *
  have hxl:x.1.2.length = cc:=by omega
  rw [Za (by simp only [HZ]; omega)]
  have e1:(if Jx.wrap ((n:Int) - Jx.wrap ((i:Int) * (size:Int))) < (size:Int) then Jx.wrap ((n:Int) - Jx.wrap ((i:Int) * (size:Int))) else (size:Int)) = ((min size (n - i * size):Nat):Int):=by
   rw [show ((i:Nat):Int) * (size:Int) = ((i * size:Nat):Int) by simp,ZG (n:=((i * size:Nat):Int)) (by omega),ZG (by omega)]
   omega
  rw [e1,Zk]
  by_cases g3:(x.1.2.getD 0 []).length = min size (n - i * size)
  case neg => rw [Za (by simp only [HZ]; omega),if_pos (.inr (.inr g3))]; rfl
  rw [Zh (by simp only [HZ]; omega),if_neg (by omega)]
  have hst:=hst g3
  rw [k3,Ui] at hst ⊢
  have key:=ZB3 (k:=k) (by omega) (acc:=acc) (chs:=x.1.2) (by rw [hI.al,hxl]) (by omega) (fun l hl => by rw [hI.ac l hl]; omega) (fun l hl => by have:=(k2 l hl).2; omega) size n i (ZK n size) (Zg (fun L1 => YR k (Zcp k L1) L1) fuel) u' rest (ZT B) (a:Int) (u:Int) x.1.1 (cc:Int) (d:Int) (r:Int) lens tags k4 (by omega) (by rw [hI.ll]; omega) (by omega)
  grind
theorem Zt3:∀ (n:Nat) {q:List Int} {x:List ByteArray × List Int},Zkj n q = some x → ∀ t ∈ x.1,t.size ≤ 12
 | 0,q,x,h => by
  grind [Zkj,VE.injEq]
 | n + 1,q,x,h => by
  simp only [Zkj] at h
  split at h
  ·cases h
  ·rename_i h1
   obtain ⟨y,h2,rfl⟩:=V2.1 h
   intro t ht
   rcases VL.1 ht with rfl | ht
   ·rw [Qy,Jz]; omega
   ·exact Zt3 n h2 t ht
theorem ZhI {b:List Int} {h:Hd} (hh:ZgW b = some h):∀ t ∈ h.tags,t.size ≤ 12:=by
 unfold ZgW at hh
 split at hh
 ·cases hh
 ·split at hh
  ·cases hh
  ·split at hh
   ·cases hh
   ·obtain ⟨x,h1,rfl⟩:=V2.1 hh
    unfold ZcP at h1
    split at h1
    ·cases h1
    ·exact Zt3 _ h1
theorem ZWK {cc size n:Nat} {q:List Int} (hq:q.length ≤ 900) (hb:Zo q = true):InvS cc size n 0 q (Jd cc []) [] :=
 ⟨by simp,fun l hl => by rw [(List.mem_replicate.1 hl).2]; simp,rfl,by simp,hq,hb⟩
noncomputable def ZDc (b:List Int):Option Zoh:=match ZgW b with
 | none => some ZGD
 | some h => ZIF h.d h.r h.size h.c h.tags (b.take (b.length - h.q.length)) (XY (h.c:Int) (h.d:Int) (h.r:Int) h.size h.n (ZK h.n h.size) 0 h.q (Jd h.c []) [])
theorem ZIm (hk:20000000 ≤ k) {b:List Int} (hb:Zo b = true) (hn:b.length ≤ 900):Zdm k (ZT b,()) = ZDc b:=by
 have h:=Zhu hk hb hn
 unfold ZDc
 cases hh:ZgW b with
 | none => rw [hh] at h; exact h
 | some x =>
  rw [hh] at h
  simp only at h ⊢
  obtain ⟨i,a,u,h1,h2,h3,h4,h5,h6,h7,h8,h9,h10⟩:=h
  rw [h10]
  have hq:x.q.length ≤ 900:=by rw [h2,Vh]; omega
  have hqb:Zo x.q = true:=by rw [h2]; exact ZW hb i
  have e:b.length - x.q.length = a + u:=by rw [h2,Vh]; omega
  rw [e]
  have hf:=Xu (n:=x.n) h4.1 h4.2 h5
  exact ZB6 hk h6 h4 h5 h9 (fun t ht => by have:=ZhI hh t ht; omega) b (by omega) hn hb (ZK x.n x.size) 0 k x.q (Jd x.c []) [] (by omega) (by omega) (ZWK hq hqb)
theorem ZIl (hk:20000000 ≤ k) {b:List Int} (hb:Zo b = true) (hn:b.length ≤ 900):Zvf k (b,()) = ZDc b:=by
 have hd:=Zhu hk hb hn
 have h:=ZIs (k:=k) (by omega) hb (by omega)
 unfold ZDR at h
 show Zdl k (ZiM k) _ = _
 simp only [Zdl]
 rw [Zh (by simp only [HZ]; omega),ZUN (by omega)]
 simp only [VJ]
 have hin:inS b (ZA b,false) = ((b,((Zu b (ZA b):Nat):Int),()),false,()):=rfl
 rw [hin] at h
 unfold ZDc
 cases hh:ZgW b with
 | none =>
  rw [hh] at h
  simp only at h
  obtain ⟨y,z,h⟩:=h
  rw [h]
  rfl
 | some x =>
  rw [hh] at h hd
  simp only at h hd ⊢
  obtain ⟨i,a,u,h1,h2,h3,h4,h5,h6,h7,h8,h9,h10⟩:=hd
  rw [h]
  simp only [VJ,inS,cond_false]
  have hq:x.q.length ≤ 900:=by rw [h2,Vh]; omega
  have hqb:Zo x.q = true:=by rw [h2]; exact ZW hb i
  have e:b.length - x.q.length = i:=by rw [h2,Vh]; omega
  rw [e]
  rw [show ZaP k (XB b (ZA x.q),()) = some (((Zu b (ZA x.q):Nat):Int),XB b (ZA x.q),()) from rfl]
  simp only [VJ]
  have hp:Zu b (ZA x.q) = 8 * i:=by unfold Zu; rw [Qc,h2,Vh]; omega
  have e1:Jx.wrap (UJ ((Zu b (ZA x.q):Nat):Int) 8) = (i:Int):=by
   rw [hp,show UJ ((8 * i:Nat):Int) 8 = ((8 * i / 8:Nat):Int) from rfl,Nat.mul_div_cancel_left _ (by omega),ZG (by omega)]
  rw [e1,Za (by simp only [HZ]; omega),Za (by omega),Ui,show (UD b.length).toNat = b.length from rfl,Ea,← h2,Ui]
  have hf:=Xu (n:=x.n) h4.1 h4.2 h5
  exact ZB2 hk h6 h4 h5 h9 (fun t ht => by have:=ZhI hh t ht; omega) b h1 hn hb (ZK x.n x.size) 0 k x.q (Jd x.c []) [] (by omega) (by omega) (ZWK hq hqb)
end doc
def RT (x:Option Zoh):Prop := ∃ c d r tags ch e,x = some ((((c,d,r,()),tags,ch,()),e,()),()) ∧ Small tags ch
theorem Zuk:RT (some ZGD):=⟨0,0,0,[],[],2,rfl,by simp,by simp,by simp,by simp⟩
theorem ZzJ {cc d r size n:Nat} (hc:1 ≤ cc) (hs:1 ≤ size):∀ (m i:Nat) (rest:List Int) (acc:List (List Int)) (lens:List Nat),i + m = ZK n size → InvS cc size n i rest acc lens → ∀ {x},XY (cc:Int) (d:Int) (r:Int) size n m i rest acc lens = some x → InvS cc size n (ZK n size) x.2.2 x.1 x.2.1:=by
 intro m
 induction m with
 | zero =>
  grind [XY,VE.injEq]
 | succ m ih =>
  intro i rest acc lens h1 hI x h
  simp only [XY] at h
  split at h
  ·cases h
  ·rename_i g
   simp only [not_or,Decidable.not_not] at g
   exact ih (i + 1) _ _ _ (by omega) (hI.step hc ((Zaa hs).1 (by omega)) g.1 g.2.2) h
theorem ZST {b:List Int} (hb:Zo b = true) (hn:b.length ≤ 900):RT (ZDc b):=by
 have hd:=Zhu (k:=20000000) (Jj _) hb hn
 unfold ZDc
 cases hh:ZgW b with
 | none => exact Zuk
 | some x =>
  rw [hh] at hd
  simp only at hd ⊢
  obtain ⟨i,a,u,h1,h2,h3,h4,h5,h6,h7,h8,h9,h10⟩:=hd
  have hq:x.q.length ≤ 900:=by rw [h2,Vh]; omega
  have hqb:Zo x.q = true:=by rw [h2]; exact ZW hb i
  cases hf:XY (x.c:Int) (x.d:Int) (x.r:Int) x.size x.n (ZK x.n x.size) 0 x.q (Jd x.c []) [] with
  | none => exact Zuk
  | some y =>
   simp only [ZIF]
   split
   ·have hI:=ZzJ h6.1 (by omega) _ 0 _ _ _ (by omega) (ZWK (cc:=x.c) (size:=x.size) (n:=x.n) hq hqb) hf
    exact ⟨_,_,_,_,_,_,rfl,Zrt hI h6.2 h5 h9 (fun t ht => by have:=ZhI hh t ht; omega)⟩
   ·exact Zuk
theorem ZBE {k:Nat} (hkn:Ziw k () = some (true,())) (hk2:20000000 ≤ k) {b:List Int} (hb:Zo b = true):f2005_F k (b,()) = some (true,()):=by
 show Zhs k _ = _
 simp only [Zhs]
 rw [hkn]
 simp only [VJ,HC,cond_false]
 by_cases h9:900 < b.length
 ·grind
 rw [Zh (by simp only [HZ]; omega),ZIl hk2 hb (by omega)]
 have e2:Zdm k (UR (UT (fun n => UX n.toNat) b).toArray,()) = ZDc b:=ZIm hk2 hb (by omega)
 rw [e2]
 obtain ⟨c,d,r,tags,ch,e,hx,hS⟩:=ZST hb (by omega)
 rw [hx]
 simp only [VJ]
 rw [show Zvo k (((c,d,r,()),tags,ch,()),()) = some (((c,d,r,()),tags,ch,()),()) from rfl]
 simp only [VJ]
 rw [ZB8 (by omega) _ _ _ hS]
 simp
theorem ZGL {b:List Int} (h:Ty.ok (.sl (.int .u8)) b):Zo b = true:=by
 refine Ve.2 fun x hx => ?_
 have:UK.min ≤ x ∧ x ≤ UK.max:=h x hx
 simp only [Jh,decide_eq_true_eq]
 have h1:UK.min = 0:=rfl
 have h2:UK.max = 255:=rfl
 omega
theorem imports_plain:∀ x:Kd.dens (W4 [.sl (.int .u8)]),ZF8 [.sl (.int .u8)] x → Zic [.sl (.int .u8)] x ≤ 1048576 → ∃ k u,f2005_F k x = some (true,u):=by
 rintro ⟨b,⟨⟩⟩ hok hb
 exact ⟨20000000,(),ZBE ZPo (Jj _) (ZGL hok.1)⟩
end Go.Sh
