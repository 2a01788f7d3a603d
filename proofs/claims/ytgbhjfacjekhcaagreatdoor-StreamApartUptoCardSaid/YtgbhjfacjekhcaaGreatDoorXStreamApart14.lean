/-
  What the row needs, part 14.
-/
import Derived.Test.YtgbhjfacjekhcaaGreatDoorXStreamApart13
set_option linter.unusedSimpArgs false
set_option linter.unusedVariables false
set_option linter.unusedSectionVars false
open BitVec renaming ofInt→UN
open Bool renaming and_eq_true→Jh,not_true→Hz
open Go.Builtin renaming zeroCells→Jl,firstCells→Ji
open Eq renaming trans→Hn
open Int renaming ofNat→UJ,toNat_natCast→Uj,eq_ofNat_of_zero_le→Vp,emod_eq_of_lt→ER,ofNat_eq_natCast→ES
open Go.IntKind renaming i64→Jx
open List renaming append_assoc→Ju,replicate→Jd,mem_cons_self→Jm,length_append→JP,length_cons→JF,nil_append→VT,length_take→Jz,length→UP,mem_cons_of_mem→Jn,flatMap_cons→Hi,drop_zero→U9,take_of_length_le→Ep,append_nil→Vg,getElem?_append_left→EH,length_drop→Vi,mem_cons→VM,take_length→Ef,all_eq_true→Vf,flatten_cons→J2,getElem?_eq_getElem→VO,getElem_mem→Ha,mem_map→VG,drop_append→Ez,drop_eq_nil_of_le→UL,getElem?_map→Vh,getElem_map→EC,length_replicate→Ur,mem_of_mem_take→JT,not_mem_nil→Uv,take_append_drop→EI,take_append_of_le_length→EJ,getD_eq_getElem?_getD→VS,length_map→Eo,length_nil→HY,map_congr_left→EL,map_id→EM,take_succ_eq_append_getElem→EN,all_append→ET,drop_left→JM,flatten_append→Vq,flatten_nil→Vr,getElem?_append_right→Vs,getElem?_drop→Jo,getElem?_take→Jy,getElem_cons_zero→EB,map_append→EU,map_cons→JR,map_map→VZ,map_nil→VE,of_mem_zip→Vy,prefix_append→EV,prefix_of_prefix_length_le→EW,singleton_append→EX,zip_cons_cons→EY
open Nat renaming le_refl→Jj,add_mul→Jg,lt_irrefl→U5,lt_or_ge→VN,zero_add→Ub,mod_lt→U1,pow_pos→Hj,pow_succ→HN,sub_self→EK,zero_le→UH,mod_eq_of_lt→EO,mul_comm→Ua,not_lt_zero→U6,one_mul→Jp,pow_mul→EP,add_assoc→JV,div_div_eq_div_mul→H0,min_eq_left→Hl,min_eq_right→EZ,mul_le_mul→J4,pow_le_pow_right→Hr
open Option renaming some→VF,bind→Ec
open Go.Value renaming int→Jv,pointer→UI,agg→EQ,slice→V5
namespace Go.Sh
open Go Go.Proofs
theorem ZsU {α:Type} {l:List (List α)} {i:Nat} (hi:i < l.length):(l.take (i + 1)).flatten = (l.take i).flatten ++ l[i]:=by
 rw [EN hi,Vq]; simp
theorem Zjp {α:Type} {l:List (List α)} (i:Nat):(l.take i).flatten.length ≤ l.flatten.length:=by
 conv => rhs; rw [← EI i l,Vq,Q3]
 omega
section prog
variable {k:Nat} {c d r:Int} {tags:List ByteArray} {ch:List (List Int)}
theorem Zpb {ll:List (List Int)} (hk:ll.length < k) (hl:ll.length < 1000000) (hs:ll.flatten.length < 2000000000):Zny k (ll,()) = some (ll.flatten,()):=by
 show Zdr k (ZiJ k) _ = _
 simp only [Zdr]
 have key2:=Qv (A:=Unit) (step:=fun L2 => ZaI k L2) (fun i _ => (UJ ll.length,UJ i,ll,(ll.take i).flatten)) ll (fun _ _ => some (ll.flatten,()))
  (fun L _ => by
   grind [ZaI])
  (fun L i hi _ hL => by
   simp only [ZaI]
   have h1:=ZsU hi
   have h2:=Zjp (l:=ll) (i + 1)
   rw [h1,Q3] at h2
   rw [Zb (KX hi),Zb (Ya hi),ZE hi,Zb (by omega),Qc hi (by omega),← h1]
   exact hL ()) k 0 () (by omega) (by omega)
 have key1:=Qv (A:=Unit) (step:=fun L1 => ZaH k (ZiK k) L1) (fun i _ => (UJ ll.length,UJ i,ll,(((ll.take i).flatten.length:Nat):Int),ll)) ll (fun _ _ => some (ll.flatten,()))
  (fun L _ => by
   simp only [ZaH]
   rw [Zl (Zaa _),Ef]
   have:ZnD k (V5 none 0 0,((ll.flatten.length:Nat):Int),()) = some ([],()):=by
    show ZyW _ = _
    unfold ZyW
    simp only
    rw [ZMK (by omega) (by omega)]
    rfl
   rw [this]
   simp only [ZX]
   exact key2)
  (fun L i hi _ hL => by
   simp only [ZaH]
   have h1:=ZsU hi
   have h2:=Zjp (l:=ll) (i + 1)
   rw [h1,Q3] at h2
   have e:Jx.wrap ((((ll.take i).flatten.length:Nat):Int) + UJ ll[i].length) = (((ll.take (i + 1)).flatten.length:Nat):Int):=by
    rw [h1,Q3,Z2 (by simp only [QY]; omega)]; simp
   rw [Zb (KX hi),Zb (Ya hi),ZE hi,e,Zl (by omega),Qc hi (by omega)]
   exact hL ()) k 0 () (by omega) (by omega)
 exact key1
def ZbA (c d r:Int) (ch:List (List Int)) (size:Nat):List Nat:=(XR c d r ch size).map UP
theorem YG (c d r:Int) (ch:List (List Int)) (size:Nat):(XR c d r ch size).length = QF (ch.getD 0 []).length size:=by simp [XR]
theorem Zc6 {c d r:Int} {ch:List (List Int)} {size:Nat}:∀ x ∈ XR c d r ch size,x.length ≤ 5000:=by
 intro x hx
 obtain ⟨i,_,rfl⟩:=VG.1 hx
 exact ZIa _ _ _ _ _
theorem Zjw {c d r:Int} {ch:List (List Int)} {size n:Nat} (hs:16 ≤ size ∧ size ≤ 512) (hn:(ch.getD 0 []).length = n) (hn4:n ≤ 4096):Lens size n (ZbA c d r ch size) where
 sz:=hs
 len:=by
  have:=Y9 hs.1 hn4
  simp only [ZbA,Eo,YG,hn]; omega
 small:=by
  intro x hx
  obtain ⟨y,hy,rfl⟩:=VG.1 hx
  have:=Zc6 y hy
  omega
 in_:=by
  intro i hi
  simp only [ZbA,Eo,YG,hn] at hi
  have:=(Ka (by omega:1 ≤ size)).1 hi
  omega
theorem ZvK {α:Type} {B:Nat}:∀ {l:List (List α)},(∀ x ∈ l,x.length ≤ B) → l.flatten.length ≤ l.length * B
 | [],_ => by simp
 | x :: l,h => by
  have h1:=h x (Jm ..)
  have h2:=ZvK fun y hy => h y (Jn _ hy)
  rw [J2,Q3,JF,Jg]; omega
noncomputable def ZdX (d r:Nat) (tags:List ByteArray) (ch:List (List Int)) (size:Nat) (lens:List Nat):List Int:=ZF (KZ d r tags ch size lens)
noncomputable def ZtV (c d r:Int) (tags:List ByteArray) (ch:List (List Int)) (size:Nat):List Int:=ZdX d.toNat r.toNat tags ch size (ZbA c d r ch size) ++ (XR c d r ch size).flatten
theorem ZnV {d r:Nat} {tags:List ByteArray} {ch:List (List Int)} {size:Nat} {lens:List Nat} (hT:Tg tags) (hl:lens.length ≤ 300):(KZ d r tags ch size lens).length ≤ 60000:=by
 have hti:(Zmi ch.length d r size (ch.getD 0 []).length (Zqn lens) (Zql lens)).length = 208:=by
  simp [Zmi,QO,Wr,Ze,ZdG]
 have htt:(Yn size (ch.getD 0 []).length lens).length ≤ 144 * 300 + 32:=by
  unfold Yn
  split
  ·rw [Q3,Wr,Zq2]; omega
  ·simp
 have htg:(Zbb tags).length ≤ tags.length * 128:=by
  unfold Zbb
  have:∀ (l:List ByteArray),(∀ t ∈ l,t.size ≤ 12) → (l.flatMap fun t => XH (K2 t.size 4) ++ XH (Za2 t)).length ≤ l.length * 128:=by
   intro l
   induction l with
   | nil => intro _; simp
   | cons x l ih =>
    intro h
    have h1:=h x (Jm ..)
    have h2:=ih fun t ht => h t (Jn _ ht)
    rw [Hi,Q3,Q3,QO,QO,Wm,ZcM,JF,Jg]; omega
  exact this tags hT.2
 have h8:=hT.1
 unfold KZ KA
 simp only [Q3,hti,QO,Zba,Wr,Wm,Zc0,JF,HY]
 omega
theorem ZBg (hk:16777216 ≤ k) (hS:Small tags ch) (s:Int):Znt k (((c,d,r,()),tags,ch,()),s,()) =
  if chk c d r tags ch = 0 then (if 16 ≤ s ∧ s ≤ 512 then some ((ZtV c d r tags ch s.toNat,0,()),()) else some (([],1,()),())) else some (([],chk c d r tags ch,()),()):=by
 show Zdm k (Zit k) _ = _
 simp only [Zdm]
 rw [Zo3 hk hS]
 by_cases h0:¬ chk c d r tags ch = 0
 ·grind
 have h0:=Decidable.not_not.1 h0
 rw [if_pos h0,if_pos h0]
 by_cases hs:¬ (16 ≤ s ∧ s ≤ 512)
 ·rw [if_neg hs,if_neg hs]; rfl
 have hs:=Decidable.not_not.1 hs
 rw [if_pos hs,if_pos hs]
 simp only [ZX]
 rw [ZD,Zl (by simp)]
 obtain ⟨size,rfl⟩:=Vp (show 0 ≤ s by omega)
 have hs2:16 ≤ size ∧ size ≤ 512:=by omega
 obtain ⟨hg,hshape,-,htv,ht8⟩:=WN h0
 have hT:=Good0.tg htv ht8
 have hsh:=of_decide_eq_true hshape
 obtain ⟨dn,rfl⟩:=Vp (show 0 ≤ d by omega)
 obtain ⟨rn,rfl⟩:=Vp (show 0 ≤ r by omega)
 have hcl:=hg.cl
 subst hcl
 have hn4:=hg.n4
 have hLn:=Zjw (c:=(ch.length:Int)) (d:=(dn:Int)) (r:=(rn:Int)) hs2 rfl hn4
 simp only [Xa]
 generalize hC:XR (ch.length:Int) (dn:Int) (rn:Int) ch size = C
 have hCl:C.length ≤ 256:=by rw [← hC,YG]; exact Y9 hs2.1 hn4
 have hCs:∀ x ∈ C,x.length ≤ 5000:=by rw [← hC]; exact Zc6
 have hCf:=ZvK hCs
 have hlen:ZbA (ch.length:Int) (dn:Int) (rn:Int) ch size = C.map UP:=by unfold ZbA; rw [hC]
 have key:=Zs (A:=List Nat) (step:=fun L1 => Zaz k L1) (fun i a => (UJ C.length,UJ i,C,(size:Int),C,Zr a,(ch.length:Int),(dn:Int),(rn:Int),tags,ch)) C
  (fun rest a => some ((ZdX dn rn tags ch size (a ++ rest.map UP) ++ C.flatten,0,()),())) (fun i a => a = (C.take i).map UP)
  (fun L a hI => by
   simp only [Zaz]
   rw [Ef] at hI
   rw [Zl (Zaa _),hI,← hlen,Zpd hk h0 hS hLn]
   simp only [ZX]
   rw [Zpb (by omega) (by omega) (by omega)]
   simp only [ZX]
   have hal:=ZnV (d:=dn) (r:=rn) (ch:=ch) (size:=size) hT hLn.len
   have hpl:(ZF (KZ dn rn tags ch size (ZbA (ch.length:Int) (dn:Int) (rn:Int) ch size))).length ≤ 10000:=by rw [Z9]; omega
   rw [Zpb (by simp; omega) (by simp) (by grind)]
   simp only [ZX,J2,Vr,Vg,VE,ZdX])
  (fun L i hi a hI hL => by
   simp only [Zaz]
   have hal:a.length ≤ 256:=by grind
   rw [Zb (KX hi),Zb (Ya hi),ZE hi,ZT,Zb (by simp; omega),Qc hi (by omega)]
   rw [show Zr a ++ [UJ C[i].length] = Zr (a ++ [C[i].length]) by rw [Xy]; rfl]
   refine Hn (hL (a ++ [C[i].length]) (by rw [hI,EN hi,EU]; rfl)) ?_
   grind)
  k 0 [] (by simp) (by omega) (by omega)
 rw [U9,VT,← hlen] at key
 refine Hn key ?_
 unfold ZtV
 rw [hC]
 rfl
end prog
end Go.Sh
namespace Go.Sh
open Go Go.Proofs
theorem ZbF {A X:List Bool} (h:A.length % 8 = 0):ZF (A ++ X) = ZF A ++ ZF X:=by
 have hA:(ZF A).length = A.length / 8:=by rw [Z9]; omega
 apply List.ext_getElem
 ·rw [JP,Z9,Z9,Z9,JP]; omega
 ·intro i h1 h2
  rw [X2]
  by_cases hi:i < (ZF A).length
  ·rw [List.getElem_append_left hi,X2]
   congr 1
   unfold Wd YZ
   have:∀ j,j < 8 → (A ++ X).getD (8 * i + j) false = A.getD (8 * i + j) false:=by
    intro j hj
    simp only [VS]
    rw [EH (by omega)]
   simp only []
   rw [this 0 (by omega),this 1 (by omega),this 2 (by omega),this 3 (by omega),this 4 (by omega),this 5 (by omega),this 6 (by omega),this 7 (by omega)]
  ·rw [List.getElem_append_right (by omega),X2]
   congr 1
   unfold Wd YZ
   have:∀ j,j < 8 → (A ++ X).getD (8 * i + j) false = X.getD (8 * (i - (ZF A).length) + j) false:=by
    intro j hj
    simp only [VS]
    rw [Vs (by omega)]
    congr 2
    omega
   simp only []
   rw [this 0 (by omega),this 1 (by omega),this 2 (by omega),this 3 (by omega),this 4 (by omega),this 5 (by omega),this 6 (by omega),this 7 (by omega)]
end Go.Sh
namespace Go.Sh
open Go Go.Proofs
def SP (p A:List Bool):Prop:=p <+: A ∧ p.length < A.length
theorem SP.split {p A B:List Bool} (h:SP p (A ++ B)):SP p A ∨ ∃ q,p = A ++ q ∧ SP q B:=by
 obtain ⟨h1,h2⟩:=h
 by_cases hl:p.length < A.length
 ·exact .inl ⟨EW h1 (EV A B) (by omega),hl⟩
 ·right
  obtain ⟨t,ht⟩:=EW (EV A B) h1 (by omega)
  refine ⟨t,ht.symm,?_,?_⟩
  ·rw [← ht] at h1
   exact (List.prefix_append_right_inj A).1 h1
  grind
theorem SP.no {p:List Bool} (h:SP p []):False:=by have:=h.2; simp at this
structure Enc {α:Type} (f:List Bool → α × Int × List Bool) (v:α) (A:List Bool):Prop where
 ok:∀ r,f (A ++ r) = (v,0,r)
 tail:∀ p,SP p A → (f p).2.1 = 10
theorem YL {n w:Nat} (h:n < 2 ^ w):Enc (ZK w) n (Za n w) where
 ok:=fun r => by
  have hl:=Ze n w
  unfold ZK
  rw [if_pos (by rw [JP]; omega),EJ (by omega),Ep (by omega),ZbP,EO h,Ez,UL (by omega),VT,hl,EK,U9]
 tail:=fun p hp => by
  have:=hp.2
  rw [Ze] at this
  unfold ZK
  rw [if_neg (by omega)]
theorem ZCv {n:Int} {w:Nat} (h:Xg n w = true):ZP3 w (n % 2 ^ w).toNat = n:=by
 unfold Xg at h
 unfold ZP3
 by_cases h0:w = 0
 ·simp_all
 ·rw [if_neg h0,decide_eq_true_eq] at h
  have hpw:(2:Int) ^ w = 2 * 2 ^ (w - 1):=by rw [show w = (w - 1) + 1 by omega,Int.pow_succ,Nat.add_sub_cancel,Int.mul_comm]
  have hp:(0:Int) < 2 ^ (w - 1):=Int.pow_pos (by omega)
  have hpn:((2 ^ (w - 1):Nat):Int) = 2 ^ (w - 1):=by rw [Xu]
  rw [hpw]
  by_cases hn:0 ≤ n
  ·have e:n % (2 * 2 ^ (w - 1)) = n:=ER hn (by omega)
   rw [e,if_neg (by omega)]
   omega
  ·have e:n % (2 * 2 ^ (w - 1)) = n + 2 * 2 ^ (w - 1):=by
    rw [← Int.add_emod_right,ER (by omega) (by omega)]
   omega
theorem ZsZ {n:Int} {w:Nat} (h:Xg n w = true):Enc (WI w) n (WA n w) where
 ok:=fun r => by
  have hl:=Zak n w
  unfold WI
  rw [if_pos (by rw [JP]; omega),EJ (by omega),Ep (by omega),Ez,UL (by omega),VT,hl,EK,U9]
  have hlt:(n % 2 ^ w).toNat < 2 ^ w:=by
   have hp:(0:Int) < 2 ^ w:=Int.pow_pos (by omega)
   have h1:=Int.emod_nonneg n (show (2:Int) ^ w ≠ 0 by omega)
   simp_all <;> omega
  unfold WA
  rw [ZbP,EO hlt,ZCv h]
 tail:=fun p hp => by
  have:=hp.2
  rw [Zak] at this
  unfold WI
  rw [if_neg (by omega)]
theorem ZzO:∀ (q n:Nat) (r:List Bool),ZgT n ((Jd q false ++ [true]) ++ r) = some (n + q,r)
 | 0,n,r => rfl
 | q + 1,n,r => by
  rw [List.replicate_succ]
  show ZgT (n + 1) ((Jd q false ++ [true]) ++ r) = _
  rw [ZzO q (n + 1) r]
  congr 2
  omega
theorem Zq9:∀ (p:List Bool) (n:Nat),(∀ x ∈ p,x = false) → ZgT n p = none
 | [],n,_ => rfl
 | x :: p,n,h => by
  have:=h x (Jm ..)
  subst this
  exact Zq9 p (n + 1) fun y hy => h y (Jn _ hy)
theorem ZjY (q:Nat):Enc unS q (Jd q false ++ [true]) where
 ok:=fun r => by
  unfold unS
  rw [ZzO q 0 r]
  simp
 tail:=fun p hp => by
  have hz:∀ x ∈ p,x = false:=by
   rcases hp.split with h | ⟨t,rfl,h⟩
   ·intro x hx
    exact List.eq_of_mem_replicate (h.1.subset hx)
   ·intro x hx
    have ht:t = []:=by have:=h.2; simp at this; exact this
    simp_all
  unfold unS
  rw [Zq9 p 0 hz]
theorem ZB4 {n:Int} (h:ZG n):Z0 n < 4294967295:=by
 unfold ZG at h
 unfold Z0
 split <;> omega
theorem ZMV {n:Int} (h:ZG n) (kk:Nat):Enc (Zbg kk) n (Kv kk n) where
 ok:=fun r => by
  have h1:=(ZjY (Z0 n / 2 ^ kk)).ok (Za (Z0 n % 2 ^ kk) kk ++ r)
  have h2:=(YL (n:=Z0 n % 2 ^ kk) (w:=kk) (U1 _ (Hj (by omega)))).ok r
  unfold Zbg Kv
  rw [Ju,h1]
  simp only
  rw [h2]
  simp only
  have e:Z0 n / 2 ^ kk * 2 ^ kk + Z0 n % 2 ^ kk = Z0 n:=by rw [Ua]; exact Nat.div_add_mod _ _
  have:=ZB4 h
  rw [e,if_neg (by simp),if_neg (by simp),if_neg (by omega),ZzP h]
 tail:=fun p hp => by
  unfold Kv at hp
  unfold Zbg
  rcases hp.split with h1 | ⟨q,rfl,h1⟩
  ·have:=(ZjY (Z0 n / 2 ^ kk)).tail p h1
   simp_all
  ·rw [(ZjY (Z0 n / 2 ^ kk)).ok q]
   have:=(YL (n:=Z0 n % 2 ^ kk) (w:=kk) (U1 _ (Hj (by omega)))).tail q h1
   simp_all
theorem Zlr {one:ZCN} {g:Int → List Bool}:∀ (xs acc:List Int),(∀ x ∈ xs,Enc one x (g x)) → Enc (fun r => X0 one xs.length r acc) (acc ++ xs) (xs.flatMap g)
 | [],acc,_ => ⟨fun r => by simp [X0],fun p hp => (hp.no).elim⟩
 | x :: xs,acc,h => by
  have hx:=h x (Jm ..)
  have ih:=Zlr xs (acc ++ [x]) fun y hy => h y (Jn _ hy)
  constructor
  ·intro r
   have:=ih.ok r
   rw [Hi,Ju,JF]
   unfold X0
   rw [hx.ok]
   simp_all
  ·intro p hp
   rw [Hi] at hp
   simp only [JF]
   unfold X0
   rcases hp.split with h1 | ⟨q,rfl,h1⟩
   ·have:=hx.tail p h1
    simp_all
   ·rw [hx.ok q]
    simp only
    rw [if_neg (by simp)]
    exact ih.tail q h1
theorem ZHP {c:List Int} (hc:∀ x ∈ c,ZG x) {m:Nat} (hm:m = 0 ∨ m = 1) {y:Prt} (hy:KY c m y):Enc (X3 m c.length) c (Xt m (c,y)):=by
 obtain ⟨a,w,ha,ha2,hw,hw2⟩:=ZqA (m:=(m:Int)) (by omega) hy
 have hA:=YL (n:=a) (w:=4 + m) (by simpa using ha2)
 have hW:=YL (n:=w) (w:=5) (by omega)
 have key:∃ B,Xt m (c,y) = Za a (4 + m) ++ B ∧ Enc (fun r => if a = Xe m then (if (ZK 5 r).2.1 ≠ 0 then (([]:List Int),(ZK 5 r).2.1,(ZK 5 r).2.2) else X0 (WI (ZK 5 r).1) c.length (ZK 5 r).2.2 []) else X0 (Zbg a) c.length r []) c B:=by
  unfold Xt YP
  simp only [ha,hw,Uj]
  rcases hy with ⟨kk,hkk,hfar,rfl⟩ | ⟨hwid,rfl⟩
  ·simp only at ha
   obtain rfl:kk = a:=by omega
   have hne:¬ kk = Xe m:=by omega
   have hne2:¬ ((kk:Int) = ((Xe (m:Int):Nat):Int)):=by omega
   rw [if_neg hne2,if_neg hne2]
   refine ⟨_,rfl,?_⟩
   rw [VT]
   have:=Zlr (one:=Zbg kk) (g:=Kv kk) c [] fun x hx => ZMV (hc x hx) kk
   simp only [if_neg hne]
   exact this
  ·simp only at ha hw
   obtain rfl:Xe (m:Int) = a:=by omega
   obtain rfl:QN c = w:=by omega
   rw [if_pos rfl,if_pos rfl]
   refine ⟨_,rfl,?_⟩
   have hl:=Zlr (one:=WI (QN c)) (g:=fun n => WA n (QN c)) c [] fun x hx => ZsZ (Ztx hc x hx)
   constructor
   ·intro r
    have h1:=hl.ok r
    simp only [if_true]
    rw [Ju,hW.ok]
    simp_all
   ·intro p hp
    simp only [if_true]
    rcases hp.split with h1 | ⟨q,rfl,h1⟩
    ·have:=hW.tail p h1
     simp_all
    ·rw [hW.ok q]
     simp only
     rw [if_neg (by simp)]
     exact hl.tail q h1
 obtain ⟨B,hB,hE⟩:=key
 rw [hB]
 constructor
 ·intro r
  have:=hE.ok r
  unfold X3
  rw [Ju,hA.ok]
  simp_all
 ·intro p hp
  unfold X3
  rcases hp.split with h1 | ⟨q,rfl,h1⟩
  ·have:=hA.tail p h1
   simp_all
  ·have:=hE.tail q h1
   rw [hA.ok q]
   simp_all
theorem ZlT {m n o p:Nat} (hm:m = 0 ∨ m = 1):∀ (cs:List (List Int)) (ys:List Prt) (i:Nat) (acc:List Int),(∀ c ∈ cs,∀ x ∈ c,ZG x) → Ko m cs ys → (∀ (j:Nat) (h:j < cs.length),cs[j].length = n / 2 ^ p - if i + j = 0 then o else 0) →
  Enc (fun r => Wk m n o p cs.length i r acc) (acc ++ cs.flatten) ((cs.zip ys).flatMap (Xt m))
 | [],[],i,acc,_,_,_ => ⟨fun r => by simp [Wk],fun p hp => (hp.no).elim⟩
 | c :: cs,y :: ys,i,acc,hn,hok,hlen => by
  have hc:=ZHP (hn c (Jm ..)) hm hok.1
  have hl:=hlen 0 (by simp)
  simp only [EB,Nat.add_zero] at hl
  have ih:=ZlT (n:=n) (o:=o) (p:=p) hm cs ys (i + 1) (acc ++ c) (fun d hd => hn d (Jn _ hd)) hok.2 (fun j hj => by
   have:=hlen (j + 1) (by simpa using hj)
   simp_all)
  constructor
  ·intro r
   have:=ih.ok r
   rw [EY,Hi,Ju,JF]
   unfold Wk
   rw [← hl,hc.ok]
   simp_all
  ·intro q hq
   rw [EY,Hi] at hq
   simp only [JF]
   unfold Wk
   rw [← hl]
   rcases hq.split with h1 | ⟨t,rfl,h1⟩
   ·have:=hc.tail q h1
    simp_all
   ·rw [hc.ok t]
    simp only
    rw [if_neg (by simp)]
    exact ih.tail t h1
theorem Zl2 {size:Nat}:∀ (d:Nat) (r:List Int),r.length = d * size → (Y3 size d r).flatten = r ∧ ∀ c ∈ Y3 size d r,c.length = size
 | 0,r,h => by
  grind [Y3]
 | d + 1,r,h => by
  have hs:(d + 1) * size = d * size + size:=by rw [Jg,Jp]
  obtain ⟨h1,h2⟩:=Zl2 (size:=size) d (r.drop size) (by rw [Vi]; omega)
  simp_all [Y3,J2,h1,EI]
theorem ZFK {l:List Int} {o p:Nat} (hf:Zd4 (l.length + o) o p = true):(Yg l o p).flatten = l ∧ ∀ (j:Nat) (h:j < (Yg l o p).length),(Yg l o p)[j].length = (l.length + o) / 2 ^ p - if 0 + j = 0 then o else 0:=by
 unfold Zd4 at hf
 simp only [Jh,decide_eq_true_eq] at hf
 obtain ⟨hm,ho⟩:=hf
 have h0:0 < 2 ^ p:=Hj (by omega)
 have hd:(l.length + o) / 2 ^ p ≤ l.length + o:=Nat.div_le_self _ _
 have hmul:2 ^ p * ((l.length + o) / 2 ^ p) = l.length + o:=by have:=Nat.div_add_mod (l.length + o) (2 ^ p); omega
 unfold Yg
 generalize (l.length + o) / 2 ^ p = size at ho hd hmul
 have e3:(2 ^ p - 1) * size = 2 ^ p * size - size:=by rw [Nat.sub_mul,Jp]
 have hps:size ≤ 2 ^ p * size:=Nat.le_mul_of_pos_left _ h0
 obtain ⟨h1,h2⟩:=Zl2 (size:=size) (2 ^ p - 1) (l.drop (size - o)) (by
  grind)
 refine ⟨by simp_all,?_⟩
 grind
theorem ZHW {l:List Int} {o:Nat} (h:Yb l (o:Nat) = 0):Enc (YU (l.length + o) o) l (W8 l o):=by
 obtain ⟨h1,h2⟩:=Zfq.1 h
 have hl:=Kh h2
 obtain ⟨_,q,hg⟩:=K5 hl (o:=o) (by omega) (by omega)
 unfold W8 Zfm
 have hys:=hg.ys
 generalize WK l o = R at hg hys
 obtain ⟨m,p,sz,ys⟩:=R
 obtain ⟨hp,p4,hfit,hm,hparts⟩:=hg
 simp only at hp hm hys
 subst hp
 obtain ⟨mn,hmn⟩:∃ mn:Nat,m = (mn:Int):=⟨m.toNat,by omega⟩
 subst hmn
 simp only [Uj]
 have hm':mn = 0 ∨ mn = 1:=by omega
 have hM:=YL (n:=mn) (w:=2) (by omega)
 have hP:=YL (n:=q) (w:=4) (by omega)
 obtain ⟨hflat,hlen⟩:=ZFK hfit
 have hB:=ZlT (n:=l.length + o) (o:=o) (p:=q) hm' (Yg l o q) ys 0 [] (fun c hc x hx => hl x (Zar hc x hx)) hys hlen
 rw [VT,hflat,Zh0] at hB
 have hbb:ZbQ ((l.length + o:Nat):Int) ((o:Nat):Int) = true:=decide_eq_true (by omega)
 rw [Ju]
 constructor
 ·intro r
  have:=hB.ok r
  unfold YU
  rw [if_neg (by rw [hbb]; simp),Ju,hM.ok,Ju]
  simp only
  rw [if_neg (by simp),if_neg (by omega),hP.ok]
  simp_all
 ·intro p hp
  unfold YU
  rw [if_neg (by rw [hbb]; simp)]
  rcases hp.split with h3 | ⟨t,rfl,h3⟩
  ·have:=hM.tail p h3
   simp_all
  ·rw [hM.ok]
   simp only
   rw [if_neg (by simp),if_neg (by omega)]
   rcases h3.split with h4 | ⟨u,rfl,h4⟩
   ·have:=hP.tail t h4
    simp_all
   ·rw [hP.ok]
    simp only
    rw [if_neg (by simp),if_neg (by rw [hfit]; simp)]
    exact hB.tail u h4
end Go.Sh
namespace Go.Sh
open Go Go.Proofs
theorem ZcG {w:Nat} {s:IS} (h:s.2 ≠ 0):gI w s = (0,s):=by unfold gI; rw [if_neg h]
theorem WS {ok:Bool} {s:IS} {code:Int} (h:s.2 ≠ 0):mI ok s code = s:=by unfold mI; rw [if_neg (fun hh => h hh.1)]
theorem Za0 {w:Nat}:∀ (n:Nat) (s:IS) (acc:List Int),s.2 ≠ 0 → (XC w n s acc).2 = s
 | 0,s,acc,h => rfl
 | n + 1,s,acc,h => by
  unfold XC
  rw [if_neg h]
  exact Za0 n s _ h
theorem ZcF {n w:Nat} (h:n < 2 ^ w) (r:List Bool):gI w (Za n w ++ r,0) = (n,(r,0)):=by
 unfold gI
 rw [if_pos rfl,(YL h).ok]
theorem Zgi {n w:Nat} (h:n < 2 ^ w) {p:List Bool} (hp:SP p (Za n w)):(gI w (p,0)).2.2 = 10:=by
 unfold gI
 rw [if_pos rfl]
 exact (YL h).tail p hp
structure EncI {α:Type} (f:IS → α × IS) (v:α) (A:List Bool):Prop where
 ok:∀ r,f (A ++ r,0) = (v,(r,0))
 tail:∀ p,SP p A → (f (p,0)).2.2 = 10
theorem ZcL {w:Nat}:∀ (xs acc:List Int),(∀ x ∈ xs,Xg x w = true) → EncI (fun s => XC w xs.length s acc) (acc ++ xs) (xs.flatMap fun n => WA n w)
 | [],acc,_ => ⟨fun r => by simp [XC],fun p hp => (hp.no).elim⟩
 | x :: xs,acc,h => by
  have hx:=ZsZ (h x (Jm ..))
  have ih:=ZcL xs (acc ++ [x]) fun y hy => h y (Jn _ hy)
  constructor
  ·intro r
   have:=ih.ok r
   rw [Hi,Ju,JF]
   unfold XC
   rw [if_pos rfl,hx.ok,this,Ju]
   rfl
  ·intro p hp
   rw [Hi] at hp
   simp only [JF]
   unfold XC
   rw [if_pos rfl]
   rcases hp.split with h1 | ⟨q,rfl,h1⟩
   ·have:=hx.tail p h1
    rw [Za0 _ _ _ (by simp only; rw [this]; decide)]
    exact this
   ·rw [hx.ok q]
    exact ih.tail q h1
theorem ZQc {kind:Nat} (h:kind < 64):Za kind 7 = Za 0 1 ++ Za kind 6:=by
 have:kind.testBit 6 = false:=Nat.testBit_lt_two_pow (by omega)
 show kind.testBit 6 :: Za kind 6 = (0:Nat).testBit 0 :: Za kind 6
 rw [this]
 rfl
theorem ZzA (r:List Bool):ZbN (Za 0 1 ++ r,0) = (r,0):=by
 rfl
theorem ZCA {p:List Bool} (hp:SP p (Za 0 1)):(ZbN (p,0)).2 = 10:=by
 have h:=Zgi (n:=0) (w:=1) (by omega) hp
 unfold ZbN
 rw [WS (by rw [h]; decide),h]
theorem ZzB {kind:Nat} (h:kind < 64) (hk:ZcJ kind = true) (r:List Bool):YA (Za kind 6 ++ r,0) = (kind,(r,0)):=by
 unfold YA
 rw [ZcF (w:=6) (by omega),hk,XE]
theorem ZzC {s:IS} (h:s.2 ≠ 0):(YA s).2 = s:=by
 unfold YA
 rw [ZcG h]
 exact WS h
theorem ZCB {kind:Nat} (h:kind < 64) {p:List Bool} (hp:SP p (Za kind 6)):(YA (p,0)).2.2 = 10:=by
 have h:=Zgi (w:=6) (by omega) hp
 unfold YA
 simp only
 rw [WS (by rw [h]; decide),h]
theorem Zmt {kind d:Nat} {s:IS} (h:s.2 ≠ 0):(ZcV kind d s).2.2 = s:=by
 unfold ZcV
 rw [ZcG h,if_neg (by simp)]
 exact WS h
def ZnO (kk:Nat):List Bool:=if 0 < kk then [true] ++ (Jd (kk - 1) false ++ [true]) else [false]
theorem ZNm {kind d kk:Nat} (h:kk < d) (r:List Bool):ZcV kind d (ZnO kk ++ r,0) = (kind,kk,(r,0)):=by
 unfold ZcV ZnO
 by_cases h0:0 < kk
 ·rw [if_pos h0]
  have e:=ZcF (n:=1) (w:=1) (by omega) ((Jd (kk - 1) false ++ [true]) ++ r)
  rw [show Za 1 1 = [true] from rfl] at e
  rw [Ju,e,if_pos ⟨rfl,rfl⟩]
  simp only
  rw [(ZjY (kk - 1)).ok r]
  simp only
  rw [show kk - 1 + 1 = kk by omega,decide_eq_true h,XE]
 ·rw [if_neg h0]
  have e:=ZcF (n:=0) (w:=1) (by omega) r
  rw [show Za 0 1 = [false] from rfl] at e
  obtain rfl:kk = 0:=by omega
  rw [e,if_neg (by simp)]
  simp only
  rw [decide_eq_true h,XE]
theorem ZCD {kind d kk:Nat} {p:List Bool} (hp:SP p (ZnO kk)):(ZcV kind d (p,0)).2.2.2 = 10:=by
 unfold ZnO at hp
 by_cases h0:0 < kk
 ·rw [if_pos h0] at hp
  rcases hp.split with h1 | ⟨q,rfl,h1⟩
  ·have h:=Zgi (n:=1) (w:=1) (by omega) (show SP p (Za 1 1) from h1)
   unfold ZcV
   rw [if_neg (fun hh => by omega)]
   simp only
   rw [WS (by rw [h]; decide),h]
  ·have e:=ZcF (n:=1) (w:=1) (by omega) q
   rw [show Za 1 1 = [true] from rfl] at e
   have h:=(ZjY (kk - 1)).tail q h1
   unfold ZcV
   rw [e,if_pos ⟨rfl,rfl⟩]
   simp only
   rw [WS (by simp only; rw [h]; decide)]
   exact h
 ·rw [if_neg h0] at hp
  have h:=Zgi (n:=0) (w:=1) (by omega) (show SP p (Za 0 1) from hp)
  unfold ZcV
  rw [if_neg (fun hh => by omega)]
  simp only
  rw [WS (by rw [h]; decide),h]
theorem Zq0 {kind kk d:Nat} (h:kind < 64) (hk:ZcJ kind = true) (hd:kk < d) (r:List Bool):ZR d (XX kind kk ++ r,0) = (kind,kk,(r,0)):=by
 unfold ZR XX
 rw [Uj,ZQc h,Ju,Ju,ZzA,ZzB h hk]
 exact ZNm hd r
theorem Zwk {kind kk d:Nat} (h:kind < 64) (hk:ZcJ kind = true) {p:List Bool} (hp:SP p (XX kind kk)):(ZR d (p,0)).2.2.2 = 10:=by
 unfold XX at hp
 rw [Uj,ZQc h,Ju] at hp
 unfold ZR
 rcases hp.split with h1 | ⟨q,rfl,h1⟩
 ·have e:=ZCA h1
  have e2:=ZzC (s:=ZbN (p,0)) (by rw [e]; decide)
  rw [e2,Zmt (by rw [e]; decide),e]
 ·rw [ZzA]
  rcases h1.split with h2 | ⟨t,rfl,h2⟩
  ·have e:=ZCB h h2
   rw [Zmt (by rw [e]; decide),e]
  ·rw [ZzB h hk]
   exact ZCD h2
theorem Zzl {c:List Int} {sh:Int} {s:List Int} (hs:s.any Qy = false):∀ (d i:Nat),i + d = s.length → ZjL c sh (Zry c sh s d i) (s.take i) = (s,0)
 | 0,i,h => by
  rw [Ep (by omega)]
  rfl
 | d + 1,i,h => by
  have hi:i < s.length:=by omega
  simp only [Zry]
  unfold ZjL
  have e:ZqN c sh s i + ZdZ c sh (s.take i) = s[i]:=by
   unfold ZqN
   rw [Wl hi]
   omega
  have hw:Qy s[i] = false:=by
   simp_all
  have ht:s.take i ++ [s[i]] = s.take (i + 1):=by simp_all
  rw [e,hw,if_neg (by simp),ht]
  exact Zzl hs d (i + 1) (by omega)
theorem Zwd {c s:List Int} {sh:Int} (h:(QM c sh s).2 = 0):Za1 c sh = true ∧ c.length ≤ s.length ∧ s.any Qy = false ∧ (XN c sh s).any Qy = false:=by
 unfold QM at h
 grind
theorem Zzn {c s:List Int} {sh:Int} (h:(QM c sh s).2 = 0):KS c sh (s.take c.length) (XN c sh s) = (s,0):=by
 obtain ⟨h1,h2,h3,h4⟩:=Zwd h
 unfold KS
 have ht:(s.take c.length).any Qy = false:=by
  grind
 rw [if_neg (by rw [h1]; simp),if_neg (by rw [Jz]; omega),if_neg (by rw [ht]; simp),if_neg (by rw [h4]; simp)]
 exact Zzl h3 (s.length - c.length) c.length (by omega)
theorem ZrI {c s:List Int} {sh:Int} (h:(QM c sh s).2 = 0) (h1:1 ≤ s.length) (h2:s.length ≤ 512):EncI (ZbZ c sh c.length s.length (s.take c.length)) s (W8 (XN c sh s) c.length):=by
 obtain ⟨hl,h8,hr⟩:=Kw h h1 h2
 obtain ⟨e1,_,_⟩:=Zfs h
 rw [e1] at hl hr
 have hE:=ZHW hr
 rw [hl] at hE
 constructor
 ·intro r
  unfold ZbZ
  simp only
  rw [hE.ok r]
  simp only
  rw [if_neg (by simp),Zzn h]
 ·intro p hp
  unfold ZbZ
  simp only
  have:=hE.tail p hp
  simp_all
theorem ZhP {num:Bool} {c n:Nat} {w:List Int × IS} (h:w.2.2 ≠ 0):(Zbj num c n w).2 = w.2:=by
 unfold Zbj
 split
 ·have e1:Zaq w.2 = w.2:=by unfold Zaq; rw [ZcG h]; exact WS h
  have e2:(WD w.2).2 = w.2:=by unfold WD; rw [ZcG h]; exact WS h
  rw [e1,e2]
  have e3:=Za0 (w:=12) c w.2 [] h
  unfold ZdU
  rw [e3,if_pos h]
 ·first
  | rfl
  | rw [if_pos h]
theorem ZFz {s:List Int} {d:Nat} {x:Xd} (h1:1 ≤ s.length) (h2:s.length ≤ 512) (hs:∀ y ∈ s,Xg y d = true) (hx:Zd9 s d x):∃ kind:Nat,x.1 = (kind:Int) ∧ kind < 64 ∧ ZcJ kind = true ∧ EncI (WM kind s.length d) s (XP s d x):=by
 unfold XP
 rcases hx with ⟨rfl,hall⟩ | rfl | ⟨o,ho,hos,hx⟩ | ⟨o,ho,hos,hx⟩
 ·refine ⟨0,rfl,by omega,rfl,?_⟩
  simp only
  rw [if_pos trivial]
  match s,h1,hall,hs with
  | a :: s',_,hall,hs =>
   have hE:=ZcL (w:=d) [a] [] (fun y hy => hs y (by simp at hy; simp [hy]))
   have hrep:Jd (a :: s').length a = a :: s':=by
    symm
    rw [List.eq_replicate_iff]
    grind
   constructor
   ·intro r
    have:=hE.ok r
    show WM 0 _ _ _ = _
    unfold WM
    simp_all
   ·intro p hp
    have:=hE.tail p hp
    unfold WM
    rw [if_pos rfl]
    exact this
 ·refine ⟨1,rfl,by omega,rfl,?_⟩
  simp only
  rw [if_neg (by omega),if_pos trivial]
  have hE:=ZcL (w:=d) s [] hs
  rw [VT] at hE
  constructor
  ·intro r
   unfold WM
   rw [if_neg (by omega),if_pos rfl]
   exact hE.ok r
  ·intro p hp
   unfold WM
   rw [if_neg (by omega),if_pos rfl]
   exact hE.tail p hp
 ·obtain ⟨e1,e2,e3,e4,e5,e6,e7,e8,e9,e10⟩:=Yy h1 h2 hx
  refine ⟨8 + o,by rw [e1]; omega,by omega,by unfold ZcJ; rw [decide_eq_true_eq]; omega,?_⟩
  rw [e1,e2,e3,e4,if_neg (by omega),if_neg (by omega),if_neg (by omega),VT]
  have hcl:=Zp1 o ho
  have hE:=ZcL (w:=d) (s.take (Xr o).length) [] (fun y hy => hs y (JT hy))
  have hZ:=ZrI e10 h1 h2
  have hlen:(s.take (Xr o).length).length = o:=by rw [Jz,hcl]; omega
  rw [VT,hlen] at hE
  rw [hcl] at hZ
  have shape:∀ r,WM (8 + o) s.length d (r,0) = Zbj false o s.length (XC d o (r,0) []):=by
   intro r
   unfold WM
   rw [if_neg (by omega),if_neg (by omega),if_neg (by omega),show 8 + o - 8 = o by omega]
   unfold ZgB
   rw [decide_eq_true hos,XE,if_neg (by simp)]
  constructor
  ·intro r
   have e:=hE.ok (W8 (XN (Xr o) 0 s) (Xr o).length ++ r)
   rw [shape,Ju,e]
   unfold Zbj
   rw [if_neg (by simp),if_neg (by simp),EZ ho]
   rw [hcl]
   exact hZ.ok r
  ·intro p hp
   rw [shape]
   rcases hp.split with h3 | ⟨q,rfl,h3⟩
   ·have:=hE.tail p h3
    rw [ZhP (by rw [this]; decide)]
    exact this
   ·have e:=hE.ok q
    rw [e]
    unfold Zbj
    rw [if_neg (by simp),if_neg (by simp),EZ ho]
    rw [hcl] at h3 ⊢
    exact hZ.tail q h3
 ·obtain ⟨e1,e2,e3,e4,e5,e6,e7,e8,e9,e10⟩:=Yy h1 h2 hx
  obtain ⟨hsl,hsr⟩:=ZhB s o ho
  refine ⟨31 + o,by rw [e1]; omega,by omega,by unfold ZcJ; rw [decide_eq_true_eq]; omega,?_⟩
  rw [e1,e2,e3,e4,if_neg (by omega),if_neg (by omega),if_pos (by omega)]
  generalize ZbL s o = c at hsl hsr e6 e7 e8 e9 e10
  have hE:=ZcL (w:=d) (s.take c.length) [] (fun y hy => hs y (JT hy))
  have hC:=ZcL (w:=12) c [] (fun y hy => by
   have:=hsr y hy
   unfold Xg
   grind)
  have hZ:=ZrI e10 h1 h2
  have hlen:(s.take c.length).length = o:=by rw [Jz,hsl]; omega
  rw [VT,hlen] at hE
  rw [VT,hsl] at hC
  rw [hsl] at hZ
  have e4':(4:Int).toNat = 4:=rfl
  rw [e4']
  have shape:∀ r,WM (31 + o) s.length d (r,0) = Zbj true o s.length (XC d o (r,0) []):=by
   intro r
   unfold WM
   rw [if_neg (by omega),if_neg (by omega),if_pos (by omega),show 31 + o - 31 = o by omega]
   unfold ZgB
   rw [decide_eq_true (show o ≤ s.length by omega),XE,if_neg (by simp)]
  have cA:∀ r,Zaq (Za 11 4 ++ r,0) = (r,0):=by
   intro r
   rfl
  have cB:∀ r,WD (Za 4 5 ++ r,0) = (4,(r,0)):=by
   intro r
   rfl
  have cAs:∀ s:IS,s.2 ≠ 0 → Zaq s = s:=fun s h => by unfold Zaq; rw [ZcG h]; exact WS h
  have cBs:∀ s:IS,s.2 ≠ 0 → (WD s).2 = s:=fun s h => by unfold WD; rw [ZcG h]; exact WS h
  constructor
  ·intro r
   have e:=hE.ok (Za 11 4 ++ (Za 4 5 ++ (c.flatMap (fun n => WA n 12) ++ (W8 (XN c 4 s) c.length ++ r))))
   rw [shape]
   have ha:((s.take c.length).flatMap (fun n => WA n d) ++ (Za 11 4 ++ (Za 4 5 ++ c.flatMap fun n => WA n 12) ++ W8 (XN c 4 s) c.length)) ++ r = (s.take c.length).flatMap (fun n => WA n d) ++ (Za 11 4 ++ (Za 4 5 ++ (c.flatMap (fun n => WA n 12) ++ (W8 (XN c 4 s) c.length ++ r)))):=by
    simp only [Ju]
   rw [ha,e]
   unfold Zbj
   rw [if_pos rfl]
   simp only
   rw [cA,cB]
   simp only
   rw [hC.ok]
   unfold ZdU
   rw [if_neg (by simp)]
   simp only
   have:=hZ.ok r
   rw [hsl]
   exact this
  ·intro p hp
   rw [shape]
   rcases hp.split with h3 | ⟨q,rfl,h3⟩
   ·have:=hE.tail p h3
    rw [ZhP (by rw [this]; decide)]
    exact this
   ·have e:=hE.ok q
    rw [e]
    unfold Zbj
    rw [if_pos rfl]
    simp only
    rw [Ju] at h3
    have fail:∀ t:IS,t.2 = 10 → (ZdU o s.length (s.take c.length) (WD t).1 (XC 12 o (WD t).2 [])).2.2 = 10:=by
     intro t ht
     have hne:t.2 ≠ 0:=by rw [ht]; decide
     rw [cBs t hne]
     have:=Za0 (w:=12) o t [] hne
     unfold ZdU
     rw [this,if_pos hne,ht]
    rcases h3.split with h4 | ⟨u,rfl,h4⟩
    ·refine fail _ ?_
     have:=Zgi (n:=11) (w:=4) (by omega) h4
     unfold Zaq
     rw [WS (by rw [this]; decide),this]
    ·rw [cA]
     rw [Ju] at h4
     rcases h4.split with h5 | ⟨v,rfl,h5⟩
     ·have:=Zgi (n:=4) (w:=5) (by omega) h5
      have e5:(WD (u,0)).2.2 = 10:=by
       unfold WD
       simp only
       rw [WS (by rw [this]; decide),this]
      have:=Za0 (w:=12) o (WD (u,0)).2 [] (by rw [e5]; decide)
      unfold ZdU
      simp_all
     ·rw [cB]
      simp only
      rcases h5.split with h6 | ⟨z,rfl,h6⟩
      ·have:=hC.tail v h6
       unfold ZdU
       simp_all
      ·rw [hC.ok]
       unfold ZdU
       rw [if_neg (by simp)]
       simp only
       rw [hsl] at h6 ⊢
       exact hZ.tail z h6
theorem Zwl {s:List Int} {d:Nat} (h1:1 ≤ s.length) (h2:s.length ≤ 512) (hd:4 ≤ d ∧ d ≤ 25) (hs:∀ y ∈ s,Xg y d = true):Enc (QJ s.length d) s (Wn s d):=by
 obtain ⟨x,_,hok,hsub,_,_⟩:=ZdN s d h1 h2
 have hw:=Zc1 (by omega) hs
 have hsg:=ZhC (by omega) hs
 have hsl:=Zal s
 have hback:(QX s).map (fun x => x * 2 ^ ZC s) = s:=by
  unfold QX
  rw [VZ]
  conv => rhs; rw [← EM s]
  apply EL
  intro y hy
  exact ZyO (ZhH y hy)
 obtain ⟨kind,hk1,hk2,hk3,hB⟩:=ZFz (by omega) (by omega) hsg hok
 rw [hsub,hk1]
 rw [hsl] at hB
 have hr:¬ ¬ (1 ≤ s.length ∧ s.length ≤ 512 ∧ 4 ≤ d ∧ d ≤ 25):=fun h => h ⟨h1,h2,hd.1,hd.2⟩
 constructor
 ·intro r
  have e:=Zq0 hk2 hk3 hw (XP (QX s) (d - ZC s) x ++ r)
  have e2:=hB.ok r
  unfold QJ
  simp_all
 ·intro p hp
  unfold QJ
  rw [if_neg hr]
  rcases hp.split with h3 | ⟨q,rfl,h3⟩
  ·have e:=Zwk (d:=d) hk2 hk3 h3
   simp_all
  ·have e:=Zq0 hk2 hk3 hw q
   have e2:=hB.tail q h3
   simp_all
end Go.Sh
namespace Go.Sh
open Go Go.Proofs
theorem Zon:∀ (i n:Nat),XQ n (i + 1) = (128 + n / 64 ^ i % 64) :: XQ n i
 | 0,n => by simp [XQ]
 | i + 1,n => by
  rw [show XQ n (i + 1 + 1) = XQ (n / 64) (i + 1) ++ [128 + n % 64] from rfl,Zon i (n / 64),show XQ n (i + 1) = XQ (n / 64) i ++ [128 + n % 64] from rfl,H0,← Nat.pow_succ']
  rfl
theorem ZIJ (n i:Nat):n / 64 ^ (i + 1) * 64 + n / 64 ^ i % 64 = n / 64 ^ i:=by
 rw [HN,← H0]
 omega
theorem ZwN:∀ (i n:Nat) (t:List Int) (g:Nat),cgL i (Q6 (XQ n i) ++ t) (n / 64 ^ i) (n / 64 ^ i) = some (n,n)
 | 0,n,t,g => by simp [cgL,XQ,Q6]
 | i + 1,n,t,g => by
  have e:Q6 (XQ n (i + 1)) ++ t = ((128 + n / 64 ^ i % 64:Nat):Int) :: (Q6 (XQ n i) ++ t):=by rw [Zon]; rfl
  rw [e]
  have h:=U1 (n / 64 ^ i) (show 0 < 64 by omega)
  simp only [cgL,Uj]
  rw [if_pos (by omega),show (128 + n / 64 ^ i % 64) % 64 = n / 64 ^ i % 64 by omega,ZIJ]
  exact ZwN i n t g
theorem ZHr:∀ (k:Fin 8) (m:Fin 64),2 ≤ k.val → m.val < 2 ^ (7 - k.val) → Zbh (ZdC k.val m.val) = k.val ∧ ZdC k.val m.val % 2 ^ (7 - k.val) = m.val:=by decide +kernel
theorem ZMI {n:Nat} (h2:128 ≤ n):2 ^ YB (Zbf n - 1) ≤ n:=by
 obtain ⟨r2,r3,r4,r5,r6,r7⟩:=ZqS
 have r1:YB 1 = 7:=rfl
 unfold Zbf
 rw [if_neg (by omega)]
 repeat' split
 all_goals simp only [Nat.reduceSub,r1,r2,r3,r4,r5,r6]
 all_goals omega
theorem ZHC {kk n:Nat} (h2:2 ≤ kk) (h7:kk ≤ 7) (hlt:n < 2 ^ YB kk):n / 64 ^ (kk - 1) < 2 ^ (7 - kk):=by
 have h64:(64:Nat) = 2 ^ 6:=rfl
 rw [Nat.div_lt_iff_lt_mul (Hj (by omega))]
 refine Nat.lt_of_lt_of_le hlt ?_
 rw [h64,← EP,← Nat.pow_add]
 refine Hr (by omega) ?_
 unfold YB
 rw [if_neg (by omega)]
 omega
theorem ZFI {n:Nat} (h:128 ≤ n):Qp n = ZdC (Zbf n) (n / 64 ^ (Zbf n - 1)) :: XQ n (Zbf n - 1):=by
 unfold Qp
 rw [if_neg (by omega)]
theorem ZHw {n:Nat} (h:n < 2 ^ 36) (t:List Int):Zd5 (Q6 (Qp n) ++ t) = (n,(Qp n).length,0):=by
 by_cases h128:n < 128
 ·have e:Qp n = [n]:=by unfold Qp; rw [if_pos h128]
  rw [e]
  show Zd5 ((n:Int) :: t) = _
  unfold Zd5
  simp only [Uj]
  rw [if_pos (by unfold Zbh; rw [if_pos h128])]
  rfl
 ·obtain ⟨h1,h2⟩:=Zs4 h (by omega)
  have h7:=(ZvV n).2
  have hm:=ZHC h1 h7 h2
  have hm64:=Zhm h1 h7 h2
  have hlow:=ZMI (n:=n) (by omega)
  rw [ZFI (by omega)]
  generalize hk:Zbf n = k at *
  have hft:=ZHr ⟨k,by omega⟩ ⟨n / 64 ^ (k - 1),hm64⟩ h1 hm
  simp only at hft
  show Zd5 (((ZdC k (n / 64 ^ (k - 1)):Nat):Int) :: (Q6 (XQ n (k - 1)) ++ t)) = _
  unfold Zd5
  simp only [Uj]
  rw [hft.1,hft.2,if_neg (by omega),if_neg (by omega),if_neg (by omega),ZwN _ _ _ 0]
  simp only
  rw [if_neg (by omega),if_neg (by simp only [JP,Zgk,ZfE]; omega)]
  simp only [JF,ZfE]
  congr 2
  omega
theorem ZFx {l:List Nat} (h:∀ x ∈ l,x < 256):ZY (Q6 l) = l.flatMap fun x => Za x 8:=by
 unfold ZY Q6
 rw [List.flatMap_map]
 rfl
theorem ZAq {l:List Nat} (h:∀ x ∈ l,x < 256):Zu (Q6 l) = true:=by
 refine Vf.2 fun x hx => ?_
 obtain ⟨y,hy,rfl⟩:=VG.1 hx
 have:=h y hy
 rw [Jh,decide_eq_true_eq,decide_eq_true_eq]
 omega
theorem ZSK (r:List Bool):hd1 (Za 32764 15 ++ r,0) = (r,0):=by
 unfold hd1
 rw [ZcF (w:=15) (by omega)]
 rfl
theorem ZSL (r:List Bool):hd2 (Za 0 1 ++ r,0) = (r,0):=by
 unfold hd2
 rw [ZcF (w:=1) (by omega)]
 rfl
theorem ZSM {kd:Nat} (h:kd = 6 ∨ kd = 7) (r:List Bool):hd3 (Za kd 4 ++ r,0) = (kd,(r,0)):=by
 unfold hd3
 rw [ZcF (w:=4) (by omega)]
 rcases h with rfl | rfl <;> rfl
theorem ZMx (r:List Bool):hd4 (Za 0 4 ++ r,0) = (r,0):=by
 unfold hd4
 rw [ZcF (w:=4) (by omega)]
 rfl
theorem ZSN {c:Int} {m:Nat} (h:m < 16) (hm:ZdY c m = true) (r:List Bool):hd5 c (Za m 4 ++ r,0) = (m,(r,0)):=by
 unfold hd5
 rw [ZcF (w:=4) (by omega),hm,XE]
theorem Zzx:∀ (l:List Nat) (r:List Bool),(∀ x ∈ l,x < 256) → Ztp l.length (l.flatMap (fun x => Za x 8) ++ r,0) = (r,0)
 | [],r,_ => rfl
 | x :: l,r,h => by
  rw [Hi,Ju,JF]
  unfold Ztp
  rw [ZcF (h x (Jm ..))]
  exact Zzx l r fun y hy => h y (Jn _ hy)
theorem ZHS {mode num N:Nat} (hm:mode < 16):Qm mode num N = Za 32764 15 ++ (Za 0 1 ++ (Za (Qx N) 4 ++ (Za 0 4 ++ (Za mode 4 ++ (Za 0 4 ++ ((Qp num).flatMap (fun x => Za x 8) ++ Za (N - 1) (8 * (Qx N - 5)))))))):=by
 have e1:Za 16382 14 ++ Za (Qx N) 6 = Za 32764 15 ++ (Za 0 1 ++ Za (Qx N) 4):=by rcases Zfe N with h | h <;> rw [h] <;> decide
 have e2:Za mode 8 = Za 0 4 ++ Za mode 4:=by
  have:=ZtK mode 4 4
  rw [show mode / 2 ^ 4 = 0 from Nat.div_eq_of_lt (by omega)] at this
  exact this
 unfold Qm
 rw [← Ju,e1,e2]
 simp only [Ju]
theorem ZRk (mode kd:Nat):(Za 32764 15 ++ (Za 0 1 ++ (Za kd 4 ++ (Za 0 4 ++ (Za mode 4 ++ Za 0 4))))).length = 32:=by simp only [JP,Ze]
theorem ZMB {c:Int} {mode num N:Nat} (hm:mode < 16) (hmb:ZdY c mode = true) (hnum:num < 2 ^ 31) (h1:1 ≤ N) (h2:N ≤ 512) {Z:List Int} {r:List Bool} (hZ:Zu Z = true) (hB:ZY Z = Qj mode num N ++ r) :
  Zbw c Z (ZY Z,0) = (mode,num,N,(r,0)):=by
 have hk:=Zfe N
 have hclt:=ZwO (n:=num) (by omega)
 have hzl:8 * Z.length = (Qj mode num N).length + r.length:=by rw [← Ql,hB,JP]
 have hpl:=ZbH mode num N
 have hhl:(Qj mode num N).length = (Qm mode num N).length + 8:=by unfold Qj; rw [JP,Ze]
 have hpp:ZF (Qj mode num N ++ r) = Z:=by rw [← hB]; exact Zhr hZ
 have hp8:(Qm mode num N).length % 8 = 0:=by omega
 unfold Zbw
 have hB2:ZY Z = Za 32764 15 ++ (Za 0 1 ++ (Za (Qx N) 4 ++ (Za 0 4 ++ (Za mode 4 ++ (Za 0 4 ++ ((Qp num).flatMap (fun x => Za x 8) ++ (Za (N - 1) (8 * (Qx N - 5)) ++ (Za (Zgu (ZF (Qm mode num N))) 8 ++ r)))))))):=by
  rw [hB]
  unfold Qj
  generalize Zgu (ZF (Qm mode num N)) = c8
  rw [ZHS hm]
  simp only [Ju]
 rw [hB2,ZSK,ZSL,ZSM hk]
 unfold ZvO
 simp only
 rw [ZMx]
 unfold ZMz
 rw [ZSN hm hmb]
 simp only
 rw [ZMx]
 unfold ZMA
 have hlw:(Za (N - 1) (8 * (Qx N - 5))).length = 8 * (Qx N - 5):=Ze _ _
 have hnumI:ZjB Z ((Qp num).flatMap (fun x => Za x 8) ++ (Za (N - 1) (8 * (Qx N - 5)) ++ (Za (Zgu (ZF (Qm mode num N))) 8 ++ r)),0) = (num,(Za (N - 1) (8 * (Qx N - 5)) ++ (Za (Zgu (ZF (Qm mode num N))) 8 ++ r),0)):=by
  unfold ZjB
  rw [if_neg (by simp)]
  have hpos:ZM Z ((Qp num).flatMap (fun x => Za x 8) ++ (Za (N - 1) (8 * (Qx N - 5)) ++ (Za (Zgu (ZF (Qm mode num N))) 8 ++ r))) / 8 = 4:=by
   unfold ZM
   simp only [JP,Zgg,Ze]
   omega
  have hdrop:Z.drop 4 = Q6 (Qp num) ++ ZF (Za (N - 1) (8 * (Qx N - 5)) ++ (Za (Zgu (ZF (Qm mode num N))) 8 ++ r)):=by
   have hb32:=ZRk mode (Qx N)
   have e:ZY Z = (Za 32764 15 ++ (Za 0 1 ++ (Za (Qx N) 4 ++ (Za 0 4 ++ (Za mode 4 ++ Za 0 4))))) ++ (ZY (Q6 (Qp num)) ++ (Za (N - 1) (8 * (Qx N - 5)) ++ (Za (Zgu (ZF (Qm mode num N))) 8 ++ r))):=by
    rw [hB2,ZFx hclt]
    simp only [Ju]
   have e2:=congrArg ZF e
   rw [Zhr hZ,ZbF (by rw [hb32]),ZbF (A:=ZY (Q6 (Qp num))) (by rw [Ql]; omega),Zhr (ZAq hclt)] at e2
   rw [e2,Ez,UL (by rw [Z9,hb32]; omega),VT,Z9,hb32]
   rfl
  simp only
  rw [hpos,hdrop,ZHw (by omega)]
  simp only
  rw [Zzx _ _ hclt,decide_eq_true (by omega),XE]
 rw [hnumI]
 unfold ZvP hd6
 simp only
 rw [if_pos trivial]
 have hw:N - 1 < 2 ^ (8 * (Qx N - 5)):=by
  unfold Qx
  split
  ·show N - 1 < 2 ^ 16; omega
  ·show N - 1 < 2 ^ 8; omega
 rw [ZcF hw]
 simp only
 rw [show N - 1 + 1 = N by omega,decide_eq_true h2,XE]
 have hc8:=ZCX (Yl (Qm mode num N))
 unfold Zgy
 rw [ZcF hc8,if_neg (by simp)]
 have hpos2:ZM Z (Za (Zgu (ZF (Qm mode num N))) 8 ++ r) / 8 = (Qm mode num N).length / 8:=by
  unfold ZM
  rw [JP,Ze]
  congr 1
  omega
 have htake:Z.take ((Qm mode num N).length / 8) = ZF (Qm mode num N):=by
  rw [← hpp]
  unfold Qj
  rw [Ju,ZbF hp8,EJ (by rw [Z9]; omega),Ep (by rw [Z9]; omega)]
 simp only
 rw [hpos2,htake,show (Zgu (ZF (Qm mode num N)) == Zgu (ZF (Qm mode num N))) = true from by simp,XE]
end Go.Sh
namespace Go.Sh
open Go Go.Proofs
theorem ZCV {N:Nat} (h1:1 ≤ N) (h2:N ≤ 512):∀ (ls:List (List Int)) (ds:List Int) (acc:List (List Int)),ls.length = ds.length →
  (∀ (i:Nat) (h1:i < ls.length) (h2:i < ds.length),ls[i].length = N ∧ (4 ≤ ds[i].toNat ∧ ds[i].toNat ≤ 25) ∧ ∀ x ∈ ls[i],Xg x ds[i].toNat = true) →
  Enc (fun r => ZhT N ds r acc) (acc ++ ls) (Qb ls ds)
 | [],[],acc,_,_ => ⟨fun r => by simp [ZhT,Qb],fun p hp => (SP.no hp).elim⟩
 | l :: ls,d :: ds,acc,hl,h => by
  obtain ⟨a,b,c⟩:=h 0 (by simp) (by simp)
  simp only [EB] at a b c
  have hE:=Zwl (s:=l) (d:=d.toNat) (by omega) (by omega) b c
  rw [a] at hE
  have ih:=ZCV h1 h2 ls ds (acc ++ [l]) (by simpa using hl) (fun i hi1 hi2 => by
   have:=h (i + 1) (by simpa using hi1) (by simpa using hi2)
   simp_all)
  have hcb:Qb (l :: ls) (d :: ds) = Wn l d.toNat ++ Qb ls ds:=by rfl
  rw [hcb]
  constructor
  ·intro r
   have:=ih.ok r
   rw [Ju]
   unfold ZhT
   rw [hE.ok]
   simp_all
  ·intro p hp
   unfold ZhT
   rcases hp.split with g1 | ⟨q,rfl,g1⟩
   ·have:=hE.tail p g1
    simp_all
   ·rw [hE.ok]
    simp only
    rw [if_neg (by simp)]
    exact ih.tail q g1
theorem ZP6 {m l r:Int} (hm:Zju m):tgL m (apA m l r) (apB m l r) = l ∧ tgR m (apA m l r) (apB m l r) = r:=by
 unfold tgL tgR apA apB
 omega
theorem Ztv {m:Int} (hm:Zju m):∀ (L R:List Int),L.length = R.length → Zgz m (WX m L R) (WY m L R) = L ∧ ZgA m (WX m L R) (WY m L R) = R
 | [],[],_ => ⟨rfl,rfl⟩
 | l :: L,r :: R,h => by
  obtain ⟨e1,e2⟩:=Ztv hm L R (by simpa using h)
  obtain ⟨e3,e4⟩:=ZP6 (l:=l) (r:=r) hm
  constructor
  ·show tgL m (apA m l r) (apB m l r) :: Zgz m (WX m L R) (WY m L R) = _
   rw [e1,e3]
  ·show tgR m (apA m l r) (apB m l r) :: ZgA m (WX m L R) (WY m L R) = _
   rw [e2,e4]
theorem ZTu {pad:Nat} (hp:pad < 8) {t:List Bool} (ht:t.length % 8 = 0):alS (Jd pad false ++ t) = (0,t):=by
 have hl:(Jd pad false ++ t).length % 8 = pad:=by grind
 unfold alS
 simp_all
structure Made (c d r n:Int) (ch:List (List Int)) (mode num N:Nat) (ls:List (List Int)) (ds:List Int):Prop where
 hm:mode < 16
 hmb:ZdY c mode = true
 hnum:num < 2 ^ 31
 hn:n = (num:Int)
 h1:1 ≤ N
 h2:N ≤ 512
 els:ls = (YO ch).1
 eds:ds = Z8 c d (mode:Int)
 emode:(YO ch).2 = (mode:Int)
 eN:(ch.headD []).length = N
 len:ls.length = ds.length
 all:∀ (i:Nat) (h1:i < ls.length) (h2:i < ds.length),ls[i].length = N ∧ (4 ≤ ds[i].toNat ∧ ds[i].toNat ≤ 25) ∧ ∀ x ∈ ls[i],Xg x ds[i].toNat = true
 bytes:(Yr c d r n ch).1 = ZF (Yf (Qj mode num N ++ Qb ls ds))
theorem ZUD {c d r n:Int} {ch:List (List Int)} (h:Ye c d r n ch = 0):∃ mode num N ls ds,Made c d r n ch mode num N ls ds:=by
 obtain ⟨hs,hn,hc,hlen,hsg⟩:=Zap h
 obtain ⟨hlay,⟨mode,hmode,hmc⟩,_⟩:=ZCa h
 have hN:1 ≤ (ch.headD []).length ∧ (ch.headD []).length ≤ 512:=by
  have:0 < ch.length:=by omega
  match ch,this with
  | l :: _,_ => exact (hlen l (by simp)).2
 refine ⟨mode,n.toNat,(ch.headD []).length,(YO ch).1,Z8 c d mode,?_⟩
 rw [hmode] at hlay
 refine ⟨by omega,?_,by omega,by omega,hN.1,hN.2,rfl,rfl,hmode,rfl,hlay.len,?_,?_⟩
 ·unfold ZdY
  grind
 ·intro i h1 h2
  obtain ⟨a,b,e⟩:=hlay.all i h1 h2
  refine ⟨a,?_,e⟩
  omega
 ·unfold Yr
  rw [if_pos h,hmode,Uj]
theorem Made.parts {c d r n:Int} {ch:List (List Int)} {mode num N:Nat} {ls:List (List Int)} {ds:List Int} (M:Made c d r n ch mode num N ls ds) :
  ∃ pad crc:Nat,pad < 8 ∧ crc < 2 ^ 16 ∧ ((Qb ls ds).length + pad) % 8 = 0 ∧ (Qj mode num N).length % 8 = 0 ∧ crc = Zb0 (ZF (Qj mode num N ++ (Qb ls ds ++ Jd pad false))) ∧
   Yf (Qj mode num N ++ Qb ls ds) = Qj mode num N ++ (Qb ls ds ++ (Jd pad false ++ Za crc 16)):=by
 have hh:(Qj mode num N).length % 8 = 0:=by
  have:=ZbH mode num N
  unfold Qj
  rw [JP,Ze]
  omega
 refine ⟨Zac (Qj mode num N ++ Qb ls ds).length,Zb0 (ZF (XM (Qj mode num N ++ Qb ls ds))),by unfold Zac; omega,ZwT (Yl _),?_,hh,?_,?_⟩
 ·unfold Zac
  rw [JP]
  omega
 ·unfold XM
  rw [Ju]
 ·unfold Yf XM
  simp only [Ju]
theorem ZHU {c d r n:Int} {ch:List (List Int)} (h:Ye c d r n ch = 0) {more:List Int} (hm:Zu more = true):ZFa c d r ((Yr c d r n ch).1 ++ more) = ((n,ch),((Yr c d r n ch).1.length:Int),0):=by
 obtain ⟨mode,num,N,ls,ds,M⟩:=ZUD h
 obtain ⟨pad,crc,hp,hcrc,hal,hh,ecrc,eclosed⟩:=M.parts
 obtain ⟨hs,hn,hc,hlen,hsg⟩:=Zap h
 have hsh:ZbX c d r = true:=decide_eq_true hs
 rw [M.bytes,eclosed]
 have hclen:(Qj mode num N ++ (Qb ls ds ++ (Jd pad false ++ Za crc 16))).length % 8 = 0:=by
  grind [JP,Ur,Ze]
 generalize hZ:ZF (Qj mode num N ++ (Qb ls ds ++ (Jd pad false ++ Za crc 16))) ++ more = Z
 have hZb:Zu Z = true:=by
  rw [← hZ]
  exact Vf.2 fun x hx => by
   rcases List.mem_append.1 hx with hx | hx
   ·exact Vf.1 (Yl _) x hx
   ·exact Vf.1 hm x hx
 have hB:ZY Z = Qj mode num N ++ (Qb ls ds ++ (Jd pad false ++ (Za crc 16 ++ ZY more))):=by
  rw [← hZ,ZhN,Zn6 hclen]
  simp only [Ju]
 have hZl:8 * Z.length = (Qj mode num N).length + ((Qb ls ds).length + (pad + (16 + 8 * more.length))):=by
  grind [JP,Ur,Ze,Ql]
 unfold ZFa
 rw [if_neg (by rw [hsh]; simp),ZMB M.hm M.hmb M.hnum M.h1 M.h2 hZb hB]
 unfold Zz9
 simp only
 rw [if_neg (by simp),← M.eds]
 have hch:=(ZCV M.h1 M.h2 ls ds [] M.len M.all).ok (Jd pad false ++ (Za crc 16 ++ ZY more))
 rw [VT] at hch
 rw [hch]
 simp only
 rw [if_neg (by simp)]
 unfold ZMm
 rw [ZTu hp (by rw [JP,Ze,Ql]; omega)]
 have hsum:Zgy Zb0 Z 16 (Za crc 16 ++ ZY more,0) = (ZY more,0):=by
  unfold Zgy
  rw [ZcF hcrc,if_neg (by simp)]
  have hpos:ZM Z (Za crc 16 ++ ZY more) / 8 = (Qj mode num N ++ (Qb ls ds ++ Jd pad false)).length / 8:=by
   unfold ZM
   grind [JP,Ur,Ze,Ql]
  have htake:Z.take ((Qj mode num N ++ (Qb ls ds ++ Jd pad false)).length / 8) = ZF (Qj mode num N ++ (Qb ls ds ++ Jd pad false)):=by
   have hA:(Qj mode num N ++ (Qb ls ds ++ Jd pad false)).length % 8 = 0:=by
    grind
   have e:Qj mode num N ++ (Qb ls ds ++ (Jd pad false ++ Za crc 16)) = (Qj mode num N ++ (Qb ls ds ++ Jd pad false)) ++ Za crc 16:=by simp only [Ju]
   rw [← hZ,e,ZbF hA,Ju,EJ (by rw [Z9]; omega),Ep (by rw [Z9]; omega)]
  simp only
  rw [hpos,htake,← ecrc,show (crc == crc) = true from by simp,XE]
 rw [hsum]
 simp only
 rw [if_neg (by simp)]
 have hpos2:ZM Z (ZY more) / 8 = (ZF (Qj mode num N ++ (Qb ls ds ++ (Jd pad false ++ Za crc 16)))).length:=by
  unfold ZM
  grind [JP,Ur,Ze,Ql]
 have hout:∀ out,out = ch → ZHO c d r num (ZM Z (ZY more)) out = ((n,ch),(((ZF (Qj mode num N ++ (Qb ls ds ++ (Jd pad false ++ Za crc 16)))).length:Nat):Int),0):=by
  intro out ho
  subst ho
  unfold ZHO
  rw [← M.hn,if_neg (by simpa using h),hpos2]
 match ch,hc,hlen,hsg,M,hout,h with
 | [],hc,_,_,_,_,_ => simp at hc; omega
 | [l],hc,_,_,M,hout,_ =>
  have hc:c = 1:=by simp at hc; omega
  subst hc
  rw [if_neg (by omega)]
  exact hout ls M.els
 | [L,R],hc,hlen,hsg,M,hout,h =>
  have hc:c = 2:=by simp at hc; omega
  subst hc
  rw [if_pos (by omega)]
  have hlr:L.length = R.length:=by
   simp_all
  have hmd:=Zg0 L R
  have hls:ls = [WX (Z1 L R) L R,WY (Z1 L R) L R]:=M.els
  have hmo:(if Z1 L R = 0 then 1 else Z1 L R) = (mode:Int):=M.emode
  have hmm:(if mode = 1 then 0 else (mode:Int)) = Z1 L R:=by
   rcases hmd with h | h | h | h <;> rw [h] at hmo ⊢
   ·omega
   ·omega
   ·omega
   omega
  have hg0:ls.getD 0 [] = WX (Z1 L R) L R:=by rw [hls]; rfl
  have hg1:ls.getD 1 [] = WY (Z1 L R) L R:=by rw [hls]; rfl
  rw [hmm,hg0,hg1]
  show Zzg 2 d r num _ (Z1 L R) (WX (Z1 L R) L R) (WY (Z1 L R) L R) = _
  obtain ⟨e1,e2⟩:=Ztv hmd L R hlr
  obtain ⟨l1,l2⟩:=ZfB (m:=Z1 L R) hlr
  have htog:(QZ (Z1 L R) (WX (Z1 L R) L R) (WY (Z1 L R) L R)).2 = 0:=by
   unfold QZ
   rw [if_neg (by rw [l1,l2]; simp),e1,e2,if_pos]
   rw [Vf]
   intro x hx
   have h1:=hsg L (by simp) x.1 (Vy hx).1
   have h2:=hsg R (by simp) x.2 (Vy hx).2
   have g1:=ZbM (by omega) h1
   have g2:=ZbM (by omega) h2
   rw [Jh]
   unfold ZaW
   rw [decide_eq_true_eq,decide_eq_true_eq]
   exact ⟨g1,g2⟩
  unfold Zzg
  simp_all
 | _ :: _ :: _ :: _,hc,_,_,_,_,_ => simp at hc; omega
end Go.Sh
namespace Go.Sh
open Go Go.Proofs
abbrev IS2:=List Bool × Bool
def gG (w:Nat) (s:IS2):Nat × IS2:=((ZK w s.1).1,((ZK w s.1).2.2,s.2 || (ZK w s.1).2.1 != 0))
def Zzv:Nat → IS2 → IS2
 | 0,s => s
 | n + 1,s => Zzv n (gG 8 s).2
def Qf:Nat → IS2 → List Nat × IS2
 | 0,s => ([],s)
 | n + 1,s => ((gG 8 s).1 :: (Qf n (gG 8 s).2).1,(Qf n (gG 8 s).2).2)
def Zbz:List Nat → Nat
 | [] => 0
 | x :: l => x + 256 * Zbz l
def WQ (most:Nat) (s:IS2):Nat × IS2 :=
 if most < Zbz (Qf 4 s).1 then (0,((Qf 4 s).2.1,true)) else (Zbz (Qf 4 s).1,(Qf 4 s).2)
def Zfv:Nat → IS2 → List ByteArray × IS2
 | 0,s => ([],s)
 | n + 1,s => (ZhE (Qf (WQ 12 s).1 (WQ 12 s).2).1 :: (Zfv n (Qf (WQ 12 s).1 (WQ 12 s).2).2).1,(Zfv n (Qf (WQ 12 s).1 (WQ 12 s).2).2).2)
def inS (b:List Int) (s:IS2):(List Int × Int × Unit) × Bool × Unit:=(YV b s.1,s.2,())
theorem ZvM {b:List Int} {s:IS2} (h:Zg b s.1) (w:Nat):Zg b (gG w s).2.1:=Z5 h w
theorem Zbk {b:List Int}:∀ (n:Nat) {s:IS2},Zg b s.1 → Zg b (Qf n s).2.1
 | 0,_,h => h
 | n + 1,s,h => Zbk n (ZvM h 8)
theorem Zp4 {b:List Int} (m:Nat) {s:IS2} (h:Zg b s.1):Zg b (WQ m s).2.1:=by
 unfold WQ
 have:=Zbk 4 h
 generalize Qf 4 s = q at *
 split <;> exact this
theorem ZgY:∀ (n:Nat) (s:IS2),(Qf n s).1.length = n
 | 0,_ => rfl
 | n + 1,s => by simp [Qf,ZgY n]
theorem ZwL:∀ (n:Nat) (s:IS2),XK (Qf n s).1
 | 0,_ => by intro x hx; cases hx
 | n + 1,s => by
  intro x hx
  simp only [Qf,VM] at hx
  rcases hx with rfl | hx
  ·exact K6 8 s.1
  ·exact ZwL n _ x hx
theorem ZyU (m:Nat) (s:IS2):(WQ m s).1 ≤ m:=by
 unfold WQ
 split
 ·exact UH _
 ·omega
section prog
variable {k:Nat} {b:List Int}
theorem ZdA (hb:Zu b = true) (hn:b.length < 268435456) (hk:100 < k) {s:IS2} (hs:Zg b s.1) {w:Nat} (hw:w ≤ 32):X9 k (inS b s,(w:Int),()) = some (((gG w s).1:Int),inS b (gG w s).2,()):=by
 show Zhi k _ = _
 obtain ⟨r,bd⟩:=s
 simp only [Zhi,inS]
 refine (Zi (XA k hb (by omega) hs hw hk) _).trans ?_
 unfold gG
 cases bd with
 | true => rfl
 | false => simp only [cond_false,Bool.false_or]
theorem ZD8 (hb:Zu b = true) (hn:b.length < 268435456) (hk:100 < k) (N:Nat) (hN:N < 1000000):∀ (n i fuel:Nat) (s:IS2),i + n = N → n < fuel → Zg b s.1 →
  Zh (fun L1 => ZaS k L1) fuel ((N:Int),(i:Int),s.2,(YV b s.1).1,(YV b s.1).2.1) = some ((),inS b (Zzv n s),())
 | 0,i,fuel + 1,s,h1,h2,h3 => by
  rw [Zd]
  simp only [ZaS]
  rw [Zl (by omega)]
  rfl
 | n + 1,i,fuel + 1,s,h1,h2,h3 => by
  rw [Zd]
  simp only [ZaS]
  rw [Zb (by omega)]
  refine Hn (congrArg (fun x => Ec x _) (ZdA hb hn hk h3 (w:=8) (by omega))) ?_
  simp only [ZX]
  rw [ZzU (by omega)]
  exact ZD8 hb hn hk N hN n (i + 1) fuel (gG 8 s).2 (by omega) (by omega) (ZvM h3 8)
 | 0,_,0,_,_,h2,_ => absurd h2 (U5 _)
 | n + 1,_,0,_,_,h2,_ => absurd h2 (U6 _)
theorem ZBU (hb:Zu b = true) (hn:b.length < 268435456) (hk:100 < k) {N:Nat} (hN:N < 1000000) (hkn:N < k) {s:IS2} (hs:Zg b s.1):Ku k (inS b s,(N:Int),()) = some ((),inS b (Zzv N s),()) :=
 ZD8 hb hn hk N hN N 0 k s (by omega) hkn hs
theorem Zjv (l:List Nat) (x:Nat):Zbz (l ++ [x]) = Zbz l + 256 ^ l.length * x:=by
 induction l with
 | nil => simp [Zbz]
 | cons y l ih =>
  simp only [List.cons_append,Zbz,ih,JF,HN]
  rw [Nat.mul_add,JV]
  congr 2
  rw [← Nat.mul_assoc,Ua 256]
theorem Zy7:∀ {l:List Nat},XK l → Zbz l < 256 ^ l.length
 | [],_ => by simp [Zbz]
 | x :: l,h => by
  have h1:=h x (Jm ..)
  have h2:=Zy7 fun y hy => h y (Jn x hy)
  simp only [Zbz,JF,HN]
  omega
theorem ZM0 {a x i:Nat} (ha:a < 256 ^ i) (hx:x < 256) (hi:i < 4):Jx.wrap (UJ (UN 64 (a:Int) ||| UN 64 (Jx.wrap ((x:Int) * (2:Int) ^ min (((8 * i:Nat):Int)).toNat 64))).toNat) = ((a + 256 ^ i * x:Nat):Int):=by
 have e1:min (((8 * i:Nat):Int)).toNat 64 = 8 * i:=by omega
 have e2:(256:Nat) ^ i = 2 ^ (8 * i):=by rw [EP]
 have h24:2 ^ (8 * i) ≤ 2 ^ 24:=Hr (by omega) (by omega)
 have hm:x * 2 ^ (8 * i) ≤ 255 * 2 ^ 24:=J4 (by omega) h24
 rw [e2] at ha ⊢
 rw [e1,show (x:Int) * (2:Int) ^ (8 * i) = ((x * 2 ^ (8 * i):Nat):Int) by simp,ZyZ (by omega),BitVec.toNat_or,ZIB (by omega),ZIB (by omega),Zqx ha]
 rw [show UJ (a + x * 2 ^ (8 * i)) = ((a + x * 2 ^ (8 * i):Nat):Int) from rfl,ZyZ (by omega),Ua x]
theorem ZlZ:∀ (n:Nat) (s:IS2),Qf (n + 1) s = ((Qf n s).1 ++ [(gG 8 (Qf n s).2).1],(gG 8 (Qf n s).2).2)
 | 0,s => rfl
 | n + 1,s => by
  conv => lhs; rw [Qf]
  rw [ZlZ n]
  rfl
theorem ZEb (hb:Zu b = true) (hn:b.length < 268435456) (hk:100 < k) (most:Nat) {s:IS2} (hs:Zg b s.1):∀ (n i fuel:Nat),i + n = 4 → n < fuel →
  Zh (fun L1 => ZaT k L1) fuel (((8 * i:Nat):Int),((Zbz (Qf i s).1:Nat):Int),(most:Int),(Qf i s).2.2,(YV b (Qf i s).2.1).1,(YV b (Qf i s).2.1).2.1) = some (((WQ most s).1:Int),inS b (WQ most s).2,())
 | 0,i,fuel + 1,h1,h2 => by
  obtain rfl:i = 4:=by omega
  rw [Zd]
  simp only [ZaT]
  rw [Zl (by omega)]
  unfold WQ
  by_cases h:most < Zbz (Qf 4 s).1
  ·rw [Zb (by omega),if_pos h]; rfl
  ·rw [Zl (by omega),if_neg h]; rfl
 | n + 1,i,fuel + 1,h1,h2 => by
  rw [Zd]
  simp only [ZaT]
  rw [Zb (by omega)]
  refine Hn (congrArg (fun x => Ec x _) (ZdA hb hn hk (Zbk i hs) (w:=8) (by omega))) ?_
  simp only [ZX]
  have hl:=Zy7 (ZwL i s)
  rw [ZgY] at hl
  rw [Zb (by omega),show Jx.wrap (((8 * i:Nat):Int) + 8) = ((8 * (i + 1):Nat):Int) by rw [Z2 (by omega)]; omega]
  have hx:(gG 8 (Qf i s).2).1 < 256:=K6 8 _
  rw [ZM0 hl hx (by omega)]
  have ih:=ZEb hb hn hk most hs n (i + 1) fuel (by omega) (by omega)
  rw [ZlZ,Zjv,ZgY] at ih
  exact ih
 | 0,_,0,_,h2 => absurd h2 (U5 _)
 | n + 1,_,0,_,h2 => absurd h2 (U6 _)
theorem Zpt (hb:Zu b = true) (hn:b.length < 268435456) (hk:100 < k) (most:Nat) {s:IS2} (hs:Zg b s.1):Zge k (inS b s,(most:Int),()) = some (((WQ most s).1:Int),inS b (WQ most s).2,()) :=
 ZEb hb hn hk most hs 4 0 k rfl (by omega)
end prog
end Go.Sh
namespace Go.Sh
open Go Go.Proofs
theorem Wa {b:List Int} {x r:List Bool} (h:Zg b (x ++ r)):Zg b r:=(List.suffix_append x r).trans h
theorem ZQX {n w:Nat} (h:n < 2 ^ w) (r:List Bool):gG w (Za n w ++ r,false) = (n,(r,false)):=by
 have:=(YL h).ok r
 unfold gG
 simp only
 rw [this]
 rfl
theorem ZSJ {w:Nat} {x r:List Bool} (h:x.length = w):(gG w (x ++ r,false)).2 = (r,false):=by
 unfold gG ZK
 simp only
 rw [if_pos (by rw [Q3]; omega),Ez,UL (by omega),h,EK,VT,U9]
 rfl
theorem Zzw:∀ (n:Nat) {x:List Bool} (r:List Bool),x.length = 8 * n → Zzv n (x ++ r,false) = (r,false)
 | 0,x,r,h => by
  have:x = []:=List.eq_nil_of_length_eq_zero h
  subst this
  rfl
 | n + 1,x,r,h => by
  unfold Zzv
  conv => lhs; rw [← EI 8 x,Ju]
  rw [ZSJ (by rw [Jz]; omega)]
  exact Zzw n r (by rw [Vi]; omega)
theorem Zkb:∀ {l:List Nat} (r:List Bool),XK l → Qf l.length (XH l ++ r,false) = (l,(r,false))
 | [],r,_ => rfl
 | x :: l,r,h => by
  have h1:=h x (Jm ..)
  have ih:=Zkb (l:=l) r fun y hy => h y (Jn x hy)
  have e:XH (x :: l) ++ r = Za x 8 ++ (XH l ++ r):=by simp [XH]
  rw [e,JF]
  unfold Qf
  rw [ZQX h1,ih]
theorem Zs3:∀ (i n:Nat),Zbz (K2 n i) = n % 256 ^ i
 | 0,n => by simp [K2,Zbz,Nat.mod_one]
 | i + 1,n => by
  have e:K2 n (i + 1) = K2 n i ++ [n / 2 ^ (8 * i) % 256]:=by simp [K2,List.range_succ]
  rw [e,Zjv,Zs3 i n,Wm,HN,Nat.mod_mul,show (256:Nat) ^ i = 2 ^ (8 * i) by rw [EP]]
theorem ZUa (n i:Nat):XK (K2 n i):=by
 intro x hx
 obtain ⟨j,_,rfl⟩:=VG.1 hx
 exact U1 _ (by omega)
theorem ZCz (s:ByteArray):ZhE (Za2 s) = s:=by
 apply ZAd
 simp only [ZhE,Za2,Zr,VZ]
 conv => rhs; rw [← EM s.data.toList]
 apply EL
 intro x _
 simp
theorem ZyV {n m:Nat} (h:n ≤ m) (hm:m < 1000) (r:List Bool):WQ m (XH (K2 n 4) ++ r,false) = (n,(r,false)):=by
 have:=Zkb (l:=K2 n 4) r (ZUa n 4)
 rw [Wm] at this
 unfold WQ
 rw [this]
 simp only
 rw [Zs3,EO (by omega),if_neg (by omega)]
theorem ZzG:∀ {l:List ByteArray} (r:List Bool),(∀ t ∈ l,t.size ≤ 12) → Zfv l.length (Zbb l ++ r,false) = (l,(r,false))
 | [],r,_ => rfl
 | x :: l,r,h => by
  have h1:=h x (Jm ..)
  have ih:=ZzG (l:=l) r fun y hy => h y (Jn x hy)
  have e:Zbb (x :: l) ++ r = XH (K2 x.size 4) ++ (XH (Za2 x) ++ (Zbb l ++ r)):=by simp [Zbb]
  rw [e,JF]
  unfold Zfv
  have hb:=Zkb (l:=Za2 x) (Zbb l ++ r) (Zzb x)
  rw [ZcM] at hb
  rw [ZyV h1 (by omega)]
  simp only
  rw [hb]
  simp only
  rw [ih,ZCz]
def Zq5 (s:IS2):List ByteArray × IS2:=Zfv (WQ 8 s).1 (WQ 8 s).2
theorem ZNr {l:List ByteArray} (r:List Bool) (h8:l.length ≤ 8) (h:∀ t ∈ l,t.size ≤ 12):Zq5 (XH (K2 l.length 4) ++ Zbb l ++ r,false) = (l,(r,false)):=by
 unfold Zq5
 rw [Ju,ZyV h8 (by omega)]
 exact ZzG r h
end Go.Sh
namespace Go.Sh
open Go Go.Proofs
section prog
variable {k:Nat} {b:List Int}
abbrev ZUx:=((((Int × Int × Int × Unit) × List ByteArray × List (List Int) × Unit) × Int × Int × Unit) × ((List Int × Int × Unit) × Bool × Unit) × Unit)
abbrev L49:=Int × Int × Int × Int × Bool × List Int × Int × Int × Int × Int × List ByteArray × Int × Int × Int → Option ZUx
theorem ZDV (hb:Zu b = true) (hn:b.length < 268435456) (hk:100 < k) (L1:L49) (N:Nat) (hN:N < 1000) (i1 n1 sz n c d r:Int) (tags:List ByteArray) (htl:tags.length < 1000):∀ (m i fuel:Nat) (s:IS2) (acc:List Nat),i + m = N → acc.length = i → m < fuel → Zg b s.1 →
  Zh (fun L2 => ZaM k L1 L2) fuel ((N:Int),(i:Int),i1,n1,sz,n,s.2,b,((ZM b s.1:Nat):Int),Zr acc,c,d,r,tags,0,0,0) =
   L1 (n1,Jx.wrap (i1 + 1),sz,n,(Qf m s).2.2,b,((ZM b (Qf m s).2.1:Nat):Int),c,d,r,tags ++ [ZhE (acc ++ (Qf m s).1)],0,0,0)
 | 0,i,fuel + 1,s,acc,h1,h2,h3,h4 => by
  rw [Zd]
  simp only [ZaM]
  rw [Zl (by omega),Zb (by simp; omega)]
  simp only [Qf,Vg,ZhE]
 | m + 1,i,fuel + 1,s,acc,h1,h2,h3,h4 => by
  rw [Zd]
  simp only [ZaM]
  rw [Zb (by omega)]
  refine Hn (congrArg (fun x => Ec x _) (ZdA hb hn hk h4 (w:=8) (by omega))) ?_
  simp only [ZX]
  have hx:(gG 8 s).1 < 256:=K6 8 s.1
  rw [wu8 (n:=((gG 8 s).1:Int)) (by omega),show (((gG 8 s).1:Nat):Int) = UJ (gG 8 s).1 from rfl,Zb (by simp [Zr]; omega),ZzU (by omega),show Zr acc ++ [UJ (gG 8 s).1] = Zr (acc ++ [(gG 8 s).1]) by simp [Zr]]
  refine Hn (ZDV hb hn hk L1 N hN i1 n1 sz n c d r tags htl m (i + 1) fuel (gG 8 s).2 (acc ++ [(gG 8 s).1]) (by omega) (by simp; omega) (by omega) (ZvM h4 8)) ?_
  simp only [Qf,Ju,EX]
 | 0,_,0,_,_,_,_,h3,_ => absurd h3 (U5 _)
 | m + 1,_,0,_,_,_,_,h3,_ => absurd h3 (U6 _)
theorem ZO8 (hb:Zu b = true) (hn:b.length < 268435456) (hk:100 < k) (sz n c d r:Int) (N:Nat) (hN:N < 1000):∀ (m i fuel:Nat) (s:IS2) (acc:List ByteArray),i + m = N → acc.length = i → m < fuel → Zg b s.1 →
  Zh (fun L1 => Y7 k (ZeF k L1) L1) fuel ((N:Int),(i:Int),sz,n,s.2,b,((ZM b s.1:Nat):Int),c,d,r,acc,0,0,0) =
   some ((((c,d,r,()),acc ++ (Zfv m s).1,[],()),sz,n,()),inS b (Zfv m s).2,()):=by
 intro m
 induction m with
 | zero =>
  intro i fuel s acc h1 h2 h3 h4
  obtain ⟨fuel,rfl⟩:∃ f,fuel = f + 1:=⟨fuel - 1,by omega⟩
  rw [Zd]
  simp only [Y7]
  rw [Zl (by omega)]
  simp only [Zfv,Vg]
  rfl
 | succ m ih =>
  intro i fuel s acc h1 h2 h3 h4
  obtain ⟨fuel,rfl⟩:∃ f,fuel = f + 1:=⟨fuel - 1,by omega⟩
  rw [Zd]
  simp only [Y7]
  rw [Zb (by omega)]
  refine Hn (congrArg (fun x => Ec x _) (Zpt hb hn hk 12 h4)) ?_
  simp only [ZX]
  have hle:=ZyU 12 s
  have hr:=Zp4 12 h4
  rw [show Zfv (m + 1) s = (ZhE (Qf (WQ 12 s).1 (WQ 12 s).2).1 :: (Zfv m (Qf (WQ 12 s).1 (WQ 12 s).2).2).1,(Zfv m (Qf (WQ 12 s).1 (WQ 12 s).2).2).2) from rfl]
  generalize WQ 12 s = F at *
  obtain ⟨F1,F2⟩:=F
  simp only at *
  have key:=ZDV hb hn hk (Zh (fun L1 => Y7 k (ZeF k L1) L1) fuel) F1 (by omega) (i:Int) (N:Int) sz n c d r acc (by omega) F1 0 k F2 [] (by omega) rfl (by omega) hr
  refine Hn key ?_
  have hq:=Zbk F1 hr
  generalize Qf F1 F2 = Q at *
  obtain ⟨Q1,Q2⟩:=Q
  simp only at *
  rw [ZzU (by omega)]
  refine Hn (ih (i + 1) fuel Q2 (acc ++ [ZhE Q1]) (by omega) (by simp; omega) (by omega) hq) ?_
  simp only [Ju,EX]
theorem Zln {α:Type} (hb:Zu b = true) (hn:b.length < 268435456) (hk:100 < k) {v w:Nat} {r:List Bool} (hs:Zg b (Za v w ++ r)) (hv:v < 2 ^ w) (hw:w ≤ 32) (K:Int × ((List Int × Int × Unit) × Bool × Unit) × Unit → Option α) :
  (X9 k (inS b (Za v w ++ r,false),(w:Int),())).bind K = K ((v:Int),inS b (r,false),()):=by
 rw [ZdA hb hn hk hs hw,ZQX hv]
 rfl
theorem ZjR {α:Type} (hb:Zu b = true) (hn:b.length < 268435456) (hk:100 < k) {N:Nat} {x r:List Bool} (hN:N < 1000000) (hkn:N < k) (hs:Zg b (x ++ r)) (hx:x.length = 8 * N) (K:Unit × ((List Int × Int × Unit) × Bool × Unit) × Unit → Option α) :
  (Ku k (inS b (x ++ r,false),(N:Int),())).bind K = K ((),inS b (r,false),()):=by
 rw [ZBU hb hn hk hN hkn hs,Zzw N r hx]
 rfl
end prog
end Go.Sh
namespace Go.Sh
open Go Go.Proofs
noncomputable def ZaX (d r:Nat) (tags:List ByteArray) (ch:List (List Int)) (size:Nat) (lens:List Nat):List Bool :=
 Zmi ch.length d r size (ch.getD 0 []).length (Zqn lens) (Zql lens) ++ XH (Zq1 d ch) ++ Yn size (ch.getD 0 []).length lens ++ (Y2 1 4 (15 + Zq4 tags) ++ XH (K2 7 4) ++ XH Zc0)
theorem Zed (d r:Nat) (tags:List ByteArray) (ch:List (List Int)) (size:Nat) (lens:List Nat):KZ d r tags ch size lens = ZaX d r tags ch size lens ++ (XH (K2 tags.length 4) ++ Zbb tags):=by
 simp only [KZ,ZaX,KA,Ju]
theorem ZFl {size n:Nat} {lens:List Nat} (h:1 < lens.length):(Yn size n lens).length = 8 * (4 + 18 * lens.length):=by
 unfold Yn
 rw [if_pos h,Q3,Wr,Zq2]; omega
theorem ZKz {k:Nat} (hk:16777216 ≤ k) {b:List Int} (hb:Zu b = true) (hn:b.length < 268435456) {d r:Nat} {tags:List ByteArray} {ch:List (List Int)} (h0:chk (ch.length:Int) (d:Int) (r:Int) tags ch = 0) {size:Nat} {lens:List Nat} (hL:Lens size (ch.getD 0 []).length lens) (hl:lens.length = QF (ch.getD 0 []).length size)
  {q:List Bool} (hs:Zg b (ZaX d r tags ch size lens ++ q)) :
  ZuS k (inS b (ZaX d r tags ch size lens ++ q,false),()) = some (((((ch.length:Int),(d:Int),(r:Int),()),(Zq5 (q,false)).1,[],()),(size:Int),((ch.getD 0 []).length:Int),()),inS b (Zq5 (q,false)).2,()):=by
 obtain ⟨hg,hshape,-,htv,ht8⟩:=WN h0
 have hsh:=of_decide_eq_true hshape
 have hsz:=hL.sz
 have hn4:=hg.n4
 have hll:=hL.len
 have e:ZaX d r tags ch size lens ++ q = (XH ZdG ++ Y2 0 0 34) ++ (Za size 16 ++ ((Za size 16 ++ Za (Zqn lens) 24 ++ Za (Zql lens) 24) ++ (Za r 20 ++ (Za (ch.length - 1) 3 ++ (Za (d - 1) 5 ++ (Za 0 4 ++ (Za (ch.getD 0 []).length 32 ++ (XH (Zq1 d ch) ++ (Yn size (ch.getD 0 []).length lens ++ ((Y2 1 4 (15 + Zq4 tags) ++ XH (K2 7 4) ++ XH Zc0) ++ q)))))))))):=by
  simp only [ZaX,Zmi,Ju]
 rw [e] at hs ⊢
 generalize hN:(ch.getD 0 []).length = n at *
 have hk1:100 < k:=by omega
 have s1:=Wa hs
 have s2:=Wa s1
 have s3:=Wa s2
 have s4:=Wa s3
 have s5:=Wa s4
 have s6:=Wa s5
 have s7:=Wa s6
 have s8:=Wa s7
 have s9:=Wa s8
 have s10:=Wa s9
 have s11:=Wa s10
 show Zdt k _ _ = _
 simp only [Zdt,inS]
 refine Hn (ZjR hb hn hk1 (N:=8) (by omega) (by omega) hs (by rw [Q3,QO,Wr]; rfl) _) ?_
 refine Hn (Zln hb hn hk1 (w:=16) s1 (by omega) (by omega) _) ?_
 refine Hn (ZjR hb hn hk1 (N:=8) (by omega) (by omega) s2 (by simp only [Q3,Ze]) _) ?_
 refine Hn (Zln hb hn hk1 (w:=20) s3 (by omega) (by omega) _) ?_
 refine Hn (Zln hb hn hk1 (w:=3) s4 (by omega) (by omega) _) ?_
 refine Hn (Zln hb hn hk1 (w:=5) s5 (by omega) (by omega) _) ?_
 refine Hn (Zln hb hn hk1 (w:=4) s6 (by omega) (by omega) _) ?_
 refine Hn (Zln hb hn hk1 (w:=32) s7 (by omega) (by omega) _) ?_
 refine Hn (ZjR hb hn hk1 (N:=16) (by omega) (by omega) s8 (by rw [QO,Zba]) _) ?_
 simp only [inS,cond_false]
 have e1:Jx.wrap (((ch.length - 1:Nat):Int) + 1) = (ch.length:Int):=by have:=hg.c1; rw [Z2 (by omega)]; omega
 have e2:Jx.wrap (((d - 1:Nat):Int) + 1) = (d:Int):=by rw [Z2 (by omega)]; omega
 rw [e1,e2,ZoH,if_pos (show ZbX (ch.length:Int) (d:Int) (r:Int) = true from hshape)]
 simp only [ZX]
 rw [ZD,Zl (by simp),Zl (by omega),Zl (by omega),ZD,Zl (by simp),Zl (by omega),Zb (by omega),dFa (show ¬ (4096:Int) < (n:Int) by omega)]
 have e3:Jx.wrap ((Jx.wrap (Jx.wrap ((n:Int) + (size:Int)) - 1)).tdiv (size:Int)) = ((lens.length:Nat):Int):=by
  rw [Z2 (n:=(n:Int) + size) (by omega),Z2 (n:=(n:Int) + size - 1) (by omega),show (n:Int) + size - 1 = ((n + size - 1:Nat):Int) by omega,show ((n + size - 1:Nat):Int).tdiv (size:Int) = (((n + size - 1) / size:Nat):Int) from rfl,show (n + size - 1) / size = lens.length from hl.symm,Z2 (by omega)]
 rw [e3]
 have fin:∀ {t:List Bool},Zg b t → t = (Y2 1 4 (15 + Zq4 tags) ++ XH (K2 7 4) ++ XH Zc0) ++ q →
   ((Ku k (inS b (t,false),15,())).bind fun y_9 => (Zge k (((y_9.2.1.1.1,y_9.2.1.1.2.1,()),y_9.2.1.2.1,()),8,())).bind fun y_10 => ZiP k (y_10.1,(0:Int),(size:Int),(n:Int),y_10.2.1.2.1,y_10.2.1.1.1,y_10.2.1.1.2.1,(ch.length:Int),(d:Int),(r:Int),[],(0:Int),(0:Int),(0:Int))) =
    some (((((ch.length:Int),(d:Int),(r:Int),()),(Zq5 (q,false)).1,[],()),(size:Int),(n:Int),()),inS b (Zq5 (q,false)).2,()):=by
  intro t ht he
  subst he
  refine Hn (ZjR hb hn hk1 (N:=15) (by omega) (by omega) ht (by simp only [Q3,QO,Wr,Wm,Zc0,JF,HY]) _) ?_
  refine Hn (congrArg (fun x => Ec x _) (Zpt hb hn hk1 8 (s:=(q,false)) (Wa ht))) ?_
  simp only [ZX]
  have hle:=ZyU 8 (q,false)
  have hr:=Zp4 8 (s:=(q,false)) (Wa ht)
  unfold Zq5
  generalize WQ 8 (q,false) = F at *
  obtain ⟨F1,F2⟩:=F
  simp only at *
  exact ZO8 hb hn hk1 (size:Int) (n:Int) (ch.length:Int) (d:Int) (r:Int) F1 (by omega) F1 0 k F2 [] (by omega) rfl (by omega) hr
 by_cases h1:1 < lens.length
 ·rw [Zb (by omega)]
  have e4:Jx.wrap (4 + Jx.wrap (18 * ((lens.length:Nat):Int))) = ((4 + 18 * lens.length:Nat):Int):=by rw [Z2 (n:=18 * _) (by omega),Z2 (by omega)]; omega
  rw [e4]
  refine Hn (ZjR hb hn hk1 (N:=4 + 18 * lens.length) (by omega) (by omega) s9 (ZFl h1) _) ?_
  exact fin s10 rfl
 ·rw [Zl (by omega)]
  have ht:Yn size n lens = []:=by unfold Yn; rw [if_neg h1]
  refine fin s9 ?_
  rw [ht,VT]
end Go.Sh
namespace Go.Sh
open Go Go.Proofs
theorem ZnN {α:Type} (f:α → Nat):∀ (l:List α),(∀ x ∈ l,1 ≤ f x) → l.length ≤ (l.map f).sum ∧ ∀ x ∈ l,f x ≤ (l.map f).sum
 | [],_ => by simp
 | a :: l,h => by
  have ih:=ZnN f l (fun x hx => h x (by simp [hx]))
  have ha:=h a (by simp)
  simp only [JR,List.sum_cons,JF]
  refine ⟨by omega,fun x hx => ?_⟩
  rcases VM.1 hx with rfl | hx
  ·omega
  ·have:=ih.2 x hx; omega
theorem ZzM {c d r:Int} {tags:List ByteArray} {ch:List (List Int)} (h:Ty.bulk trackT ((c,d,r,()),tags,ch,()) ≤ 1048576):Small tags ch:=by
 have h1:(3:Nat) + (((tags.map (Ty.bulk .str)).sum + 1) + (((ch.map (Ty.bulk (.sl (.int .i64)))).sum + 1) + 0)) ≤ 1048576:=h
 have t:=ZnN (Ty.bulk .str) tags (fun x _ => by simp only [Ty.bulk]; omega)
 have s:=ZnN (Ty.bulk (.sl (.int .i64))) ch (fun x _ => by simp only [Ty.bulk]; omega)
 refine ⟨by omega,fun x hx => ?_,by omega,fun x hx => ?_⟩
 ·have h2:=t.2 x hx
  have h3:Ty.bulk .str x = x.size + 1:=rfl
  omega
 ·have h2:=s.2 x hx
  have h3:Ty.bulk (.sl (.int .i64)) x = (x.map (Ty.bulk (.int .i64))).sum + 1:=rfl
  have h4:=ZnN (Ty.bulk (.int .i64)) x (fun y _ => by simp only [Ty.bulk]; omega)
  omega
end Go.Sh
namespace Go.Sh
open Go Go.Proofs
theorem ZLy (k:Nat) (l:List Int) (hk:2000000 < k) (hl:l.length ≤ 1048576):ZLv k (l,l,()) = some (true,()):=by
 show Zjc k (Zvj k) _ = _
 simp only [Zjc]
 rw [show (UJ l.length != UJ l.length) = false from by simp]
 simp only [cond_false]
 have:=Qv (A:=Unit) (R:=Bool × Unit) (step:=fun L1 => ZeP k L1) (fun i _ => (UJ i,l,l)) l (fun _ _ => some (true,()))
  (fun L _ => by simp only [ZeP]; rw [Zl (Zaa _)])
  (fun L i hi _ hL => by
   simp only [ZeP]
   rw [Zb (KX hi),Zb (Ya hi),Zb (Ya hi),ZD,Zl (by simp),Qc hi (by omega)]
   exact hL ()) k 0 () (by omega) (UH _)
 exact this
theorem ZKJ (k:Nat) (n:Int) {ch:List (List Int)} (hk:2000000 < k) (h:Sm ch):ZKF k ((n,ch,()),(n,ch,()),()) = some (true,()):=by
 show ZiW k (Zu1 k) _ = _
 simp only [ZiW]
 have hs:=h.1
 rw [ZD,Zl (by simp),show (UJ ch.length != UJ ch.length) = false from by simp]
 simp only [cond_false]
 have:=Qv (A:=Unit) (R:=Bool × Unit) (step:=fun L1 => ZeG k L1) (fun i _ => (UJ i,n,ch,n,ch)) ch (fun _ _ => some (true,()))
  (fun L _ => by simp only [ZeG]; rw [Zl (Zaa _)])
  (fun L i hi _ hL => by
   simp only [ZeG]
   rw [Zb (KX hi),Zb (Ya hi),Zb (Ya hi),ZE hi,ZLy k _ hk (h.2 _ (Ha hi))]
   simp only [ZX,Hz,cond_false]
   rw [Qc hi (by omega)]
   exact hL ()) k 0 () (by omega) (UH _)
 exact this
theorem ZBn {k:Nat} (hk:2000000 < k) (c d r:Int) {tags:List ByteArray} {ch:List (List Int)} (hS:Small tags ch):Znu k (((c,d,r,()),tags,ch,()),((c,d,r,()),tags,ch,()),()) = some (true,()):=by
 show Zdp k (Zix k) _ = _
 simp only [Zdp]
 rw [show (!(decide True && (decide True && (decide True && true)))) = false by decide,show (UJ tags.length != UJ tags.length) = false by simp]
 simp only [cond_false]
 rw [ZKJ k 0 hk ⟨hS.cl,hS.chan⟩]
 simp only [ZX,Hz,cond_false]
 have htl:=hS.tl
 have:=Qv (A:=Unit) (step:=fun L1 => ZaB k L1) (fun i _ => (UJ i,c,d,r,tags,ch,c,d,r,tags,ch)) tags (fun _ _ => some (true,()))
  (fun L _ => by simp only [ZaB]; rw [Zl (Zaa _)])
  (fun L i hi _ hL => by
   simp only [ZaB]
   rw [Zb (KX hi),Zb (Ya hi),Zb (Ya hi),ZE hi,ZIy,show (!decide (tags[i] = tags[i])) = false by simp]
   simp only [cond_false]
   rw [Qc hi (by omega)]
   exact hL ()) k 0 () (by omega) (UH _)
 exact this
def mkB (l:List Int):ByteArray:=ByteArray.mk (List.map (fun n => UInt8.ofNat n.toNat) l).toArray
def WJ (ch:List (List Int)) (size i:Nat):List (List Int):=ch.map fun c => c.take (i * size)
theorem ZH4 (x:List Int) (a b:Nat):x.take a ++ (x.take (a + b)).drop a = x.take (a + b):=by
 have:=EI a (x.take (a + b))
 rwa [List.take_take,Hl (by omega)] at this
theorem ZH8 {c d:Int} {ch:List (List Int)} {n size i j:Nat} (hj:j < ch.length):(WJ ch size i).getD j [] ++ (Qw ch size i).getD j [] = (WJ ch size (i + 1)).getD j []:=by
 rw [Wl (by simp [WJ]; exact hj),Wl (by simp [Qw]; exact hj),Wl (by simp [WJ]; exact hj)]
 simp only [WJ,Qw,EC,Jg,Jp]
 exact ZH4 _ _ _
section prog
variable {k:Nat} {c d r:Int} {tags:List ByteArray} {ch:List (List Int)}
end prog
end Go.Sh
namespace Go.Sh
open Go Go.Proofs
theorem ZNF {ch:List (List Int)} {c d r:Int} {tags:List ByteArray} {size i j:Nat} (hj:j < ch.length) {a:List (List Int)} (ha:a = (WJ ch size (i + 1)).take j ++ (WJ ch size i).drop j) :
  a.set j ((WJ ch size i).getD j [] ++ (Qw ch size i).getD j []) = (WJ ch size (i + 1)).take (j + 1) ++ (WJ ch size i).drop (j + 1):=by
 have huj:(WJ ch size i).length = ch.length:=by simp [WJ]
 have huj1:(WJ ch size (i + 1)).length = ch.length:=by simp [WJ]
 rw [ZH8 (c:=0) (d:=0) (n:=0) hj]
 apply List.ext_getElem?
 intro q
 rw [ha,List.getElem?_set]
 by_cases hq:j = q
 ·subst hq
  rw [if_pos rfl,Q3,Jz,Vi,if_pos (by omega),EH (by rw [Jz]; omega),Jy,if_pos (by omega)]
  rw [Wl (by omega),VO (by omega)]
 ·rw [if_neg hq]
  simp only [List.getElem?_append,Jz,Jy,Jo]
  rcases Nat.lt_or_gt_of_ne hq with h | h
  ·rw [if_neg (by omega)]
   by_cases h2:q < min (j + 1) (WJ ch size (i + 1)).length
   ·omega
   ·rw [if_neg h2]; congr 1; omega
  ·rw [if_pos (by omega),if_pos h,if_pos (by omega),if_pos (by omega)]
abbrev ZQ8:=(((Int × Int × Int × Unit) × List ByteArray × List (List Int) × Unit) × Int × Unit) × Unit
abbrev L23:=Int × Int × Int × List Int × List Int × Int × Int × Int × Int × List ByteArray × List (List Int) × Int × Int × Int × List Int → Option ZQ8
section prog
variable {k:Nat} {c d r:Int} {tags:List ByteArray} {ch:List (List Int)}
theorem ZOU (hk:100 ≤ k) (hc:ch.length ≤ 2) (hS:Small tags ch) (size n i:Nat) (L1:L23) (len:Nat) (rest B:List Int) (at_:Int) (lens:List Nat) (htg:List ByteArray) (hl:len ≤ rest.length) (hrl:rest.length < 1000000) (hll:lens.length < 1000) (hi:i < 1000) :
  KI k L1 (UJ (Qw ch size i).length,(0:Int),Qw ch size i,(len:Int),rest,(i:Int),(size:Int),(n:Int),B,at_,c,d,r,htg,WJ ch size i,Zr lens,0,0,0) =
   L1 (((i + 1:Nat):Int),(size:Int),(n:Int),rest.drop len,B,at_,c,d,r,htg,WJ ch size (i + 1),0,0,0,Zr (lens ++ [len])):=by
 have hbl:(Qw ch size i).length = ch.length:=by simp [Qw]
 rw [hbl]
 have key:=Zs (A:=List (List Int)) (step:=fun L2 => ZaA k L1 L2) (fun j a => (UJ ch.length,UJ j,Qw ch size i,(len:Int),rest,(i:Int),(size:Int),(n:Int),B,at_,c,d,r,htg,a,Zr lens,0,0,0)) ch
  (fun _ _ => L1 (((i + 1:Nat):Int),(size:Int),(n:Int),rest.drop len,B,at_,c,d,r,htg,WJ ch size (i + 1),0,0,0,Zr (lens ++ [len])))
  (fun j a => a.length = ch.length ∧ a = (WJ ch size (i + 1)).take j ++ (WJ ch size i).drop j)
  (fun L a hI => by
   simp only [ZaA]
   rw [Zl (Zaa _),Zb (by simp [Zr]; omega),Zb (by simp only [QY]; omega),ZzU (by omega),Xa,show (UJ rest.length).toNat = rest.length from rfl,Ef]
   have:a = WJ ch size (i + 1):=by
    rw [hI.2,Ep (by simp [WJ]),List.drop_of_length_le (by simp [WJ]),Vg]
   rw [this,show Zr lens ++ [(len:Int)] = Zr (lens ++ [len]) by simp [Zr]])
  (fun L j hj a hI hL => by
   simp only [ZaA]
   have huj:(WJ ch size i).length = ch.length:=by simp [WJ]
   have huj1:(WJ ch size (i + 1)).length = ch.length:=by simp [WJ]
   have haj:a.getD (UJ j).toNat [] = (WJ ch size i).getD j []:=by
    rw [hI.2,show (UJ j).toNat = j from rfl]
    simp only [VS]
    rw [Vs (by rw [Jz]; omega),Jz,Hl (by omega),EK,Jo]
    rfl
   have hl1:((WJ ch size i).getD j []).length ≤ 1048576:=by
    rw [Wl (by omega)]
    simp only [WJ,EC,Jz]
    have:=hS.chan _ (Ha hj)
    omega
   have hl2:((Qw ch size i).getD j []).length ≤ 1048576:=by
    rw [Wl (by omega)]
    simp only [Qw,EC,Jz,Vi]
    have:=hS.chan _ (Ha hj)
    omega
   rw [hI.1,hbl,Zb (KX hj),Zb (Ya hj),Zb (Ya hj),Zb (show (UJ j).toNat < ch.length from hj),haj]
   rw [show (UJ j).toNat = j from rfl,Zb (by omega),Zb (Ya hj),Zb trivial,Zb hj,Qc hj (by omega),ZNF (c:=0) (d:=0) (r:=0) (tags:=[]) hj hI.2]
   refine hL _ ⟨by simp only [Q3,Jz,Vi]; omega,rfl⟩)
  k 0 (WJ ch size i) ⟨by simp [WJ],by simp⟩ (by omega) (by omega)
 exact key
theorem ZG9 (hk:20000000 ≤ k) (hS:Small tags ch) (h0:chk c d r tags ch = 0) {size:Nat} (hs:16 ≤ size ∧ size ≤ 512) (B:List Int) (at_:Int) {i:Nat} (hi:i < (XR c d r ch size).length) (lens:List Nat) (hll:lens.length < 1000) (more:List Int) (hm:Zu more = true) (hml:more.length ≤ 100000) (L:L23) :
  Xp k (KI k L) L ((i:Int),(size:Int),((ch.getD 0 []).length:Int),(XR c d r ch size)[i] ++ more,B,at_,c,d,r,tags,WJ ch size i,0,0,0,Zr lens) =
   L (((i + 1:Nat):Int),(size:Int),((ch.getD 0 []).length:Int),more,B,at_,c,d,r,tags,WJ ch size (i + 1),0,0,0,Zr (lens ++ [((XR c d r ch size)[i]).length])):=by
 obtain ⟨hg,hshape,-⟩:=WN h0
 have hn4:=hg.n4
 have hfr:=Y9 hs.1 hn4
 have hCl:=YG c d r ch size
 have h5:=Zc6 (c:=c) (d:=d) (r:=r) (ch:=ch) (size:=size) _ (Ha hi)
 have hlt:=(Ka (by omega:1 ≤ size)).1 (by rw [← hCl]; exact hi)
 have hck:=ZlS h0 (size:=size) (i:=i) hs hlt
 have hci:(XR c d r ch size)[i] = (Yr c d r (i:Int) (Qw ch size i)).1:=by simp [XR,ZvL]
 generalize hX:(XR c d r ch size)[i] = X at *
 have hXb:Zu X = true:=by rw [hci]; exact Zmu _ _ _ _ _
 generalize hn:(ch.getD 0 []).length = n at *
 have hmul:i * size ≤ 4096:=by omega
 have hcast:(i:Int) * (size:Int) = ((i * size:Nat):Int):=by simp
 simp only [Xp]
 rw [hcast,Z2 (n:=((i * size:Nat):Int)) (by omega),Zb (by omega)]
 have hb:Zu (X ++ more) = true:=by
  unfold Zu at *
  rw [ET,hXb,hm]; rfl
 refine (Zi (ZJ7 k c d r hb (by rw [Q3]; omega) (by rw [Q3]; omega)) _).trans ?_
 have hrb:=ZHU hck (more:=more) hm
 rw [← hci] at hrb
 unfold Ztc
 simp only
 rw [hrb]
 simp only
 rw [show ((0:Int) != 0) = false from rfl,show ((i:Int) != (i:Int)) = false by simp]
 simp only [cond_false]
 have hc1:=hg.c1.1
 have hbl:(Qw ch size i).length = ch.length:=by simp [Qw]
 rw [Zb (by rw [hbl]; simp only [QY]; omega)]
 have hb0:((Qw ch size i).getD 0 []).length = min size (n - i * size):=by
  have hg0:(ch.getD 0 []).length = n:=hn
  rw [Wl (by omega)] at hg0 ⊢
  simp only [Qw,EC,Jz,Vi,Jg]
  omega
 rw [hb0,Z2 (n:=(n:Int) - _) (by omega)]
 have hmin:(if (n:Int) - ((i * size:Nat):Int) < (size:Int) then (n:Int) - ((i * size:Nat):Int) else (size:Int)) = UJ (min size (n - i * size)):=by
  simp only [QY]
  split <;> omega
 rw [hmin,show (UJ (min size (n - i * size)) != UJ (min size (n - i * size))) = false by simp]
 simp only [cond_false]
 refine Hn (ZOU (by omega) hg.c1.2 hS size n i L X.length (X ++ more) B at_ lens tags (by rw [Q3]; omega) (by rw [Q3]; omega) hll (by omega)) ?_
 rw [JM]
end prog
end Go.Sh
namespace Go.Sh
open Go Go.Proofs
theorem Kq {a b:List Int} (ha:Zu a = true) (hb:Zu b = true):Zu (a ++ b) = true:=by
 unfold Zu at *
 rw [ET,ha,hb]; rfl
theorem Zl0 {l:List (List Int)} (h:∀ x ∈ l,Zu x = true):Zu l.flatten = true:=by
 induction l with
 | nil => rfl
 | cons x l ih => exact Kq (h x (Jm ..)) (ih fun y hy => h y (Jn x hy))
theorem Zor {c d r:Int} {ch:List (List Int)} {size:Nat}:∀ x ∈ XR c d r ch size,Zu x = true:=by
 intro x hx
 obtain ⟨i,_,rfl⟩:=VG.1 hx
 exact Zmu _ _ _ _ _
section prog
variable {k:Nat} {c d r:Int} {tags:List ByteArray} {ch:List (List Int)}
theorem ZHa (hk:20000000 ≤ k) (hS:Small tags ch) (h0:chk c d r tags ch = 0) {size:Nat} (hs:16 ≤ size ∧ size ≤ 512) (B:List Int) (at_:Int) (more:List Int) (hm:Zu more = true):∀ (m i fuel:Nat),i + m ≤ (XR c d r ch size).length → (((XR c d r ch size).drop i).take m).flatten.length + more.length ≤ 100000 →
  Zh (fun L1 => Xp k (KI k L1) L1) (fuel + m) ((i:Int),(size:Int),((ch.getD 0 []).length:Int),(((XR c d r ch size).drop i).take m).flatten ++ more,B,at_,c,d,r,tags,WJ ch size i,0,0,0,Zr (((XR c d r ch size).take i).map UP)) =
   Zh (fun L1 => Xp k (KI k L1) L1) fuel (((i + m:Nat):Int),(size:Int),((ch.getD 0 []).length:Int),more,B,at_,c,d,r,tags,WJ ch size (i + m),0,0,0,Zr (((XR c d r ch size).take (i + m)).map UP)):=by
 intro m
 induction m with
 | zero => intro i fuel _ _; simp only [List.take_zero,Vr,VT,Nat.add_zero]
 | succ m ih =>
  intro i fuel h1 h2
  obtain ⟨hg,-⟩:=WN h0
  have hfr:=Y9 hs.1 hg.n4
  have hCl:=YG c d r ch size
  have hi:i < (XR c d r ch size).length:=by omega
  have e:((XR c d r ch size).drop i).take (m + 1) = (XR c d r ch size)[i] :: ((XR c d r ch size).drop (i + 1)).take m:=by
   rw [List.drop_eq_getElem_cons hi,List.take_succ_cons]
  rw [e] at h2 ⊢
  rw [J2,Q3] at h2
  rw [J2,Ju,← JV,Zd]
  have hmb:Zu ((((XR c d r ch size).drop (i + 1)).take m).flatten ++ more) = true :=
   Kq (Zl0 fun x hx => Zor x (List.mem_of_mem_drop (JT hx))) hm
  rw [ZG9 hk hS h0 hs B at_ hi (((XR c d r ch size).take i).map UP) (by simp only [Eo,Jz]; omega) _ hmb (by rw [Q3]; omega)]
  have e2:((XR c d r ch size).take i).map UP ++ [((XR c d r ch size)[i]).length] = ((XR c d r ch size).take (i + 1)).map UP:=by
   rw [EN hi,EU]; rfl
  rw [e2,ih (i + 1) fuel (by omega) (by omega),show i + 1 + m = i + (m + 1) by omega]
theorem ZHB {d r:Nat} {size:Nat} {lens:List Nat} (hh:(KZ d r tags ch size lens).length % 8 = 0) (body:List Int):ZY (ZdX d r tags ch size lens ++ body) = ZaX d r tags ch size lens ++ (XH (K2 tags.length 4) ++ Zbb tags ++ ZY body):=by
 unfold ZdX
 rw [ZhN,Zn6 hh,Zed,Ju]
theorem ZRm {B:List Int} (hB:B.length ≤ 100000):Zyq k (B,()) = some ((B,((ZM B (ZY B):Nat):Int),()),()):=by
 show ZeM k _ = _
 simp only [ZeM]
 have:Zjh k (B,()) = some (B,()):=by show XL _ = _; unfold XL; rw [Zb (by simp only; omega)]
 rw [this]
 have hp:ZM B (ZY B) = 0:=by unfold ZM; rw [Ql]; omega
 rw [hp]
 rfl
theorem ZSI {d r:Nat} (size:Nat) (lens:List Nat):(ZaX d r tags ch size lens).length % 8 = 0:=by
 have htt:(Yn size (ch.getD 0 []).length lens).length % 8 = 0:=by
  by_cases h:1 < lens.length
  ·rw [ZFl h]; omega
  ·unfold Yn; rw [if_neg h]; rfl
 have hti:(Zmi ch.length d r size (ch.getD 0 []).length (Zqn lens) (Zql lens)).length = 208:=by
  simp [Zmi,QO,Wr,Ze,ZdG]
 unfold ZaX
 simp only [Q3,hti,QO,Zba,Wr,Wm,Zc0,JF,HY]
 omega
theorem ZUo (tags:List ByteArray):(Zbb tags).length % 8 = 0:=by
 induction tags with
 | nil => rfl
 | cons t l ih =>
  have:(Zbb (t :: l)).length = 8 * (4 + t.size) + (Zbb l).length:=by
   simp only [Zbb,Hi,Q3,QO,Wm,ZcM]; omega
  omega
theorem ZIl {d r:Nat} (size:Nat) (lens:List Nat):(KZ d r tags ch size lens).length % 8 = 0:=by
 have h1:=ZSI (d:=d) (r:=r) (tags:=tags) (ch:=ch) size lens
 have h2:=ZUo tags
 rw [Zed]
 simp only [Q3,QO,Wm]
 omega
theorem ZBi (hk:20000000 ≤ k) {d r:Nat} (h0:chk (ch.length:Int) (d:Int) (r:Int) tags ch = 0) {size:Nat} {lens:List Nat} (hL:Lens size (ch.getD 0 []).length lens) (hl:lens.length = QF (ch.getD 0 []).length size) {body:List Int} (hbb:Zu body = true) (hlen:(ZdX d r tags ch size lens ++ body).length ≤ 60000) :
  Zdn k (ZdX d r tags ch size lens ++ body,()) = ZeA k (((0:Nat):Int),(size:Int),((ch.getD 0 []).length:Int),body,ZdX d r tags ch size lens ++ body,((ZdX d r tags ch size lens).length:Int),(ch.length:Int),(d:Int),(r:Int),tags,WJ ch size 0,0,0,0,Zr []):=by
 obtain ⟨hg,hshape,-,htv,ht8⟩:=WN h0
 have hT:=Good0.tg htv ht8
 have hbits:=ZHB (d:=d) (r:=r) (tags:=tags) (ch:=ch) (ZIl size lens) body
 have hBb:Zu (ZdX d r tags ch size lens ++ body) = true:=Kq (Yl _) hbb
 generalize hH:ZdX d r tags ch size lens = H at *
 have hrest:Zg (H ++ body) (ZaX d r tags ch size lens ++ (XH (K2 tags.length 4) ++ Zbb tags ++ ZY body)):=by
  rw [← hbits]; exact List.suffix_refl _
 show Zdo k (ZeA k) _ = _
 simp only [Zdo]
 rw [Zl (by simp only [QY]; omega),ZRm (by omega)]
 simp only [ZX]
 rw [hbits]
 refine Hn (congrArg (fun x => Ec x _) (ZKz (k:=k) (by omega) hBb (by omega) h0 hL hl hrest)) ?_
 rw [ZNr (ZY body) hT.1 hT.2]
 simp only [ZX,inS,cond_false]
 rw [show ZaU k ((H ++ body,((ZM (H ++ body) (ZY body):Nat):Int),()),()) = some (((ZM (H ++ body) (ZY body):Nat):Int),(H ++ body,((ZM (H ++ body) (ZY body):Nat):Int),()),()) from rfl]
 simp only [ZX]
 have hp:ZM (H ++ body) (ZY body) = 8 * H.length:=by unfold ZM; rw [Ql,Q3]; omega
 rw [Q3] at hlen
 have e1:Jx.wrap (Int.tdiv ((ZM (H ++ body) (ZY body):Nat):Int) 8) = (H.length:Int):=by
  rw [hp,show Int.tdiv ((8 * H.length:Nat):Int) 8 = ((8 * H.length / 8:Nat):Int) from rfl,Nat.mul_div_cancel_left _ (by omega),Z2 (by omega)]
 rw [e1,Zb (by simp only [QY,Q3]; omega),Zb (by have:=hg.c1.2; omega),Xa,show (UJ (H ++ body).length).toNat = (H ++ body).length from rfl,Ef,JM]
 have hu:Jd (Int.toNat (ch.length:Int)) ([]:List Int) = WJ ch size 0:=by
  rw [Xa]
  unfold WJ
  simp only [Nat.zero_mul,List.take_zero]
  exact (List.map_const' ..).symm
 rw [hu]
 rfl
end prog
end Go.Sh
namespace Go.Sh
open Go Go.Proofs
theorem ZNE {c d r:Int} {tags:List ByteArray} {ch:List (List Int)} (h0:chk c d r tags ch = 0) {size:Nat} (hs:1 ≤ size):WJ ch size (QF (ch.getD 0 []).length size) = ch:=by
 obtain ⟨hg,-⟩:=WN h0
 unfold WJ
 conv => rhs; rw [← EM ch]
 apply EL
 intro x hx
 have hge:(ch.getD 0 []).length ≤ QF (ch.getD 0 []).length size * size:=by
  rcases VN (QF (ch.getD 0 []).length size * size) (ch.getD 0 []).length with h | h
  ·exact absurd ((Ka hs).2 h) (U5 _)
  ·exact h
 rw [Ep (by rw [hg.len x hx]; exact hge)]
 rfl
section prog
variable {k:Nat} {tags:List ByteArray} {ch:List (List Int)} {d r size:Nat}
noncomputable abbrev E1 (d r:Nat) (tags:List ByteArray) (ch:List (List Int)) (size:Nat):List Int:=ZtV (ch.length:Int) (d:Int) (r:Int) tags ch size
noncomputable abbrev C1 (d r:Nat) (ch:List (List Int)) (size:Nat):List (List Int):=XR (ch.length:Int) (d:Int) (r:Int) ch size
noncomputable abbrev H1 (d r:Nat) (tags:List ByteArray) (ch:List (List Int)) (size:Nat):List Int:=ZdX d r tags ch size (ZbA (ch.length:Int) (d:Int) (r:Int) ch size)
theorem Zww (d r:Nat) (tags:List ByteArray) (ch:List (List Int)) (size:Nat):E1 d r tags ch size = H1 d r tags ch size ++ (C1 d r ch size).flatten:=rfl
theorem ZBl (hk:20000000 ≤ k) (hS:Small tags ch) (h0:chk (ch.length:Int) (d:Int) (r:Int) tags ch = 0) (hs:16 ≤ size ∧ size ≤ 512) {m:Nat} (hm:m ≤ (C1 d r ch size).length) {more:List Int} (hmb:Zu more = true) (hlen:(H1 d r tags ch size ++ (((C1 d r ch size).take m).flatten ++ more)).length ≤ 60000) :
  Zdn k (H1 d r tags ch size ++ (((C1 d r ch size).take m).flatten ++ more),()) =
   Zh (fun L1 => Xp k (KI k L1) L1) (k - m) ((m:Int),(size:Int),((ch.getD 0 []).length:Int),more,H1 d r tags ch size ++ (((C1 d r ch size).take m).flatten ++ more),((H1 d r tags ch size).length:Int),(ch.length:Int),(d:Int),(r:Int),tags,WJ ch size m,0,0,0,Zr (((C1 d r ch size).take m).map UP)):=by
 obtain ⟨hg,-⟩:=WN h0
 have hfr:=Y9 hs.1 hg.n4
 have hCl:(C1 d r ch size).length = QF (ch.getD 0 []).length size:=YG (ch.length:Int) (d:Int) (r:Int) ch size
 have hLn:=Zjw (c:=(ch.length:Int)) (d:=(d:Int)) (r:=(r:Int)) hs rfl hg.n4
 have hll:(ZbA (ch.length:Int) (d:Int) (r:Int) ch size).length = QF (ch.getD 0 []).length size:=by simp [ZbA,YG]
 have hbb:Zu (((C1 d r ch size).take m).flatten ++ more) = true:=Kq (Zl0 fun x hx => Zor x (JT hx)) hmb
 rw [ZBi hk h0 hLn hll hbb hlen]
 have hm2:m ≤ (XR (ch.length:Int) (d:Int) (r:Int) ch size).length:=hm
 have hlen2:(H1 d r tags ch size).length + (((XR (ch.length:Int) (d:Int) (r:Int) ch size).take m).flatten.length + more.length) ≤ 60000:=by
  rw [Q3,Q3] at hlen; exact hlen
 have run:=ZHa hk hS h0 hs (H1 d r tags ch size ++ (((C1 d r ch size).take m).flatten ++ more)) ((H1 d r tags ch size).length:Int) more hmb m 0 (k - m) (by omega) (by rw [U9]; omega)
 rw [show k - m + m = k by omega,U9,Ub] at run
 exact run
theorem ZBh (hk:20000000 ≤ k) (hS:Small tags ch) (h0:chk (ch.length:Int) (d:Int) (r:Int) tags ch = 0) (hs:16 ≤ size ∧ size ≤ 512) (hlen:(E1 d r tags ch size).length ≤ 60000) :
  Zdn k (E1 d r tags ch size,()) = some (((((ch.length:Int),(d:Int),(r:Int),()),tags,ch,()),0,()),()):=by
 obtain ⟨hg,-⟩:=WN h0
 have hfr:=Y9 hs.1 hg.n4
 have hCl:(C1 d r ch size).length = QF (ch.getD 0 []).length size:=YG (ch.length:Int) (d:Int) (r:Int) ch size
 have hLn:=Zjw (c:=(ch.length:Int)) (d:=(d:Int)) (r:=(r:Int)) hs rfl hg.n4
 have hup:=ZBl (d:=d) (r:=r) hk hS h0 hs (Jj _) (more:=[]) rfl (by rw [Ef,Vg]; exact hlen)
 rw [Ef,Vg,← Zww] at hup
 rw [hup,show k - (C1 d r ch size).length = (k - (C1 d r ch size).length - 1) + 1 by omega,Zd]
 simp only [Xp]
 have hle:(ch.getD 0 []).length ≤ (C1 d r ch size).length * size:=by
  rw [hCl]
  rcases VN (QF (ch.getD 0 []).length size * size) (ch.getD 0 []).length with h | h
  ·exact absurd ((Ka (by omega)).2 h) (U5 _)
  ·exact h
 have hmul:(C1 d r ch size).length * size ≤ 256 * 512:=J4 (by omega) hs.2
 rw [show ((C1 d r ch size).length:Int) * (size:Int) = (((C1 d r ch size).length * size:Nat):Int) by simp,Z2 (by omega),Zl (by omega),Zl (by simp)]
 rw [hCl,ZNE h0 (by omega),Zha (by omega) hS,h0]
 simp only [ZX]
 rw [show ((0:Int) != 0) = false from rfl]
 simp only [cond_false]
 rw [show (C1 d r ch size).map UP = ZbA (ch.length:Int) (d:Int) (r:Int) ch size from rfl,Zpd (by omega) h0 hS hLn]
 simp only [ZX]
 have hl2:(H1 d r tags ch size).length ≤ (E1 d r tags ch size).length:=by rw [Zww,Q3]; omega
 rw [Zb (by simp only [QY]; omega),Xa,U9,Zww,List.take_left]
 rw [show ZuU k (ZF (KZ d r tags ch size (ZbA (ch.length:Int) (d:Int) (r:Int) ch size)),H1 d r tags ch size,()) = some (true,()) by
  show some ((mkB _).toList == (mkB _).toList,()) = _
  rw [ZIy]
  exact congrArg (fun x => some (x,())) (dTr rfl)]
 rfl
end prog
end Go.Sh
namespace Go.Sh
open Go Go.Proofs
section prog
variable {k:Nat} {tags:List ByteArray} {ch:List (List Int)} {d r size:Nat}
theorem ZTt (tags:List ByteArray):32 ≤ (XH (K2 tags.length 4) ++ Zbb tags).length:=by
 rw [Q3,QO,Wm]; omega
theorem ZQ9 (h0:chk (ch.length:Int) (d:Int) (r:Int) tags ch = 0):8 * (H1 d r tags ch size).length = (ZaX d r tags ch size (ZbA (ch.length:Int) (d:Int) (r:Int) ch size)).length + (XH (K2 tags.length 4) ++ Zbb tags).length:=by
 have h8:=ZIl (d:=d) (r:=r) (tags:=tags) (ch:=ch) size (ZbA (ch.length:Int) (d:Int) (r:Int) ch size)
 show 8 * (ZF _).length = _
 rw [Z9,← Q3,← Zed]
 omega
end prog
end Go.Sh
namespace Go.Sh
open Go Go.Proofs
abbrev Trk:=(Int × Int × Int × Unit) × List ByteArray × List (List Int) × Unit
theorem ZIM {k:Nat} (hk:20000000 ≤ k) {x:Trk} (hS:Small x.2.1 x.2.2.1) (hl:(x.2.2.1.getD 0 []).length ≤ 120):∃ E er,Znt k (x,16,()) = some ((E,er,()),()) ∧ (er = 0 → 1 ≤ E.length ∧ E.length < 100000000 ∧ Zdn k (E,()) = some ((x,0,()),())):=by
 obtain ⟨⟨c,d,r,⟨⟩⟩,tags,ch,⟨⟩⟩:=x
 have hS:Small tags ch:=hS
 have hl:(ch.getD 0 []).length ≤ 120:=hl
 have hk1:16777216 ≤ k:=by omega
 have hx:=ZBg (c:=c) (d:=d) (r:=r) hk1 hS 16
 by_cases h0:chk c d r tags ch = 0
 ·rw [if_pos h0,if_pos (by omega)] at hx
  refine ⟨_,_,hx,fun _ => ?_⟩
  obtain ⟨hg,hshape,-,htv,ht8⟩:=WN h0
  have hsh:=of_decide_eq_true hshape
  obtain ⟨dn,rfl⟩:=Vp (show 0 ≤ d by omega)
  obtain ⟨rn,rfl⟩:=Vp (show 0 ≤ r by omega)
  have hcl:=hg.cl
  subst hcl
  have hs2:16 ≤ 16 ∧ 16 ≤ 512:=by omega
  have hHl:=ZQ9 (size:=16) h0
  have hLn:=Zjw (c:=(ch.length:Int)) (d:=(dn:Int)) (r:=(rn:Int)) hs2 rfl hg.n4
  have hal:=ZnV (d:=dn) (r:=rn) (ch:=ch) (size:=16) (Good0.tg htv ht8) hLn.len
  have hT:=ZTt tags
  have hH1:1 ≤ (E1 dn rn tags ch 16).length:=by rw [Zww,JP]; omega
  have hCf:(C1 dn rn ch 16).flatten.length ≤ (C1 dn rn ch 16).length * 5000:=ZvK (Zc6 (c:=(ch.length:Int)) (d:=(dn:Int)) (r:=(rn:Int)) (ch:=ch) (size:=16))
  have hCl:(C1 dn rn ch 16).length = QF (ch.getD 0 []).length 16:=YG (ch.length:Int) (dn:Int) (rn:Int) ch 16
  have hfr:QF (ch.getD 0 []).length 16 ≤ 8:=by unfold QF; omega
  have hEl:(E1 dn rn tags ch 16).length ≤ 60000:=by
   rw [Zww,JP]
   have:(H1 dn rn tags ch 16).length ≤ 10000:=by show (ZF _).length ≤ _; rw [Z9]; omega
   omega
  have hgood:=ZBh (tags:=tags) (d:=dn) (r:=rn) hk hS h0 hs2 hEl
  exact ⟨hH1,Nat.lt_of_le_of_lt hEl (by decide),hgood⟩
 ·rw [if_neg h0] at hx
  exact ⟨_,_,hx,fun h => absurd h h0⟩
theorem ZTC {k:Nat} (hk:20000000 ≤ k) {x:Trk} (hS:Small x.2.1 x.2.2.1):∃ y,Ziq k (x,16,()) = some y:=by
 obtain ⟨⟨c,d,r,⟨⟩⟩,tags,ch,⟨⟩⟩:=x
 rw [Zo3 (by omega) hS]
 split
 ·split <;> exact ⟨_,rfl⟩
 ·exact ⟨_,rfl⟩
theorem ZUn {k:Nat} (hk:20000000 ≤ k) {x:Trk} (hS:Small x.2.1 x.2.2.1):∃ y,Zde k (x,()) = some y:=by
 obtain ⟨⟨c,d,r,⟨⟩⟩,tags,ch,⟨⟩⟩:=x
 rw [ZoZ (by omega) hS]
 split <;> exact ⟨_,rfl⟩
theorem ZSP {k:Nat} {x:Trk}:∃ g,ZuA k (x,()) = some (g,()) ∧ (g = false → (x.2.2.1.getD 0 []).length ≤ 120):=by
 obtain ⟨⟨c,d,r,⟨⟩⟩,tags,ch,⟨⟩⟩:=x
 show ∃ g,Zhb k (((c,d,r,()),tags,ch,()),()) = some (g,()) ∧ (g = false → (ch.getD 0 []).length ≤ 120)
 simp only [Zhb]
 cases ch with
 | nil => exact ⟨_,rfl,fun _ => by simp⟩
 | cons a l =>
  have:(0:Int) < UJ (a :: l).length:=by simp only [JF,ES]; omega
  rw [Zb this,Zb ⟨by omega,this⟩]
  refine ⟨_,rfl,fun h => ?_⟩
  have:=of_decide_eq_false h
  simp only [ES] at this
  omega
theorem ZUF {k:Nat} (hk:20000000 ≤ k) {x:Trk} (hS:Small x.2.1 x.2.2.1):Znq k (x,()) = some (x,()):=by
 obtain ⟨⟨c,d,r,⟨⟩⟩,tags,ch,⟨⟩⟩:=x
 exact ZBa (by omega) hS
theorem ZRj {k:Nat} {x:Trk}:ZuH k (x,()) = some (x,()):=by
 obtain ⟨⟨c,d,r,⟨⟩⟩,tags,ch,⟨⟩⟩:=x
 rfl
theorem ZS7 {k:Nat} (hk:20000000 ≤ k) {x:Trk} (hS:Small x.2.1 x.2.2.1):Znu k (x,x,()) = some (true,()):=by
 obtain ⟨⟨c,d,r,⟨⟩⟩,tags,ch,⟨⟩⟩:=x
 exact ZBn (by omega) c d r hS
end Go.Sh
namespace Go.Sh
open Go Go.Proofs
theorem Zp5 {w1 w2:World} {l1 l2:Nat → Nat} (hE:Ext w1 l1 w2 l2) (hz2:∀ b,w2.heap.size ≤ b → l2 b = 0) (hl:∀ b,b < w1.heap.size → l2 b = l1 b) (hz1:∀ b,w1.heap.size ≤ b → l1 b = 0)
  (hc:∀ b o v,o < l1 b → w1.cell? ⟨b,o,none⟩ = some v → ∃ m,v = .int .u8 m) {b o:Nat} {v:Value} (ho:o < l2 b) (hv:w2.cell? ⟨b,o,none⟩ = some v) (hn:∀ m,v ≠ .int .u8 m) :
  w1.heap.size ≤ b ∧ b < w2.heap.size ∧ w2.frozen? ⟨b,o,none⟩ = false:=by
 have h1:w1.heap.size ≤ b:=by
  rcases VN b w1.heap.size with h | h
  ·rw [hl b h] at ho
   rw [hE.cell b o ho] at hv
   obtain ⟨m,rfl⟩:=hc b o v ho hv
   exact absurd rfl (hn m)
  ·exact h
 refine ⟨h1,?_,?_⟩
 ·rcases VN b w2.heap.size with h | h
  ·exact h
  ·rw [hz2 b h] at ho; omega
 ·cases hf:w2.frozen? ⟨b,o,none⟩ with
  | false => rfl
  | true =>
   have:=(hE.nf b o ho hf).1
   rw [hz1 b h1] at this; omega
theorem ZUh {w1 w2:World} {l1 l2:Nat → Nat} (hE:Ext w1 l1 w2 l2) (hz2:∀ b,w2.heap.size ≤ b → l2 b = 0) (hl:∀ b,b < w1.heap.size → l2 b = l1 b) (hz1:∀ b,w1.heap.size ≤ b → l1 b = 0)
  (hc:∀ b o v,o < l1 b → w1.cell? ⟨b,o,none⟩ = some v → ∃ m,v = .int .u8 m) {xs:List Int} (hx:xs.length < 4294967296) {A:Option Addr} {len cap:Nat} (h:Rt w2 l2 (.sl (.int .i64)) xs [.slice A len cap]):ZRb w1 w2 A len:=by
 obtain ⟨A',n',c',he,hlen,-,h⟩:=h
 cases he
 refine ⟨by omega,fun k hk => ?_⟩
 rcases h with rfl | ⟨b,o,rfl,h⟩
 ·simp at hlen; omega
 ·obtain ⟨c,hr,hcell⟩:=h k (by omega)
  have hr:c = [.int .i64 xs[k]]:=hr
  subst hr
  obtain ⟨h1,h2⟩:=hcell 0 _ rfl
  have e1:o + k * (Ty.int .i64).size + 0 = o + k:=by simp [Ty.size]
  rw [e1] at h1 h2
  obtain ⟨f1,f2,f3⟩:=Zp5 hE hz2 hl hz1 hc h2 h1 (fun m h => by cases h)
  exact ⟨b,o,xs[k],rfl,h1,f1,f2,f3⟩
theorem ZUi {w1 w2:World} {l1 l2:Nat → Nat} (hE:Ext w1 l1 w2 l2) (hz2:∀ b,w2.heap.size ≤ b → l2 b = 0) (hl:∀ b,b < w1.heap.size → l2 b = l1 b) (hz1:∀ b,w1.heap.size ≤ b → l1 b = 0)
  (hc:∀ b o v,o < l1 b → w1.cell? ⟨b,o,none⟩ = some v → ∃ m,v = .int .u8 m) {xs:List ByteArray} (hx:xs.length < 4294967296) {A:Option Addr} {len cap:Nat} (h:Rt w2 l2 (.sl .str) xs [.slice A len cap]):ZRc w1 w2 A len:=by
 obtain ⟨A',n',c',he,hlen,-,h⟩:=h
 cases he
 refine ⟨by omega,fun k hk => ?_⟩
 rcases h with rfl | ⟨b,o,rfl,h⟩
 ·simp at hlen; omega
 ·obtain ⟨c,hr,hcell⟩:=h k (by omega)
  have hr:c = [.string xs[k]]:=hr
  subst hr
  obtain ⟨h1,h2⟩:=hcell 0 _ rfl
  have e1:o + k * (Ty.str).size + 0 = o + k:=by simp [Ty.size]
  rw [e1] at h1 h2
  obtain ⟨f1,f2,f3⟩:=Zp5 hE hz2 hl hz1 hc h2 h1 (fun m h => by cases h)
  exact ⟨b,o,xs[k],rfl,h1,f1,f2,f3⟩
theorem ZS3 {w1 w2:World} {l1 l2:Nat → Nat} (hE:Ext w1 l1 w2 l2) (hz2:∀ b,w2.heap.size ≤ b → l2 b = 0) (hl:∀ b,b < w1.heap.size → l2 b = l1 b) (hz1:∀ b,w1.heap.size ≤ b → l1 b = 0)
  (hc:∀ b o v,o < l1 b → w1.cell? ⟨b,o,none⟩ = some v → ∃ m,v = .int .u8 m) {xs:List (List Int)} (hx:xs.length < 4294967296) (hxs:∀ l ∈ xs,l.length < 4294967296) {A:Option Addr} {len cap:Nat} (h:Rt w2 l2 (.sl (.sl (.int .i64))) xs [.slice A len cap]):ZIi w1 w2 A len:=by
 obtain ⟨A',n',c',he,hlen,-,h⟩:=h
 cases he
 refine ⟨by omega,fun k hk => ?_⟩
 rcases h with rfl | ⟨b,o,rfl,h⟩
 ·simp at hlen; omega
 ·obtain ⟨c,hr,hcell⟩:=h k (by omega)
  obtain ⟨A2,n2,c2,rfl,h3⟩:=hr
  obtain ⟨h1,h2⟩:=hcell 0 _ rfl
  have e1:o + k * (Ty.sl (.int .i64)).size + 0 = o + k:=by simp [Ty.size]
  rw [e1] at h1 h2
  exact ⟨b,o,A2,n2,c2,rfl,h1,ZUh hE hz2 hl hz1 hc (hxs _ (Ha (by omega))) ⟨A2,n2,c2,rfl,h3⟩⟩
theorem ZNh {w:World} {lim:Nat → Nat} {x:Trk} {cs:List Value} (h:Rt w lim trackT x cs):∃ slT slC,cs = [.int .i64 x.1.1,.int .i64 x.1.2.1,.int .i64 x.1.2.2.1,slT,slC] ∧ Rt w lim (.sl .str) x.2.1 [slT] ∧ Rt w lim (.sl (.sl (.int .i64))) x.2.2.1 [slC]:=by
 obtain ⟨⟨c,d,r,⟨⟩⟩,tags,ch,⟨⟩⟩:=x
 obtain ⟨a1,a2,rfl,⟨b1,b2,rfl,rfl,b3,b4,rfl,rfl,b5,b6,rfl,rfl,rfl⟩,a3,a4,rfl,ht,a5,a6,rfl,hc,rfl⟩:=h
 obtain ⟨A,n,cp,rfl,h1⟩:=ht
 obtain ⟨A',n',cp',rfl,h2⟩:=hc
 exact ⟨_,_,rfl,⟨A,n,cp,rfl,h1⟩,⟨A',n',cp',rfl,h2⟩⟩
theorem Zbe {w:World} {lim:Nat → Nat} {x:Trk} {v:Value} {bs:List Nat} (h:TT w lim (.view trackT x) v bs):∃ cs,Rt w lim trackT x cs ∧ v = .agg cs.toArray ∧ bs = []:=by
 simp only [TT,Zbd] at h
 obtain ⟨⟨cs,h1,h⟩,hb⟩:=h
 rcases h with ⟨_,h⟩ | ⟨h,_⟩
 ·exact ⟨cs,h1,h,hb⟩
 ·cases h
theorem KW {w:World} {lim:Nat → Nat} {x:Trk} {cs:List Value} (h:Rt w lim trackT x cs):TT w lim (.view trackT x) (.agg cs.toArray) []:=by
 simp only [TT]; exact ⟨⟨cs,h,.inl ⟨rfl,rfl⟩⟩,trivial⟩
theorem ZlQ {w:World} {lim:Nat → Nat} {k:IntKind} {n:Int} {v:Value} {bs:List Nat} (h:TT w lim (.view (.int k) n) v bs):v = .int k n ∧ bs = []:=by
 simp only [TT,Zbd,Rt] at h
 obtain ⟨⟨cs,rfl,h⟩,hb⟩:=h
 rcases h with ⟨h,_⟩ | ⟨_,h⟩
 ·cases h
 ·cases h; exact ⟨rfl,hb⟩
theorem ZdS {w:World} {lim:Nat → Nat} {b:Bool} {v:Value} {bs:List Nat} (h:TT w lim (.view .bool b) v bs):v = .bool b:=by
 simp only [TT,Zbd,Rt] at h
 obtain ⟨⟨cs,rfl,h⟩,_⟩:=h
 rcases h with ⟨h,_⟩ | ⟨_,h⟩
 ·cases h
 ·cases h; rfl
theorem ZP9 {w:World} {lim:Nat → Nat} {t:Ty} {xs:List t.den} {v:Value} {bs:List Nat} (h:TT w lim (.view (.sl t) xs) v bs):Rt w lim (.sl t) xs [v] ∧ bs = []:=by
 simp only [TT,Zbd] at h
 obtain ⟨⟨cs,h1,h⟩,hb⟩:=h
 rcases h with ⟨h,_⟩ | ⟨_,rfl⟩
 ·cases h
 ·exact ⟨h1,hb⟩
theorem ZNz {w:World} {lim:Nat → Nat} {k:IntKind} (n:Int):TT w lim (.view (.int k) n) (.int k n) []:=by
 simp only [TT,Zbd,Rt]; exact ⟨⟨_,rfl,.inr ⟨rfl,rfl⟩⟩,trivial⟩
theorem ZQ7 {w:World} {lim:Nat → Nat} {t:Ty} {xs:List t.den} {v:Value} (h:Rt w lim (.sl t) xs [v]):TT w lim (.view (.sl t) xs) v []:=by
 simp only [TT]; exact ⟨⟨_,h,.inr ⟨rfl,rfl⟩⟩,trivial⟩
theorem ZCH {w:World} {lim:Nat → Nat} {a b:RV} {v:Value} {bs:List Nat} (h:TT w lim (.tup [a,b]) v bs):∃ v1 v2 x1 x2,v = .tuple [v1,v2].toArray ∧ TT w lim a v1 x1 ∧ TT w lim b v2 x2:=by
 simp only [TT] at h
 obtain ⟨us,rfl,h⟩:=h
 match us,h with
 | [v1,v2],h =>
  obtain ⟨x1,y1,rfl,t1,x2,y2,rfl,t2,rfl⟩:=h
  exact ⟨v1,v2,x1,x2,rfl,t1,t2⟩
end Go.Sh
namespace Go.Sh
open Go Go.Proofs
structure SW (w0:World) (lim0:Nat → Nat) (w:World) (lim:Nat → Nat):Prop where
 keep:Keep w0 w
 ext:Ext w0 lim0 w lim
 lz:∀ b,w.heap.size ≤ b → lim b = 0
 lies:ZhL w lim
theorem SW.ext1 {w0:World} {lim0:Nat → Nat} {w w':World} {lim:Nat → Nat} (h:SW w0 lim0 w lim) (k:Keep w w'):Ext w lim w' lim:=Ext.of_keep k h.lz (fun _ _ => rfl) h.lz
theorem SW.next {w0:World} {lim0:Nat → Nat} {w w':World} {lim:Nat → Nat} (h:SW w0 lim0 w lim) (k:Keep w w'):SW w0 lim0 w' lim :=
 ⟨h.keep.trans k,h.ext.trans (h.ext1 k),fun b hb => h.lz b (Nat.le_trans k.size hb),h.lies.mono (h.ext1 k)⟩
theorem SW.calls {w0:World} {lim0:Nat → Nat} {w w':World} {lim lim':Nat → Nat} (h:SW w0 lim0 w lim) (k:Keep w w') (hE:Ext w lim w' lim') (hz:∀ b,w'.heap.size ≤ b → lim' b = 0):SW w0 lim0 w' lim' :=
 ⟨h.keep.trans k,h.ext.trans hE,hz,h.lies.mono hE⟩
theorem Zj6 {k:Nat} {w0:World} {lim0:Nat → Nat} {w:World} {lim:Nat → Nat} (h:SW w0 lim0 w lim) {x:Trk} {cs:List Value} (hr:Rt w lim trackT x cs) :
  Calls Tryz.prog 26 [EQ cs.toArray].toArray w fun en w' => ∃ v,en = .returned v ∧ Keep w w' ∧ ∃ lim' cs',SW w0 lim0 w' lim' ∧ Ext w lim w' lim' ∧ v = .agg cs'.toArray ∧ Rt w' lim' trackT x cs':=by
 refine (Xl (Zgc k) (x:=(x,())) (ZRj (k:=k)) rfl h.lz h.lies (vs:=[.agg cs.toArray]) ⟨[],[],rfl,KW hr,rfl⟩).mono ?_
 rintro en w' ⟨v,rfl,kp,lim',b1,hE,hz,hl,hT,-,-⟩
 obtain ⟨cs',h1,rfl,_⟩:=Zbe hT
 exact ⟨_,rfl,kp,lim',cs',h.calls kp hE hz,hE,rfl,h1⟩
theorem ZlK {k:Nat} (hk:20000000 ≤ k) {w0:World} {lim0:Nat → Nat} {w:World} {lim:Nat → Nat} (h:SW w0 lim0 w lim) {x:Trk} (hS:Small x.2.1 x.2.2.1) {cs cs':List Value} (hr:Rt w lim trackT x cs) (hr':Rt w lim trackT x cs') :
  Calls Tryz.prog 25 [EQ cs.toArray,.agg cs'.toArray].toArray w fun en w' => ∃ v,en = .returned v ∧ Keep w w' ∧ v = .bool true:=by
 refine (Xl (Zgb k) (x:=(x,x,())) (ZS7 hk hS) rfl h.lz h.lies (vs:=[.agg cs.toArray,.agg cs'.toArray]) ⟨[],[],rfl,KW hr,[],[],rfl,KW hr',rfl⟩).mono ?_
 rintro en w' ⟨v,rfl,kp,lim',b1,hE,hz,hl,hT,-,-⟩
 exact ⟨_,rfl,kp,ZdS hT⟩
theorem XB {w:World} {lim:Nat → Nat} {x:Trk} {cs:List Value} (h:Rt w lim trackT x cs):cs.length = 5:=h.length
noncomputable def ZUl:Code:=cl (cr (cr (cr (cr (cr (cr s8))))))
set_option maxRecDepth 20000 in
theorem ZUI {k:Nat} (hk:20000000 ≤ k) {w0:World} {lim0:Nat → Nat} {w:World} {lim:Nat → Nat} (h:SW w0 lim0 w lim) {x:Trk} (hS:Small x.2.1 x.2.2.1) {b1 b3:Nat} {ct ci:List Value} (hb1:w.heap[b1]? = some (.cells ct.toArray 27 (0,0))) (hb3:w.heap[b3]? = some (.cells ci.toArray 34 (0,0)))
  (hrt:Rt w lim trackT x ct) (hri:Rt w lim trackT x ci) {e:En} (h1:e 1 = .pointer (some ⟨b1,0,none⟩)) (h3:e 3 = .pointer (some ⟨b3,0,none⟩)) {Q:Exit → En → World → Prop} (hQ:∀ e' w',e' 2 = .bool true → Keep w w' → Q .ret e' w') :
  T Tryz.prog 112 (match cr ZUl with | .cond _ a _ => a | c => c) Q e w:=by
 let qv:Nat → Value:=fun j => match j with
  | 0 => .agg ci.toArray | 2 => .agg ct.toArray | _ => undef
 let Ph:Nat → En → World → Prop:=fun m e w' => e 1 = .pointer (some ⟨b1,0,none⟩) ∧ e 3 = .pointer (some ⟨b3,0,none⟩) ∧ Keep w w' ∧ match m with
  | 0 => True
  | 1 => ∃ lim' cs',SW w0 lim0 w' lim' ∧ Ext w lim w' lim' ∧ e 42 = .agg cs'.toArray ∧ Rt w' lim' trackT x cs'
  | 2 => e 44 = .bool true
  | 3 => e 2 = .bool true
  | _ => False
 refine T.seq (T.mixed [1,3,4] (fun j => 41 + j) qv Ph Kl (by kernel_rfl) ?_ ?_ ?_ ?_ ?_)
 ·exact ⟨h1,h3,Keep.drw w,trivial⟩
 ·rintro m e w' j v hj hc ⟨q1,q2,q3,q4⟩
  have hne:j ≠ 1 ∧ j ≠ 3 ∧ j ≠ 4:=by
   refine ⟨?_,?_,?_⟩ <;> (rintro rfl; simp at hc)
  have hj':j < 5:=hj
  refine ⟨(ZQ e v (by omega)).trans q1,(ZQ e v (by omega)).trans q2,q3,?_⟩
  match m,q4 with
  | 0,_ => trivial
  | 1,⟨lim,cs,a1,a2,a3,a4⟩ => exact ⟨lim,cs,a1,a2,(ZQ e v (by omega)).trans a3,a4⟩
  | 2,a => exact (ZQ e v (by omega)).trans a
  | 3,a => exact (ZQ e v (by omega)).trans a
 ·refine ⟨fun _ m e w' hP hd hp => ⟨trivial,?_⟩,fun h => (by cases h),fun _ m e w' hP hd hp => ⟨trivial,?_⟩,fun h => (by cases h),fun h => (by cases h),trivial⟩
  ·exact Za6 (x:=.tmp 3) (cs:=ci) rfl hP.2.1 ((hP.2.2.1.old b3 (QS hb3)).trans hb3) (dd:=Tryz.prog.underlying 34 |>.getD default) (by kernel_rfl) (by kernel_rfl) (by rw [XB hri]; kernel_rfl) (by simp)
  ·exact Za6 (x:=.tmp 1) (cs:=ct) rfl hP.1 ((hP.2.2.1.old b1 (QS hb1)).trans hb1) (dd:=Tryz.prog.underlying 27 |>.getD default) (by kernel_rfl) (by kernel_rfl) (by rw [XB hrt]; kernel_rfl) (by simp)
 ·refine ⟨fun o ho e w' hP hd => ⟨?_,?_⟩,fun o ho e w' hP hd => ⟨?_,?_⟩,fun o ho e w' hP hd => ⟨?_,?_⟩,trivial⟩
  ·obtain rfl:=VF.inj ho; trivial
  ·obtain rfl:=VF.inj ho
   obtain ⟨q1,q2,q3,_⟩:=hP
   have hv:e 41 = .agg ci.toArray:=hd 0 rfl rfl
   refine Lo.call 42 (QR (args := #[.tmp 41]) rfl (Zgc k).enters) (by
    show Calls Tryz.prog 26 [e 41].toArray w' _
    rw [hv]; exact Zj6 (k:=k) (h.next q3) (hri.mono (h.ext1 q3))) ?_
   rintro v w'' ⟨kp,lim',cs',s1,s2,rfl,s3⟩
   exact ⟨(ZQ _ _ (by decide)).trans q1,(ZQ _ _ (by decide)).trans q2,q3.trans kp,lim',cs',s1,(h.ext1 q3).trans s2,Wi ..,s3⟩
  ·obtain rfl:=VF.inj ho; trivial
  ·obtain rfl:=VF.inj ho
   obtain ⟨q1,q2,q3,lim',cs',s1,s2,s3,s4⟩:=hP
   have hv:e 43 = .agg ct.toArray:=hd 2 rfl rfl
   refine Lo.call 44 (QR (args := #[.tmp 42,.tmp 43]) rfl (Zgb k).enters) (by
    show Calls Tryz.prog 25 [e 42,e 43].toArray w' _
    rw [s3,hv]; exact ZlK hk s1 hS s4 (hrt.mono s2)) ?_
   rintro v w'' ⟨kp,rfl⟩
   exact ⟨(ZQ _ _ (by decide)).trans q1,(ZQ _ _ (by decide)).trans q2,q3.trans kp,Wi ..⟩
  ·obtain rfl:=VF.inj ho; trivial
  ·obtain rfl:=VF.inj ho
   obtain ⟨q1,q2,q3,q4⟩:=hP
   refine Lo.val 2 (Z7 (x:=.tmp 44) (.inr rfl) q4) ?_
   exact ⟨(ZQ _ _ (by decide)).trans q1,(ZQ _ _ (by decide)).trans q2,q3,Wi ..⟩
 ·rintro e w' ⟨q1,q2,q3,q4⟩ _
  exact T.ret (hQ _ _ q4 q3)
set_option maxRecDepth 20000 in
theorem ZUH {k:Nat} (hk:20000000 ≤ k) {w0:World} {lim0:Nat → Nat} {w:World} {lim:Nat → Nat} (h:SW w0 lim0 w lim) {x:Trk} (hS:Small x.2.1 x.2.2.1) {b1 b3:Nat} {er:Int} {ct ci:List Value} (hb1:w.heap[b1]? = some (.cells ct.toArray 27 (0,0))) (hb3:w.heap[b3]? = some (.cells ci.toArray 34 (0,0)))
  (hrt:Rt w lim trackT x ct) (hri:Rt w lim trackT x ci) {Fe:List (Nat × Value)} (hFe:∀ p ∈ Fe,p.1 < 9) {e:En} (hat:At Fe e) (h1:(1,UI (some ⟨b1,0,none⟩)) ∈ Fe) (h3:(3,UI (some ⟨b3,0,none⟩)) ∈ Fe) (h5:(5,Jv .i64 er) ∈ Fe) {Q:Exit → En → World → Prop}
  (hQ:∀ e' w',e' 2 = .bool true → Keep w w' → Q .ret e' w') (hN:er = 0 → ∀ e' w',At Fe e' → Keep w w' → Q .normal e' w'):T Tryz.prog 112 ZUl Q e w:=by
 let qv:Nat → Value:=fun j => match j with
  | 0 => .agg ci.toArray | 2 => .agg ct.toArray | _ => undef
 let Ph:Nat → En → World → Prop:=fun m e w' => At Fe e ∧ Keep w w' ∧ match m with
  | 0 => True
  | 1 => ∃ lim' cs',SW w0 lim0 w' lim' ∧ Ext w lim w' lim' ∧ e 33 = .agg cs'.toArray ∧ Rt w' lim' trackT x cs'
  | 2 => e 35 = .bool true
  | 3 => e 36 = .bool false
  | 4 => e 37 = .bool false
  | 5 => e 37 = .bool false ∧ e 38 = .int .i64 er
  | 6 => e 37 = .bool false ∧ e 39 = .bool (er != 0)
  | 7 => e 40 = .bool (er != 0)
  | _ => False
 refine T.seq (T.mixed [1,3,4,5,6,7,8] (fun j => 32 + j) qv Ph Kl (by kernel_rfl) ?_ ?_ ?_ ?_ ?_)
 ·exact ⟨hat,Keep.drw w,trivial⟩
 ·rintro m e w' j v hj hc ⟨q1,q3,q4⟩
  have hne:j = 0 ∨ j = 2:=by
   have hj':j < 9:=hj
   have hn:j ≠ 1 ∧ j ≠ 3 ∧ j ≠ 4 ∧ j ≠ 5 ∧ j ≠ 6 ∧ j ≠ 7 ∧ j ≠ 8:=by refine ⟨?_,?_,?_,?_,?_,?_,?_⟩ <;> (rintro rfl; simp at hc)
   omega
  have ho:∀ s,s ≠ 32 → s ≠ 34 → upd e (32 + j) v s = e s:=fun s h h' => ZQ e v (by rcases hne with rfl | rfl <;> omega)
  refine ⟨q1.same hFe (fun s hs => ho s (by omega) (by omega)),q3,?_⟩
  match m,q4 with
  | 0,_ => trivial
  | 1,⟨lim,cs,a1,a2,a3,a4⟩ => exact ⟨lim,cs,a1,a2,(ho 33 (by decide) (by decide)).trans a3,a4⟩
  | 2,a => exact (ho 35 (by decide) (by decide)).trans a
  | 3,a => exact (ho 36 (by decide) (by decide)).trans a
  | 4,a => exact (ho 37 (by decide) (by decide)).trans a
  | 5,⟨a,a'⟩ => exact ⟨(ho 37 (by decide) (by decide)).trans a,(ho 38 (by decide) (by decide)).trans a'⟩
  | 6,⟨a,a'⟩ => exact ⟨(ho 37 (by decide) (by decide)).trans a,(ho 39 (by decide) (by decide)).trans a'⟩
  | 7,a => exact (ho 40 (by decide) (by decide)).trans a
 ·refine ⟨fun _ m e w' hP hd hp => ⟨trivial,?_⟩,fun h => (by cases h),fun _ m e w' hP hd hp => ⟨trivial,?_⟩,fun h => (by cases h),fun h => (by cases h),fun h => (by cases h),fun h => (by cases h),fun h => (by cases h),fun h => (by cases h),trivial⟩
  ·exact Za6 (x:=.tmp 3) (cs:=ci) rfl (hP.1 _ h3) ((hP.2.1.old b3 (QS hb3)).trans hb3) (dd:=Tryz.prog.underlying 34 |>.getD default) (by kernel_rfl) (by kernel_rfl) (by rw [XB hri]; kernel_rfl) (by simp)
  ·exact Za6 (x:=.tmp 1) (cs:=ct) rfl (hP.1 _ h1) ((hP.2.1.old b1 (QS hb1)).trans hb1) (dd:=Tryz.prog.underlying 27 |>.getD default) (by kernel_rfl) (by kernel_rfl) (by rw [XB hrt]; kernel_rfl) (by simp)
 ·refine ⟨fun o ho e w' hP hd => ⟨?_,?_⟩,fun o ho e w' hP hd => ⟨?_,?_⟩,fun o ho e w' hP hd => ⟨?_,?_⟩,fun o ho e w' hP hd => ⟨?_,?_⟩,fun o ho e w' hP hd => ⟨?_,?_⟩,fun o ho e w' hP hd => ⟨?_,?_⟩,fun o ho e w' hP hd => ⟨?_,?_⟩,trivial⟩
  ·obtain rfl:=VF.inj ho; trivial
  ·obtain rfl:=VF.inj ho
   obtain ⟨q1,q3,_⟩:=hP
   have hv:e 32 = .agg ci.toArray:=hd 0 rfl rfl
   refine Lo.call 33 (QR (args := #[.tmp 32]) rfl (Zgc k).enters) (by
    show Calls Tryz.prog 26 [e 32].toArray w' _
    rw [hv]; exact Zj6 (k:=k) (h.next q3) (hri.mono (h.ext1 q3))) ?_
   rintro v w'' ⟨kp,lim',cs',s1,s2,rfl,s3⟩
   exact ⟨q1.same hFe (fun s hs => ZQ _ _ (by omega)),q3.trans kp,lim',cs',s1,(h.ext1 q3).trans s2,Wi ..,s3⟩
  ·obtain rfl:=VF.inj ho; trivial
  ·obtain rfl:=VF.inj ho
   obtain ⟨q1,q3,lim',cs',s1,s2,s3,s4⟩:=hP
   have hv:e 34 = .agg ct.toArray:=hd 2 rfl rfl
   refine Lo.call 35 (QR (args := #[.tmp 33,.tmp 34]) rfl (Zgb k).enters) (by
    show Calls Tryz.prog 25 [e 33,e 34].toArray w' _
    rw [s3,hv]; exact ZlK hk s1 hS s4 (hrt.mono s2)) ?_
   rintro v w'' ⟨kp,rfl⟩
   exact ⟨q1.same hFe (fun s hs => ZQ _ _ (by omega)),q3.trans kp,Wi ..⟩
  ·obtain rfl:=VF.inj ho; trivial
  ·obtain rfl:=VF.inj ho
   obtain ⟨q1,q3,q4⟩:=hP
   refine Lo.val 36 (ZUf (x:=.tmp 35) rfl q4 (v:=.bool false) rfl) ?_
   exact ⟨q1.same hFe (fun s hs => ZQ _ _ (by omega)),q3,Wi ..⟩
  ·obtain rfl:=VF.inj ho; trivial
  ·obtain rfl:=VF.inj ho
   obtain ⟨q1,q3,q4⟩:=hP
   refine Lo.val 37 (Z7 (x:=.tmp 36) (.inl rfl) q4) ?_
   exact ⟨q1.same hFe (fun s hs => ZQ _ _ (by omega)),q3,Wi ..⟩
  ·obtain rfl:=VF.inj ho; exact ⟨37,rfl,hP.2.2⟩
  ·obtain rfl:=VF.inj ho
   obtain ⟨q1,q3,q4⟩:=hP
   refine Lo.val 38 (Z7 (x:=.tmp 5) (.inl rfl) (q1 _ h5)) ?_
   exact ⟨q1.same hFe (fun s hs => ZQ _ _ (by omega)),q3,(ZQ _ _ (by decide)).trans q4,Wi ..⟩
  ·obtain rfl:=VF.inj ho; exact ⟨37,rfl,hP.2.2.1⟩
  ·obtain rfl:=VF.inj ho
   obtain ⟨q1,q3,q4,q5⟩:=hP
   refine Lo.val 39 (ZgM (x:=.tmp 38) (y:=.const (.int .i64 0)) rfl q5 rfl rfl (v:=.bool (er != 0)) rfl) ?_
   exact ⟨q1.same hFe (fun s hs => ZQ _ _ (by omega)),q3,(ZQ _ _ (by decide)).trans q4,Wi ..⟩
  ·obtain rfl:=VF.inj ho; trivial
  ·obtain rfl:=VF.inj ho
   obtain ⟨q1,q3,q4,q5⟩:=hP
   refine Lo.val 40 (ZqK (c:=.tmp 37) (a:=.const (.bool true)) (b:=.tmp 39) rfl q4 q5) ?_
   exact ⟨q1.same hFe (fun s hs => ZQ _ _ (by omega)),q3,Wi ..⟩
 ·rintro e w' ⟨q1,q3,q4⟩ _
  by_cases h0:er = 0
  ·exact T.condF (by show e 40 = _; rw [q4,h0]; rfl) (T.skip (hN h0 _ _ q1 q3))
  ·refine T.condT (by show e 40 = _; rw [q4]; simp [h0]) ?_
   exact ZUI hk (h.next q3) hS ((q3.old b1 (QS hb1)).trans hb1) ((q3.old b3 (QS hb3)).trans hb3) (hrt.mono (h.ext1 q3)) (hri.mono (h.ext1 q3)) (q1 _ h1) (q1 _ h3) (fun e' w'' a b => hQ e' w'' a (q3.trans b))
end Go.Sh
namespace Go.Sh
open Go Go.Proofs
theorem ZNZ (s:ByteArray):Yd Tryz.prog (binOp .eql 9 (.string s) (.string s)) = some (.bool true):=by
 have:Yd Tryz.prog (binOp .eql 9 (.string s) (.string s)) = some (.bool (s.toList == s.toList)):=by kernel_rfl
 rw [this]; simp
noncomputable def ZUj:Code:=cr (s8P 2)
set_option maxRecDepth 20000 in
theorem ZUg {k:Nat} (hk:20000000 ≤ k) {w0:World} {lim0:Nat → Nat} {w:World} {lim:Nat → Nat} (h:SW w0 lim0 w lim) {x:Trk} (hS:Small x.2.1 x.2.2.1) {b1 b12 cc n cap:Nat} {ct cv:List Value} {E:List Int} {vb:Value} {vs:Array Value} {U:TypeId} {fz:Nat × Nat}
  (hb1:w.heap[b1]? = some (.cells ct.toArray 27 (0,0))) (hb12:w.heap[b12]? = some (.cells cv.toArray 34 (0,0))) (hrt:Rt w lim trackT x ct) (hrv:Rt w lim trackT x cv) (hE:Rt w lim (.sl (.int .u8)) E [vb])
  (hcc:w.heap[cc]? = some (.cells vs U fz)) (hn:E.length = n) (hcap:n ≤ cap) (hcs:∀ i (h:i < E.length),vs.toList[0 + i]? = some (.int .u8 E[i]))
  {Fe:List (Nat × Value)} (hFe:∀ p ∈ Fe,p.1 < 14) (hF2:∀ p ∈ Fe,p.1 ≠ 2) {e:En} (hat:At Fe e) (h1:(1,UI (some ⟨b1,0,none⟩)) ∈ Fe) (h4:(4,vb) ∈ Fe) (h6:(6,V5 (some ⟨cc,0,none⟩) n cap) ∈ Fe) (h8:(8,Jv .i64 0) ∈ Fe)
  (h12:(12,UI (some ⟨b12,0,none⟩)) ∈ Fe) (h13:(13,Jv .i64 0) ∈ Fe) {Q:Exit → En → World → Prop} (hQ:∀ e' w',e' 2 = .bool true → Keep w w' → Q .ret e' w'):T Tryz.prog 112 ZUj Q e w:=by
 let qv:Nat → Value:=fun j => match j with
  | 0 => .int .i64 0 | 1 => .bool true | 2 => .bool true | 3 => .int .i64 0 | 4 => .bool true | 5 => .bool true | 6 => .bool true | 7 => .slice (some ⟨cc,0,none⟩) n cap | 8 => .string (bytesOf E) | 9 => vb | 10 => .string (bytesOf E)
  | 11 => .bool true | 12 => .bool true | 13 => .bool true | 14 => .agg cv.toArray | 16 => .agg ct.toArray | _ => undef
 let Ph:Nat → En → World → Prop:=fun m e w' => At Fe e ∧ Keep w w' ∧ match m with
  | 0 => True
  | 1 => ∃ lim' cs',SW w0 lim0 w' lim' ∧ Ext w lim w' lim' ∧ e 108 = .agg cs'.toArray ∧ Rt w' lim' trackT x cs'
  | 2 => e 110 = .bool true
  | 3 => e 111 = .bool true
  | 4 => e 2 = .bool true
  | _ => False
 refine T.seq (T.mixed [15,17,18,19] (fun j => 93 + j) qv Ph Kl (by kernel_rfl) ?_ ?_ ?_ ?_ ?_)
 ·exact ⟨hat,Keep.drw w,trivial⟩
 ·rintro m e w' j v hj hc ⟨q1,q3,q4⟩
  have hj':j < 20:=hj
  have hn:j ≠ 15 ∧ j ≠ 17 ∧ j ≠ 18 ∧ j ≠ 19:=by refine ⟨?_,?_,?_,?_⟩ <;> (rintro rfl; simp at hc)
  have ho:∀ s,(s < 93 ∨ s = 108 ∨ s = 110 ∨ s = 111) → upd e (93 + j) v s = e s:=fun s h => ZQ e v (by omega)
  refine ⟨q1.same hFe (fun s hs => ho s (by omega)),q3,?_⟩
  match m,q4 with
  | 0,_ => trivial
  | 1,⟨lim,cs,a1,a2,a3,a4⟩ => exact ⟨lim,cs,a1,a2,(ho 108 (by simp)).trans a3,a4⟩
  | 2,a => exact (ho 110 (by simp)).trans a
  | 3,a => exact (ho 111 (by simp)).trans a
  | 4,a => exact (ho 2 (by simp)).trans a
 ·refine ⟨fun _ m e w' hP hd hp => ⟨trivial,?_⟩,fun _ m e w' hP hd hp => ⟨trivial,?_⟩,fun _ m e w' hP hd hp => ⟨trivial,?_⟩,fun _ m e w' hP hd hp => ⟨⟨95,rfl,hd 2 rfl rfl⟩,?_⟩,fun _ m e w' hP hd hp => ⟨⟨95,rfl,hd 2 rfl rfl⟩,?_⟩,fun _ m e w' hP hd hp => ⟨trivial,?_⟩,fun _ m e w' hP hd hp => ⟨trivial,?_⟩,
   fun _ m e w' hP hd hp => ⟨⟨99,rfl,hd 6 rfl rfl⟩,?_⟩,fun _ m e w' hP hd hp => ⟨⟨99,rfl,hd 6 rfl rfl⟩,?_⟩,fun _ m e w' hP hd hp => ⟨⟨99,rfl,hd 6 rfl rfl⟩,?_⟩,fun _ m e w' hP hd hp => ⟨⟨99,rfl,hd 6 rfl rfl⟩,?_⟩,fun _ m e w' hP hd hp => ⟨⟨99,rfl,hd 6 rfl rfl⟩,?_⟩,
   fun _ m e w' hP hd hp => ⟨trivial,?_⟩,fun _ m e w' hP hd hp => ⟨trivial,?_⟩,fun _ m e w' hP hd hp => ⟨⟨106,rfl,hd 13 rfl rfl⟩,?_⟩,fun h => (by cases h),fun _ m e w' hP hd hp => ⟨⟨106,rfl,hd 13 rfl rfl⟩,?_⟩,fun h => (by cases h),fun h => (by cases h),fun h => (by cases h),trivial⟩
  ·exact Z7 (x:=.tmp 8) (.inl rfl) (hP.1 _ h8)
  ·exact ZgM (x:=.tmp 93) (y:=.const (.int .i64 0)) rfl (hd 0 rfl rfl) rfl rfl rfl
  ·exact Z7 (x:=.tmp 94) (.inl rfl) (hd 1 rfl rfl)
  ·exact Z7 (x:=.tmp 13) (.inl rfl) (hP.1 _ h13)
  ·exact ZgM (x:=.tmp 96) (y:=.const (.int .i64 0)) rfl (hd 3 rfl rfl) rfl rfl rfl
  ·exact ZqK (c:=.tmp 95) (a:=.tmp 97) (b:=.const (.bool false)) rfl (hd 2 rfl rfl) (hd 4 rfl rfl)
  ·exact Z7 (x:=.tmp 98) (.inl rfl) (hd 5 rfl rfl)
  ·exact Z7 (x:=.tmp 6) (.inl rfl) (hP.1 _ h6)
  ·exact ZPZ (x:=.tmp 100) (el:=5) (xs:=E) rfl (hd 7 rfl rfl) (by kernel_rfl) (by kernel_rfl) (by kernel_rfl) ((hP.2.1.old cc (QS hcc)).trans hcc) hn hcap hcs
  ·exact Z7 (x:=.tmp 4) (.inl rfl) (hP.1 _ h4)
  ·exact ZM9 (x:=.tmp 102) (el:=5) (lim:=lim) rfl (hd 9 rfl rfl) (by kernel_rfl) (by kernel_rfl) (by kernel_rfl) (hE.mono (h.ext1 hP.2.1))
  ·exact ZgM (x:=.tmp 101) (y:=.tmp 103) rfl (hd 8 rfl rfl) (hd 10 rfl rfl) rfl (ZNZ _)
  ·exact ZqK (c:=.tmp 99) (a:=.tmp 104) (b:=.const (.bool false)) rfl (hd 6 rfl rfl) (hd 11 rfl rfl)
  ·exact Z7 (x:=.tmp 105) (.inl rfl) (hd 12 rfl rfl)
  ·exact Za6 (x:=.tmp 12) (cs:=cv) rfl (hP.1 _ h12) ((hP.2.1.old b12 (QS hb12)).trans hb12) (dd:=Tryz.prog.underlying 34 |>.getD default) (by kernel_rfl) (by kernel_rfl) (by rw [XB hrv]; kernel_rfl) (by simp)
  ·exact Za6 (x:=.tmp 1) (cs:=ct) rfl (hP.1 _ h1) ((hP.2.1.old b1 (QS hb1)).trans hb1) (dd:=Tryz.prog.underlying 27 |>.getD default) (by kernel_rfl) (by kernel_rfl) (by rw [XB hrt]; kernel_rfl) (by simp)
 ·refine ⟨fun o ho e w' hP hd => ⟨?_,?_⟩,fun o ho e w' hP hd => ⟨?_,?_⟩,fun o ho e w' hP hd => ⟨?_,?_⟩,fun o ho e w' hP hd => ⟨?_,?_⟩,trivial⟩
  ·obtain rfl:=VF.inj ho; exact ⟨106,rfl,hd 13 rfl rfl⟩
  ·obtain rfl:=VF.inj ho
   obtain ⟨q1,q3,_⟩:=hP
   have hv:e 107 = .agg cv.toArray:=hd 14 rfl rfl
   refine Lo.call 108 (QR (args := #[.tmp 107]) rfl (Zgc k).enters) (by
    show Calls Tryz.prog 26 [e 107].toArray w' _
    rw [hv]; exact Zj6 (k:=k) (h.next q3) (hrv.mono (h.ext1 q3))) ?_
   rintro v w'' ⟨kp,lim',cs',s1,s2,rfl,s3⟩
   exact ⟨q1.same hFe (fun s hs => ZQ _ _ (by omega)),q3.trans kp,lim',cs',s1,(h.ext1 q3).trans s2,Wi ..,s3⟩
  ·obtain rfl:=VF.inj ho; exact ⟨106,rfl,hd 13 rfl rfl⟩
  ·obtain rfl:=VF.inj ho
   obtain ⟨q1,q3,lim',cs',s1,s2,s3,s4⟩:=hP
   have hv:e 109 = .agg ct.toArray:=hd 16 rfl rfl
   refine Lo.call 110 (QR (args := #[.tmp 108,.tmp 109]) rfl (Zgb k).enters) (by
    show Calls Tryz.prog 25 [e 108,e 109].toArray w' _
    rw [s3,hv]; exact ZlK hk s1 hS s4 (hrt.mono s2)) ?_
   rintro v w'' ⟨kp,rfl⟩
   exact ⟨q1.same hFe (fun s hs => ZQ _ _ (by omega)),q3.trans kp,Wi ..⟩
  ·obtain rfl:=VF.inj ho; trivial
  ·obtain rfl:=VF.inj ho
   obtain ⟨q1,q3,q4⟩:=hP
   have hv:e 106 = .bool true:=hd 13 rfl rfl
   refine Lo.val 111 (ZqK (c:=.tmp 106) (a:=.tmp 110) (b:=.const (.bool false)) rfl hv q4) ?_
   exact ⟨q1.same hFe (fun s hs => ZQ _ _ (by omega)),q3,Wi ..⟩
  ·obtain rfl:=VF.inj ho; trivial
  ·obtain rfl:=VF.inj ho
   obtain ⟨q1,q3,q4⟩:=hP
   refine Lo.val 2 (Z7 (x:=.tmp 111) (.inr rfl) q4) ?_
   refine ⟨fun p hp => ?_,q3,Wi ..⟩
   rw [ZQ _ _ (hF2 p hp)]; exact q1 p hp
 ·rintro e w' ⟨q1,q3,q4⟩ _
  exact T.ret (hQ _ _ q4 q3)
end Go.Sh
namespace Go.Sh
open Go
section
variable [Gl]
variable {P:Program} {n:Nat} {e:En} {w:World} {o:Oper}
theorem Zrx {T ee:TypeId} {t:Ty} (ho:o.op = .buildSlice T 0 #[]) (he:Xm P T = some (ee,t)) {zs:List Value} (hz:zeroCells P ee = some zs) :
  (execOp (ev e) o).run P w = .ok (.value (.slice (some ⟨w.heap.size,0,none⟩) 0 0)) (w.alloc (.cells #[] ee)):=by
 obtain ⟨z,hz1,hz2⟩:=YY hz w
 obtain ⟨i,hi,his,_⟩:=Zaf he
 obtain ⟨hu,ht,hs⟩:=We he
 simp only [execOp,ho,Instr.buildSlice,Sem.run_bind,run_underlying hu,Result.andThen_ok,sizeOf,typeInfo,run_program,hi,Sem.run_pure,Sem.run_ite,gt_iff_lt]
 have hlen0:¬ (2 ^ 24 < 0 * i.size):=by omega
 rw [if_neg hlen0]
 have hr0:∀ f:Nat → Value,Array.map f (Array.range 0) = #[]:=fun f => by simp
 simp only [Nat.zero_mul,if_true,Sem.run_pure,Result.andThen_ok,hr0]
 have hf:Instr.fill (fun j => some (j * i.size,i.size)) #[] [] = some #[]:=rfl
 simp [hf,newRow]
theorem ZHT {T U ee:TypeId} {x y:Operand} {vy:Value} {lim:Nat → Nat} {E:List Int} {i:TypeInfo} (ho:o.op = .call { callee:=.builtin .append,args := #[x,y],argTypes := #[T,U] }) (he:Xm P T = some (ee,.int .u8)) (hU:P.underlying U = some (.slice ee))
  (hi:P.info? ee = some i) (hz:i.zero = some (.int .u8 0)) (hby:i.bytes = 1) {b0:Nat} (hx:ev e x = .slice (some ⟨b0,0,none⟩) 0 0) (hy:ev e y = vy) (hr:Rt w lim (.sl (.int .u8)) E [vy]) (h1:1 ≤ E.length) (h2:E.length < 100000000) :
  ∃ cap zs,E.length ≤ cap ∧ (execOp (ev e) o).run P w = .ok (.value (.slice (some ⟨w.heap.size,0,none⟩) E.length cap)) (w.drew.alloc (.cells (E.map (Jv .u8) ++ zs).toArray ee)):=by
 obtain ⟨hu,ht,hs⟩:=We he
 obtain ⟨i',hi',his,_⟩:=Zaf he
 rw [hi] at hi'; cases hi'
 obtain ⟨A,c,rfl,hc,css,h3,h4⟩:=Zgp (Zgq hr)
 have hfl:=Qn h3
 rw [ZFc h3] at h4 hfl
 have his1:i.size = 1:=his
 have hfc:(Ji i.size E.length (.slice A E.length c)).run P w.drew = .ok (E.map (Jv .u8)).toArray w.drew:=by
  rw [his]
  rcases h4 with rfl | ⟨b,off,rfl,h4⟩
  ·simp at h1
  ·exact run_firstCells_some w.drew (Ty.int .u8).size E.length _ _ _ (E.map (Jv .u8)) (by simp [Ty.size]) (fun j u hj => by rw [QC]; exact h4 j u hj)
 have hnx:Builtin.nextslicecap (0 + E.length) 0 = E.length:=by rw [Ub]; exact nextslicecap_zero (by omega)
 have:=ZnX (ty:=o.type) hu hU (.inr ⟨ee,rfl⟩) hi hz (x:=.slice A E.length c) (n:=E.length) (news:=E.map (Jv .u8)) (olds:=[]) (w:=w) (A:=some ⟨b0,0,none⟩) (sLen:=0) (sCap:=0) (by simp [Builtin.lenOf]) hfc
  (by simp [Ji,loadCells,loadCellsFrom]) (by omega) (by omega) (by rw [hnx,hby]; omega)
 have hge:=grownCap_ge w (0 + E.length) 0 ee
 refine ⟨grownCap w (0 + E.length) 0 ee,(Jl (Jv .u8 0).cells (grownCap w (0 + E.length) 0 ee - (0 + E.length))).toList,by omega,?_⟩
 simp only [execOp,ho,resolve]
 simp only [bind_pure_comp,Sem.run_map,invoke,builtin,Sem.run_bind,Sem.run_pure,Result.andThen_ok,List.map_toArray,JR,VE,hx,hy]
 have h5:=congrArg (fun r => r.andThen fun a w' => Result.ok (Next.value a) w') this
 simp only [Result.andThen_ok,Ub] at h5 ⊢
 simp only [Ub] at *
 rw [show (E.map (Jv .u8) ++ (Jl (Jv .u8 0).cells (grownCap w E.length 0 ee - E.length)).toList).toArray = ([]:List Value).toArray ++ (E.map (Jv .u8)).toArray ++ Jl (Jv .u8 0).cells (grownCap w E.length 0 ee - E.length) by
  apply Array.ext'; simp]
 exact h5
theorem Zhu {T:TypeId} {x y:Operand} {b:Nat} {cur:Array Value} {U:TypeId} {fz:Nat × Nat} {dd:TypeDesc} {vs:List Value} (ho:o.op = .store T x y) (hx:ev e x = .pointer (some ⟨b,0,none⟩)) (hv:(ev e y).cells = vs.toArray)
  (hb:w.heap[b]? = some (.cells cur U fz)) (hfz:∀ x,x < cur.size → ¬ (fz.1 ≤ x ∧ x < fz.2)) (hT:P.underlying T = some dd) (hc:P.cellsOf T = vs.length) (h1:∀ v ∈ vs,v.oneCell' = true) (hfit:vs.length = cur.size) :
  (execOp (ev e) o).run P w = .ok .skip (w.setRow b vs.toArray):=by
 have:=ZPY (P:=P) ho hx hv hb hfz hT hc h1 (by omega)
 rw [this]
 congr 2
 simp [hfit]
theorem Keep.drew (w:World):Keep w w.drew:=⟨Jj _,fun _ _ => rfl,rfl,rfl,rfl⟩
end
end Go.Sh
namespace Go.Sh
open Go Go.Proofs
theorem SW.of_ext {w0:World} {lim0:Nat → Nat} {w:World} {lim lim':Nat → Nat} (h:SW w0 lim0 w lim) (hE:Ext w lim w lim') (hz:∀ b,w.heap.size ≤ b → lim' b = 0):SW w0 lim0 w lim':=⟨h.keep,h.ext.trans hE,hz,h.lies.mono hE⟩
theorem Zy1 {k:Nat} {w0:World} {lim0:Nat → Nat} {w:World} {lim:Nat → Nat} (h:SW w0 lim0 w lim) {x:Trk} {E:List Int} (hS:Small x.2.1 x.2.2.1) (hF:Zdn k (E,()) = some ((x,0,()),())) {cc cap:Nat} (hcap:E.length ≤ cap) {zs:List Value} {fz:Nat × Nat} {U:TypeId} (hcc:w.heap[cc]? = some (.cells (E.map (Jv .u8) ++ zs).toArray U fz))
  (hnew:w0.heap.size ≤ cc) (hlz0:∀ b,w0.heap.size ≤ b → lim0 b = 0) (hlies0:ZhL w0 lim0) :
  Calls Tryz.prog 23 [V5 (some ⟨cc,0,none⟩) E.length cap].toArray w fun en w' => ∃ v,en = .returned v ∧ Keep w w' ∧ ∃ slT slC A3 n3 c3 A4 n4 c4,v = .tuple [.agg [Jv .i64 x.1.1,.int .i64 x.1.2.1,.int .i64 x.1.2.2.1,slT,slC].toArray,.int .i64 0].toArray ∧ slT = .slice A3 n3 c3 ∧ slC = .slice A4 n4 c4 ∧ ZRc w w' A3 n3 ∧ ZIi w w' A4 n4:=by
 let l1:Nat → Nat:=fun b => if b = cc then E.length else (Gl.tab b).2.length
 have tab_old:∀ g,(Gl.tab g).2 ≠ [] → g < w0.heap.size:=fun g hg => by
  cases ht:(Gl.tab g).2 with
  | nil => exact absurd ht hg
  | cons a l =>
   obtain ⟨_,h2⟩:=hlies0 g 0 a (by rw [ht]; rfl)
   rcases VN g w0.heap.size with h' | h'
   ·exact h'
   ·rw [hlz0 g h'] at h2; omega
 have hsz:=h.keep.size
 have hccl:=QS hcc
 have hz1:∀ b,w.heap.size ≤ b → l1 b = 0:=fun b hb => by
  simp only [l1]
  rw [if_neg (by omega)]
  cases ht:(Gl.tab b).2 with
  | nil => rfl
  | cons a l => have:=tab_old b (by rw [ht]; simp); omega
 have hlies:ZhL w l1:=fun g j n hj => by
  obtain ⟨h1,h2⟩:=h.lies g j n hj
  refine ⟨h1,?_⟩
  have hl:j < (Gl.tab g).2.length:=(List.getElem?_eq_some_iff.1 hj).1
  have hg:=tab_old g (fun h => by rw [h] at hl; simp at hl)
  simp only [l1]
  rw [if_neg (by omega)]; exact hl
 have hc:∀ b o v,o < l1 b → w.cell? ⟨b,o,none⟩ = some v → ∃ m,v = .int .u8 m:=fun b o v ho hv => by
  simp only [l1] at ho
  split at ho
  ·rename_i e
   subst e
   rw [X7 hcc,EH (by simpa using ho),Vh] at hv
   cases he:E[o]? with
   | none => rw [he] at hv; cases hv
   | some m => rw [he] at hv; cases hv; exact ⟨m,rfl⟩
  ·obtain ⟨m,hm⟩:∃ m,(Gl.tab b).2[o]? = some m:=⟨_,VO ho⟩
   have h1:=(h.lies b o m hm).1
   rw [h1] at hv
   cases hv
   have hk:(Gl.tab b).1 = .u8:=by
    show (bif Nat.beq b 4 then ((.u8,deBruijnT):IntKind × List Int) else (.u8,[])).1 = .u8
    cases Nat.beq b 4 <;> rfl
   exact ⟨m,by rw [hk]⟩
 have hrow:Rt w l1 (.sl (.int .u8)) E [.slice (some ⟨cc,0,none⟩) E.length cap]:=by
  refine ⟨some ⟨cc,0,none⟩,E.length,cap,rfl,rfl,hcap,.inr ⟨cc,0,rfl,fun i hi => ⟨[.int .u8 E[i]],rfl,fun j v hj => ?_⟩⟩⟩
  match j,hj with
  | 0,hj =>
   simp at hj; subst hj
   have e1:0 + i * (Ty.int .u8).size + 0 = i:=by simp [Ty.size]
   rw [e1,X7 hcc,EH (by simpa using hi),Vh,VO hi]
   refine ⟨rfl,?_⟩
   simp only [l1,if_true]; exact hi
  | j + 1,hj => simp at hj
 refine (Xl (Zga k) (x:=(E,())) hF rfl hz1 hlies (vs:=[.slice (some ⟨cc,0,none⟩) E.length cap]) ⟨[],[],rfl,ZQ7 hrow,rfl⟩).mono ?_
 rintro en w' ⟨v,rfl,kp,l2,b1,hE,hz2,hl,hT,-,-⟩
 have hT:TT w' l2 (.tup [.view trackT x,.view (.int .i64) 0]) v b1:=hT
 obtain ⟨v1,v2,x1,x2,rfl,t1,t2⟩:=ZCH hT
 obtain ⟨cs,hr,rfl,_⟩:=Zbe t1
 obtain ⟨rfl,_⟩:=ZlQ t2
 obtain ⟨slT,slC,rfl,hrT,hrC⟩:=ZNh hr
 obtain ⟨A3,n3,c3,e3,q3⟩:=hrT
 obtain ⟨A4,n4,c4,e4,q4⟩:=hrC
 cases e3; cases e4
 exact ⟨_,rfl,kp,_,_,A3,n3,c3,A4,n4,c4,rfl,rfl,rfl,ZUi hE hz2 hl hz1 hc (by have:=hS.tl; omega) ⟨A3,n3,c3,rfl,q3⟩,ZS3 hE hz2 hl hz1 hc (by have:=hS.cl; omega) (fun l hl => by have:=hS.chan l hl; omega) ⟨A4,n4,c4,rfl,q4⟩⟩
theorem SW.row {w0:World} {lim0:Nat → Nat} {w:World} {lim:Nat → Nat} (h:SW w0 lim0 w lim) {b:Nat} {vs:Array Value} {U:TypeId} {fz:Nat × Nat} (hb:w.heap[b]? = some (.cells vs U fz)) (h0:w0.heap.size ≤ b) (hl:lim b = 0) (cs:Array Value) :
  SW w0 lim0 (w.setRow b cs) lim ∧ Ext w lim (w.setRow b cs) lim:=by
 have hs:(w.setRow b cs).heap.size = w.heap.size:=by simp [World.setRow]
 have hoth:∀ c,c ≠ b → (w.setRow b cs).heap[c]? = w.heap[c]? := fun c hc => setRow_other w b c cs hc
 have hE:Ext w lim (w.setRow b cs) lim:=⟨by omega,fun c o ho => by
   have:c ≠ b:=fun e => by subst e; omega
   simp only [World.cell?,hoth c this],fun _ _ h => h,fun c T hT => by
   by_cases e:c = b
   ·subst e
    simp only [Q5,hb] at hT
    simp only [Q5,setRow_heap w c vs cs U fz hb]; exact hT
   ·simp only [Q5,hoth c e]; exact hT,NF.row hb (setRow_heap w b vs cs U fz hb) hoth⟩
 exact ⟨⟨⟨by rw [hs]; exact h.keep.size,fun c hc => by rw [hoth c (by omega)]; exact h.keep.old c hc,by simp [World.setRow]; exact h.keep.same⟩,h.ext.trans hE,fun c hc => h.lz c (by omega),h.lies.mono hE⟩,hE⟩
theorem Loose.box {w1 w2 w:World} (h:Loose w1 w2 w) {b:Nat} {cs:Array Value} (hb:w2.heap.size ≤ b) (h12:w1.heap.size ≤ w2.heap.size):Loose w1 w2 (w.setRow b cs):=by
 have hoth:∀ c,c ≠ b → (w.setRow b cs).heap[c]? = w.heap[c]? := fun c hc => setRow_other w b c cs hc
 have hc:∀ c o v,w2.cell? ⟨c,o,none⟩ = some v → (w.setRow b cs).cell? ⟨c,o,none⟩ = w.cell? ⟨c,o,none⟩:=fun c o v hv => by
  obtain ⟨vs,T,fz,h1,_⟩:=ZfC hv
  have:=QS h1
  simp only [World.cell?,hoth c (by omega)]
 refine ⟨⟨by simp [World.setRow]; exact h.keep.size,fun c hcs => by rw [hoth c (by omega)]; exact h.keep.old c hcs,by simp [World.setRow]; exact h.keep.same⟩,by simp [World.setRow]; exact h.size,fun c o k m hv => ?_,fun c o s hv => ?_,fun c o A l cc hv => ?_,fun c o hcs => ?_⟩
 ·rw [hc _ _ _ hv]; exact h.int _ _ _ _ hv
 ·rw [hc _ _ _ hv]; exact h.str _ _ _ hv
 ·rw [hc _ _ _ hv]; exact h.sl _ _ _ _ _ hv
 ·rw [W1 (hoth c (by omega)) o]; exact h.frz c o hcs
def zs5:List Value:=[.int .i64 0,.int .i64 0,.int .i64 0,.slice none 0 0,.slice none 0 0]
set_option maxRecDepth 20000 in
set_option maxHeartbeats 4000000 in
theorem ZwC {k:Nat} (hk:k = 20000000) {w0:World} {lim0:Nat → Nat} (hlz:∀ b,w0.heap.size ≤ b → lim0 b = 0) (hlies:ZhL w0 lim0) {x:Trk} (hS:Small x.2.1 x.2.2.1) {ct:List Value} (hct:Rt w0 lim0 trackT x ct) :
  Calls Tryz.prog 8 [EQ ct.toArray].toArray w0 fun e w' => ∃ v,e = .returned v ∧ v = .bool true ∧ Keep w0 w':=by
 have hk2:20000000 ≤ k:=by omega
 have hkn:Zuy k () = some (true,()):=by rw [hk]; exact ZMF
 obtain ⟨gl,hlong,hl120⟩:=ZSP (k:=k) (x:=x)
 have ct5:ct.length = 5:=XB hct
 have S0:SW w0 lim0 w0 lim0:=⟨Keep.refl _,Ext.refl _ _,hlz,hlies⟩
 let d27:TypeDesc:=Tryz.prog.underlying 27 |>.getD default
 let d34:TypeDesc:=Tryz.prog.underlying 34 |>.getD default
 have hu27:Tryz.prog.underlying 27 = some d27:=by kernel_rfl
 have ha27:Zd3 d27 = true:=by kernel_rfl
 have hu34':Tryz.prog.underlying 34 = some d34:=by kernel_rfl
 have ha34:Zd3 d34 = true:=by kernel_rfl
 have hn27:5 = Tryz.prog.cellsOf 27:=by kernel_rfl
 have hn34:5 = Tryz.prog.cellsOf 34:=by kernel_rfl
 refine ZFG (fn:=Tryz.f8) (code:=s8) (t:=2) (vs:=[.agg ct.toArray]) (R:=fun v w' => v = .bool true ∧ Keep w0 w') (by kernel_rfl) (by kernel_rfl) (by kernel_rfl) (by show 1 ≤ 112; decide) ?_
 show T Tryz.prog 112 _ _ _ _
 -- region 0
 refine T.seq (T.region (L.val 1 (ZUe rfl (vs:=ct) rfl) (L.val 2 (Z7 (x:=.const (.bool false)) (.inr rfl) rfl) (L.nil ?_))))
 have H1:H w0 (w0.alloc (.cells ct.toArray 27)) [(w0.heap.size,.cells ct.toArray 27)]:=(H.nil w0).alloc _
 have S1:=S0.next H1.keep
 generalize w0.alloc (.cells ct.toArray 27) = w1 at H1 S1 ⊢
 obtain ⟨b1,hb1⟩:∃ b1,b1 = w0.heap.size:=⟨_,rfl⟩
 rw [← hb1] at H1 ⊢
 -- region 1
 refine T.seq (T.seq (T.region (L.call 14 (QR (args := #[]) rfl (Zf6 k).enters) (Xl (Zf6 k) (x:=()) hkn rfl S1.lz S1.lies (vs:=[]) rfl) ?_)))
 rintro v w2 ⟨kp,lim',bb,hE,hz,hl,hT,-,-⟩
 have hv:=ZdS hT
 subst hv
 have H2:=H1.next kp
 have S2:=S1.calls kp hE hz
 clear kp hE hz hl hT H1 S1
 have hrt2:Rt w2 lim' trackT x ct:=hct.mono S2.ext
 refine L.val 15 (ZUf (x:=.tmp 14) rfl rfl (v:=.bool false) rfl) (L.val 16 (Z7 (x:=.tmp 15) (.inl rfl) rfl) (L.val 17 (Za6 (x:=.tmp 1) (cs:=ct) rfl rfl (H2.at' (b1,.cells ct.toArray 27) (by simp)) hu27 ha27 (by rw [ct5]; exact hn27) (by simp)) ?_ ⟨16,rfl,rfl⟩))
 refine L.call 18 (QR (args := #[.tmp 17]) rfl (Zso k).enters) (Xl (Zso k) (x:=(x,())) hlong rfl S2.lz S2.lies (vs:=[.agg ct.toArray]) ⟨[],[],rfl,KW hrt2,rfl⟩) ?_ ⟨16,rfl,rfl⟩
 rintro v w3 ⟨kp,lim3,bb,hE,hz,hl,hT,-,-⟩
 have hv:=ZdS hT
 subst hv
 have H3:=H2.next kp
 have S3:=S2.calls kp hE hz
 clear kp hE hz hl hT H2 S2 hrt2
 refine L.val 19 (ZqK (c:=.tmp 16) (a:=.const (.bool true)) (b:=.tmp 18) (v:=.bool gl) rfl rfl rfl) (L.nil ?_)
 cases hgl:gl with
 | true =>
  refine T.condT rfl (T.seq (T.region (L.call 20 (QR (args := #[]) rfl (Zf6 k).enters) (Xl (Zf6 k) (x:=()) hkn rfl S3.lz S3.lies (vs:=[]) rfl) ?_)))
  rintro v w4 ⟨kp,lim4,bb,hE,hz,hl,hT,-,-⟩
  have hv:=ZdS hT
  subst hv
  refine L.val 2 (Z7 (x:=.tmp 20) (.inr rfl) rfl) (L.nil (T.ret ⟨.inr rfl,rfl,S3.keep.trans kp⟩))
 | false =>
 obtain ⟨E,er,hexp,himp⟩:=ZIM hk2 hS (hl120 hgl)
 refine T.condF rfl (T.skip ?_)
 -- region 3
 have hrt3:Rt w3 lim3 trackT x ct:=hct.mono S3.ext
 refine T.seq (T.region (L.val 21 (Za6 (x:=.tmp 1) (cs:=ct) rfl rfl (H3.at' (b1,.cells ct.toArray 27) (by simp)) hu27 ha27 (by rw [ct5]; exact hn27) (by simp))
  (L.call 22 (QR (args := #[.tmp 21]) rfl (Zsl k).enters) (Xl (Zsl k) (x:=(x,())) (ZUF hk2 hS) rfl S3.lz S3.lies (vs:=[.agg ct.toArray]) ⟨[],[],rfl,KW hrt3,rfl⟩) ?_)))
 rintro v w4 ⟨kp,lim4,bb,hE,hz,hl,hT,-,-⟩
 obtain ⟨ci,hri,rfl,_⟩:=Zbe hT
 have ci5:ci.length = 5:=XB hri
 have H4:=H3.next kp
 have S4:=S3.calls kp hE hz
 clear kp hE hz hl hT H3 S3 hrt3
 refine L.val 3 (Zv9 rfl (zs:=zs5) (by kernel_rfl)) ?_
 have H5:=H4.alloc (.cells zs5.toArray 34)
 have S5:=S4.next (Keep.alloc w4 (.cells zs5.toArray 34))
 have hri5:Rt _ lim4 trackT x ci:=hri.mono (S4.ext1 (Keep.alloc w4 (.cells zs5.toArray 34)))
 have hcd:(w4.heap.size:Nat) < (w4.alloc (.cells zs5.toArray 34)).heap.size:=QS (H5.at' _ (Jm ..))
 have hlb3:lim4 w4.heap.size = 0:=S4.lz _ (Jj _)
 generalize w4.alloc (.cells zs5.toArray 34) = w5 at H5 S5 hri5 hcd ⊢
 generalize w4.heap.size = b3 at H5 hcd hlb3 ⊢
 refine L.unit (Zhu (x:=.tmp 3) (y:=.tmp 22) (vs:=ci) rfl rfl rfl (H5.at' _ (Jm ..)) ZST hu34' (by rw [ci5]; exact hn34.symm) (ZjO hri5) ci5) (L.nil ?_)
 obtain ⟨S6,E6⟩:=S5.row (H5.at' _ (Jm ..)) (H5.new _ (Jm ..)) hlb3 ci.toArray
 have H6:=H5.row (cs':=ci.toArray)
 have hri6:=hri5.mono E6
 generalize w5.setRow b3 ci.toArray = w6 at H6 S6 hri6 ⊢
 clear hri hri5 H4 H5 S4 S5 E6
 have hrt6:Rt w6 lim4 trackT x ct:=hct.mono S6.ext
 -- region 4
 refine T.seq (T.region (L.val 24 (Za6 (x:=.tmp 3) (cs:=ci) rfl rfl (H6.at' (b3,.cells ci.toArray 34) (by simp)) hu34' ha34 (by rw [ci5]; exact hn34) (by simp))
  (L.call 25 (QR (args := #[.tmp 24,.const (.int .i64 16)]) rfl (Zss k).enters) (Xl (Zss k) (x:=(x,(16:Int),())) hexp rfl S6.lz S6.lies (vs:=[.agg ci.toArray,.int .i64 16]) ⟨[],[],rfl,KW hri6,[],[],rfl,ZNz 16,rfl⟩) ?_)))
 rintro v w7 ⟨kp,lim7,bb,hE,hz,hl,hT,-,-⟩
 have hT:TT w7 lim7 (.tup [.view (.sl (.int .u8)) E,.view (.int .i64) er]) v bb:=hT
 obtain ⟨vb,v2,x1,x2,rfl,t1,t2⟩:=ZCH hT
 obtain ⟨rfl,_⟩:=ZlQ t2
 obtain ⟨hEb,_⟩:=ZP9 t1
 have H7:=H6.next kp
 have S7:=S6.calls kp hE hz
 have hri7:=hri6.mono hE
 clear kp hE hz hl hT H6 S6 hri6 hrt6 t1 t2
 refine L.val 23 (Z7 (x:=.tmp 25) (.inl rfl) rfl) (L.val 26 (Zaj (x:=.tmp 23) (vs:=[vb,.int .i64 er]) rfl rfl (v:=vb) rfl) (L.val 27 (Zaj (x:=.tmp 23) (vs:=[vb,.int .i64 er]) rfl rfl (v:=.int .i64 er) rfl)
  (L.val 4 (Z7 (x:=.tmp 26) (.inr rfl) rfl) (L.val 5 (Z7 (x:=.tmp 27) (.inr rfl) rfl) (L.nil ?_)))))
 -- region 5
 obtain ⟨y1,hcut⟩:=ZTC hk2 hS
 refine T.seq (T.region (L.val 28 (Za6 (x:=.tmp 3) (cs:=ci) rfl rfl (H7.at' (b3,.cells ci.toArray 34) (by simp)) hu34' ha34 (by rw [ci5]; exact hn34) (by simp))
  (L.call 29 (QR (args := #[.tmp 28,.const (.int .i64 16)]) rfl (Zsq k).enters) (Xl (Zsq k) (x:=(x,(16:Int),())) hcut rfl S7.lz S7.lies (vs:=[.agg ci.toArray,.int .i64 16]) ⟨[],[],rfl,KW hri7,[],[],rfl,ZNz 16,rfl⟩) ?_)))
 rintro v29 w8 ⟨kp,lim8,bb,hE,hz,hl,hT,-,-⟩
 have H8:=H7.next kp
 have S8:=S7.calls kp hE hz
 have hri8:=hri7.mono hE
 have hEb8:=hEb.mono hE
 clear kp hE hz hl hT H7 S7 hri7 hEb
 refine L.nil ?_
 -- region 6
 obtain ⟨y2,hsum⟩:=ZUn hk2 hS
 refine T.seq (T.region (L.val 30 (Za6 (x:=.tmp 3) (cs:=ci) rfl rfl (H8.at' (b3,.cells ci.toArray 34) (by simp)) hu34' ha34 (by rw [ci5]; exact hn34) (by simp))
  (L.call 31 (QR (args := #[.tmp 30]) rfl (Zsj k).enters) (Xl (Zsj k) (x:=(x,())) hsum rfl S8.lz S8.lies (vs:=[.agg ci.toArray]) ⟨[],[],rfl,KW hri8,rfl⟩) ?_)))
 rintro v31 w9 ⟨kp,lim9,bb,hE,hz,hl,hT,-,-⟩
 have H9:=H8.next kp
 have S9:=S8.calls kp hE hz
 have hri9:=hri8.mono hE
 have hEb9:=hEb8.mono hE
 clear kp hE hz hl hT H8 S8 hri8 hEb8
 refine L.nil ?_
 -- region 7
 let Fe:List (Nat × Value):=[(1,.pointer (some ⟨b1,0,none⟩)),(3,.pointer (some ⟨b3,0,none⟩)),(4,vb),(5,.int .i64 er)]
 have hFe:∀ p ∈ Fe,p.1 < 9:=by intro p hp; simp [Fe] at hp; rcases hp with rfl | rfl | rfl | rfl <;> simp
 refine T.seq (ZUH (er:=er) hk2 S9 hS (H9.at' (b1,.cells ct.toArray 27) (by simp)) (H9.at' (b3,.cells ci.toArray 34) (by simp)) (hct.mono S9.ext) hri9 hFe (by intro p hp; simp only [Fe,VM,Uv,or_false] at hp; rcases hp with rfl | rfl | rfl | rfl <;> rfl) (by simp [Fe]) (by simp [Fe]) (by simp [Fe])
  (fun e' w' he kp => ⟨.inr rfl,he,S9.keep.trans kp⟩) ?_)
 intro her e1 w10 A1 kp
 have H10:=H9.next kp
 have S10:=S9.next kp
 have hEb10:=hEb9.mono (S9.ext1 kp)
 clear kp H9 S9 hri9 hEb9
 obtain ⟨hE1,hE2,himp⟩:=himp her
 -- region 9
 have h4:e1 4 = vb:=A1 (4,vb) (by simp [Fe])
 have h1:e1 1 = .pointer (some ⟨b1,0,none⟩):=A1 (1,.pointer (some ⟨b1,0,none⟩)) (by simp [Fe])
 refine T.seq (T.region (L.val 45 (Zrx (ee:=5) (t:=.int .u8) (zs:=[.int .u8 0]) rfl (by kernel_rfl) (by kernel_rfl)) ?_))
 have kp:=Keep.alloc w10 (.cells #[] 5)
 have H11:=H10.next kp
 have S11:=S10.next kp
 have hEb11:=hEb10.mono (S10.ext1 kp)
 clear kp H10 S10 hEb10
 generalize w10.alloc (.cells #[] 5) = w11 at H11 S11 hEb11 ⊢
 generalize w10.heap.size = b0
 refine L.val 46 (Z7 (x:=.tmp 4) (.inl rfl) (by exact h4)) ?_
 obtain ⟨i5,hi5,hz5,hby5⟩:∃ i5,Tryz.prog.info? 5 = some i5 ∧ i5.zero = some (.int .u8 0) ∧ i5.bytes = 1:=⟨(Tryz.prog.info? 5).getD default,by kernel_rfl,by kernel_rfl,by kernel_rfl⟩
 obtain ⟨cap,zs,hcap,happ⟩:=ZHT (P:=Tryz.prog) (e:=upd (upd e1 45 (.slice (some ⟨b0,0,none⟩) 0 0)) 46 vb) (w:=w11) (o:={ dst:=some 47,op:=.call { callee:=.builtin .append,args := #[.tmp 45,.tmp 46],argTypes := #[46,46] },type:=46,pos := "law.go:156",after := #[{ on:=0,ground:=.data },{ on:=1,ground:=.data }],guard:=none })
  (T:=46) (U:=46) (x:=.tmp 45) (y:=.tmp 46) rfl (by kernel_rfl) (by kernel_rfl) hi5 hz5 hby5 rfl rfl hEb11 hE1 hE2
 refine L.val 47 happ ?_
 have kp:=(Keep.drew w11).trans (Keep.alloc w11.drew (.cells (E.map (Jv .u8) ++ zs).toArray 5))
 have hcc:(w11.drew.alloc (.cells (E.map (Jv .u8) ++ zs).toArray 5)).heap[w11.heap.size]? = some (.cells (E.map (Jv .u8) ++ zs).toArray 5 (0,0)):=heap_alloc_new w11.drew _
 have H12:=H11.add kp (Jj _) hcc
 have S12:=S11.next kp
 have hEb12:=hEb11.mono (S11.ext1 kp)
 have hlc:lim9 w11.heap.size = 0:=S11.lz _ (Jj _)
 clear kp H11 S11 hEb11 happ hcc
 generalize w11.drew.alloc (.cells (E.map (Jv .u8) ++ zs).toArray 5) = w12 at H12 S12 hEb12 ⊢
 generalize w11.heap.size = cc at H12 hlc ⊢
 refine L.val 6 (Z7 (x:=.tmp 47) (.inr rfl) rfl) (L.nil ?_)
 -- region 10
 have hcc:w12.heap[cc]? = some (.cells (E.map (Jv .u8) ++ zs).toArray 5 (0,0)):=H12.at' (cc,_) (Jm ..)
 have hnc:=H12.new (cc,_) (Jm ..)
 refine T.seq (T.region (L.val 49 (Z7 (x:=.tmp 6) (.inl rfl) (v:=.slice (some ⟨cc,0,none⟩) E.length cap) rfl)
  (L.call 50 (QR (args := #[.tmp 49]) rfl (Zga k).enters) (Zy1 S12 hS himp hcap hcc hnc hlz hlies) ?_)))
 rintro v w13 ⟨kp,slT,slC,A3,n3,c3,A4,n4,c4,rfl,rfl,rfl,hRS,hRSI⟩
 have L13:=Loose.start kp
 let cu:List Value:=[Jv .i64 x.1.1,.int .i64 x.1.2.1,.int .i64 x.1.2.2.1,.slice A3 n3 c3,.slice A4 n4 c4]
 refine L.val 48 (Z7 (x:=.tmp 50) (.inl rfl) rfl) (L.val 51 (Zaj (x:=.tmp 48) (vs:=[.agg cu.toArray,.int .i64 0]) rfl rfl (v:=.agg cu.toArray) rfl) (L.val 52 (Zaj (x:=.tmp 48) (vs:=[.agg cu.toArray,.int .i64 0]) rfl rfl (v:=.int .i64 0) rfl)
  (L.val 7 (Zv9 rfl (zs:=zs5) (by kernel_rfl)) ?_)))
 have L14:=L13.next (Keep.alloc w13 (.cells zs5.toArray 34))
 have hb7:(w13.alloc (.cells zs5.toArray 34)).heap[w13.heap.size]? = some (.cells zs5.toArray 34 (0,0)):=heap_alloc_new w13 _
 obtain ⟨b7,hb7e⟩:∃ b7,b7 = w13.heap.size:=⟨_,rfl⟩
 rw [← hb7e] at hb7 ⊢
 generalize w13.alloc (.cells zs5.toArray 34) = w14 at L14 hb7 ⊢
 refine L.unit (Zhu (x:=.tmp 7) (y:=.tmp 51) (vs:=cu) rfl rfl rfl hb7 ZST hu34' hn34.symm (by intro v hv; simp only [cu,VM,Uv,or_false] at hv; rcases hv with rfl | rfl | rfl | rfl | rfl <;> rfl) rfl) (L.val 8 (Z7 (x:=.tmp 52) (.inr rfl) rfl) (L.nil ?_))
 have W15:LW w12 w13 (w14.setRow b7 cu.toArray) b7 cu.toArray 34:=⟨L14.box (by omega) kp.size,setRow_heap w14 b7 _ _ _ _ hb7,by omega⟩
 generalize w14.setRow b7 cu.toArray = w15 at W15 ⊢
 clear L13 L14 hb7 kp
 -- regions 11 .. 21
 let F2:List (Nat × Value):=[(1,.pointer (some ⟨b1,0,none⟩)),(4,vb),(6,.slice (some ⟨cc,0,none⟩) E.length cap),(7,.pointer (some ⟨b7,0,none⟩)),(8,.int .i64 0)]
 have hF2:∀ p ∈ F2,p.1 < 9:=by intro p hp; simp [F2] at hp; rcases hp with rfl | rfl | rfl | rfl | rfl <;> simp
 have m7:(7,UI (some ⟨b7,0,none⟩)) ∈ F2:=by simp [F2]
 refine T.seq (T.seq (T.region (L.val 9 (Z7 (x:=.const (.int .i64 0)) (.inr rfl) rfl) (L.nil ?_))))
 refine ZS6 hF2 m7 (cs7:=cu.toArray) (A:=A4) (n:=n4) (cap:=c4) rfl hRSI (by
  intro p hp; simp only [F2,VM,Uv,or_false] at hp
  rcases hp with rfl | rfl | rfl | rfl | rfl
  ·exact h1
  ·exact h4
  ·rfl
  ·rfl
  ·rfl) rfl W15 ?_
 intro e2 w16 A2 W16
 refine T.seq (T.seq (T.region (L.val 11 (Z7 (x:=.const (.int .i64 0)) (.inr rfl) rfl) (L.nil ?_))))
 refine ZUm hF2 m7 (cs7:=cu.toArray) (A:=A3) (n:=n3) (cap:=c3) rfl hRS (A2.same hF2 (fun s hs => ZQ _ _ (by omega))) rfl W16 ?_
 intro e3 w17 A3' W17
 have kp:=W17.lo.keep
 have H17:=H12.next kp
 have S17:=S12.next kp
 have hEb17:=hEb12.mono (S12.ext1 kp)
 clear kp H12 S12 hEb12 W15 W16 W17 hcc
 -- region 22
 have hcc:w17.heap[cc]? = some (.cells (E.map (Jv .u8) ++ zs).toArray 5 (0,0)):=H17.at' (cc,_) (Jm ..)
 let limD:Nat → Nat:=fun b => if b = cc then E.length else lim9 b
 have hED:Ext w17 lim9 w17 limD:=⟨Jj _,fun _ _ _ => rfl,fun b o ho => by
   simp only [limD]
   split
   ·rename_i h; subst h; omega
   ·exact ho,fun _ _ h => h,fun b o ho hf => by
   simp only [limD] at ho
   split at ho
   ·rename_i h; subst h
    rw [Zlm hcc (by simp)] at hf; cases hf
   ·exact ⟨ho,hf⟩⟩
 have S18:=S17.of_ext hED (fun b hb => by
  have:=QS hcc
  simp only [limD]; rw [if_neg (by omega)]; exact S17.lz b hb)
 have hrowc:Rt w17 limD (.sl (.int .u8)) E [.slice (some ⟨cc,0,none⟩) E.length cap]:=by
  refine ⟨some ⟨cc,0,none⟩,E.length,cap,rfl,rfl,hcap,.inr ⟨cc,0,rfl,fun i hi => ⟨[.int .u8 E[i]],rfl,fun j v hj => ?_⟩⟩⟩
  match j,hj with
  | 0,hj =>
   simp at hj; subst hj
   have e1:0 + i * (Ty.int .u8).size + 0 = i:=by simp [Ty.size]
   rw [e1,X7 hcc,EH (by simpa using hi),Vh,VO hi]
   refine ⟨rfl,?_⟩
   simp only [limD,if_true]; exact hi
  | j + 1,hj => simp at hj
 refine T.seq (T.region (L.val 89 (Z7 (x:=.tmp 6) (.inl rfl) (v:=.slice (some ⟨cc,0,none⟩) E.length cap) (by exact A3' (6,.slice (some ⟨cc,0,none⟩) E.length cap) (by simp [F2])))
  (L.call 90 (QR (args := #[.tmp 89]) rfl (Zga k).enters) (Xl (Zga k) (x:=(E,())) himp rfl S18.lz S18.lies (vs:=[.slice (some ⟨cc,0,none⟩) E.length cap]) ⟨[],[],rfl,ZQ7 hrowc,rfl⟩) ?_)))
 rintro v w19 ⟨kp,lim19,bb,hE,hz,hl,hT,-,-⟩
 have hT:TT w19 lim19 (.tup [.view trackT x,.view (.int .i64) 0]) v bb:=hT
 obtain ⟨v1,v2,x1,x2,rfl,t1,t2⟩:=ZCH hT
 obtain ⟨cv,hrv,rfl,_⟩:=Zbe t1
 obtain ⟨rfl,_⟩:=ZlQ t2
 have cv5:cv.length = 5:=XB hrv
 have H19:=H17.next kp
 have S19:=S18.calls kp hE hz
 have hEb19:=(hEb17.mono hED).mono hE
 clear kp hE hz hl hT H17 S17 S18 hEb17 t1 t2 hcc hrowc
 refine L.val 88 (Z7 (x:=.tmp 90) (.inl rfl) rfl) (L.val 91 (Zaj (x:=.tmp 88) (vs:=[.agg cv.toArray,.int .i64 0]) rfl rfl (v:=.agg cv.toArray) rfl) (L.val 92 (Zaj (x:=.tmp 88) (vs:=[.agg cv.toArray,.int .i64 0]) rfl rfl (v:=.int .i64 0) rfl)
  (L.val 12 (Zv9 rfl (zs:=zs5) (by kernel_rfl)) ?_)))
 have kp:=Keep.alloc w19 (.cells zs5.toArray 34)
 have H20:=H19.alloc (.cells zs5.toArray 34)
 have S20:=S19.next kp
 have hrv20:=hrv.mono (S19.ext1 kp)
 have hEb20:=hEb19.mono (S19.ext1 kp)
 have hl12:lim19 w19.heap.size = 0:=S19.lz _ (Jj _)
 clear kp
 generalize w19.alloc (.cells zs5.toArray 34) = w20 at H20 S20 hrv20 hEb20 ⊢
 generalize w19.heap.size = b12 at H20 hl12 ⊢
 refine L.unit (Zhu (x:=.tmp 12) (y:=.tmp 91) (vs:=cv) rfl rfl rfl (H20.at' _ (Jm ..)) ZST hu34' (by rw [cv5]; exact hn34.symm) (ZjO hrv20) cv5) (L.val 13 (Z7 (x:=.tmp 92) (.inr rfl) rfl) (L.nil ?_))
 obtain ⟨S21,E21⟩:=S20.row (H20.at' _ (Jm ..)) (H20.new _ (Jm ..)) hl12 cv.toArray
 have H21:=H20.row (cs':=cv.toArray)
 have hrv21:=hrv20.mono E21
 have hEb21:=hEb20.mono E21
 generalize w20.setRow b12 cv.toArray = w21 at H21 S21 hrv21 hEb21 ⊢
 -- region 23
 let F3:List (Nat × Value):=[(1,.pointer (some ⟨b1,0,none⟩)),(4,vb),(6,.slice (some ⟨cc,0,none⟩) E.length cap),(8,.int .i64 0),(12,.pointer (some ⟨b12,0,none⟩)),(13,.int .i64 0)]
 refine ZUg hk2 S21 hS (b1:=b1) (b12:=b12) (cc:=cc) (n:=E.length) (cap:=cap) (ct:=ct) (cv:=cv) (E:=E) (vb:=vb) (Fe:=F3) (H21.at' (b1,.cells ct.toArray 27) (by simp)) (H21.at' (b12,.cells cv.toArray 34) (by simp)) (hct.mono S21.ext) hrv21 hEb21
  (H21.at' (cc,.cells (E.map (Jv .u8) ++ zs).toArray 5) (by simp)) rfl hcap (fun i hi => by
   rw [Ub,EH (by simpa using hi),Vh,VO hi]; rfl) (by intro p hp; simp [F3] at hp; rcases hp with rfl | rfl | rfl | rfl | rfl | rfl <;> simp) (by intro p hp; simp [F3] at hp; rcases hp with rfl | rfl | rfl | rfl | rfl | rfl <;> simp)
  (by
   intro p hp; simp only [F3,VM,Uv,or_false] at hp
   rcases hp with rfl | rfl | rfl | rfl | rfl | rfl
   ·exact A3' (1,.pointer (some ⟨b1,0,none⟩)) (by simp [F2])
   ·exact A3' (4,vb) (by simp [F2])
   ·exact A3' (6,.slice (some ⟨cc,0,none⟩) E.length cap) (by simp [F2])
   ·exact A3' (8,.int .i64 0) (by simp [F2])
   ·rfl
   ·rfl) (by simp [F3]) (by simp [F3]) (by simp [F3]) (by simp [F3]) (by simp [F3]) (by simp [F3]) (fun e' w' he kp => ⟨.inr rfl,he,S21.keep.trans kp⟩)
end Go.Sh
namespace Go.Sh
open Go Go.Proofs
open Classical in
noncomputable def f2008_F (k:Nat):Kd.dens (Wo [trackT]) → Option (Ans (Wo [trackT]) (.view .bool)):=fun x => if k = 20000000 ∧ Small x.1.2.1 x.1.2.2.1 then some (true,()) else none
theorem f2008_ctr (k:Nat):Ctr Tryz.prog k 8 (mk (Wo [trackT]) (.view .bool) f2008_F) where
 enters:=⟨Tryz.f8,by kernel_rfl,by kernel_rfl,by kernel_rfl⟩
 calls:=by
  intro rvs r hr w lim vs bs hlz hgl hT hnd hbs
  obtain ⟨x,hd,hF⟩:=Option.bind_eq_some_iff.1 hr
  have he:=QD _ rvs x hd
  subst he
  obtain ⟨x,⟨⟩⟩:=x
  have hF:f2008_F k (x,()) = some r:=hF
  unfold f2008_F at hF
  split at hF
  ·rename_i hc
   cases hF
   obtain ⟨us,c1,hT⟩:∃ us:List Value,us = vs ∧ TTs w lim [.view trackT x] us bs:=⟨vs,rfl,hT⟩
   subst c1
   match us,hT with
   | [v1],hT =>
    obtain ⟨x1,y1,rfl,t1,rfl⟩:=hT
    obtain ⟨cs,hr1,rfl,rfl⟩:=Zbe t1
    refine (ZwC hc.1 hlz hgl hc.2 hr1).mono ?_
    rintro e w' ⟨v,rfl,rfl,kp⟩
    refine ⟨_,lim,[],[],rfl,Ext.of_keep kp hlz (fun _ _ => rfl) hlz,fun c hc => hlz c (Nat.le_trans kp.size hc),kp.same,fun c hc _ => ⟨kp.old c hc,rfl⟩,?_,?_,?_,by simp,by simp⟩
    ·show TT w' lim (.view .bool true) (.bool true) []
     simp only [TT,Zbd,Rt]; exact ⟨⟨_,rfl,.inr ⟨rfl,rfl⟩⟩,trivial⟩
    ·show TL w' lim [.view trackT] [_] [] []
     simp [TL]
    ·show YD w w' [.view trackT] [_]
     simp [YD]
  ·cases hF
theorem apart_plain:∀ x:Kd.dens (Wo [trackT]),ZE4 [trackT] x → ZhQ [trackT] x ≤ 1048576 → ∃ k u,f2008_F k x = some (true,u):=by
 rintro ⟨⟨⟨c,d,r,⟨⟩⟩,tags,ch,⟨⟩⟩,⟨⟩⟩ _ hb
 have hb:Ty.bulk trackT ((c,d,r,()),tags,ch,()) + 0 ≤ 1048576:=hb
 refine ⟨20000000,(),?_⟩
 unfold f2008_F
 exact if_pos ⟨rfl,ZzM hb⟩
end Go.Sh
