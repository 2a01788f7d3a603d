/-
  What the row needs, part 13.
-/
import Derived.Test.YtgbhjfacjekhcaaGreatDoorXStreamBack12
set_option linter.unusedSimpArgs false
set_option linter.unusedVariables false
set_option linter.unusedSectionVars false
namespace Go.Sh
open Go Go.Proofs
theorem ZnJ {α:Type} {l:List (List α)} {i:Nat} (hi:i < l.length):(l.take (i + 1)).flatten = (l.take i).flatten ++ l[i]:=by
 rw [List.take_succ_eq_append_getElem hi,List.flatten_append]; simp
theorem Zmb {α:Type} {l:List (List α)} (i:Nat):(l.take i).flatten.length ≤ l.flatten.length:=by
 conv => rhs; rw [← List.take_append_drop i l,List.flatten_append,Q4]
 omega
section prog
variable {k:Nat} {c d r:Int} {tags:List ByteArray} {ch:List (List Int)}
theorem Zsa {ll:List (List Int)} (hk:ll.length < k) (hl:ll.length < 1000000) (hs:ll.flatten.length < 2000000000):Zid k (ll,()) = some (ll.flatten,()):=by
 show ZeC k (ZkZ k) _ = _
 simp only [ZeC]
 have key2:=QK (A:=Unit) (step:=fun L2 => Zbx k L2) (fun i _ => (Int.ofNat ll.length,Int.ofNat i,ll,(ll.take i).flatten)) ll (fun _ _ => some (ll.flatten,()))
  (fun L _ => by
   simp only [Zbx]
   rw [Zo (Yb _),List.take_length])
  (fun L i hi _ hL => by
   simp only [Zbx]
   have h1:=ZnJ hi
   have h2:=Zmb (l:=ll) (i + 1)
   rw [h1,Q4] at h2
   rw [Zc (ltR hi),Zc (YI hi),ZM hi,Zc (by omega),Qr hi (by omega),← h1]
   exact hL ()) k 0 () (by omega) (by omega)
 have key1:=QK (A:=Unit) (step:=fun L1 => Zbw k (Zk0 k) L1) (fun i _ => (Int.ofNat ll.length,Int.ofNat i,ll,(((ll.take i).flatten.length:Nat):Int),ll)) ll (fun _ _ => some (ll.flatten,()))
  (fun L _ => by
   simp only [Zbw]
   rw [Zo (Yb _),List.take_length]
   have:Zp4 k (Value.slice none 0 0,((ll.flatten.length:Nat):Int),()) = some ([],()):=by
    show ZB5 _ = _
    unfold ZB5
    simp only
    rw [ZPF (by omega) (by omega)]
    rfl
   rw [this]
   simp only [Z3]
   exact key2)
  (fun L i hi _ hL => by
   simp only [Zbw]
   have h1:=ZnJ hi
   have h2:=Zmb (l:=ll) (i + 1)
   rw [h1,Q4] at h2
   have e:IntKind.i64.wrap ((((ll.take i).flatten.length:Nat):Int) + Int.ofNat ll[i].length) = (((ll.take (i + 1)).flatten.length:Nat):Int):=by
    rw [h1,Q4,Qe (by simp only [QS]; omega)]; simp
   rw [Zc (ltR hi),Zc (YI hi),ZM hi,e,Zo (by omega),Qr hi (by omega)]
   exact hL ()) k 0 () (by omega) (by omega)
 exact key1
def Y4 (c d r:Int) (ch:List (List Int)) (size:Nat):List Nat:=(Yi c d r ch size).map List.length
theorem Xt (c d r:Int) (ch:List (List Int)) (size:Nat):(Yi c d r ch size).length = QB (ch.getD 0 []).length size:=by simp [Yi]
theorem Zbj {c d r:Int} {ch:List (List Int)} {size:Nat}:∀ x ∈ Yi c d r ch size,x.length ≤ 5000:=by
 intro x hx
 obtain ⟨i,_,rfl⟩:=List.mem_map.1 hx
 exact ZK4 _ _ _ _ _
theorem ZgE {c d r:Int} {ch:List (List Int)} {size n:Nat} (hs:16 ≤ size ∧ size ≤ 512) (hn:(ch.getD 0 []).length = n) (hn4:n ≤ 4096):Lens size n (Y4 c d r ch size) where
 sz:=hs
 len:=by
  have:=Xz hs.1 hn4
  simp only [Y4,List.length_map,Xt,hn]; omega
 small:=by
  intro x hx
  obtain ⟨y,hy,rfl⟩:=List.mem_map.1 hx
  have:=Zbj y hy
  omega
 in_:=by
  intro i hi
  simp only [Y4,List.length_map,Xt,hn] at hi
  have:=(X7 (by omega:1 ≤ size)).1 hi
  omega
theorem Zze {α:Type} {B:Nat}:∀ {l:List (List α)},(∀ x ∈ l,x.length ≤ B) → l.flatten.length ≤ l.length * B
 | [],_ => by simp
 | x :: l,h => by
  have h1:=h x (List.mem_cons_self ..)
  have h2:=Zze fun y hy => h y (List.mem_cons_of_mem _ hy)
  rw [List.flatten_cons,Q4,List.length_cons,Nat.add_mul]; omega
noncomputable def Zff (d r:Nat) (tags:List ByteArray) (ch:List (List Int)) (size:Nat) (lens:List Nat):List Int:=ZJ (ZaH d r tags ch size lens)
noncomputable def Zxq (c d r:Int) (tags:List ByteArray) (ch:List (List Int)) (size:Nat):List Int:=Zff d.toNat r.toNat tags ch size (Y4 c d r ch size) ++ (Yi c d r ch size).flatten
theorem Zqr {d r:Nat} {tags:List ByteArray} {ch:List (List Int)} {size:Nat} {lens:List Nat} (hT:Tg tags) (hl:lens.length ≤ 300):(ZaH d r tags ch size lens).length ≤ 60000:=by
 have hti:(ZoH ch.length d r size (ch.getD 0 []).length (Zto lens) (Ztm lens)).length = 208:=by
  simp [ZoH,QU,Wl,Zi,ZeZ]
 have htt:(YS size (ch.getD 0 []).length lens).length ≤ 144 * 300 + 32:=by
  unfold YS
  split
  ·rw [Q4,Wl,Zt5]; omega
  ·simp
 have htg:(ZaE tags).length ≤ tags.length * 128:=by
  unfold ZaE
  have:∀ (l:List ByteArray),(∀ t ∈ l,t.size ≤ 12) → (l.flatMap fun t => XK (leN t.size 4) ++ XK (ZbR t)).length ≤ l.length * 128:=by
   intro l
   induction l with
   | nil => intro _; simp
   | cons x l ih =>
    intro h
    have h1:=h x (List.mem_cons_self ..)
    have h2:=ih fun t ht => h t (List.mem_cons_of_mem _ ht)
    rw [List.flatMap_cons,Q4,Q4,QU,QU,Ww,ZdO,List.length_cons,Nat.add_mul]; omega
  exact this tags hT.2
 have h8:=hT.1
 unfold ZaH Zae
 simp only [Q4,hti,QU,ZbZ,Wl,Ww,Zd3,List.length_cons,List.length_nil]
 omega
theorem ZEp (hk:16777216 ≤ k) (hS:Small tags ch) (s:Int):Zh9 k (((c,d,r,()),tags,ch,()),s,()) =
  if chk c d r tags ch = 0 then (if 16 ≤ s ∧ s ≤ 512 then some ((Zxq c d r tags ch s.toNat,0,()),()) else some (([],1,()),())) else some (([],chk c d r tags ch,()),()):=by
 show Zew k (ZkD k) _ = _
 simp only [Zew]
 rw [ZEn hk hS]
 by_cases h0:¬ chk c d r tags ch = 0
 ·rw [if_neg h0,if_neg h0]
  simp only [Z3]
  rw [ZK,Zc h0]
 have h0:=Decidable.not_not.1 h0
 rw [if_pos h0,if_pos h0]
 by_cases hs:¬ (16 ≤ s ∧ s ≤ 512)
 ·rw [if_neg hs,if_neg hs]; rfl
 have hs:=Decidable.not_not.1 hs
 rw [if_pos hs,if_pos hs]
 simp only [Z3]
 rw [ZK,Zo (by simp)]
 obtain ⟨size,rfl⟩:=Int.eq_ofNat_of_zero_le (show 0 ≤ s by omega)
 have hs2:16 ≤ size ∧ size ≤ 512:=by omega
 obtain ⟨hg,hshape,-,htv,ht8⟩:=Wa h0
 have hT:=Good0.tg htv ht8
 have hsh:=of_decide_eq_true hshape
 obtain ⟨dn,rfl⟩:=Int.eq_ofNat_of_zero_le (show 0 ≤ d by omega)
 obtain ⟨rn,rfl⟩:=Int.eq_ofNat_of_zero_le (show 0 ≤ r by omega)
 have hcl:=hg.cl
 subst hcl
 have hn4:=hg.n4
 have hLn:=ZgE (c:=(ch.length:Int)) (d:=(dn:Int)) (r:=(rn:Int)) hs2 rfl hn4
 simp only [Xw]
 generalize hC:Yi (ch.length:Int) (dn:Int) (rn:Int) ch size = C
 have hCl:C.length ≤ 256:=by rw [← hC,Xt]; exact Xz hs2.1 hn4
 have hCs:∀ x ∈ C,x.length ≤ 5000:=by rw [← hC]; exact Zbj
 have hCf:=Zze hCs
 have hlen:Y4 (ch.length:Int) (dn:Int) (rn:Int) ch size = C.map List.length:=by unfold Y4; rw [hC]
 have key:=Zy (A:=List Nat) (step:=fun L1 => Zbr k L1) (fun i a => (Int.ofNat C.length,Int.ofNat i,C,(size:Int),C,Zv a,(ch.length:Int),(dn:Int),(rn:Int),tags,ch)) C
  (fun rest a => some ((Zff dn rn tags ch size (a ++ rest.map List.length) ++ C.flatten,0,()),())) (fun i a => a = (C.take i).map List.length)
  (fun L a hI => by
   simp only [Zbr]
   rw [List.take_length] at hI
   rw [Zo (Yb _),hI,← hlen,Zsf hk h0 hS hLn]
   simp only [Z3]
   rw [Zsa (by omega) (by omega) (by omega)]
   simp only [Z3]
   have hal:=Zqr (d:=dn) (r:=rn) (ch:=ch) (size:=size) hT hLn.len
   have hpl:(ZJ (ZaH dn rn tags ch size (Y4 (ch.length:Int) (dn:Int) (rn:Int) ch size))).length ≤ 10000:=by rw [Z5]; omega
   rw [Zsa (by simp; omega) (by simp) (by simp only [List.flatten_cons,List.flatten_nil,List.append_nil,Q4]; omega)]
   simp only [Z3,List.flatten_cons,List.flatten_nil,List.append_nil,List.map_nil,Zff])
  (fun L i hi a hI hL => by
   simp only [Zbr]
   have hal:a.length ≤ 256:=by rw [hI,List.length_map,List.length_take]; omega
   rw [Zc (ltR hi),Zc (YI hi),ZM hi,Z1,Zc (by simp; omega),Qr hi (by omega)]
   rw [show Zv a ++ [Int.ofNat C[i].length] = Zv (a ++ [C[i].length]) by rw [XZ]; rfl]
   refine Eq.trans (hL (a ++ [C[i].length]) (by rw [hI,List.take_succ_eq_append_getElem hi,List.map_append]; rfl)) ?_
   simp only [List.map_cons,List.append_assoc,List.singleton_append])
  k 0 [] (by simp) (by omega) (by omega)
 rw [List.drop_zero,List.nil_append,← hlen] at key
 refine Eq.trans key ?_
 unfold Zxq
 rw [hC]
 rfl
end prog
end Go.Sh
namespace Go.Sh
open Go Go.Proofs
theorem Y6 {A X:List Bool} (h:A.length % 8 = 0):ZJ (A ++ X) = ZJ A ++ ZJ X:=by
 have hA:(ZJ A).length = A.length / 8:=by rw [Z5]; omega
 apply List.ext_getElem
 ·rw [List.length_append,Z5,Z5,Z5,List.length_append]; omega
 ·intro i h1 h2
  rw [YA]
  by_cases hi:i < (ZJ A).length
  ·rw [List.getElem_append_left hi,YA]
   congr 1
   unfold Wp Kx
   have:∀ j,j < 8 → (A ++ X).getD (8 * i + j) false = A.getD (8 * i + j) false:=by
    intro j hj
    simp only [List.getD_eq_getElem?_getD]
    rw [List.getElem?_append_left (by omega)]
   simp only []
   rw [this 0 (by omega),this 1 (by omega),this 2 (by omega),this 3 (by omega),this 4 (by omega),this 5 (by omega),this 6 (by omega),this 7 (by omega)]
  ·rw [List.getElem_append_right (by omega),YA]
   congr 1
   unfold Wp Kx
   have:∀ j,j < 8 → (A ++ X).getD (8 * i + j) false = X.getD (8 * (i - (ZJ A).length) + j) false:=by
    intro j hj
    simp only [List.getD_eq_getElem?_getD]
    rw [List.getElem?_append_right (by omega)]
    congr 2
    omega
   simp only []
   rw [this 0 (by omega),this 1 (by omega),this 2 (by omega),this 3 (by omega),this 4 (by omega),this 5 (by omega),this 6 (by omega),this 7 (by omega)]
end Go.Sh
namespace Go.Sh
open Go Go.Proofs
def SP (p A:List Bool):Prop:=p <+: A ∧ p.length < A.length
theorem SP.split {p A B:List Bool} (h:SP p (A ++ B)):SP p A ∨ ∃ q,p = A ++ q ∧ SP q B:=by
 obtain ⟨h1,h2⟩:=h
 by_cases hl:p.length < A.length
 ·exact .inl ⟨List.prefix_of_prefix_length_le h1 (List.prefix_append A B) (by omega),hl⟩
 ·right
  obtain ⟨t,ht⟩:=List.prefix_of_prefix_length_le (List.prefix_append A B) h1 (by omega)
  refine ⟨t,ht.symm,?_,?_⟩
  ·rw [← ht] at h1
   exact (List.prefix_append_right_inj A).1 h1
  grind
theorem SP.no {p:List Bool} (h:SP p []):False:=by have:=h.2; simp at this
structure Enc {α:Type} (f:List Bool → α × Int × List Bool) (v:α) (A:List Bool):Prop where
 ok:∀ r,f (A ++ r) = (v,0,r)
 tail:∀ p,SP p A → (f p).2.1 = 10
theorem Kk {n w:Nat} (h:n < 2 ^ w):Enc (ZT w) n (Zb n w) where
 ok:=fun r => by
  have hl:=Zi n w
  unfold ZT
  rw [if_pos (by rw [List.length_append]; omega),List.take_append_of_le_length (by omega),List.take_of_length_le (by omega),ZcI,Nat.mod_eq_of_lt h,List.drop_append,List.drop_eq_nil_of_le (by omega),List.nil_append,hl,Nat.sub_self,List.drop_zero]
 tail:=fun p hp => by
  have:=hp.2
  rw [Zi] at this
  unfold ZT
  rw [if_neg (by omega)]
theorem ZFQ {n:Int} {w:Nat} (h:XG n w = true):ZT6 w (n % 2 ^ w).toNat = n:=by
 unfold XG at h
 unfold ZT6
 by_cases h0:w = 0
 ·simp_all
 ·rw [if_neg h0,decide_eq_true_eq] at h
  have hpw:(2:Int) ^ w = 2 * 2 ^ (w - 1):=by rw [show w = (w - 1) + 1 by omega,Int.pow_succ,Nat.add_sub_cancel,Int.mul_comm]
  have hp:(0:Int) < 2 ^ (w - 1):=Int.pow_pos (by omega)
  have hpn:((2 ^ (w - 1):Nat):Int) = 2 ^ (w - 1):=by rw [XU]
  rw [hpw]
  by_cases hn:0 ≤ n
  ·have e:n % (2 * 2 ^ (w - 1)) = n:=Int.emod_eq_of_lt hn (by omega)
   rw [e,if_neg (by omega)]
   omega
  ·have e:n % (2 * 2 ^ (w - 1)) = n + 2 * 2 ^ (w - 1):=by
    rw [← Int.add_emod_right,Int.emod_eq_of_lt (by omega) (by omega)]
   omega
theorem Zwn {n:Int} {w:Nat} (h:XG n w = true):Enc (WZ w) n (WN n w) where
 ok:=fun r => by
  have hl:=Zbc n w
  unfold WZ
  rw [if_pos (by rw [List.length_append]; omega),List.take_append_of_le_length (by omega),List.take_of_length_le (by omega),List.drop_append,List.drop_eq_nil_of_le (by omega),List.nil_append,hl,Nat.sub_self,List.drop_zero]
  have hlt:(n % 2 ^ w).toNat < 2 ^ w:=by
   have hp:(0:Int) < 2 ^ w:=Int.pow_pos (by omega)
   have h1:=Int.emod_nonneg n (show (2:Int) ^ w ≠ 0 by omega)
   simp_all <;> omega
  unfold WN
  rw [ZcI,Nat.mod_eq_of_lt hlt,ZFQ h]
 tail:=fun p hp => by
  have:=hp.2
  rw [Zbc] at this
  unfold WZ
  rw [if_neg (by omega)]
theorem ZCV:∀ (q n:Nat) (r:List Bool),ZiS n ((List.replicate q false ++ [true]) ++ r) = some (n + q,r)
 | 0,n,r => rfl
 | q + 1,n,r => by
  rw [List.replicate_succ]
  show ZiS (n + 1) ((List.replicate q false ++ [true]) ++ r) = _
  rw [ZCV q (n + 1) r]
  congr 2
  omega
theorem Zub:∀ (p:List Bool) (n:Nat),(∀ x ∈ p,x = false) → ZiS n p = none
 | [],n,_ => rfl
 | x :: p,n,h => by
  have:=h x (List.mem_cons_self ..)
  subst this
  exact Zub p (n + 1) fun y hy => h y (List.mem_cons_of_mem _ hy)
theorem ZmG (q:Nat):Enc unS q (List.replicate q false ++ [true]) where
 ok:=fun r => by
  unfold unS
  rw [ZCV q 0 r]
  simp
 tail:=fun p hp => by
  have hz:∀ x ∈ p,x = false:=by
   rcases hp.split with h | ⟨t,rfl,h⟩
   ·intro x hx
    exact List.eq_of_mem_replicate (h.1.subset hx)
   ·intro x hx
    have ht:t = []:=by have:=h.2; simp at this; exact this
    simp_all
  unfold unS
  rw [Zub p 0 hz]
theorem ZFp {n:Int} (h:ZO n):Qf n < 4294967295:=by
 unfold ZO at h
 unfold Qf
 split <;> omega
theorem ZPQ {n:Int} (h:ZO n) (kk:Nat):Enc (Zb2 kk) n (K8 kk n) where
 ok:=fun r => by
  have h1:=(ZmG (Qf n / 2 ^ kk)).ok (Zb (Qf n % 2 ^ kk) kk ++ r)
  have h2:=(Kk (n:=Qf n % 2 ^ kk) (w:=kk) (Nat.mod_lt _ (Nat.pow_pos (by omega)))).ok r
  unfold Zb2 K8
  rw [List.append_assoc,h1]
  simp only
  rw [h2]
  simp only
  have e:Qf n / 2 ^ kk * 2 ^ kk + Qf n % 2 ^ kk = Qf n:=by rw [Nat.mul_comm]; exact Nat.div_add_mod _ _
  have:=ZFp h
  rw [e,if_neg (by simp),if_neg (by simp),if_neg (by omega),ZCW h]
 tail:=fun p hp => by
  unfold K8 at hp
  unfold Zb2
  rcases hp.split with h1 | ⟨q,rfl,h1⟩
  ·have:=(ZmG (Qf n / 2 ^ kk)).tail p h1
   simp_all
  ·rw [(ZmG (Qf n / 2 ^ kk)).ok q]
   have:=(Kk (n:=Qf n % 2 ^ kk) (w:=kk) (Nat.mod_lt _ (Nat.pow_pos (by omega)))).tail q h1
   simp_all
theorem ZnR {one:ZF6} {g:Int → List Bool}:∀ (xs acc:List Int),(∀ x ∈ xs,Enc one x (g x)) → Enc (fun r => Yy one xs.length r acc) (acc ++ xs) (xs.flatMap g)
 | [],acc,_ => ⟨fun r => by simp [Yy],fun p hp => (hp.no).elim⟩
 | x :: xs,acc,h => by
  have hx:=h x (List.mem_cons_self ..)
  have ih:=ZnR xs (acc ++ [x]) fun y hy => h y (List.mem_cons_of_mem _ hy)
  constructor
  ·intro r
   have:=ih.ok r
   rw [List.flatMap_cons,List.append_assoc,List.length_cons]
   unfold Yy
   rw [hx.ok]
   simp_all
  ·intro p hp
   rw [List.flatMap_cons] at hp
   simp only [List.length_cons]
   unfold Yy
   rcases hp.split with h1 | ⟨q,rfl,h1⟩
   ·have:=hx.tail p h1
    simp_all
   ·rw [hx.ok q]
    simp only
    rw [if_neg (by simp)]
    exact ih.tail q h1
theorem ZKJ {c:List Int} (hc:∀ x ∈ c,ZO x) {m:Nat} (hm:m = 0 ∨ m = 1) {y:Prt} (hy:ZaG c m y):Enc (YB m c.length) c (XT m (c,y)):=by
 obtain ⟨a,w,ha,ha2,hw,hw2⟩:=ZtB (m:=(m:Int)) (by omega) hy
 have hA:=Kk (n:=a) (w:=4 + m) (by simpa using ha2)
 have hW:=Kk (n:=w) (w:=5) (by omega)
 have key:∃ B,XT m (c,y) = Zb a (4 + m) ++ B ∧ Enc (fun r => if a = XE m then (if (ZT 5 r).2.1 ≠ 0 then (([]:List Int),(ZT 5 r).2.1,(ZT 5 r).2.2) else Yy (WZ (ZT 5 r).1) c.length (ZT 5 r).2.2 []) else Yy (Zb2 a) c.length r []) c B:=by
  unfold XT Ko
  simp only [ha,hw,Int.toNat_natCast]
  rcases hy with ⟨kk,hkk,hfar,rfl⟩ | ⟨hwid,rfl⟩
  ·simp only at ha
   obtain rfl:kk = a:=by omega
   have hne:¬ kk = XE m:=by omega
   have hne2:¬ ((kk:Int) = ((XE (m:Int):Nat):Int)):=by omega
   rw [if_neg hne2,if_neg hne2]
   refine ⟨_,rfl,?_⟩
   rw [List.nil_append]
   have:=ZnR (one:=Zb2 kk) (g:=K8 kk) c [] fun x hx => ZPQ (hc x hx) kk
   simp only [if_neg hne]
   exact this
  ·simp only at ha hw
   obtain rfl:XE (m:Int) = a:=by omega
   obtain rfl:Q3 c = w:=by omega
   rw [if_pos rfl,if_pos rfl]
   refine ⟨_,rfl,?_⟩
   have hl:=ZnR (one:=WZ (Q3 c)) (g:=fun n => WN n (Q3 c)) c [] fun x hx => Zwn (Zw0 hc x hx)
   constructor
   ·intro r
    have h1:=hl.ok r
    simp only [if_true]
    rw [List.append_assoc,hW.ok]
    simp_all
   ·intro p hp
    simp only [if_true]
    rcases hp.split with h1 | ⟨q,rfl,h1⟩
    ·have:=hW.tail p h1
     simp_all
    ·rw [hW.ok q]
     simp only
     rw [if_neg (by simp)]
     exact hl.tail q h1
 obtain ⟨B,hB,hE⟩:=key
 rw [hB]
 constructor
 ·intro r
  have:=hE.ok r
  unfold YB
  rw [List.append_assoc,hA.ok]
  simp_all
 ·intro p hp
  unfold YB
  rcases hp.split with h1 | ⟨q,rfl,h1⟩
  ·have:=hA.tail p h1
   simp_all
  ·have:=hE.tail q h1
   rw [hA.ok q]
   simp_all
theorem Zoj {m n o p:Nat} (hm:m = 0 ∨ m = 1):∀ (cs:List (List Int)) (ys:List Prt) (i:Nat) (acc:List Int),(∀ c ∈ cs,∀ x ∈ c,ZO x) → K1 m cs ys → (∀ (j:Nat) (h:j < cs.length),cs[j].length = n / 2 ^ p - if i + j = 0 then o else 0) →
  Enc (fun r => Wt m n o p cs.length i r acc) (acc ++ cs.flatten) ((cs.zip ys).flatMap (XT m))
 | [],[],i,acc,_,_,_ => ⟨fun r => by simp [Wt],fun p hp => (hp.no).elim⟩
 | c :: cs,y :: ys,i,acc,hn,hok,hlen => by
  have hc:=ZKJ (hn c (List.mem_cons_self ..)) hm hok.1
  have hl:=hlen 0 (by simp)
  simp only [List.getElem_cons_zero,Nat.add_zero] at hl
  have ih:=Zoj (n:=n) (o:=o) (p:=p) hm cs ys (i + 1) (acc ++ c) (fun d hd => hn d (List.mem_cons_of_mem _ hd)) hok.2 (fun j hj => by
   have:=hlen (j + 1) (by simpa using hj)
   simp_all)
  constructor
  ·intro r
   have:=ih.ok r
   rw [List.zip_cons_cons,List.flatMap_cons,List.append_assoc,List.length_cons]
   unfold Wt
   rw [← hl,hc.ok]
   simp_all
  ·intro q hq
   rw [List.zip_cons_cons,List.flatMap_cons] at hq
   simp only [List.length_cons]
   unfold Wt
   rw [← hl]
   rcases hq.split with h1 | ⟨t,rfl,h1⟩
   ·have:=hc.tail q h1
    simp_all
   ·rw [hc.ok t]
    simp only
    rw [if_neg (by simp)]
    exact ih.tail t h1
theorem Zos {size:Nat}:∀ (d:Nat) (r:List Int),r.length = d * size → (KE size d r).flatten = r ∧ ∀ c ∈ KE size d r,c.length = size
 | 0,r,h => by
  grind [KE]
 | d + 1,r,h => by
  have hs:(d + 1) * size = d * size + size:=by rw [Nat.add_mul,Nat.one_mul]
  obtain ⟨h1,h2⟩:=Zos (size:=size) d (r.drop size) (by rw [List.length_drop]; omega)
  simp_all [KE,List.flatten_cons,h1,List.take_append_drop]
theorem ZIg {l:List Int} {o p:Nat} (hf:Zfm (l.length + o) o p = true):(YK l o p).flatten = l ∧ ∀ (j:Nat) (h:j < (YK l o p).length),(YK l o p)[j].length = (l.length + o) / 2 ^ p - if 0 + j = 0 then o else 0:=by
 unfold Zfm at hf
 simp only [Bool.and_eq_true,decide_eq_true_eq] at hf
 obtain ⟨hm,ho⟩:=hf
 have h0:0 < 2 ^ p:=Nat.pow_pos (by omega)
 have hd:(l.length + o) / 2 ^ p ≤ l.length + o:=Nat.div_le_self _ _
 have hmul:2 ^ p * ((l.length + o) / 2 ^ p) = l.length + o:=by have:=Nat.div_add_mod (l.length + o) (2 ^ p); omega
 unfold YK
 generalize (l.length + o) / 2 ^ p = size at ho hd hmul
 have e3:(2 ^ p - 1) * size = 2 ^ p * size - size:=by rw [Nat.sub_mul,Nat.one_mul]
 have hps:size ≤ 2 ^ p * size:=Nat.le_mul_of_pos_left _ h0
 obtain ⟨h1,h2⟩:=Zos (size:=size) (2 ^ p - 1) (l.drop (size - o)) (by
  grind)
 refine ⟨by simp_all,?_⟩
 grind
theorem ZKO {l:List Int} {o:Nat} (h:YJ l (o:Nat) = 0):Enc (Kt (l.length + o) o) l (Xv l o):=by
 obtain ⟨h1,h2⟩:=ZgQ.1 h
 have hl:=KV h2
 obtain ⟨_,q,hg⟩:=ZaR hl (o:=o) (by omega) (by omega)
 unfold Xv ZgM
 have hys:=hg.ys
 generalize W1 l o = R at hg hys
 obtain ⟨m,p,sz,ys⟩:=R
 obtain ⟨hp,p4,hfit,hm,hparts⟩:=hg
 simp only at hp hm hys
 subst hp
 obtain ⟨mn,hmn⟩:∃ mn:Nat,m = (mn:Int):=⟨m.toNat,by omega⟩
 subst hmn
 simp only [Int.toNat_natCast]
 have hm':mn = 0 ∨ mn = 1:=by omega
 have hM:=Kk (n:=mn) (w:=2) (by omega)
 have hP:=Kk (n:=q) (w:=4) (by omega)
 obtain ⟨hflat,hlen⟩:=ZIg hfit
 have hB:=Zoj (n:=l.length + o) (o:=o) (p:=q) hm' (YK l o q) ys 0 [] (fun c hc x hx => hl x (Zbk hc x hx)) hys hlen
 rw [List.nil_append,hflat,Zj5] at hB
 have hbb:ZcJ ((l.length + o:Nat):Int) ((o:Nat):Int) = true:=decide_eq_true (by omega)
 rw [List.append_assoc]
 constructor
 ·intro r
  have:=hB.ok r
  unfold Kt
  rw [if_neg (by rw [hbb]; simp),List.append_assoc,hM.ok,List.append_assoc]
  simp only
  rw [if_neg (by simp),if_neg (by omega),hP.ok]
  simp_all
 ·intro p hp
  unfold Kt
  rw [if_neg (by rw [hbb]; simp)]
  rcases hp.split with h3 | ⟨t,rfl,h3⟩
  ·have:=hM.tail p h3
   simp_all
  ·rw [hM.ok]
   simp only
   rw [if_neg (by simp),if_neg (by omega)]
   rcases h3.split with h4 | ⟨u,rfl,h4⟩
   ·have:=hP.tail t h4
    simp_all
   ·rw [hP.ok]
    simp only
    rw [if_neg (by simp),if_neg (by rw [hfit]; simp)]
    exact hB.tail u h4
end Go.Sh
namespace Go.Sh
open Go Go.Proofs
theorem XR {w:Nat} {s:IS} (h:s.2 ≠ 0):gI w s = (0,s):=by unfold gI; rw [if_neg h]
theorem QW {ok:Bool} {s:IS} {code:Int} (h:s.2 ≠ 0):mI ok s code = s:=by unfold mI; rw [if_neg (fun hh => h hh.1)]
theorem ZbP {w:Nat}:∀ (n:Nat) (s:IS) (acc:List Int),s.2 ≠ 0 → (X8 w n s acc).2 = s
 | 0,s,acc,h => rfl
 | n + 1,s,acc,h => by
  unfold X8
  rw [if_neg h]
  exact ZbP n s _ h
theorem Zcs {n w:Nat} (h:n < 2 ^ w) (r:List Bool):gI w (Zb n w ++ r,0) = (n,(r,0)):=by
 unfold gI
 rw [if_pos rfl,(Kk h).ok]
theorem ZaW {n w:Nat} (h:n < 2 ^ w) {p:List Bool} (hp:SP p (Zb n w)):(gI w (p,0)).2.2 = 10:=by
 unfold gI
 rw [if_pos rfl]
 exact (Kk h).tail p hp
structure EncI {α:Type} (f:IS → α × IS) (v:α) (A:List Bool):Prop where
 ok:∀ r,f (A ++ r,0) = (v,(r,0))
 tail:∀ p,SP p A → (f (p,0)).2.2 = 10
theorem ZdM {w:Nat}:∀ (xs acc:List Int),(∀ x ∈ xs,XG x w = true) → EncI (fun s => X8 w xs.length s acc) (acc ++ xs) (xs.flatMap fun n => WN n w)
 | [],acc,_ => ⟨fun r => by simp [X8],fun p hp => (hp.no).elim⟩
 | x :: xs,acc,h => by
  have hx:=Zwn (h x (List.mem_cons_self ..))
  have ih:=ZdM xs (acc ++ [x]) fun y hy => h y (List.mem_cons_of_mem _ hy)
  constructor
  ·intro r
   have:=ih.ok r
   rw [List.flatMap_cons,List.append_assoc,List.length_cons]
   unfold X8
   rw [if_pos rfl,hx.ok,this,List.append_assoc]
   rfl
  ·intro p hp
   rw [List.flatMap_cons] at hp
   simp only [List.length_cons]
   unfold X8
   rw [if_pos rfl]
   rcases hp.split with h1 | ⟨q,rfl,h1⟩
   ·have:=hx.tail p h1
    rw [ZbP _ _ _ (by simp only; rw [this]; decide)]
    exact this
   ·rw [hx.ok q]
    exact ih.tail q h1
theorem ZUi {kind:Nat} (h:kind < 64):Zb kind 7 = Zb 0 1 ++ Zb kind 6:=by
 have:kind.testBit 6 = false:=Nat.testBit_lt_two_pow (by omega)
 show kind.testBit 6 :: Zb kind 6 = (0:Nat).testBit 0 :: Zb kind 6
 rw [this]
 rfl
theorem ZCH (r:List Bool):ZcG (Zb 0 1 ++ r,0) = (r,0):=by
 rfl
theorem ZFV {p:List Bool} (hp:SP p (Zb 0 1)):(ZcG (p,0)).2 = 10:=by
 have h:=ZaW (n:=0) (w:=1) (by omega) hp
 unfold ZcG
 rw [QW (by rw [h]; decide),h]
theorem ZCI {kind:Nat} (h:kind < 64) (hk:ZdJ kind = true) (r:List Bool):Y8 (Zb kind 6 ++ r,0) = (kind,(r,0)):=by
 unfold Y8
 rw [Zcs (w:=6) (by omega),hk,Xl]
theorem ZCJ {s:IS} (h:s.2 ≠ 0):(Y8 s).2 = s:=by
 unfold Y8
 rw [XR h]
 exact QW h
theorem ZFW {kind:Nat} (h:kind < 64) {p:List Bool} (hp:SP p (Zb kind 6)):(Y8 (p,0)).2.2 = 10:=by
 have h:=ZaW (w:=6) (by omega) hp
 unfold Y8
 simp only
 rw [QW (by rw [h]; decide),h]
theorem ZoS {kind d:Nat} {s:IS} (h:s.2 ≠ 0):(ZdY kind d s).2.2 = s:=by
 unfold ZdY
 rw [XR h,if_neg (by simp)]
 exact QW h
def Zqj (kk:Nat):List Bool:=if 0 < kk then [true] ++ (List.replicate (kk - 1) false ++ [true]) else [false]
theorem ZQf {kind d kk:Nat} (h:kk < d) (r:List Bool):ZdY kind d (Zqj kk ++ r,0) = (kind,kk,(r,0)):=by
 unfold ZdY Zqj
 by_cases h0:0 < kk
 ·rw [if_pos h0]
  have e:=Zcs (n:=1) (w:=1) (by omega) ((List.replicate (kk - 1) false ++ [true]) ++ r)
  rw [show Zb 1 1 = [true] from rfl] at e
  rw [List.append_assoc,e,if_pos ⟨rfl,rfl⟩]
  simp only
  rw [(ZmG (kk - 1)).ok r]
  simp only
  rw [show kk - 1 + 1 = kk by omega,decide_eq_true h,Xl]
 ·rw [if_neg h0]
  have e:=Zcs (n:=0) (w:=1) (by omega) r
  rw [show Zb 0 1 = [false] from rfl] at e
  obtain rfl:kk = 0:=by omega
  rw [e,if_neg (by simp)]
  simp only
  rw [decide_eq_true h,Xl]
theorem ZFY {kind d kk:Nat} {p:List Bool} (hp:SP p (Zqj kk)):(ZdY kind d (p,0)).2.2.2 = 10:=by
 unfold Zqj at hp
 by_cases h0:0 < kk
 ·rw [if_pos h0] at hp
  rcases hp.split with h1 | ⟨q,rfl,h1⟩
  ·have h:=ZaW (n:=1) (w:=1) (by omega) (show SP p (Zb 1 1) from h1)
   unfold ZdY
   rw [if_neg (fun hh => by omega)]
   simp only
   rw [QW (by rw [h]; decide),h]
  ·have e:=Zcs (n:=1) (w:=1) (by omega) q
   rw [show Zb 1 1 = [true] from rfl] at e
   have h:=(ZmG (kk - 1)).tail q h1
   unfold ZdY
   rw [e,if_pos ⟨rfl,rfl⟩]
   simp only
   rw [QW (by simp only; rw [h]; decide)]
   exact h
 ·rw [if_neg h0] at hp
  have h:=ZaW (n:=0) (w:=1) (by omega) (show SP p (Zb 0 1) from hp)
  unfold ZdY
  rw [if_neg (fun hh => by omega)]
  simp only
  rw [QW (by rw [h]; decide),h]
theorem Zt2 {kind kk d:Nat} (h:kind < 64) (hk:ZdJ kind = true) (hd:kk < d) (r:List Bool):ZY d (Yv kind kk ++ r,0) = (kind,kk,(r,0)):=by
 unfold ZY Yv
 rw [Int.toNat_natCast,ZUi h,List.append_assoc,List.append_assoc,ZCH,ZCI h hk]
 exact ZQf hd r
theorem ZzK {kind kk d:Nat} (h:kind < 64) (hk:ZdJ kind = true) {p:List Bool} (hp:SP p (Yv kind kk)):(ZY d (p,0)).2.2.2 = 10:=by
 unfold Yv at hp
 rw [Int.toNat_natCast,ZUi h,List.append_assoc] at hp
 unfold ZY
 rcases hp.split with h1 | ⟨q,rfl,h1⟩
 ·have e:=ZFV h1
  have e2:=ZCJ (s:=ZcG (p,0)) (by rw [e]; decide)
  rw [e2,ZoS (by rw [e]; decide),e]
 ·rw [ZCH]
  rcases h1.split with h2 | ⟨t,rfl,h2⟩
  ·have e:=ZFW h h2
   rw [ZoS (by rw [e]; decide),e]
  ·rw [ZCI h hk]
   exact ZFY h2
theorem ZCu {c:List Int} {sh:Int} {s:List Int} (hs:s.any QM = false):∀ (d i:Nat),i + d = s.length → Zmu c sh (ZuA c sh s d i) (s.take i) = (s,0)
 | 0,i,h => by
  rw [List.take_of_length_le (by omega)]
  rfl
 | d + 1,i,h => by
  have hi:i < s.length:=by omega
  simp only [ZuA]
  unfold Zmu
  have e:ZtN c sh s i + Zfg c sh (s.take i) = s[i]:=by
   unfold ZtN
   rw [Wv hi]
   omega
  have hw:QM s[i] = false:=by
   simp_all
  have ht:s.take i ++ [s[i]] = s.take (i + 1):=by simp_all
  rw [e,hw,if_neg (by simp),ht]
  exact ZCu hs d (i + 1) (by omega)
theorem ZzC {c s:List Int} {sh:Int} (h:(Q0 c sh s).2 = 0):ZbQ c sh = true ∧ c.length ≤ s.length ∧ s.any QM = false ∧ (Yl c sh s).any QM = false:=by
 unfold Q0 at h
 grind
theorem ZCw {c s:List Int} {sh:Int} (h:(Q0 c sh s).2 = 0):ZaC c sh (s.take c.length) (Yl c sh s) = (s,0):=by
 obtain ⟨h1,h2,h3,h4⟩:=ZzC h
 unfold ZaC
 have ht:(s.take c.length).any QM = false:=by
  grind
 rw [if_neg (by rw [h1]; simp),if_neg (by rw [List.length_take]; omega),if_neg (by rw [ht]; simp),if_neg (by rw [h4]; simp)]
 exact ZCu h3 (s.length - c.length) c.length (by omega)
theorem ZuJ {c s:List Int} {sh:Int} (h:(Q0 c sh s).2 = 0) (h1:1 ≤ s.length) (h2:s.length ≤ 512):EncI (ZcX c sh c.length s.length (s.take c.length)) s (Xv (Yl c sh s) c.length):=by
 obtain ⟨hl,h8,hr⟩:=K9 h h1 h2
 obtain ⟨e1,_,_⟩:=ZgS h
 rw [e1] at hl hr
 have hE:=ZKO hr
 rw [hl] at hE
 constructor
 ·intro r
  unfold ZcX
  simp only
  rw [hE.ok r]
  simp only
  rw [if_neg (by simp),ZCw h]
 ·intro p hp
  unfold ZcX
  simp only
  have:=hE.tail p hp
  simp_all
theorem ZjT {num:Bool} {c n:Nat} {w:List Int × IS} (h:w.2.2 ≠ 0):(Zb6 num c n w).2 = w.2:=by
 unfold Zb6
 split
 ·have e1:Zbi w.2 = w.2:=by unfold Zbi; rw [XR h]; exact QW h
  have e2:(WQ w.2).2 = w.2:=by unfold WQ; rw [XR h]; exact QW h
  rw [e1,e2]
  have e3:=ZbP (w:=12) c w.2 [] h
  unfold Zfc
  rw [e3,if_pos h]
 ·first
  | rfl
  | rw [if_pos h]
theorem ZH6 {s:List Int} {d:Nat} {x:XD} (h1:1 ≤ s.length) (h2:s.length ≤ 512) (hs:∀ y ∈ s,XG y d = true) (hx:Zfp s d x):∃ kind:Nat,x.1 = (kind:Int) ∧ kind < 64 ∧ ZdJ kind = true ∧ EncI (W5 kind s.length d) s (Yn s d x):=by
 unfold Yn
 rcases hx with ⟨rfl,hall⟩ | rfl | ⟨o,ho,hos,hx⟩ | ⟨o,ho,hos,hx⟩
 ·refine ⟨0,rfl,by omega,rfl,?_⟩
  simp only
  rw [if_pos trivial]
  match s,h1,hall,hs with
  | a :: s',_,hall,hs =>
   have hE:=ZdM (w:=d) [a] [] (fun y hy => hs y (by simp at hy; simp [hy]))
   have hrep:List.replicate (a :: s').length a = a :: s':=by
    symm
    rw [List.eq_replicate_iff]
    grind
   constructor
   ·intro r
    have:=hE.ok r
    show W5 0 _ _ _ = _
    unfold W5
    simp_all
   ·intro p hp
    have:=hE.tail p hp
    unfold W5
    rw [if_pos rfl]
    exact this
 ·refine ⟨1,rfl,by omega,rfl,?_⟩
  simp only
  rw [if_neg (by omega),if_pos trivial]
  have hE:=ZdM (w:=d) s [] hs
  rw [List.nil_append] at hE
  constructor
  ·intro r
   unfold W5
   rw [if_neg (by omega),if_pos rfl]
   exact hE.ok r
  ·intro p hp
   unfold W5
   rw [if_neg (by omega),if_pos rfl]
   exact hE.tail p hp
 ·obtain ⟨e1,e2,e3,e4,e5,e6,e7,e8,e9,e10⟩:=Y5 h1 h2 hx
  refine ⟨8 + o,by rw [e1]; omega,by omega,by unfold ZdJ; rw [decide_eq_true_eq]; omega,?_⟩
  rw [e1,e2,e3,e4,if_neg (by omega),if_neg (by omega),if_neg (by omega),List.nil_append]
  have hcl:=Zs2 o ho
  have hE:=ZdM (w:=d) (s.take (XQ o).length) [] (fun y hy => hs y (List.mem_of_mem_take hy))
  have hZ:=ZuJ e10 h1 h2
  have hlen:(s.take (XQ o).length).length = o:=by rw [List.length_take,hcl]; omega
  rw [List.nil_append,hlen] at hE
  rw [hcl] at hZ
  have shape:∀ r,W5 (8 + o) s.length d (r,0) = Zb6 false o s.length (X8 d o (r,0) []):=by
   intro r
   unfold W5
   rw [if_neg (by omega),if_neg (by omega),if_neg (by omega),show 8 + o - 8 = o by omega]
   unfold Zix
   rw [decide_eq_true hos,Xl,if_neg (by simp)]
  constructor
  ·intro r
   have e:=hE.ok (Xv (Yl (XQ o) 0 s) (XQ o).length ++ r)
   rw [shape,List.append_assoc,e]
   unfold Zb6
   rw [if_neg (by simp),if_neg (by simp),Nat.min_eq_right ho]
   rw [hcl]
   exact hZ.ok r
  ·intro p hp
   rw [shape]
   rcases hp.split with h3 | ⟨q,rfl,h3⟩
   ·have:=hE.tail p h3
    rw [ZjT (by rw [this]; decide)]
    exact this
   ·have e:=hE.ok q
    rw [e]
    unfold Zb6
    rw [if_neg (by simp),if_neg (by simp),Nat.min_eq_right ho]
    rw [hcl] at h3 ⊢
    exact hZ.tail q h3
 ·obtain ⟨e1,e2,e3,e4,e5,e6,e7,e8,e9,e10⟩:=Y5 h1 h2 hx
  obtain ⟨hsl,hsr⟩:=ZjI s o ho
  refine ⟨31 + o,by rw [e1]; omega,by omega,by unfold ZdJ; rw [decide_eq_true_eq]; omega,?_⟩
  rw [e1,e2,e3,e4,if_neg (by omega),if_neg (by omega),if_pos (by omega)]
  generalize ZcD s o = c at hsl hsr e6 e7 e8 e9 e10
  have hE:=ZdM (w:=d) (s.take c.length) [] (fun y hy => hs y (List.mem_of_mem_take hy))
  have hC:=ZdM (w:=12) c [] (fun y hy => by
   have:=hsr y hy
   unfold XG
   grind)
  have hZ:=ZuJ e10 h1 h2
  have hlen:(s.take c.length).length = o:=by rw [List.length_take,hsl]; omega
  rw [List.nil_append,hlen] at hE
  rw [List.nil_append,hsl] at hC
  rw [hsl] at hZ
  have e4':(4:Int).toNat = 4:=rfl
  rw [e4']
  have shape:∀ r,W5 (31 + o) s.length d (r,0) = Zb6 true o s.length (X8 d o (r,0) []):=by
   intro r
   unfold W5
   rw [if_neg (by omega),if_neg (by omega),if_pos (by omega),show 31 + o - 31 = o by omega]
   unfold Zix
   rw [decide_eq_true (show o ≤ s.length by omega),Xl,if_neg (by simp)]
  have cA:∀ r,Zbi (Zb 11 4 ++ r,0) = (r,0):=by
   intro r
   rfl
  have cB:∀ r,WQ (Zb 4 5 ++ r,0) = (4,(r,0)):=by
   intro r
   rfl
  have cAs:∀ s:IS,s.2 ≠ 0 → Zbi s = s:=fun s h => by unfold Zbi; rw [XR h]; exact QW h
  have cBs:∀ s:IS,s.2 ≠ 0 → (WQ s).2 = s:=fun s h => by unfold WQ; rw [XR h]; exact QW h
  constructor
  ·intro r
   have e:=hE.ok (Zb 11 4 ++ (Zb 4 5 ++ (c.flatMap (fun n => WN n 12) ++ (Xv (Yl c 4 s) c.length ++ r))))
   rw [shape]
   have ha:((s.take c.length).flatMap (fun n => WN n d) ++ (Zb 11 4 ++ (Zb 4 5 ++ c.flatMap fun n => WN n 12) ++ Xv (Yl c 4 s) c.length)) ++ r = (s.take c.length).flatMap (fun n => WN n d) ++ (Zb 11 4 ++ (Zb 4 5 ++ (c.flatMap (fun n => WN n 12) ++ (Xv (Yl c 4 s) c.length ++ r)))):=by
    simp only [List.append_assoc]
   rw [ha,e]
   unfold Zb6
   rw [if_pos rfl]
   simp only
   rw [cA,cB]
   simp only
   rw [hC.ok]
   unfold Zfc
   rw [if_neg (by simp)]
   simp only
   have:=hZ.ok r
   rw [hsl]
   exact this
  ·intro p hp
   rw [shape]
   rcases hp.split with h3 | ⟨q,rfl,h3⟩
   ·have:=hE.tail p h3
    rw [ZjT (by rw [this]; decide)]
    exact this
   ·have e:=hE.ok q
    rw [e]
    unfold Zb6
    rw [if_pos rfl]
    simp only
    rw [List.append_assoc] at h3
    have fail:∀ t:IS,t.2 = 10 → (Zfc o s.length (s.take c.length) (WQ t).1 (X8 12 o (WQ t).2 [])).2.2 = 10:=by
     intro t ht
     have hne:t.2 ≠ 0:=by rw [ht]; decide
     rw [cBs t hne]
     have:=ZbP (w:=12) o t [] hne
     unfold Zfc
     rw [this,if_pos hne,ht]
    rcases h3.split with h4 | ⟨u,rfl,h4⟩
    ·refine fail _ ?_
     have:=ZaW (n:=11) (w:=4) (by omega) h4
     unfold Zbi
     rw [QW (by rw [this]; decide),this]
    ·rw [cA]
     rw [List.append_assoc] at h4
     rcases h4.split with h5 | ⟨v,rfl,h5⟩
     ·have:=ZaW (n:=4) (w:=5) (by omega) h5
      have e5:(WQ (u,0)).2.2 = 10:=by
       unfold WQ
       simp only
       rw [QW (by rw [this]; decide),this]
      have:=ZbP (w:=12) o (WQ (u,0)).2 [] (by rw [e5]; decide)
      unfold Zfc
      simp_all
     ·rw [cB]
      simp only
      rcases h5.split with h6 | ⟨z,rfl,h6⟩
      ·have:=hC.tail v h6
       unfold Zfc
       simp_all
      ·rw [hC.ok]
       unfold Zfc
       rw [if_neg (by simp)]
       simp only
       rw [hsl] at h6 ⊢
       exact hZ.tail z h6
theorem ZzL {s:List Int} {d:Nat} (h1:1 ≤ s.length) (h2:s.length ≤ 512) (hd:4 ≤ d ∧ d ≤ 25) (hs:∀ y ∈ s,XG y d = true):Enc (QX s.length d) s (Wx s d):=by
 obtain ⟨x,_,hok,hsub,_,_⟩:=Ze6 s d h1 h2
 have hw:=Zd4 (by omega) hs
 have hsg:=ZjJ (by omega) hs
 have hsl:=Zbd s
 have hback:(Wc s).map (fun x => x * 2 ^ ZL s) = s:=by
  unfold Wc
  rw [List.map_map]
  conv => rhs; rw [← List.map_id s]
  apply List.map_congr_left
  intro y hy
  exact ZBU (ZjN y hy)
 obtain ⟨kind,hk1,hk2,hk3,hB⟩:=ZH6 (by omega) (by omega) hsg hok
 rw [hsub,hk1]
 rw [hsl] at hB
 have hr:¬ ¬ (1 ≤ s.length ∧ s.length ≤ 512 ∧ 4 ≤ d ∧ d ≤ 25):=fun h => h ⟨h1,h2,hd.1,hd.2⟩
 constructor
 ·intro r
  have e:=Zt2 hk2 hk3 hw (Yn (Wc s) (d - ZL s) x ++ r)
  have e2:=hB.ok r
  unfold QX
  simp_all
 ·intro p hp
  unfold QX
  rw [if_neg hr]
  rcases hp.split with h3 | ⟨q,rfl,h3⟩
  ·have e:=ZzK (d:=d) hk2 hk3 h3
   simp_all
  ·have e:=Zt2 hk2 hk3 hw q
   have e2:=hB.tail q h3
   simp_all
end Go.Sh
namespace Go.Sh
open Go Go.Proofs
theorem Zi4:∀ (i n:Nat),Xa n (i + 1) = (128 + n / 64 ^ i % 64) :: Xa n i
 | 0,n => by simp [Xa]
 | i + 1,n => by
  rw [show Xa n (i + 1 + 1) = Xa (n / 64) (i + 1) ++ [128 + n % 64] from rfl,Zi4 i (n / 64),show Xa n (i + 1) = Xa (n / 64) i ++ [128 + n % 64] from rfl,Nat.div_div_eq_div_mul,← Nat.pow_succ']
  rfl
theorem ZqV (n i:Nat):n / 64 ^ (i + 1) * 64 + n / 64 ^ i % 64 = n / 64 ^ i:=by
 rw [Nat.pow_succ,← Nat.div_div_eq_div_mul]
 omega
theorem ZAc:∀ (i n:Nat) (t:List Int) (g:Nat),cgL i (QC (Xa n i) ++ t) (n / 64 ^ i) (n / 64 ^ i) = some (n,n)
 | 0,n,t,g => by simp [cgL,Xa,QC]
 | i + 1,n,t,g => by
  have e:QC (Xa n (i + 1)) ++ t = ((128 + n / 64 ^ i % 64:Nat):Int) :: (QC (Xa n i) ++ t):=by rw [Zi4]; rfl
  rw [e]
  have h:=Nat.mod_lt (n / 64 ^ i) (show 0 < 64 by omega)
  simp only [cgL,Int.toNat_natCast]
  rw [if_pos (by omega),show (128 + n / 64 ^ i % 64) % 64 = n / 64 ^ i % 64 by omega,ZqV]
  exact ZAc i n t g
theorem ZGe:∀ (i n a g:Nat),n / 64 ^ i ≤ g → ∃ a' g',cgL i [] a g = some (a',g') ∧ n ≤ g'
 | 0,n,a,g,h => ⟨a,g,rfl,by simpa using h⟩
 | i + 1,n,a,g,h => by
  refine ZGe i n (a * 64) (g * 64 + 63) ?_
  have:=ZqV n i
  have h2:=Nat.mod_lt (n / 64 ^ i) (show 0 < 64 by omega)
  omega
theorem ZAd:∀ (i n a g j:Nat),n / 64 ^ i ≤ g → ∃ a' g',cgL i (QC ((Xa n i).take j)) a g = some (a',g') ∧ n ≤ g'
 | 0,n,a,g,j,h => ⟨a,g,by simp [cgL,Xa,QC],by simpa using h⟩
 | i + 1,n,a,g,0,h => by
  rw [List.take_zero]
  exact ZGe (i + 1) n a g h
 | i + 1,n,a,g,j + 1,h => by
  have e:QC ((Xa n (i + 1)).take (j + 1)) = ((128 + n / 64 ^ i % 64:Nat):Int) :: QC ((Xa n i).take j):=by rw [Zi4]; rfl
  rw [e]
  have h3:=Nat.mod_lt (n / 64 ^ i) (show 0 < 64 by omega)
  simp only [cgL,Int.toNat_natCast]
  rw [if_pos (by omega),show (128 + n / 64 ^ i % 64) % 64 = n / 64 ^ i % 64 by omega]
  refine ZAd i n _ _ j ?_
  have:=ZqV n i
  omega
theorem Zwd:∀ (k:Fin 8) (m:Fin 64),2 ≤ k.val → m.val < 2 ^ (7 - k.val) → Zb3 (ZcQ k.val m.val) = k.val ∧ ZcQ k.val m.val % 2 ^ (7 - k.val) = m.val:=by decide +kernel
theorem ZCi {n:Nat} (h2:128 ≤ n):2 ^ Y9 (ZbO n - 1) ≤ n:=by
 obtain ⟨r2,r3,r4,r5,r6,r7⟩:=ZtS
 have r1:Y9 1 = 7:=rfl
 unfold ZbO
 rw [if_neg (by omega)]
 repeat' split
 all_goals simp only [Nat.reduceSub,r1,r2,r3,r4,r5,r6]
 all_goals omega
theorem Zwp {kk n:Nat} (h2:2 ≤ kk) (h7:kk ≤ 7) (hlt:n < 2 ^ Y9 kk):n / 64 ^ (kk - 1) < 2 ^ (7 - kk):=by
 have h64:(64:Nat) = 2 ^ 6:=rfl
 rw [Nat.div_lt_iff_lt_mul (Nat.pow_pos (by omega))]
 refine Nat.lt_of_lt_of_le hlt ?_
 rw [h64,← Nat.pow_mul,← Nat.pow_add]
 refine Nat.pow_le_pow_right (by omega) ?_
 unfold Y9
 rw [if_neg (by omega)]
 omega
theorem ZuN {n:Nat} (h:128 ≤ n):Z7 n = ZcQ (ZbO n) (n / 64 ^ (ZbO n - 1)) :: Xa n (ZbO n - 1):=by
 unfold Z7
 rw [if_neg (by omega)]
theorem Zwm {n:Nat} (h:n < 2 ^ 36) (t:List Int):Zb1 (QC (Z7 n) ++ t) = (n,(Z7 n).length,0):=by
 by_cases h128:n < 128
 ·have e:Z7 n = [n]:=by unfold Z7; rw [if_pos h128]
  rw [e]
  show Zb1 ((n:Int) :: t) = _
  unfold Zb1
  simp only [Int.toNat_natCast]
  rw [if_pos (by unfold Zb3; rw [if_pos h128])]
  rfl
 ·obtain ⟨h1,h2⟩:=ZnP h (by omega)
  have h7:=(Zqe n).2
  have hm:=Zwp h1 h7 h2
  have hm64:=ZeW h1 h7 h2
  have hlow:=ZCi (n:=n) (by omega)
  rw [ZuN (by omega)]
  generalize hk:ZbO n = k at *
  have hft:=Zwd ⟨k,by omega⟩ ⟨n / 64 ^ (k - 1),hm64⟩ h1 hm
  simp only at hft
  show Zb1 (((ZcQ k (n / 64 ^ (k - 1)):Nat):Int) :: (QC (Xa n (k - 1)) ++ t)) = _
  unfold Zb1
  simp only [Int.toNat_natCast]
  rw [hft.1,hft.2,if_neg (by omega),if_neg (by omega),if_neg (by omega),ZAc _ _ _ 0]
  simp only
  rw [if_neg (by omega),if_neg (by simp only [List.length_append,ZdI,Za5]; omega)]
  simp only [List.length_cons,Za5]
  congr 2
  omega
theorem ZKo {n:Nat} (h:n < 2 ^ 36) {j:Nat} (hj:j < (Z7 n).length):Zb1 (QC ((Z7 n).take j)) = (0,0,10):=by
 match j with
 | 0 => simp [QC,Zb1]
 | j + 1 =>
  by_cases h128:n < 128
  ·have e:Z7 n = [n]:=by unfold Z7; rw [if_pos h128]
   rw [e] at hj
   simp at hj
  ·obtain ⟨h1,h2⟩:=ZnP h (by omega)
   have h7:=(Zqe n).2
   have hm:=Zwp h1 h7 h2
   have hm64:=ZeW h1 h7 h2
   have hlow:=ZCi (n:=n) (by omega)
   rw [ZuN (by omega)] at hj ⊢
   generalize hk:ZbO n = k at *
   have hft:=Zwd ⟨k,by omega⟩ ⟨n / 64 ^ (k - 1),hm64⟩ h1 hm
   simp only at hft
   simp only [List.length_cons,Za5] at hj
   show Zb1 (((ZcQ k (n / 64 ^ (k - 1)):Nat):Int) :: QC ((Xa n (k - 1)).take j)) = _
   unfold Zb1
   simp only [Int.toNat_natCast]
   rw [hft.1,hft.2,if_neg (by omega),if_neg (by omega),if_neg (by omega)]
   obtain ⟨a',g',e1,e2⟩:=ZAd (k - 1) n (n / 64 ^ (k - 1)) (n / 64 ^ (k - 1)) j (Nat.le_refl _)
   rw [e1]
   simp only
   rw [if_neg (by omega),if_pos (by rw [ZdI,List.length_take,Za5]; omega)]
theorem ZmS {l:List Nat} (h:∀ x ∈ l,x < 256):ZN (QC l) = l.flatMap fun x => Zb x 8:=by
 unfold ZN QC
 rw [List.flatMap_map]
 rfl
theorem Zi1 {l:List Nat} (h:∀ x ∈ l,x < 256):Zz (QC l) = true:=by
 refine List.all_eq_true.2 fun x hx => ?_
 obtain ⟨y,hy,rfl⟩:=List.mem_map.1 hx
 have:=h y hy
 rw [Bool.and_eq_true,decide_eq_true_eq,decide_eq_true_eq]
 omega
theorem ZPu (r:List Bool):hd1 (Zb 32764 15 ++ r,0) = (r,0):=by
 unfold hd1
 rw [Zcs (w:=15) (by omega)]
 rfl
theorem ZPv (r:List Bool):hd2 (Zb 0 1 ++ r,0) = (r,0):=by
 unfold hd2
 rw [Zcs (w:=1) (by omega)]
 rfl
theorem ZPw {kd:Nat} (h:kd = 6 ∨ kd = 7) (r:List Bool):hd3 (Zb kd 4 ++ r,0) = (kd,(r,0)):=by
 unfold hd3
 rw [Zcs (w:=4) (by omega)]
 rcases h with rfl | rfl <;> rfl
theorem Zzh (r:List Bool):hd4 (Zb 0 4 ++ r,0) = (r,0):=by
 unfold hd4
 rw [Zcs (w:=4) (by omega)]
 rfl
theorem ZPy {c:Int} {m:Nat} (h:m < 16) (hm:ZdN c m = true) (r:List Bool):hd5 c (Zb m 4 ++ r,0) = (m,(r,0)):=by
 unfold hd5
 rw [Zcs (w:=4) (by omega),hm,Xl]
theorem ZKs {s:IS} (h:s.2 ≠ 0):hd2 s = s:=by unfold hd2; rw [XR h]; exact QW h
theorem Zwo {s:IS} (h:s.2 ≠ 0):(hd3 s).2 = s:=by unfold hd3; rw [XR h]; exact QW h
theorem ZnM {s:IS} (h:s.2 ≠ 0):hd4 s = s:=by unfold hd4; rw [XR h]; exact QW h
theorem ZKt {c:Int} {s:IS} (h:s.2 ≠ 0):(hd5 c s).2 = s:=by unfold hd5; rw [XR h]; exact QW h
theorem ZKu {kd:Nat} {s:IS} (h:s.2 ≠ 0):(hd6 kd s).2 = s:=by unfold hd6; rw [if_neg h]
theorem ZFC {b:List Int} {s:IS} (h:s.2 ≠ 0):(ZdP b s).2 = s:=by unfold ZdP; rw [if_pos h]
theorem Zt3 {of:List Int → Nat} {b:List Int} {w:Nat} {s:IS} (h:s.2 ≠ 0):ZcV of b w s = s:=by unfold ZcV; rw [XR h,if_pos h]
theorem Ztb {b:List Int} {kd mode num:Nat} {s:IS} (h:s.2 ≠ 0):(Zo1 b kd mode num s).2.2.2 = s:=by
 unfold Zo1
 rw [ZKu h]
 exact Zt3 h
theorem Zjt {b:List Int} {kd mode:Nat} {s:IS} (h:s.2 ≠ 0):(ZB8 b kd mode s).2.2.2 = s:=by
 have e:=ZFC (b:=b) h
 unfold ZB8
 rw [Ztb (by rw [e]; exact h),e]
theorem Zta {c:Int} {b:List Int} {kd:Nat} {s:IS} (h:s.2 ≠ 0):(ZB7 c b kd s).2.2.2 = s:=by
 have e:=ZKt (c:=c) h
 unfold ZB7
 rw [e,ZnM h]
 exact Zjt h
theorem Zjs {c:Int} {b:List Int} {kd:Nat} {s:IS} (h:s.2 ≠ 0):(Zo0 c b kd s).2.2.2 = s:=by
 unfold Zo0
 rw [ZnM h]
 exact Zta h
theorem ZbL {w n:Nat} (h:n < 2 ^ w) {p:List Bool} (hp:SP p (Zb n w)) (ok:Bool) (code:Int):(mI ok (gI w (p,0)).2 code).2 = 10:=by
 have:=ZaW h hp
 rw [QW (by rw [this]; decide),this]
theorem ZtV:∀ (l:List Nat) (r:List Bool),(∀ x ∈ l,x < 256) → ZwR l.length (l.flatMap (fun x => Zb x 8) ++ r,0) = (r,0)
 | [],r,_ => rfl
 | x :: l,r,h => by
  rw [List.flatMap_cons,List.append_assoc,List.length_cons]
  unfold ZwR
  rw [Zcs (h x (List.mem_cons_self ..))]
  exact ZtV l r fun y hy => h y (List.mem_cons_of_mem _ hy)
theorem ZwF {mode num N:Nat} (hm:mode < 16):Qn mode num N = Zb 32764 15 ++ (Zb 0 1 ++ (Zb (Qp N) 4 ++ (Zb 0 4 ++ (Zb mode 4 ++ (Zb 0 4 ++ ((Z7 num).flatMap (fun x => Zb x 8) ++ Zb (N - 1) (8 * (Qp N - 5)))))))):=by
 have e1:Zb 16382 14 ++ Zb (Qp N) 6 = Zb 32764 15 ++ (Zb 0 1 ++ Zb (Qp N) 4):=by rcases ZdK N with h | h <;> rw [h] <;> decide
 have e2:Zb mode 8 = Zb 0 4 ++ Zb mode 4:=by
  have:=Zxe mode 4 4
  rw [show mode / 2 ^ 4 = 0 from Nat.div_eq_of_lt (by omega)] at this
  exact this
 unfold Qn
 rw [← List.append_assoc,e1,e2]
 simp only [List.append_assoc]
theorem ZLt (mode kd:Nat):(Zb 32764 15 ++ (Zb 0 1 ++ (Zb kd 4 ++ (Zb 0 4 ++ (Zb mode 4 ++ Zb 0 4))))).length = 32:=by simp only [List.length_append,Zi]
theorem ZB9 {c:Int} {mode num N:Nat} (hm:mode < 16) (hmb:ZdN c mode = true) (hnum:num < 2 ^ 31) (h1:1 ≤ N) (h2:N ≤ 512) {Z:List Int} {r:List Bool} (hZ:Zz Z = true) (hB:ZN Z = Qa mode num N ++ r) :
  ZaN c Z (ZN Z,0) = (mode,num,N,(r,0)):=by
 have hk:=ZdK N
 have hclt:=ZjY (n:=num) (by omega)
 have hzl:8 * Z.length = (Qa mode num N).length + r.length:=by rw [← Z4,hB,List.length_append]
 have hpl:=Zcz mode num N
 have hhl:(Qa mode num N).length = (Qn mode num N).length + 8:=by unfold Qa; rw [List.length_append,Zi]
 have hpp:ZJ (Qa mode num N ++ r) = Z:=by rw [← hB]; exact YQ hZ
 have hp8:(Qn mode num N).length % 8 = 0:=by omega
 unfold ZaN
 have hB2:ZN Z = Zb 32764 15 ++ (Zb 0 1 ++ (Zb (Qp N) 4 ++ (Zb 0 4 ++ (Zb mode 4 ++ (Zb 0 4 ++ ((Z7 num).flatMap (fun x => Zb x 8) ++ (Zb (N - 1) (8 * (Qp N - 5)) ++ (Zb (Zeb (ZJ (Qn mode num N))) 8 ++ r)))))))):=by
  rw [hB]
  unfold Qa
  generalize Zeb (ZJ (Qn mode num N)) = c8
  rw [ZwF hm]
  simp only [List.append_assoc]
 rw [hB2,ZPu,ZPv,ZPw hk]
 unfold Zo0
 simp only
 rw [Zzh]
 unfold ZB7
 rw [ZPy hm hmb]
 simp only
 rw [Zzh]
 unfold ZB8
 have hlw:(Zb (N - 1) (8 * (Qp N - 5))).length = 8 * (Qp N - 5):=Zi _ _
 have hnumI:ZdP Z ((Z7 num).flatMap (fun x => Zb x 8) ++ (Zb (N - 1) (8 * (Qp N - 5)) ++ (Zb (Zeb (ZJ (Qn mode num N))) 8 ++ r)),0) = (num,(Zb (N - 1) (8 * (Qp N - 5)) ++ (Zb (Zeb (ZJ (Qn mode num N))) 8 ++ r),0)):=by
  unfold ZdP
  rw [if_neg (by simp)]
  have hpos:ZR Z ((Z7 num).flatMap (fun x => Zb x 8) ++ (Zb (N - 1) (8 * (Qp N - 5)) ++ (Zb (Zeb (ZJ (Qn mode num N))) 8 ++ r))) / 8 = 4:=by
   unfold ZR
   simp only [List.length_append,KP,Zi]
   omega
  have hdrop:Z.drop 4 = QC (Z7 num) ++ ZJ (Zb (N - 1) (8 * (Qp N - 5)) ++ (Zb (Zeb (ZJ (Qn mode num N))) 8 ++ r)):=by
   have hb32:=ZLt mode (Qp N)
   have e:ZN Z = (Zb 32764 15 ++ (Zb 0 1 ++ (Zb (Qp N) 4 ++ (Zb 0 4 ++ (Zb mode 4 ++ Zb 0 4))))) ++ (ZN (QC (Z7 num)) ++ (Zb (N - 1) (8 * (Qp N - 5)) ++ (Zb (Zeb (ZJ (Qn mode num N))) 8 ++ r))):=by
    rw [hB2,ZmS hclt]
    simp only [List.append_assoc]
   have e2:=congrArg ZJ e
   rw [YQ hZ,Y6 (by rw [hb32]),Y6 (A:=ZN (QC (Z7 num))) (by rw [Z4]; omega),YQ (Zi1 hclt)] at e2
   rw [e2,List.drop_append,List.drop_eq_nil_of_le (by rw [Z5,hb32]; omega),List.nil_append,Z5,hb32]
   rfl
  simp only
  rw [hpos,hdrop,Zwm (by omega)]
  simp only
  rw [ZtV _ _ hclt,decide_eq_true (by omega),Xl]
 rw [hnumI]
 unfold Zo1 hd6
 simp only
 rw [if_pos trivial]
 have hw:N - 1 < 2 ^ (8 * (Qp N - 5)):=by
  unfold Qp
  split
  ·show N - 1 < 2 ^ 16; omega
  ·show N - 1 < 2 ^ 8; omega
 rw [Zcs hw]
 simp only
 rw [show N - 1 + 1 = N by omega,decide_eq_true h2,Xl]
 have hc8:=Zxm (WW (Qn mode num N))
 unfold ZcV
 rw [Zcs hc8,if_neg (by simp)]
 have hpos2:ZR Z (Zb (Zeb (ZJ (Qn mode num N))) 8 ++ r) / 8 = (Qn mode num N).length / 8:=by
  unfold ZR
  rw [List.length_append,Zi]
  congr 1
  omega
 have htake:Z.take ((Qn mode num N).length / 8) = ZJ (Qn mode num N):=by
  rw [← hpp]
  unfold Qa
  rw [List.append_assoc,Y6 hp8,List.take_append_of_le_length (by rw [Z5]; omega),List.take_of_length_le (by rw [Z5]; omega)]
 simp only
 rw [hpos2,htake,show (Zeb (ZJ (Qn mode num N)) == Zeb (ZJ (Qn mode num N))) = true from by simp,Xl]
end Go.Sh
namespace Go.Sh
open Go Go.Proofs
theorem ZiX (b:List Int) (j:Nat):(ZN b).take (8 * j) = ZN (b.take j):=by
 by_cases h:j ≤ b.length
 ·have e:ZN b = ZN (b.take j) ++ ZN (b.drop j):=by rw [← Zd8,List.take_append_drop]
  have hl:(ZN (b.take j)).length = 8 * j:=by rw [Z4,List.length_take]; omega
  rw [e,List.take_append_of_le_length (by omega),List.take_of_length_le (by omega)]
 ·rw [List.take_of_length_le (by rw [Z4]; omega),List.take_of_length_le (by omega)]
theorem ZTQ {Z:List Int} {A t:List Bool} {num:Nat} (hZ:Zz Z = true) (hnum:num < 2 ^ 31) (hA:A.length = 32) (hB:ZN Z = A ++ ((Z7 num).flatMap (fun x => Zb x 8) ++ t)) :
  ZdP Z ((Z7 num).flatMap (fun x => Zb x 8) ++ t,0) = (num,(t,0)):=by
 have hclt:=ZjY (n:=num) (by omega)
 have hl:8 * Z.length = 32 + (8 * (Z7 num).length + t.length):=by rw [← Z4,hB,List.length_append,List.length_append,KP,hA]
 unfold ZdP
 rw [if_neg (by simp)]
 have hpos:ZR Z ((Z7 num).flatMap (fun x => Zb x 8) ++ t) / 8 = 4:=by
  unfold ZR
  rw [List.length_append,KP]
  omega
 have hdrop:Z.drop 4 = QC (Z7 num) ++ ZJ t:=by
  have e:ZN Z = A ++ (ZN (QC (Z7 num)) ++ t):=by rw [hB,ZmS hclt]
  have e2:=congrArg ZJ e
  rw [YQ hZ,Y6 (by rw [hA]),Y6 (A:=ZN (QC (Z7 num))) (by rw [Z4]; omega),YQ (Zi1 hclt)] at e2
  rw [e2,List.drop_append,List.drop_eq_nil_of_le (by rw [Z5,hA]; omega),List.nil_append,Z5,hA]
  rfl
 simp only
 rw [hpos,hdrop,Zwm (by omega)]
 simp only
 rw [ZtV _ _ hclt,decide_eq_true (by omega),Xl]
theorem ZPP {Z:List Int} {A q:List Bool} {num:Nat} (hZ:Zz Z = true) (hnum:num < 2 ^ 31) (hA:A.length = 32) (hB:ZN Z = A ++ q) (hq:SP q ((Z7 num).flatMap (fun x => Zb x 8))):(ZdP Z (q,0)).2.2 = 10:=by
 have hclt:=ZjY (n:=num) (by omega)
 have hl:8 * Z.length = 32 + q.length:=by rw [← Z4,hB,List.length_append,hA]
 have hq2:=hq.2
 rw [KP] at hq2
 have hpos:ZR Z q / 8 = 4:=by unfold ZR; omega
 have hdrop:Z.drop 4 = QC ((Z7 num).take (Z.length - 4)):=by
  have e1:ZN (Z.drop 4) = q:=by
   rw [← ZiW,hB,List.drop_append,List.drop_eq_nil_of_le (by omega),List.nil_append,hA]
   rfl
  have e2:q = ZN (QC ((Z7 num).take (Z.length - 4))):=by
   have:=List.prefix_iff_eq_take.1 hq.1
   rw [← ZmS hclt,show q.length = 8 * (Z.length - 4) by omega,ZiX] at this
   rw [this]
   unfold QC
   rw [List.map_take]
  have e3:=congrArg ZJ (e1.trans e2)
  rw [YQ (Zoq hZ 4),YQ (Zi1 fun x hx => hclt x (List.mem_of_mem_take hx))] at e3
  exact e3
 unfold ZdP
 rw [if_neg (by simp)]
 simp only
 rw [hpos,hdrop,ZKo (n:=num) (by omega) (by omega)]
 simp only
 rw [QW (show (10:Int) ≠ 0 by decide)]
 rfl
theorem ZPA {mode num N:Nat} (hm:mode < 16):Qa mode num N = Zb 32764 15 ++ (Zb 0 1 ++ (Zb (Qp N) 4 ++ (Zb 0 4 ++ (Zb mode 4 ++ (Zb 0 4 ++ ((Z7 num).flatMap (fun x => Zb x 8) ++ (Zb (N - 1) (8 * (Qp N - 5)) ++ Zb (Zeb (ZJ (Qn mode num N))) 8))))))):=by
 unfold Qa
 generalize Zeb (ZJ (Qn mode num N)) = c8
 rw [ZwF hm]
 simp only [List.append_assoc]
theorem ZKv {c:Int} {mode num N:Nat} (hm:mode < 16) (hmb:ZdN c mode = true) (hnum:num < 2 ^ 31) (h1:1 ≤ N) (h2:N ≤ 512) {Z:List Int} (hZ:Zz Z = true) (hp:SP (ZN Z) (Qa mode num N)) :
  (ZaN c Z (ZN Z,0)).2.2.2.2 = 10:=by
 have hk:=ZdK N
 rw [ZPA hm] at hp
 have hc8:=Zxm (WW (Qn mode num N))
 generalize Zeb (ZJ (Qn mode num N)) = c8 at hp hc8
 unfold ZaN
 have d:∀ {s:IS},s.2 = 10 → s.2 ≠ 0:=fun h => by rw [h]; decide
 rcases hp.split with g1 | ⟨q1,e1,k1⟩
 ·have e:(hd1 (ZN Z,0)).2 = 10:=ZbL (by omega) g1 _ _
  rw [ZKs (d e),Zwo (d e),Zjs (d e),e]
 rw [e1,ZPu]
 rcases k1.split with g2 | ⟨q2,rfl,k2⟩
 ·have e:(hd2 (q1,0)).2 = 10:=ZbL (by omega) g2 _ _
  rw [Zwo (d e),Zjs (d e),e]
 rw [ZPv]
 rcases k2.split with g3 | ⟨q3,rfl,k3⟩
 ·have e:(hd3 (q2,0)).2.2 = 10:=ZbL (w:=4) (by omega) g3 _ _
  rw [Zjs (d e),e]
 rw [ZPw hk]
 unfold Zo0
 simp only
 rcases k3.split with g4 | ⟨q4,rfl,k4⟩
 ·have e:(hd4 (q3,0)).2 = 10:=ZbL (by omega) g4 _ _
  rw [Zta (d e),e]
 rw [Zzh]
 unfold ZB7
 rcases k4.split with g5 | ⟨q5,rfl,k5⟩
 ·have e:(hd5 c (q4,0)).2.2 = 10:=ZbL (w:=4) (by omega) g5 _ _
  rw [ZnM (d e),Zjt (d e),e]
 rw [ZPy hm hmb]
 simp only
 rcases k5.split with g6 | ⟨q6,rfl,k6⟩
 ·have e:(hd4 (q5,0)).2 = 10:=ZbL (by omega) g6 _ _
  rw [Zjt (d e),e]
 rw [Zzh]
 unfold ZB8
 have hb32:=ZLt mode (Qp N)
 have e32:ZN Z = (Zb 32764 15 ++ (Zb 0 1 ++ (Zb (Qp N) 4 ++ (Zb 0 4 ++ (Zb mode 4 ++ Zb 0 4))))) ++ q6:=by
  rw [e1]
  simp only [List.append_assoc]
 rcases k6.split with g7 | ⟨q7,rfl,k7⟩
 ·have e:=ZPP hZ hnum hb32 e32 g7
  rw [Ztb (d e),e]
 rw [ZTQ hZ hnum hb32 e32]
 unfold Zo1
 have hw:N - 1 < 2 ^ (8 * (Qp N - 5)):=by
  unfold Qp
  split
  ·show N - 1 < 2 ^ 16; omega
  ·show N - 1 < 2 ^ 8; omega
 simp only
 rcases k7.split with g8 | ⟨q8,rfl,k8⟩
 ·have e:(hd6 (Qp N) (q7,0)).2.2 = 10:=by
   unfold hd6
   rw [if_pos rfl]
   exact ZbL hw g8 _ _
  rw [Zt3 (d e),e]
 have e:(hd6 (Qp N) (Zb (N - 1) (8 * (Qp N - 5)) ++ q8,0)).2 = (q8,0):=by
  unfold hd6
  rw [if_pos rfl,Zcs hw]
  simp only
  rw [show N - 1 + 1 = N by omega,decide_eq_true h2,Xl]
 rw [e]
 have e8:=ZaW hc8 k8
 unfold ZcV
 rw [if_pos (by rw [e8]; decide),e8]
end Go.Sh
namespace Go.Sh
open Go Go.Proofs
theorem Zxk {N:Nat} (h1:1 ≤ N) (h2:N ≤ 512):∀ (ls:List (List Int)) (ds:List Int) (acc:List (List Int)),ls.length = ds.length →
  (∀ (i:Nat) (h1:i < ls.length) (h2:i < ds.length),ls[i].length = N ∧ (4 ≤ ds[i].toNat ∧ ds[i].toNat ≤ 25) ∧ ∀ x ∈ ls[i],XG x ds[i].toNat = true) →
  Enc (fun r => ZjX N ds r acc) (acc ++ ls) (Qd ls ds)
 | [],[],acc,_,_ => ⟨fun r => by simp [ZjX,Qd],fun p hp => (SP.no hp).elim⟩
 | l :: ls,d :: ds,acc,hl,h => by
  obtain ⟨a,b,c⟩:=h 0 (by simp) (by simp)
  simp only [List.getElem_cons_zero] at a b c
  have hE:=ZzL (s:=l) (d:=d.toNat) (by omega) (by omega) b c
  rw [a] at hE
  have ih:=Zxk h1 h2 ls ds (acc ++ [l]) (by simpa using hl) (fun i hi1 hi2 => by
   have:=h (i + 1) (by simpa using hi1) (by simpa using hi2)
   simp_all)
  have hcb:Qd (l :: ls) (d :: ds) = Wx l d.toNat ++ Qd ls ds:=by rfl
  rw [hcb]
  constructor
  ·intro r
   have:=ih.ok r
   rw [List.append_assoc]
   unfold ZjX
   rw [hE.ok]
   simp_all
  ·intro p hp
   unfold ZjX
   rcases hp.split with g1 | ⟨q,rfl,g1⟩
   ·have:=hE.tail p g1
    simp_all
   ·rw [hE.ok]
    simp only
    rw [if_neg (by simp)]
    exact ih.tail q g1
theorem ZT9 {m l r:Int} (hm:Zmg m):tgL m (apA m l r) (apB m l r) = l ∧ tgR m (apA m l r) (apB m l r) = r:=by
 unfold tgL tgR apA apB
 omega
theorem ZwY {m:Int} (hm:Zmg m):∀ (L R:List Int),L.length = R.length → Ziv m (Xe m L R) (Xf m L R) = L ∧ Ziw m (Xe m L R) (Xf m L R) = R
 | [],[],_ => ⟨rfl,rfl⟩
 | l :: L,r :: R,h => by
  obtain ⟨e1,e2⟩:=ZwY hm L R (by simpa using h)
  obtain ⟨e3,e4⟩:=ZT9 (l:=l) (r:=r) hm
  constructor
  ·show tgL m (apA m l r) (apB m l r) :: Ziv m (Xe m L R) (Xf m L R) = _
   rw [e1,e3]
  ·show tgR m (apA m l r) (apB m l r) :: Ziw m (Xe m L R) (Xf m L R) = _
   rw [e2,e4]
theorem ZUg {pad:Nat} (hp:pad < 8) {t:List Bool} (ht:t.length % 8 = 0):alS (List.replicate pad false ++ t) = (0,t):=by
 have hl:(List.replicate pad false ++ t).length % 8 = pad:=by grind
 unfold alS
 simp_all
structure Made (c d r n:Int) (ch:List (List Int)) (mode num N:Nat) (ls:List (List Int)) (ds:List Int):Prop where
 hm:mode < 16
 hmb:ZdN c mode = true
 hnum:num < 2 ^ 31
 hn:n = (num:Int)
 h1:1 ≤ N
 h2:N ≤ 512
 els:ls = (Kn ch).1
 eds:ds = Qm c d (mode:Int)
 emode:(Kn ch).2 = (mode:Int)
 eN:(ch.headD []).length = N
 len:ls.length = ds.length
 all:∀ (i:Nat) (h1:i < ls.length) (h2:i < ds.length),ls[i].length = N ∧ (4 ≤ ds[i].toNat ∧ ds[i].toNat ≤ 25) ∧ ∀ x ∈ ls[i],XG x ds[i].toNat = true
 bytes:(Xq c d r n ch).1 = ZJ (Yh (Qa mode num N ++ Qd ls ds))
theorem ZXn {c d r n:Int} {ch:List (List Int)} (h:XL c d r n ch = 0):∃ mode num N ls ds,Made c d r n ch mode num N ls ds:=by
 obtain ⟨hs,hn,hc,hlen,hsg⟩:=KD h
 obtain ⟨hlay,⟨mode,hmode,hmc⟩,_⟩:=ZFv h
 have hN:1 ≤ (ch.headD []).length ∧ (ch.headD []).length ≤ 512:=by
  have:0 < ch.length:=by omega
  match ch,this with
  | l :: _,_ => exact (hlen l (by simp)).2
 refine ⟨mode,n.toNat,(ch.headD []).length,(Kn ch).1,Qm c d mode,?_⟩
 rw [hmode] at hlay
 refine ⟨by omega,?_,by omega,by omega,hN.1,hN.2,rfl,rfl,hmode,rfl,hlay.len,?_,?_⟩
 ·unfold ZdN
  grind
 ·intro i h1 h2
  obtain ⟨a,b,e⟩:=hlay.all i h1 h2
  refine ⟨a,?_,e⟩
  omega
 ·unfold Xq
  rw [if_pos h,hmode,Int.toNat_natCast]
theorem Made.parts {c d r n:Int} {ch:List (List Int)} {mode num N:Nat} {ls:List (List Int)} {ds:List Int} (M:Made c d r n ch mode num N ls ds) :
  ∃ pad crc:Nat,pad < 8 ∧ crc < 2 ^ 16 ∧ ((Qd ls ds).length + pad) % 8 = 0 ∧ (Qa mode num N).length % 8 = 0 ∧ crc = Zca (ZJ (Qa mode num N ++ (Qd ls ds ++ List.replicate pad false))) ∧
   Yh (Qa mode num N ++ Qd ls ds) = Qa mode num N ++ (Qd ls ds ++ (List.replicate pad false ++ Zb crc 16)):=by
 have hh:(Qa mode num N).length % 8 = 0:=by
  have:=Zcz mode num N
  unfold Qa
  rw [List.length_append,Zi]
  omega
 refine ⟨Za2 (Qa mode num N ++ Qd ls ds).length,Zca (ZJ (Yk (Qa mode num N ++ Qd ls ds))),by unfold Za2; omega,ZAi (WW _),?_,hh,?_,?_⟩
 ·unfold Za2
  rw [List.length_append]
  omega
 ·unfold Yk
  rw [List.append_assoc]
 ·unfold Yh Yk
  simp only [List.append_assoc]
theorem ZKM {c d r n:Int} {ch:List (List Int)} (h:XL c d r n ch = 0) {more:List Int} (hm:Zz more = true):ZwH c d r ((Xq c d r n ch).1 ++ more) = ((n,ch),((Xq c d r n ch).1.length:Int),0):=by
 obtain ⟨mode,num,N,ls,ds,M⟩:=ZXn h
 obtain ⟨pad,crc,hp,hcrc,hal,hh,ecrc,eclosed⟩:=M.parts
 obtain ⟨hs,hn,hc,hlen,hsg⟩:=KD h
 have hsh:ZbY c d r = true:=decide_eq_true hs
 rw [M.bytes,eclosed]
 have hclen:(Qa mode num N ++ (Qd ls ds ++ (List.replicate pad false ++ Zb crc 16))).length % 8 = 0:=by
  grind [List.length_append,List.length_replicate,Zi]
 generalize hZ:ZJ (Qa mode num N ++ (Qd ls ds ++ (List.replicate pad false ++ Zb crc 16))) ++ more = Z
 have hZb:Zz Z = true:=by
  rw [← hZ]
  exact List.all_eq_true.2 fun x hx => by
   rcases List.mem_append.1 hx with hx | hx
   ·exact List.all_eq_true.1 (WW _) x hx
   ·exact List.all_eq_true.1 hm x hx
 have hB:ZN Z = Qa mode num N ++ (Qd ls ds ++ (List.replicate pad false ++ (Zb crc 16 ++ ZN more))):=by
  rw [← hZ,Zd8,Zd9 hclen]
  simp only [List.append_assoc]
 have hZl:8 * Z.length = (Qa mode num N).length + ((Qd ls ds).length + (pad + (16 + 8 * more.length))):=by
  grind [List.length_append,List.length_replicate,Zi,Z4]
 unfold ZwH
 rw [if_neg (by rw [hsh]; simp),ZB9 M.hm M.hmb M.hnum M.h1 M.h2 hZb hB]
 unfold Zqq
 simp only
 rw [if_neg (by simp),← M.eds]
 have hch:=(Zxk M.h1 M.h2 ls ds [] M.len M.all).ok (List.replicate pad false ++ (Zb crc 16 ++ ZN more))
 rw [List.nil_append] at hch
 rw [hch]
 simp only
 rw [if_neg (by simp)]
 unfold ZKg
 rw [ZUg hp (by rw [List.length_append,Zi,Z4]; omega)]
 have hsum:ZcV Zca Z 16 (Zb crc 16 ++ ZN more,0) = (ZN more,0):=by
  unfold ZcV
  rw [Zcs hcrc,if_neg (by simp)]
  have hpos:ZR Z (Zb crc 16 ++ ZN more) / 8 = (Qa mode num N ++ (Qd ls ds ++ List.replicate pad false)).length / 8:=by
   unfold ZR
   grind [List.length_append,List.length_replicate,Zi,Z4]
  have htake:Z.take ((Qa mode num N ++ (Qd ls ds ++ List.replicate pad false)).length / 8) = ZJ (Qa mode num N ++ (Qd ls ds ++ List.replicate pad false)):=by
   have hA:(Qa mode num N ++ (Qd ls ds ++ List.replicate pad false)).length % 8 = 0:=by
    grind
   have e:Qa mode num N ++ (Qd ls ds ++ (List.replicate pad false ++ Zb crc 16)) = (Qa mode num N ++ (Qd ls ds ++ List.replicate pad false)) ++ Zb crc 16:=by simp only [List.append_assoc]
   rw [← hZ,e,Y6 hA,List.append_assoc,List.take_append_of_le_length (by rw [Z5]; omega),List.take_of_length_le (by rw [Z5]; omega)]
  simp only
  rw [hpos,htake,← ecrc,show (crc == crc) = true from by simp,Xl]
 rw [hsum]
 simp only
 rw [if_neg (by simp)]
 have hpos2:ZR Z (ZN more) / 8 = (ZJ (Qa mode num N ++ (Qd ls ds ++ (List.replicate pad false ++ Zb crc 16)))).length:=by
  unfold ZR
  grind [List.length_append,List.length_replicate,Zi,Z4]
 have hout:∀ out,out = ch → ZKI c d r num (ZR Z (ZN more)) out = ((n,ch),(((ZJ (Qa mode num N ++ (Qd ls ds ++ (List.replicate pad false ++ Zb crc 16)))).length:Nat):Int),0):=by
  intro out ho
  subst ho
  unfold ZKI
  rw [← M.hn,if_neg (by simpa using h),hpos2]
 match ch,hc,hlen,hsg,M,hout,h with
 | [],hc,_,_,_,_,_ => simp at hc; omega
 | [l],hc,_,_,M,hout,_ =>
  have hc:c = 1:=by simp at hc; omega
  subst hc
  rw [if_neg (by omega)]
  exact hout ls M.els
 | [L,R],hc,hlen,hsg,M,hout,h =>
  have hc:c = 2:=by simp at hc; omega
  subst hc
  rw [if_pos (by omega)]
  have hlr:L.length = R.length:=by
   simp_all
  have hmd:=Zi3 L R
  have hls:ls = [Xe (Qg L R) L R,Xf (Qg L R) L R]:=M.els
  have hmo:(if Qg L R = 0 then 1 else Qg L R) = (mode:Int):=M.emode
  have hmm:(if mode = 1 then 0 else (mode:Int)) = Qg L R:=by
   rcases hmd with h | h | h | h <;> rw [h] at hmo ⊢
   ·omega
   ·omega
   ·omega
   omega
  have hg0:ls.getD 0 [] = Xe (Qg L R) L R:=by rw [hls]; rfl
  have hg1:ls.getD 1 [] = Xf (Qg L R) L R:=by rw [hls]; rfl
  rw [hmm,hg0,hg1]
  show ZCr 2 d r num _ (Qg L R) (Xe (Qg L R) L R) (Xf (Qg L R) L R) = _
  obtain ⟨e1,e2⟩:=ZwY hmd L R hlr
  obtain ⟨l1,l2⟩:=Zg3 (m:=Qg L R) hlr
  have htog:(Wd (Qg L R) (Xe (Qg L R) L R) (Xf (Qg L R) L R)).2 = 0:=by
   unfold Wd
   rw [if_neg (by rw [l1,l2]; simp),e1,e2,if_pos]
   rw [List.all_eq_true]
   intro x hx
   have h1:=hsg L (by simp) x.1 (List.of_mem_zip hx).1
   have h2:=hsg R (by simp) x.2 (List.of_mem_zip hx).2
   have g1:=ZcF (by omega) h1
   have g2:=ZcF (by omega) h2
   rw [Bool.and_eq_true]
   unfold ZbK
   rw [decide_eq_true_eq,decide_eq_true_eq]
   exact ⟨g1,g2⟩
  unfold ZCr
  simp_all
 | _ :: _ :: _ :: _,hc,_,_,_,_,_ => simp at hc; omega
theorem ZP4 {c d r n:Int} {ch:List (List Int)} (h:XL c d r n ch = 0) {i:Nat} (hi:i < (Xq c d r n ch).1.length):(ZwH c d r ((Xq c d r n ch).1.take i)).2.2 = 10:=by
 obtain ⟨mode,num,N,ls,ds,M⟩:=ZXn h
 obtain ⟨pad,crc,hp,hcrc,hal,hh,ecrc,eclosed⟩:=M.parts
 obtain ⟨hs,hn,hc,hlen,hsg⟩:=KD h
 have hsh:ZbY c d r = true:=decide_eq_true hs
 rw [M.bytes,eclosed] at hi ⊢
 have hclen:(Qa mode num N ++ (Qd ls ds ++ (List.replicate pad false ++ Zb crc 16))).length % 8 = 0:=by
  grind [List.length_append,List.length_replicate,Zi]
 have hZb:Zz ((ZJ (Qa mode num N ++ (Qd ls ds ++ (List.replicate pad false ++ Zb crc 16)))).take i) = true:=Zad (WW _) i
 have hsp:SP (ZN ((ZJ (Qa mode num N ++ (Qd ls ds ++ (List.replicate pad false ++ Zb crc 16)))).take i)) (Qa mode num N ++ (Qd ls ds ++ (List.replicate pad false ++ Zb crc 16))):=by
  rw [Z5] at hi
  rw [← ZiX,Zd9 hclen]
  refine ⟨List.take_prefix _ _,?_⟩
  rw [List.length_take]
  omega
 generalize (ZJ (Qa mode num N ++ (Qd ls ds ++ (List.replicate pad false ++ Zb crc 16)))).take i = Z at hZb hsp
 have hZ8:(ZN Z).length % 8 = 0:=by rw [Z4]; omega
 unfold ZwH
 rw [if_neg (by rw [hsh]; simp)]
 rcases hsp.split with g1 | ⟨q1,e1,g1⟩
 ·have e:=ZKv M.hm M.hmb M.hnum M.h1 M.h2 hZb g1
  unfold Zqq
  simp_all
 ·rw [ZB9 M.hm M.hmb M.hnum M.h1 M.h2 hZb e1]
  rw [e1,List.length_append] at hZ8
  unfold Zqq
  simp only
  rw [if_neg (by simp),← M.eds]
  have hE:=Zxk M.h1 M.h2 ls ds [] M.len M.all
  rw [List.nil_append] at hE
  rcases g1.split with g2 | ⟨q2,rfl,g2⟩
  ·have e:=hE.tail q1 g2
   simp_all
  ·rw [hE.ok q2]
   simp only
   rw [if_neg (by simp)]
   rw [List.length_append] at hZ8
   unfold ZKg
   rcases g2.split with g3 | ⟨q3,rfl,g3⟩
   ·have:=g3.2
    grind
   ·rw [List.length_append,List.length_replicate] at hZ8
    rw [ZUg hp (by omega)]
    have e:=ZaW hcrc g3
    have e2:(ZcV Zca Z 16 (q3,0)).2 = 10:=by
     unfold ZcV
     rw [if_pos (by rw [e]; decide),e]
    simp_all
end Go.Sh
namespace Go.Sh
open Go Go.Proofs
abbrev IS2:=List Bool × Bool
def gG (w:Nat) (s:IS2):Nat × IS2:=((ZT w s.1).1,((ZT w s.1).2.2,s.2 || (ZT w s.1).2.1 != 0))
def ZCD:Nat → IS2 → IS2
 | 0,s => s
 | n + 1,s => ZCD n (gG 8 s).2
def ZV:Nat → IS2 → List Nat × IS2
 | 0,s => ([],s)
 | n + 1,s => ((gG 8 s).1 :: (ZV n (gG 8 s).2).1,(ZV n (gG 8 s).2).2)
def ZaO:List Nat → Nat
 | [] => 0
 | x :: l => x + 256 * ZaO l
def Qz (most:Nat) (s:IS2):Nat × IS2 :=
 if most < ZaO (ZV 4 s).1 then (0,((ZV 4 s).2.1,true)) else (ZaO (ZV 4 s).1,(ZV 4 s).2)
def XX:Nat → IS2 → List ByteArray × IS2
 | 0,s => ([],s)
 | n + 1,s => (Ziu (ZV (Qz 12 s).1 (Qz 12 s).2).1 :: (XX n (ZV (Qz 12 s).1 (Qz 12 s).2).2).1,(XX n (ZV (Qz 12 s).1 (Qz 12 s).2).2).2)
def inS (b:List Int) (s:IS2):(List Int × Int × Unit) × Bool × Unit:=(Ku b s.1,s.2,())
theorem Zzf {b:List Int} {s:IS2} (h:Zl b s.1) (w:Nat):Zl b (gG w s).2.1:=Qk h w
theorem Zb7 {b:List Int}:∀ (n:Nat) {s:IS2},Zl b s.1 → Zl b (ZV n s).2.1
 | 0,_,h => h
 | n + 1,s,h => Zb7 n (Zzf h 8)
theorem Zs5 {b:List Int} (m:Nat) {s:IS2} (h:Zl b s.1):Zl b (Qz m s).2.1:=by
 unfold Qz
 have:=Zb7 4 h
 generalize ZV 4 s = q at *
 split <;> exact this
theorem Zi0:∀ (n:Nat) (s:IS2),(ZV n s).1.length = n
 | 0,_ => rfl
 | n + 1,s => by simp [ZV,Zi0 n]
theorem ZAb:∀ (n:Nat) (s:IS2),Yf (ZV n s).1
 | 0,_ => by intro x hx; cases hx
 | n + 1,s => by
  intro x hx
  simp only [ZV,List.mem_cons] at hx
  rcases hx with rfl | hx
  ·exact ZaX 8 s.1
  ·exact ZAb n _ x hx
theorem ZB0 (m:Nat) (s:IS2):(Qz m s).1 ≤ m:=by
 unfold Qz
 split
 ·exact Nat.zero_le _
 ·omega
section prog
variable {k:Nat} {b:List Int}
theorem ZeP (hb:Zz b = true) (hn:b.length < 268435456) (hk:100 < k) {s:IS2} (hs:Zl b s.1) {w:Nat} (hw:w ≤ 32):XB k (inS b s,(w:Int),()) = some (((gG w s).1:Int),inS b (gG w s).2,()):=by
 show ZeO k _ = _
 obtain ⟨r,bd⟩:=s
 simp only [ZeO,inS]
 refine (Zm (X1 k hb (by omega) hs hw hk) _).trans ?_
 unfold gG
 cases bd with
 | true => rfl
 | false => simp only [cond_false,Bool.false_or]
theorem ZGK (hb:Zz b = true) (hn:b.length < 268435456) (hk:100 < k) (N:Nat) (hN:N < 1000000):∀ (n i fuel:Nat) (s:IS2),i + n = N → n < fuel → Zl b s.1 →
  Zn (fun L1 => ZbI k L1) fuel ((N:Int),(i:Int),s.2,(Ku b s.1).1,(Ku b s.1).2.1) = some ((),inS b (ZCD n s),())
 | 0,i,fuel + 1,s,h1,h2,h3 => by
  rw [Ze]
  simp only [ZbI]
  rw [Zo (by omega)]
  rfl
 | n + 1,i,fuel + 1,s,h1,h2,h3 => by
  rw [Ze]
  simp only [ZbI]
  rw [Zc (by omega)]
  refine Eq.trans (congrArg (fun x => Option.bind x _) (ZeP hb hn hk h3 (w:=8) (by omega))) ?_
  simp only [Z3]
  rw [ZC1 (by omega)]
  exact ZGK hb hn hk N hN n (i + 1) fuel (gG 8 s).2 (by omega) (by omega) (Zzf h3 8)
 | 0,_,0,_,_,h2,_ => absurd h2 (Nat.lt_irrefl _)
 | n + 1,_,0,_,_,h2,_ => absurd h2 (Nat.not_lt_zero _)
theorem ZE0 (hb:Zz b = true) (hn:b.length < 268435456) (hk:100 < k) {N:Nat} (hN:N < 1000000) (hkn:N < k) {s:IS2} (hs:Zl b s.1):YH k (inS b s,(N:Int),()) = some ((),inS b (ZCD N s),()) :=
 ZGK hb hn hk N hN N 0 k s (by omega) hkn hs
theorem Zmh (l:List Nat) (x:Nat):ZaO (l ++ [x]) = ZaO l + 256 ^ l.length * x:=by
 induction l with
 | nil => simp [ZaO]
 | cons y l ih =>
  simp only [List.cons_append,ZaO,ih,List.length_cons,Nat.pow_succ]
  rw [Nat.mul_add,Nat.add_assoc]
  congr 2
  rw [← Nat.mul_assoc,Nat.mul_comm 256]
theorem ZCh:∀ {l:List Nat},Yf l → ZaO l < 256 ^ l.length
 | [],_ => by simp [ZaO]
 | x :: l,h => by
  have h1:=h x (List.mem_cons_self ..)
  have h2:=ZCh fun y hy => h y (List.mem_cons_of_mem x hy)
  simp only [ZaO,List.length_cons,Nat.pow_succ]
  omega
theorem ZPV {a x i:Nat} (ha:a < 256 ^ i) (hx:x < 256) (hi:i < 4):IntKind.i64.wrap (Int.ofNat (BitVec.ofInt 64 (a:Int) ||| BitVec.ofInt 64 (IntKind.i64.wrap ((x:Int) * (2:Int) ^ min (((8 * i:Nat):Int)).toNat 64))).toNat) = ((a + 256 ^ i * x:Nat):Int):=by
 have e1:min (((8 * i:Nat):Int)).toNat 64 = 8 * i:=by omega
 have e2:(256:Nat) ^ i = 2 ^ (8 * i):=by rw [Nat.pow_mul]
 have h24:2 ^ (8 * i) ≤ 2 ^ 24:=Nat.pow_le_pow_right (by omega) (by omega)
 have hm:x * 2 ^ (8 * i) ≤ 255 * 2 ^ 24:=Nat.mul_le_mul (by omega) h24
 rw [e2] at ha ⊢
 rw [e1,show (x:Int) * (2:Int) ^ (8 * i) = ((x * 2 ^ (8 * i):Nat):Int) by simp,ZCb (by omega),BitVec.toNat_or,ZLw (by omega),ZLw (by omega),Ztx ha]
 rw [show Int.ofNat (a + x * 2 ^ (8 * i)) = ((a + x * 2 ^ (8 * i):Nat):Int) from rfl,ZCb (by omega),Nat.mul_comm x]
theorem Zop:∀ (n:Nat) (s:IS2),ZV (n + 1) s = ((ZV n s).1 ++ [(gG 8 (ZV n s).2).1],(gG 8 (ZV n s).2).2)
 | 0,s => rfl
 | n + 1,s => by
  conv => lhs; rw [ZV]
  rw [Zop n]
  rfl
theorem ZGN (hb:Zz b = true) (hn:b.length < 268435456) (hk:100 < k) (most:Nat) {s:IS2} (hs:Zl b s.1):∀ (n i fuel:Nat),i + n = 4 → n < fuel →
  Zn (fun L1 => ZbJ k L1) fuel (((8 * i:Nat):Int),((ZaO (ZV i s).1:Nat):Int),(most:Int),(ZV i s).2.2,(Ku b (ZV i s).2.1).1,(Ku b (ZV i s).2.1).2.1) = some (((Qz most s).1:Int),inS b (Qz most s).2,())
 | 0,i,fuel + 1,h1,h2 => by
  obtain rfl:i = 4:=by omega
  rw [Ze]
  simp only [ZbJ]
  rw [Zo (by omega)]
  unfold Qz
  by_cases h:most < ZaO (ZV 4 s).1
  ·rw [Zc (by omega),if_pos h]; rfl
  ·rw [Zo (by omega),if_neg h]; rfl
 | n + 1,i,fuel + 1,h1,h2 => by
  rw [Ze]
  simp only [ZbJ]
  rw [Zc (by omega)]
  refine Eq.trans (congrArg (fun x => Option.bind x _) (ZeP hb hn hk (Zb7 i hs) (w:=8) (by omega))) ?_
  simp only [Z3]
  have hl:=ZCh (ZAb i s)
  rw [Zi0] at hl
  rw [Zc (by omega),show IntKind.i64.wrap (((8 * i:Nat):Int) + 8) = ((8 * (i + 1):Nat):Int) by rw [Qe (by omega)]; omega]
  have hx:(gG 8 (ZV i s).2).1 < 256:=ZaX 8 _
  rw [ZPV hl hx (by omega)]
  have ih:=ZGN hb hn hk most hs n (i + 1) fuel (by omega) (by omega)
  rw [Zop,Zmh,Zi0] at ih
  exact ih
 | 0,_,0,_,h2 => absurd h2 (Nat.lt_irrefl _)
 | n + 1,_,0,_,h2 => absurd h2 (Nat.not_lt_zero _)
theorem ZsC (hb:Zz b = true) (hn:b.length < 268435456) (hk:100 < k) (most:Nat) {s:IS2} (hs:Zl b s.1):Zcr k (inS b s,(most:Int),()) = some (((Qz most s).1:Int),inS b (Qz most s).2,()) :=
 ZGN hb hn hk most hs 4 0 k rfl (by omega)
end prog
end Go.Sh
namespace Go.Sh
open Go Go.Proofs
theorem Wm {b:List Int} {x r:List Bool} (h:Zl b (x ++ r)):Zl b r:=(List.suffix_append x r).trans h
theorem ZUP {n w:Nat} (h:n < 2 ^ w) (r:List Bool):gG w (Zb n w ++ r,false) = (n,(r,false)):=by
 have:=(Kk h).ok r
 unfold gG
 simp only
 rw [this]
 rfl
theorem ZXj {w:Nat} {x r:List Bool} (h:x.length = w):(gG w (x ++ r,false)).2 = (r,false):=by
 unfold gG ZT
 simp only
 rw [if_pos (by rw [Q4]; omega),List.drop_append,List.drop_eq_nil_of_le (by omega),h,Nat.sub_self,List.nil_append,List.drop_zero]
 rfl
theorem ZCE:∀ (n:Nat) {x:List Bool} (r:List Bool),x.length = 8 * n → ZCD n (x ++ r,false) = (r,false)
 | 0,x,r,h => by
  have:x = []:=List.eq_nil_of_length_eq_zero h
  subst this
  rfl
 | n + 1,x,r,h => by
  unfold ZCD
  conv => lhs; rw [← List.take_append_drop 8 x,List.append_assoc]
  rw [ZXj (by rw [List.length_take]; omega)]
  exact ZCE n r (by rw [List.length_drop]; omega)
theorem ZmV:∀ {l:List Nat} (r:List Bool),Yf l → ZV l.length (XK l ++ r,false) = (l,(r,false))
 | [],r,_ => rfl
 | x :: l,r,h => by
  have h1:=h x (List.mem_cons_self ..)
  have ih:=ZmV (l:=l) r fun y hy => h y (List.mem_cons_of_mem x hy)
  have e:XK (x :: l) ++ r = Zb x 8 ++ (XK l ++ r):=by simp [XK]
  rw [e,List.length_cons]
  unfold ZV
  rw [ZUP h1,ih]
theorem Zwt:∀ (i n:Nat),ZaO (leN n i) = n % 256 ^ i
 | 0,n => by simp [leN,ZaO,Nat.mod_one]
 | i + 1,n => by
  have e:leN n (i + 1) = leN n i ++ [n / 2 ^ (8 * i) % 256]:=by simp [leN,List.range_succ]
  rw [e,Zmh,Zwt i n,Ww,Nat.pow_succ,Nat.mod_mul,show (256:Nat) ^ i = 2 ^ (8 * i) by rw [Nat.pow_mul]]
theorem ZYF (n i:Nat):Yf (leN n i):=by
 intro x hx
 obtain ⟨j,_,rfl⟩:=List.mem_map.1 hx
 exact Nat.mod_lt _ (by omega)
theorem ZFU (s:ByteArray):Ziu (ZbR s) = s:=by
 apply ZDm
 simp only [Ziu,ZbR,Zv,List.map_map]
 conv => rhs; rw [← List.map_id s.data.toList]
 apply List.map_congr_left
 intro x _
 simp
theorem ZB2 {n m:Nat} (h:n ≤ m) (hm:m < 1000) (r:List Bool):Qz m (XK (leN n 4) ++ r,false) = (n,(r,false)):=by
 have:=ZmV (l:=leN n 4) r (ZYF n 4)
 rw [Ww] at this
 unfold Qz
 rw [this]
 simp only
 rw [Zwt,Nat.mod_eq_of_lt (by omega),if_neg (by omega)]
theorem ZCM:∀ {l:List ByteArray} (r:List Bool),(∀ t ∈ l,t.size ≤ 12) → XX l.length (ZaE l ++ r,false) = (l,(r,false))
 | [],r,_ => rfl
 | x :: l,r,h => by
  have h1:=h x (List.mem_cons_self ..)
  have ih:=ZCM (l:=l) r fun y hy => h y (List.mem_cons_of_mem x hy)
  have e:ZaE (x :: l) ++ r = XK (leN x.size 4) ++ (XK (ZbR x) ++ (ZaE l ++ r)):=by simp [ZaE]
  rw [e,List.length_cons]
  unfold XX
  have hb:=ZmV (l:=ZbR x) (ZaE l ++ r) (ZCm x)
  rw [ZdO] at hb
  rw [ZB2 h1 (by omega)]
  simp only
  rw [hb]
  simp only
  rw [ih,ZFU]
theorem ZB3 {w:Nat} {s:IS2} (h:s.2 = true):(gG w s).2.2 = true:=by unfold gG; simp [h]
theorem ZXk {w:Nat} {s:IS2} (h:(gG w s).2.2 = false) (t:List Bool):gG w (s.1 ++ t,s.2) = ((gG w s).1,((gG w s).2.1 ++ t,(gG w s).2.2)):=by
 obtain ⟨r,bd⟩:=s
 cases bd with
 | true => rw [ZB3 rfl] at h; cases h
 | false =>
  unfold gG ZT at *
  simp only [Bool.false_or] at *
  by_cases hw:w ≤ r.length
  ·rw [if_pos hw,if_pos (by rw [Q4]; omega),List.take_append_of_le_length hw,List.drop_append_of_le_length hw]
  ·rw [if_neg hw] at h; cases h
theorem ZXl {w:Nat} {s:IS2} (h:(gG w s).2.2 = false):s.2 = false:=by
 cases hs:s.2 with
 | false => rfl
 | true => rw [ZB3 hs] at h; cases h
theorem Zbg:∀ (n:Nat) {s:IS2},(ZV n s).2.2 = false → s.2 = false
 | 0,_,h => h
 | n + 1,s,h => ZXl (Zbg n h)
theorem ZiZ:∀ (n:Nat) {s:IS2},(ZV n s).2.2 = false → ∀ t,ZV n (s.1 ++ t,s.2) = ((ZV n s).1,((ZV n s).2.1 ++ t,(ZV n s).2.2))
 | 0,_,_,t => rfl
 | n + 1,s,h,t => by
  have h:(ZV n (gG 8 s).2).2.2 = false:=h
  have h1:=Zbg n h
  have e:ZV (n + 1) s = ((gG 8 s).1 :: (ZV n (gG 8 s).2).1,(ZV n (gG 8 s).2).2):=rfl
  rw [e]
  conv => lhs; rw [ZV]
  rw [ZXk h1 t]
  simp only
  rw [ZiZ n h t]
theorem ZB1 {m:Nat} {s:IS2} (h:(Qz m s).2.2 = false):¬ m < ZaO (ZV 4 s).1 ∧ (ZV 4 s).2.2 = false:=by
 unfold Qz at h
 generalize ZV 4 s = q at *
 by_cases hm:m < ZaO q.1
 ·rw [if_pos hm] at h; cases h
 ·rw [if_neg hm] at h; exact ⟨hm,h⟩
theorem ZKm {m:Nat} {s:IS2} (h:(Qz m s).2.2 = false):s.2 = false:=Zbg 4 (ZB1 h).2
theorem Zwk {m:Nat} {s:IS2} (h:(Qz m s).2.2 = false) (t:List Bool):Qz m (s.1 ++ t,s.2) = ((Qz m s).1,((Qz m s).2.1 ++ t,(Qz m s).2.2)):=by
 obtain ⟨h1,h2⟩:=ZB1 h
 have:=ZiZ 4 h2 t
 unfold Qz
 rw [this]
 generalize ZV 4 s = q at *
 simp only
 rw [if_neg h1,if_neg h1]
theorem Zog:∀ (n:Nat) {s:IS2},(XX n s).2.2 = false → s.2 = false
 | 0,_,h => h
 | n + 1,s,h => ZKm (Zbg _ (Zog n h))
theorem ZwU:∀ (n:Nat) {s:IS2},(XX n s).2.2 = false → ∀ t,XX n (s.1 ++ t,s.2) = ((XX n s).1,((XX n s).2.1 ++ t,(XX n s).2.2))
 | 0,_,_,t => rfl
 | n + 1,s,h,t => by
  have h:(XX n (ZV (Qz 12 s).1 (Qz 12 s).2).2).2.2 = false:=h
  have h1:=Zog n h
  have h2:=Zbg _ h1
  have e:XX (n + 1) s = (Ziu (ZV (Qz 12 s).1 (Qz 12 s).2).1 :: (XX n (ZV (Qz 12 s).1 (Qz 12 s).2).2).1,(XX n (ZV (Qz 12 s).1 (Qz 12 s).2).2).2):=rfl
  rw [e]
  conv => lhs; rw [XX]
  rw [Zwk h2 t]
  simp only
  rw [ZiZ _ h1 t]
  simp only
  rw [ZwU n h t]
def ZgW (s:IS2):List ByteArray × IS2:=XX (Qz 8 s).1 (Qz 8 s).2
theorem ZCN {l:List ByteArray} (r:List Bool) (h8:l.length ≤ 8) (h:∀ t ∈ l,t.size ≤ 12):ZgW (XK (leN l.length 4) ++ ZaE l ++ r,false) = (l,(r,false)):=by
 unfold ZgW
 rw [List.append_assoc,ZB2 h8 (by omega)]
 exact ZCM r h
theorem ZKW {l:List ByteArray} {q t:List Bool} (h8:l.length ≤ 8) (h:∀ t ∈ l,t.size ≤ 12) (ht:t ≠ []) (hq:XK (leN l.length 4) ++ ZaE l = q ++ t):(ZgW (q,false)).2.2 = true:=by
 have full:=ZCN (l:=l) [] h8 h
 rw [List.append_nil,hq] at full
 have e2:(Qz 8 (q,false)).2.2 = false → Qz 8 (q ++ t,false) = _:=fun h1 => Zwk (s:=(q,false)) h1 t
 unfold ZgW at *
 generalize Qz 8 (q,false) = F at *
 generalize Qz 8 (q ++ t,false) = G at *
 cases hb:(XX F.1 F.2).2.2 with
 | true => rfl
 | false =>
  have h1:=Zog _ hb
  have e:=ZwU _ hb t
  rw [e2 h1] at full
  simp only at full
  rw [e] at full
  have:=congrArg (fun x => x.2.1) full
  simp only at this
  exact absurd (List.append_eq_nil_iff.1 this).2 ht
end Go.Sh
namespace Go.Sh
open Go Go.Proofs
section prog
variable {k:Nat} {b:List Int}
abbrev ZYU:=((((Int × Int × Int × Unit) × List ByteArray × List (List Int) × Unit) × Int × Int × Unit) × ((List Int × Int × Unit) × Bool × Unit) × Unit)
abbrev L49:=Int × Int × Int × Int × Bool × List Int × Int × Int × Int × Int × List ByteArray × Int × Int × Int → Option ZYU
theorem ZGC (hb:Zz b = true) (hn:b.length < 268435456) (hk:100 < k) (L1:L49) (N:Nat) (hN:N < 1000) (i1 n1 sz n c d r:Int) (tags:List ByteArray) (htl:tags.length < 1000):∀ (m i fuel:Nat) (s:IS2) (acc:List Nat),i + m = N → acc.length = i → m < fuel → Zl b s.1 →
  Zn (fun L2 => KN k L1 L2) fuel ((N:Int),(i:Int),i1,n1,sz,n,s.2,b,((ZR b s.1:Nat):Int),Zv acc,c,d,r,tags,0,0,0) =
   L1 (n1,IntKind.i64.wrap (i1 + 1),sz,n,(ZV m s).2.2,b,((ZR b (ZV m s).2.1:Nat):Int),c,d,r,tags ++ [Ziu (acc ++ (ZV m s).1)],0,0,0)
 | 0,i,fuel + 1,s,acc,h1,h2,h3,h4 => by
  rw [Ze]
  simp only [KN]
  rw [Zo (by omega),Zc (by simp; omega)]
  simp only [ZV,List.append_nil,Ziu]
 | m + 1,i,fuel + 1,s,acc,h1,h2,h3,h4 => by
  rw [Ze]
  simp only [KN]
  rw [Zc (by omega)]
  refine Eq.trans (congrArg (fun x => Option.bind x _) (ZeP hb hn hk h4 (w:=8) (by omega))) ?_
  simp only [Z3]
  have hx:(gG 8 s).1 < 256:=ZaX 8 s.1
  rw [wu8 (n:=((gG 8 s).1:Int)) (by omega),show (((gG 8 s).1:Nat):Int) = Int.ofNat (gG 8 s).1 from rfl,Zc (by simp [Zv]; omega),ZC1 (by omega),show Zv acc ++ [Int.ofNat (gG 8 s).1] = Zv (acc ++ [(gG 8 s).1]) by simp [Zv]]
  refine Eq.trans (ZGC hb hn hk L1 N hN i1 n1 sz n c d r tags htl m (i + 1) fuel (gG 8 s).2 (acc ++ [(gG 8 s).1]) (by omega) (by simp; omega) (by omega) (Zzf h4 8)) ?_
  simp only [ZV,List.append_assoc,List.singleton_append]
 | 0,_,0,_,_,_,_,h3,_ => absurd h3 (Nat.lt_irrefl _)
 | m + 1,_,0,_,_,_,_,h3,_ => absurd h3 (Nat.not_lt_zero _)
theorem ZSQ (hb:Zz b = true) (hn:b.length < 268435456) (hk:100 < k) (sz n c d r:Int) (N:Nat) (hN:N < 1000):∀ (m i fuel:Nat) (s:IS2) (acc:List ByteArray),i + m = N → acc.length = i → m < fuel → Zl b s.1 →
  Zn (fun L1 => KM k (Zf2 k L1) L1) fuel ((N:Int),(i:Int),sz,n,s.2,b,((ZR b s.1:Nat):Int),c,d,r,acc,0,0,0) =
   some ((((c,d,r,()),acc ++ (XX m s).1,[],()),sz,n,()),inS b (XX m s).2,()):=by
 intro m
 induction m with
 | zero =>
  intro i fuel s acc h1 h2 h3 h4
  obtain ⟨fuel,rfl⟩:∃ f,fuel = f + 1:=⟨fuel - 1,by omega⟩
  rw [Ze]
  simp only [KM]
  rw [Zo (by omega)]
  simp only [XX,List.append_nil]
  rfl
 | succ m ih =>
  intro i fuel s acc h1 h2 h3 h4
  obtain ⟨fuel,rfl⟩:∃ f,fuel = f + 1:=⟨fuel - 1,by omega⟩
  rw [Ze]
  simp only [KM]
  rw [Zc (by omega)]
  refine Eq.trans (congrArg (fun x => Option.bind x _) (ZsC hb hn hk 12 h4)) ?_
  simp only [Z3]
  have hle:=ZB0 12 s
  have hr:=Zs5 12 h4
  rw [show XX (m + 1) s = (Ziu (ZV (Qz 12 s).1 (Qz 12 s).2).1 :: (XX m (ZV (Qz 12 s).1 (Qz 12 s).2).2).1,(XX m (ZV (Qz 12 s).1 (Qz 12 s).2).2).2) from rfl]
  generalize Qz 12 s = F at *
  obtain ⟨F1,F2⟩:=F
  simp only at *
  have key:=ZGC hb hn hk (Zn (fun L1 => KM k (Zf2 k L1) L1) fuel) F1 (by omega) (i:Int) (N:Int) sz n c d r acc (by omega) F1 0 k F2 [] (by omega) rfl (by omega) hr
  refine Eq.trans key ?_
  have hq:=Zb7 F1 hr
  generalize ZV F1 F2 = Q at *
  obtain ⟨Q1,Q2⟩:=Q
  simp only at *
  rw [ZC1 (by omega)]
  refine Eq.trans (ih (i + 1) fuel Q2 (acc ++ [Ziu Q1]) (by omega) (by simp; omega) (by omega) hq) ?_
  simp only [List.append_assoc,List.singleton_append]
theorem ZnL {α:Type} (hb:Zz b = true) (hn:b.length < 268435456) (hk:100 < k) {v w:Nat} {r:List Bool} (hs:Zl b (Zb v w ++ r)) (hv:v < 2 ^ w) (hw:w ≤ 32) (K:Int × ((List Int × Int × Unit) × Bool × Unit) × Unit → Option α) :
  (XB k (inS b (Zb v w ++ r,false),(w:Int),())).bind K = K ((v:Int),inS b (r,false),()):=by
 rw [ZeP hb hn hk hs hw,ZUP hv]
 rfl
theorem Zmz {α:Type} (hb:Zz b = true) (hn:b.length < 268435456) (hk:100 < k) {N:Nat} {x r:List Bool} (hN:N < 1000000) (hkn:N < k) (hs:Zl b (x ++ r)) (hx:x.length = 8 * N) (K:Unit × ((List Int × Int × Unit) × Bool × Unit) × Unit → Option α) :
  (YH k (inS b (x ++ r,false),(N:Int),())).bind K = K ((),inS b (r,false),()):=by
 rw [ZE0 hb hn hk hN hkn hs,ZCE N r hx]
 rfl
end prog
end Go.Sh
namespace Go.Sh
open Go Go.Proofs
noncomputable def Kj (d r:Nat) (tags:List ByteArray) (ch:List (List Int)) (size:Nat) (lens:List Nat):List Bool :=
 ZoH ch.length d r size (ch.getD 0 []).length (Zto lens) (Ztm lens) ++ XK (Zt4 d ch) ++ YS size (ch.getD 0 []).length lens ++ (KB 1 4 (15 + Zt6 tags) ++ XK (leN 7 4) ++ XK Zd3)
theorem Zb4 (d r:Nat) (tags:List ByteArray) (ch:List (List Int)) (size:Nat) (lens:List Nat):ZaH d r tags ch size lens = Kj d r tags ch size lens ++ (XK (leN tags.length 4) ++ ZaE tags):=by
 simp only [ZaH,Kj,Zae,List.append_assoc]
theorem ZHT {size n:Nat} {lens:List Nat} (h:1 < lens.length):(YS size n lens).length = 8 * (4 + 18 * lens.length):=by
 unfold YS
 rw [if_pos h,Q4,Wl,Zt5]; omega
theorem ZBh {k:Nat} (hk:16777216 ≤ k) {b:List Int} (hb:Zz b = true) (hn:b.length < 268435456) {d r:Nat} {tags:List ByteArray} {ch:List (List Int)} (h0:chk (ch.length:Int) (d:Int) (r:Int) tags ch = 0) {size:Nat} {lens:List Nat} (hL:Lens size (ch.getD 0 []).length lens) (hl:lens.length = QB (ch.getD 0 []).length size)
  {q:List Bool} (hs:Zl b (Kj d r tags ch size lens ++ q)) :
  Zk4 k (inS b (Kj d r tags ch size lens ++ q,false),()) = some (((((ch.length:Int),(d:Int),(r:Int),()),(ZgW (q,false)).1,[],()),(size:Int),((ch.getD 0 []).length:Int),()),inS b (ZgW (q,false)).2,()):=by
 obtain ⟨hg,hshape,-,htv,ht8⟩:=Wa h0
 have hsh:=of_decide_eq_true hshape
 have hsz:=hL.sz
 have hn4:=hg.n4
 have hll:=hL.len
 have e:Kj d r tags ch size lens ++ q = (XK ZeZ ++ KB 0 0 34) ++ (Zb size 16 ++ ((Zb size 16 ++ Zb (Zto lens) 24 ++ Zb (Ztm lens) 24) ++ (Zb r 20 ++ (Zb (ch.length - 1) 3 ++ (Zb (d - 1) 5 ++ (Zb 0 4 ++ (Zb (ch.getD 0 []).length 32 ++ (XK (Zt4 d ch) ++ (YS size (ch.getD 0 []).length lens ++ ((KB 1 4 (15 + Zt6 tags) ++ XK (leN 7 4) ++ XK Zd3) ++ q)))))))))):=by
  simp only [Kj,ZoH,List.append_assoc]
 rw [e] at hs ⊢
 generalize hN:(ch.getD 0 []).length = n at *
 have hk1:100 < k:=by omega
 have s1:=Wm hs
 have s2:=Wm s1
 have s3:=Wm s2
 have s4:=Wm s3
 have s5:=Wm s4
 have s6:=Wm s5
 have s7:=Wm s6
 have s8:=Wm s7
 have s9:=Wm s8
 have s10:=Wm s9
 have s11:=Wm s10
 show ZeF k _ _ = _
 simp only [ZeF,inS]
 refine Eq.trans (Zmz hb hn hk1 (N:=8) (by omega) (by omega) hs (by rw [Q4,QU,Wl]; rfl) _) ?_
 refine Eq.trans (ZnL hb hn hk1 (w:=16) s1 (by omega) (by omega) _) ?_
 refine Eq.trans (Zmz hb hn hk1 (N:=8) (by omega) (by omega) s2 (by simp only [Q4,Zi]) _) ?_
 refine Eq.trans (ZnL hb hn hk1 (w:=20) s3 (by omega) (by omega) _) ?_
 refine Eq.trans (ZnL hb hn hk1 (w:=3) s4 (by omega) (by omega) _) ?_
 refine Eq.trans (ZnL hb hn hk1 (w:=5) s5 (by omega) (by omega) _) ?_
 refine Eq.trans (ZnL hb hn hk1 (w:=4) s6 (by omega) (by omega) _) ?_
 refine Eq.trans (ZnL hb hn hk1 (w:=32) s7 (by omega) (by omega) _) ?_
 refine Eq.trans (Zmz hb hn hk1 (N:=16) (by omega) (by omega) s8 (by rw [QU,ZbZ]) _) ?_
 simp only [inS,cond_false]
 have e1:IntKind.i64.wrap (((ch.length - 1:Nat):Int) + 1) = (ch.length:Int):=by have:=hg.c1; rw [Qe (by omega)]; omega
 have e2:IntKind.i64.wrap (((d - 1:Nat):Int) + 1) = (d:Int):=by rw [Qe (by omega)]; omega
 rw [e1,e2,Zq8,if_pos (show ZbY (ch.length:Int) (d:Int) (r:Int) = true from hshape)]
 simp only [Z3]
 rw [ZK,Zo (by simp),Zo (by omega),Zo (by omega),ZK,Zo (by simp),Zo (by omega),Zc (by omega),dFa (show ¬ (4096:Int) < (n:Int) by omega)]
 have e3:IntKind.i64.wrap ((IntKind.i64.wrap (IntKind.i64.wrap ((n:Int) + (size:Int)) - 1)).tdiv (size:Int)) = ((lens.length:Nat):Int):=by
  rw [Qe (n:=(n:Int) + size) (by omega),Qe (n:=(n:Int) + size - 1) (by omega),show (n:Int) + size - 1 = ((n + size - 1:Nat):Int) by omega,show ((n + size - 1:Nat):Int).tdiv (size:Int) = (((n + size - 1) / size:Nat):Int) from rfl,show (n + size - 1) / size = lens.length from hl.symm,Qe (by omega)]
 rw [e3]
 have fin:∀ {t:List Bool},Zl b t → t = (KB 1 4 (15 + Zt6 tags) ++ XK (leN 7 4) ++ XK Zd3) ++ q →
   ((YH k (inS b (t,false),15,())).bind fun y_9 => (Zcr k (((y_9.2.1.1.1,y_9.2.1.1.2.1,()),y_9.2.1.2.1,()),8,())).bind fun y_10 => Zk6 k (y_10.1,(0:Int),(size:Int),(n:Int),y_10.2.1.2.1,y_10.2.1.1.1,y_10.2.1.1.2.1,(ch.length:Int),(d:Int),(r:Int),[],(0:Int),(0:Int),(0:Int))) =
    some (((((ch.length:Int),(d:Int),(r:Int),()),(ZgW (q,false)).1,[],()),(size:Int),(n:Int),()),inS b (ZgW (q,false)).2,()):=by
  intro t ht he
  subst he
  refine Eq.trans (Zmz hb hn hk1 (N:=15) (by omega) (by omega) ht (by simp only [Q4,QU,Wl,Ww,Zd3,List.length_cons,List.length_nil]) _) ?_
  refine Eq.trans (congrArg (fun x => Option.bind x _) (ZsC hb hn hk1 8 (s:=(q,false)) (Wm ht))) ?_
  simp only [Z3]
  have hle:=ZB0 8 (q,false)
  have hr:=Zs5 8 (s:=(q,false)) (Wm ht)
  unfold ZgW
  generalize Qz 8 (q,false) = F at *
  obtain ⟨F1,F2⟩:=F
  simp only at *
  exact ZSQ hb hn hk1 (size:Int) (n:Int) (ch.length:Int) (d:Int) (r:Int) F1 (by omega) F1 0 k F2 [] (by omega) rfl (by omega) hr
 by_cases h1:1 < lens.length
 ·rw [Zc (by omega)]
  have e4:IntKind.i64.wrap (4 + IntKind.i64.wrap (18 * ((lens.length:Nat):Int))) = ((4 + 18 * lens.length:Nat):Int):=by rw [Qe (n:=18 * _) (by omega),Qe (by omega)]; omega
  rw [e4]
  refine Eq.trans (Zmz hb hn hk1 (N:=4 + 18 * lens.length) (by omega) (by omega) s9 (ZHT h1) _) ?_
  exact fin s10 rfl
 ·rw [Zo (by omega)]
  have ht:YS size n lens = []:=by unfold YS; rw [if_neg h1]
  refine fin s9 ?_
  rw [ht,List.nil_append]
end Go.Sh
namespace Go.Sh
open Go Go.Proofs
theorem Zqi {α:Type} (f:α → Nat):∀ (l:List α),(∀ x ∈ l,1 ≤ f x) → l.length ≤ (l.map f).sum ∧ ∀ x ∈ l,f x ≤ (l.map f).sum
 | [],_ => by simp
 | a :: l,h => by
  have ih:=Zqi f l (fun x hx => h x (by simp [hx]))
  have ha:=h a (by simp)
  simp only [List.map_cons,List.sum_cons,List.length_cons]
  refine ⟨by omega,fun x hx => ?_⟩
  rcases List.mem_cons.1 hx with rfl | hx
  ·omega
  ·have:=ih.2 x hx; omega
theorem ZCT {c d r:Int} {tags:List ByteArray} {ch:List (List Int)} (h:Ty.bulk trackT ((c,d,r,()),tags,ch,()) ≤ 1048576):Small tags ch:=by
 have h1:(3:Nat) + (((tags.map (Ty.bulk .str)).sum + 1) + (((ch.map (Ty.bulk (.sl (.int .i64)))).sum + 1) + 0)) ≤ 1048576:=h
 have t:=Zqi (Ty.bulk .str) tags (fun x _ => by simp only [Ty.bulk]; omega)
 have s:=Zqi (Ty.bulk (.sl (.int .i64))) ch (fun x _ => by simp only [Ty.bulk]; omega)
 refine ⟨by omega,fun x hx => ?_,by omega,fun x hx => ?_⟩
 ·have h2:=t.2 x hx
  have h3:Ty.bulk .str x = x.size + 1:=rfl
  omega
 ·have h2:=s.2 x hx
  have h3:Ty.bulk (.sl (.int .i64)) x = (x.map (Ty.bulk (.int .i64))).sum + 1:=rfl
  have h4:=Zqi (Ty.bulk (.int .i64)) x (fun y _ => by simp only [Ty.bulk]; omega)
  omega
end Go.Sh
namespace Go.Sh
open Go Go.Proofs
theorem ZOQ (k:Nat) (l:List Int) (hk:2000000 < k) (hl:l.length ≤ 1048576):ZBC k (l,l,()) = some (true,()):=by
 show ZlL k (ZyJ k) _ = _
 simp only [ZlL]
 rw [show (Int.ofNat l.length != Int.ofNat l.length) = false from by simp]
 simp only [cond_false]
 have:=QK (A:=Unit) (R:=Bool × Unit) (step:=fun L1 => Zge k L1) (fun i _ => (Int.ofNat i,l,l)) l (fun _ _ => some (true,()))
  (fun L _ => by simp only [Zge]; rw [Zo (Yb _)])
  (fun L i hi _ hL => by
   simp only [Zge]
   rw [Zc (ltR hi),Zc (YI hi),Zc (YI hi),ZK,Zo (by simp),Qr hi (by omega)]
   exact hL ()) k 0 () (by omega) (Nat.zero_le _)
 exact this
theorem ZOd (k:Nat) (n:Int) {ch:List (List Int)} (hk:2000000 < k) (h:Sm ch):ZvT k ((n,ch,()),(n,ch,()),()) = some (true,()):=by
 show Zlh k (Zyp k) _ = _
 simp only [Zlh]
 have hs:=h.1
 rw [ZK,Zo (by simp),show (Int.ofNat ch.length != Int.ofNat ch.length) = false from by simp]
 simp only [cond_false]
 have:=QK (A:=Unit) (R:=Bool × Unit) (step:=fun L1 => Zf4 k L1) (fun i _ => (Int.ofNat i,n,ch,n,ch)) ch (fun _ _ => some (true,()))
  (fun L _ => by simp only [Zf4]; rw [Zo (Yb _)])
  (fun L i hi _ hL => by
   simp only [Zf4]
   rw [Zc (ltR hi),Zc (YI hi),Zc (YI hi),ZM hi,ZOQ k _ hk (h.2 _ (List.getElem_mem hi))]
   simp only [Z3,Bool.not_true,cond_false]
   rw [Qr hi (by omega)]
   exact hL ()) k 0 () (by omega) (Nat.zero_le _)
 exact this
theorem ZEy {k:Nat} (hk:2000000 < k) (c d r:Int) {tags:List ByteArray} {ch:List (List Int)} (hS:Small tags ch):Zex k (((c,d,r,()),tags,ch,()),((c,d,r,()),tags,ch,()),()) = some (true,()):=by
 show Zey k (ZkI k) _ = _
 simp only [Zey]
 rw [show (!(decide True && (decide True && (decide True && true)))) = false by decide,show (Int.ofNat tags.length != Int.ofNat tags.length) = false by simp]
 simp only [cond_false]
 rw [ZOd k 0 hk ⟨hS.cl,hS.chan⟩]
 simp only [Z3,Bool.not_true,cond_false]
 have htl:=hS.tl
 have:=QK (A:=Unit) (step:=fun L1 => Zbs k L1) (fun i _ => (Int.ofNat i,c,d,r,tags,ch,c,d,r,tags,ch)) tags (fun _ _ => some (true,()))
  (fun L _ => by simp only [Zbs]; rw [Zo (Yb _)])
  (fun L i hi _ hL => by
   simp only [Zbs]
   rw [Zc (ltR hi),Zc (YI hi),Zc (YI hi),ZM hi,ZLs,show (!decide (tags[i] = tags[i])) = false by simp]
   simp only [cond_false]
   rw [Qr hi (by omega)]
   exact hL ()) k 0 () (by omega) (Nat.zero_le _)
 exact this
def mkB (l:List Int):ByteArray:=ByteArray.mk (List.map (fun n => UInt8.ofNat n.toNat) l).toArray
def W0 (ch:List (List Int)) (size i:Nat):List (List Int):=ch.map fun c => c.take (i * size)
theorem ZKY (x:List Int) (a b:Nat):x.take a ++ (x.take (a + b)).drop a = x.take (a + b):=by
 have:=List.take_append_drop a (x.take (a + b))
 rwa [List.take_take,Nat.min_eq_left (by omega)] at this
theorem ZK2 {c d:Int} {ch:List (List Int)} {n size i j:Nat} (hj:j < ch.length):(W0 ch size i).getD j [] ++ (Qu ch size i).getD j [] = (W0 ch size (i + 1)).getD j []:=by
 rw [Wv (by simp [W0]; exact hj),Wv (by simp [Qu]; exact hj),Wv (by simp [W0]; exact hj)]
 simp only [W0,Qu,List.getElem_map,Nat.add_mul,Nat.one_mul]
 exact ZKY _ _ _
section prog
variable {k:Nat} {c d r:Int} {tags:List ByteArray} {ch:List (List Int)}
end prog
end Go.Sh
namespace Go.Sh
open Go Go.Proofs
theorem ZQv {ch:List (List Int)} {c d r:Int} {tags:List ByteArray} {size i j:Nat} (hj:j < ch.length) {a:List (List Int)} (ha:a = (W0 ch size (i + 1)).take j ++ (W0 ch size i).drop j) :
  a.set j ((W0 ch size i).getD j [] ++ (Qu ch size i).getD j []) = (W0 ch size (i + 1)).take (j + 1) ++ (W0 ch size i).drop (j + 1):=by
 have huj:(W0 ch size i).length = ch.length:=by simp [W0]
 have huj1:(W0 ch size (i + 1)).length = ch.length:=by simp [W0]
 rw [ZK2 (c:=0) (d:=0) (n:=0) hj]
 apply List.ext_getElem?
 intro q
 rw [ha,List.getElem?_set]
 by_cases hq:j = q
 ·subst hq
  rw [if_pos rfl,Q4,List.length_take,List.length_drop,if_pos (by omega),List.getElem?_append_left (by rw [List.length_take]; omega),List.getElem?_take,if_pos (by omega)]
  rw [Wv (by omega),List.getElem?_eq_getElem (by omega)]
 ·rw [if_neg hq]
  simp only [List.getElem?_append,List.length_take,List.getElem?_take,List.getElem?_drop]
  rcases Nat.lt_or_gt_of_ne hq with h | h
  ·rw [if_neg (by omega)]
   by_cases h2:q < min (j + 1) (W0 ch size (i + 1)).length
   ·omega
   ·rw [if_neg h2]; congr 1; omega
  ·rw [if_pos (by omega),if_pos h,if_pos (by omega),if_pos (by omega)]
abbrev ZDb:=(((Int × Int × Int × Unit) × List ByteArray × List (List Int) × Unit) × Int × Unit) × Unit
abbrev L23:=Int × Int × Int × List Int × List Int × Int × Int × Int × Int × List ByteArray × List (List Int) × Int × Int × Int × List Int → Option ZDb
section prog
variable {k:Nat} {c d r:Int} {tags:List ByteArray} {ch:List (List Int)}
theorem ZSA (hk:100 ≤ k) (hc:ch.length ≤ 2) (hS:Small tags ch) (size n i:Nat) (L1:L23) (len:Nat) (rest B:List Int) (at_:Int) (lens:List Nat) (htg:List ByteArray) (hl:len ≤ rest.length) (hrl:rest.length < 1000000) (hll:lens.length < 1000) (hi:i < 1000) :
  Zaq k L1 (Int.ofNat (Qu ch size i).length,(0:Int),Qu ch size i,(len:Int),rest,(i:Int),(size:Int),(n:Int),B,at_,c,d,r,htg,W0 ch size i,Zv lens,0,0,0) =
   L1 (((i + 1:Nat):Int),(size:Int),(n:Int),rest.drop len,B,at_,c,d,r,htg,W0 ch size (i + 1),0,0,0,Zv (lens ++ [len])):=by
 have hbl:(Qu ch size i).length = ch.length:=by simp [Qu]
 rw [hbl]
 have key:=Zy (A:=List (List Int)) (step:=fun L2 => KJ k L1 L2) (fun j a => (Int.ofNat ch.length,Int.ofNat j,Qu ch size i,(len:Int),rest,(i:Int),(size:Int),(n:Int),B,at_,c,d,r,htg,a,Zv lens,0,0,0)) ch
  (fun _ _ => L1 (((i + 1:Nat):Int),(size:Int),(n:Int),rest.drop len,B,at_,c,d,r,htg,W0 ch size (i + 1),0,0,0,Zv (lens ++ [len])))
  (fun j a => a.length = ch.length ∧ a = (W0 ch size (i + 1)).take j ++ (W0 ch size i).drop j)
  (fun L a hI => by
   simp only [KJ]
   rw [Zo (Yb _),Zc (by simp [Zv]; omega),Zc (by simp only [QS]; omega),ZC1 (by omega),Xw,show (Int.ofNat rest.length).toNat = rest.length from rfl,List.take_length]
   have:a = W0 ch size (i + 1):=by
    rw [hI.2,List.take_of_length_le (by simp [W0]),List.drop_of_length_le (by simp [W0]),List.append_nil]
   rw [this,show Zv lens ++ [(len:Int)] = Zv (lens ++ [len]) by simp [Zv]])
  (fun L j hj a hI hL => by
   simp only [KJ]
   have huj:(W0 ch size i).length = ch.length:=by simp [W0]
   have huj1:(W0 ch size (i + 1)).length = ch.length:=by simp [W0]
   have haj:a.getD (Int.ofNat j).toNat [] = (W0 ch size i).getD j []:=by
    rw [hI.2,show (Int.ofNat j).toNat = j from rfl]
    simp only [List.getD_eq_getElem?_getD]
    rw [List.getElem?_append_right (by rw [List.length_take]; omega),List.length_take,Nat.min_eq_left (by omega),Nat.sub_self,List.getElem?_drop]
    rfl
   have hl1:((W0 ch size i).getD j []).length ≤ 1048576:=by
    rw [Wv (by omega)]
    simp only [W0,List.getElem_map,List.length_take]
    have:=hS.chan _ (List.getElem_mem hj)
    omega
   have hl2:((Qu ch size i).getD j []).length ≤ 1048576:=by
    rw [Wv (by omega)]
    simp only [Qu,List.getElem_map,List.length_take,List.length_drop]
    have:=hS.chan _ (List.getElem_mem hj)
    omega
   rw [hI.1,hbl,Zc (ltR hj),Zc (YI hj),Zc (YI hj),Zc (show (Int.ofNat j).toNat < ch.length from hj),haj]
   rw [show (Int.ofNat j).toNat = j from rfl,Zc (by omega),Zc (YI hj),Zc trivial,Zc hj,Qr hj (by omega),ZQv (c:=0) (d:=0) (r:=0) (tags:=[]) hj hI.2]
   refine hL _ ⟨by simp only [Q4,List.length_take,List.length_drop]; omega,rfl⟩)
  k 0 (W0 ch size i) ⟨by simp [W0],by simp⟩ (by omega) (by omega)
 exact key
theorem ZJH (hk:20000000 ≤ k) (hS:Small tags ch) (h0:chk c d r tags ch = 0) {size:Nat} (hs:16 ≤ size ∧ size ≤ 512) (B:List Int) (at_:Int) {i:Nat} (hi:i < (Yi c d r ch size).length) (lens:List Nat) (hll:lens.length < 1000) (more:List Int) (hm:Zz more = true) (hml:more.length ≤ 100000) (L:L23) :
  WS k (Zaq k L) L ((i:Int),(size:Int),((ch.getD 0 []).length:Int),(Yi c d r ch size)[i] ++ more,B,at_,c,d,r,tags,W0 ch size i,0,0,0,Zv lens) =
   L (((i + 1:Nat):Int),(size:Int),((ch.getD 0 []).length:Int),more,B,at_,c,d,r,tags,W0 ch size (i + 1),0,0,0,Zv (lens ++ [((Yi c d r ch size)[i]).length])):=by
 obtain ⟨hg,hshape,-⟩:=Wa h0
 have hn4:=hg.n4
 have hfr:=Xz hs.1 hn4
 have hCl:=Xt c d r ch size
 have h5:=Zbj (c:=c) (d:=d) (r:=r) (ch:=ch) (size:=size) _ (List.getElem_mem hi)
 have hlt:=(X7 (by omega:1 ≤ size)).1 (by rw [← hCl]; exact hi)
 have hck:=Zfw h0 (size:=size) (i:=i) hs hlt
 have hci:(Yi c d r ch size)[i] = (Xq c d r (i:Int) (Qu ch size i)).1:=by simp [Yi,Zs6]
 generalize hX:(Yi c d r ch size)[i] = X at *
 have hXb:Zz X = true:=by rw [hci]; exact ZoT _ _ _ _ _
 generalize hn:(ch.getD 0 []).length = n at *
 have hmul:i * size ≤ 4096:=by omega
 have hcast:(i:Int) * (size:Int) = ((i * size:Nat):Int):=by simp
 simp only [WS]
 rw [hcast,Qe (n:=((i * size:Nat):Int)) (by omega),Zc (by omega)]
 have hb:Zz (X ++ more) = true:=by
  unfold Zz at *
  rw [List.all_append,hXb,hm]; rfl
 refine (Zm (ZBe k c d r hb (by rw [Q4]; omega) (by rw [Q4]; omega)) _).trans ?_
 have hrb:=ZKM hck (more:=more) hm
 rw [← hci] at hrb
 unfold Ztz
 simp only
 rw [hrb]
 simp only
 rw [show ((0:Int) != 0) = false from rfl,show ((i:Int) != (i:Int)) = false by simp]
 simp only [cond_false]
 have hc1:=hg.c1.1
 have hbl:(Qu ch size i).length = ch.length:=by simp [Qu]
 rw [Zc (by rw [hbl]; simp only [QS]; omega)]
 have hb0:((Qu ch size i).getD 0 []).length = min size (n - i * size):=by
  have hg0:(ch.getD 0 []).length = n:=hn
  rw [Wv (by omega)] at hg0 ⊢
  simp only [Qu,List.getElem_map,List.length_take,List.length_drop,Nat.add_mul]
  omega
 rw [hb0,Qe (n:=(n:Int) - _) (by omega)]
 have hmin:(if (n:Int) - ((i * size:Nat):Int) < (size:Int) then (n:Int) - ((i * size:Nat):Int) else (size:Int)) = Int.ofNat (min size (n - i * size)):=by
  simp only [QS]
  split <;> omega
 rw [hmin,show (Int.ofNat (min size (n - i * size)) != Int.ofNat (min size (n - i * size))) = false by simp]
 simp only [cond_false]
 refine Eq.trans (ZSA (by omega) hg.c1.2 hS size n i L X.length (X ++ more) B at_ lens tags (by rw [Q4]; omega) (by rw [Q4]; omega) hll (by omega)) ?_
 rw [List.drop_left]
end prog
end Go.Sh
namespace Go.Sh
open Go Go.Proofs
theorem K3 {a b:List Int} (ha:Zz a = true) (hb:Zz b = true):Zz (a ++ b) = true:=by
 unfold Zz at *
 rw [List.all_append,ha,hb]; rfl
theorem Zor {l:List (List Int)} (h:∀ x ∈ l,Zz x = true):Zz l.flatten = true:=by
 induction l with
 | nil => rfl
 | cons x l ih => exact K3 (h x (List.mem_cons_self ..)) (ih fun y hy => h y (List.mem_cons_of_mem x hy))
theorem Zi6 {c d r:Int} {ch:List (List Int)} {size:Nat}:∀ x ∈ Yi c d r ch size,Zz x = true:=by
 intro x hx
 obtain ⟨i,_,rfl⟩:=List.mem_map.1 hx
 exact ZoT _ _ _ _ _
theorem ZK5 {c d r n:Int} {ch:List (List Int)} (h:XL c d r n ch = 0):1 ≤ (Xq c d r n ch).1.length:=by
 obtain ⟨mode,num,N,ls,ds,M⟩:=ZXn h
 rw [M.bytes,Z5]
 unfold Yh
 rw [Q4,Zi]
 omega
section prog
variable {k:Nat} {c d r:Int} {tags:List ByteArray} {ch:List (List Int)}
def ZDn:ZDb:=(((((0:Int),(0:Int),(0:Int),()),[],[],()),2,()),())
theorem ZrT {B:List Int} (h:60000 < B.length):Q7 k (B,()) = some ((ZDn:ZDb)):=by
 show XO k _ _ = _
 simp only [XO]
 rw [Zc (by simp only [QS]; omega)]
 rfl
theorem ZJI (hk:20000000 ≤ k) (hS:Small tags ch) (h0:chk c d r tags ch = 0) {size:Nat} (hs:16 ≤ size ∧ size ≤ 512) (B:List Int) (at_:Int) (more:List Int) (hm:Zz more = true):∀ (m i fuel:Nat),i + m ≤ (Yi c d r ch size).length → (((Yi c d r ch size).drop i).take m).flatten.length + more.length ≤ 100000 →
  Zn (fun L1 => WS k (Zaq k L1) L1) (fuel + m) ((i:Int),(size:Int),((ch.getD 0 []).length:Int),(((Yi c d r ch size).drop i).take m).flatten ++ more,B,at_,c,d,r,tags,W0 ch size i,0,0,0,Zv (((Yi c d r ch size).take i).map List.length)) =
   Zn (fun L1 => WS k (Zaq k L1) L1) fuel (((i + m:Nat):Int),(size:Int),((ch.getD 0 []).length:Int),more,B,at_,c,d,r,tags,W0 ch size (i + m),0,0,0,Zv (((Yi c d r ch size).take (i + m)).map List.length)):=by
 intro m
 induction m with
 | zero => intro i fuel _ _; simp only [List.take_zero,List.flatten_nil,List.nil_append,Nat.add_zero]
 | succ m ih =>
  intro i fuel h1 h2
  obtain ⟨hg,-⟩:=Wa h0
  have hfr:=Xz hs.1 hg.n4
  have hCl:=Xt c d r ch size
  have hi:i < (Yi c d r ch size).length:=by omega
  have e:((Yi c d r ch size).drop i).take (m + 1) = (Yi c d r ch size)[i] :: ((Yi c d r ch size).drop (i + 1)).take m:=by
   rw [List.drop_eq_getElem_cons hi,List.take_succ_cons]
  rw [e] at h2 ⊢
  rw [List.flatten_cons,Q4] at h2
  rw [List.flatten_cons,List.append_assoc,← Nat.add_assoc,Ze]
  have hmb:Zz ((((Yi c d r ch size).drop (i + 1)).take m).flatten ++ more) = true :=
   K3 (Zor fun x hx => Zi6 x (List.mem_of_mem_drop (List.mem_of_mem_take hx))) hm
  rw [ZJH hk hS h0 hs B at_ hi (((Yi c d r ch size).take i).map List.length) (by simp only [List.length_map,List.length_take]; omega) _ hmb (by rw [Q4]; omega)]
  have e2:((Yi c d r ch size).take i).map List.length ++ [((Yi c d r ch size)[i]).length] = ((Yi c d r ch size).take (i + 1)).map List.length:=by
   rw [List.take_succ_eq_append_getElem hi,List.map_append]; rfl
  rw [e2,ih (i + 1) fuel (by omega) (by omega),show i + 1 + m = i + (m + 1) by omega]
theorem ZKw {d r:Nat} {size:Nat} {lens:List Nat} (hh:(ZaH d r tags ch size lens).length % 8 = 0) (body:List Int):ZN (Zff d r tags ch size lens ++ body) = Kj d r tags ch size lens ++ (XK (leN tags.length 4) ++ ZaE tags ++ ZN body):=by
 unfold Zff
 rw [Zd8,Zd9 hh,Zb4,List.append_assoc]
theorem ZLF {B:List Int} (hB:B.length ≤ 100000):ZoB k (B,()) = some ((B,((ZR B (ZN B):Nat):Int),()),()):=by
 show ZdC k _ = _
 simp only [ZdC]
 have:ZiF k (B,()) = some (B,()):=by show Yg _ = _; unfold Yg; rw [Zc (by simp only; omega)]
 rw [this]
 have hp:ZR B (ZN B) = 0:=by unfold ZR; rw [Z4]; omega
 rw [hp]
 rfl
theorem ZXi {d r:Nat} (size:Nat) (lens:List Nat):(Kj d r tags ch size lens).length % 8 = 0:=by
 have htt:(YS size (ch.getD 0 []).length lens).length % 8 = 0:=by
  by_cases h:1 < lens.length
  ·rw [ZHT h]; omega
  ·unfold YS; rw [if_neg h]; rfl
 have hti:(ZoH ch.length d r size (ch.getD 0 []).length (Zto lens) (Ztm lens)).length = 208:=by
  simp [ZoH,QU,Wl,Zi,ZeZ]
 unfold Kj
 simp only [Q4,hti,QU,ZbZ,Wl,Ww,Zd3,List.length_cons,List.length_nil]
 omega
theorem ZYJ (tags:List ByteArray):(ZaE tags).length % 8 = 0:=by
 induction tags with
 | nil => rfl
 | cons t l ih =>
  have:(ZaE (t :: l)).length = 8 * (4 + t.size) + (ZaE l).length:=by
   simp only [ZaE,List.flatMap_cons,Q4,QU,Ww,ZdO]; omega
  omega
theorem ZDi {d r:Nat} (size:Nat) (lens:List Nat):(ZaH d r tags ch size lens).length % 8 = 0:=by
 have h1:=ZXi (d:=d) (r:=r) (tags:=tags) (ch:=ch) size lens
 have h2:=ZYJ tags
 rw [Zb4]
 simp only [Q4,QU,Ww]
 omega
theorem ZEt (hk:20000000 ≤ k) {d r:Nat} (h0:chk (ch.length:Int) (d:Int) (r:Int) tags ch = 0) {size:Nat} {lens:List Nat} (hL:Lens size (ch.getD 0 []).length lens) (hl:lens.length = QB (ch.getD 0 []).length size) {body:List Int} (hbb:Zz body = true) (hlen:(Zff d r tags ch size lens ++ body).length ≤ 60000) :
  Q7 k (Zff d r tags ch size lens ++ body,()) = Zdq k (((0:Nat):Int),(size:Int),((ch.getD 0 []).length:Int),body,Zff d r tags ch size lens ++ body,((Zff d r tags ch size lens).length:Int),(ch.length:Int),(d:Int),(r:Int),tags,W0 ch size 0,0,0,0,Zv []):=by
 obtain ⟨hg,hshape,-,htv,ht8⟩:=Wa h0
 have hT:=Good0.tg htv ht8
 have hbits:=ZKw (d:=d) (r:=r) (tags:=tags) (ch:=ch) (ZDi size lens) body
 have hBb:Zz (Zff d r tags ch size lens ++ body) = true:=K3 (WW _) hbb
 generalize hH:Zff d r tags ch size lens = H at *
 have hrest:Zl (H ++ body) (Kj d r tags ch size lens ++ (XK (leN tags.length 4) ++ ZaE tags ++ ZN body)):=by
  rw [← hbits]; exact List.suffix_refl _
 show XO k (Zdq k) _ = _
 simp only [XO]
 rw [Zo (by simp only [QS]; omega),ZLF (by omega)]
 simp only [Z3]
 rw [hbits]
 refine Eq.trans (congrArg (fun x => Option.bind x _) (ZBh (k:=k) (by omega) hBb (by omega) h0 hL hl hrest)) ?_
 rw [ZCN (ZN body) hT.1 hT.2]
 simp only [Z3,inS,cond_false]
 rw [show Kz k ((H ++ body,((ZR (H ++ body) (ZN body):Nat):Int),()),()) = some (((ZR (H ++ body) (ZN body):Nat):Int),(H ++ body,((ZR (H ++ body) (ZN body):Nat):Int),()),()) from rfl]
 simp only [Z3]
 have hp:ZR (H ++ body) (ZN body) = 8 * H.length:=by unfold ZR; rw [Z4,Q4]; omega
 rw [Q4] at hlen
 have e1:IntKind.i64.wrap (Int.tdiv ((ZR (H ++ body) (ZN body):Nat):Int) 8) = (H.length:Int):=by
  rw [hp,show Int.tdiv ((8 * H.length:Nat):Int) 8 = ((8 * H.length / 8:Nat):Int) from rfl,Nat.mul_div_cancel_left _ (by omega),Qe (by omega)]
 rw [e1,Zc (by simp only [QS,Q4]; omega),Zc (by have:=hg.c1.2; omega),Xw,show (Int.ofNat (H ++ body).length).toNat = (H ++ body).length from rfl,List.take_length,List.drop_left]
 have hu:List.replicate (Int.toNat (ch.length:Int)) ([]:List Int) = W0 ch size 0:=by
  rw [Xw]
  unfold W0
  simp only [Nat.zero_mul,List.take_zero]
  exact (List.map_const' ..).symm
 rw [hu]
 rfl
end prog
end Go.Sh
namespace Go.Sh
open Go Go.Proofs
theorem ZQu {c d r:Int} {tags:List ByteArray} {ch:List (List Int)} (h0:chk c d r tags ch = 0) {size:Nat} (hs:1 ≤ size):W0 ch size (QB (ch.getD 0 []).length size) = ch:=by
 obtain ⟨hg,-⟩:=Wa h0
 unfold W0
 conv => rhs; rw [← List.map_id ch]
 apply List.map_congr_left
 intro x hx
 have hge:(ch.getD 0 []).length ≤ QB (ch.getD 0 []).length size * size:=by
  rcases Nat.lt_or_ge (QB (ch.getD 0 []).length size * size) (ch.getD 0 []).length with h | h
  ·exact absurd ((X7 hs).2 h) (Nat.lt_irrefl _)
  ·exact h
 rw [List.take_of_length_le (by rw [hg.len x hx]; exact hge)]
 rfl
section prog
variable {k:Nat} {tags:List ByteArray} {ch:List (List Int)} {d r size:Nat}
noncomputable abbrev E1 (d r:Nat) (tags:List ByteArray) (ch:List (List Int)) (size:Nat):List Int:=Zxq (ch.length:Int) (d:Int) (r:Int) tags ch size
noncomputable abbrev C1 (d r:Nat) (ch:List (List Int)) (size:Nat):List (List Int):=Yi (ch.length:Int) (d:Int) (r:Int) ch size
noncomputable abbrev H1 (d r:Nat) (tags:List ByteArray) (ch:List (List Int)) (size:Nat):List Int:=Zff d r tags ch size (Y4 (ch.length:Int) (d:Int) (r:Int) ch size)
theorem Zoi (d r:Nat) (tags:List ByteArray) (ch:List (List Int)) (size:Nat):E1 d r tags ch size = H1 d r tags ch size ++ (C1 d r ch size).flatten:=rfl
theorem Zjn (hk:20000000 ≤ k) (hS:Small tags ch) (h0:chk (ch.length:Int) (d:Int) (r:Int) tags ch = 0) (hs:16 ≤ size ∧ size ≤ 512) {m:Nat} (hm:m ≤ (C1 d r ch size).length) {more:List Int} (hmb:Zz more = true) (hlen:(H1 d r tags ch size ++ (((C1 d r ch size).take m).flatten ++ more)).length ≤ 60000) :
  Q7 k (H1 d r tags ch size ++ (((C1 d r ch size).take m).flatten ++ more),()) =
   Zn (fun L1 => WS k (Zaq k L1) L1) (k - m) ((m:Int),(size:Int),((ch.getD 0 []).length:Int),more,H1 d r tags ch size ++ (((C1 d r ch size).take m).flatten ++ more),((H1 d r tags ch size).length:Int),(ch.length:Int),(d:Int),(r:Int),tags,W0 ch size m,0,0,0,Zv (((C1 d r ch size).take m).map List.length)):=by
 obtain ⟨hg,-⟩:=Wa h0
 have hfr:=Xz hs.1 hg.n4
 have hCl:(C1 d r ch size).length = QB (ch.getD 0 []).length size:=Xt (ch.length:Int) (d:Int) (r:Int) ch size
 have hLn:=ZgE (c:=(ch.length:Int)) (d:=(d:Int)) (r:=(r:Int)) hs rfl hg.n4
 have hll:(Y4 (ch.length:Int) (d:Int) (r:Int) ch size).length = QB (ch.getD 0 []).length size:=by simp [Y4,Xt]
 have hbb:Zz (((C1 d r ch size).take m).flatten ++ more) = true:=K3 (Zor fun x hx => Zi6 x (List.mem_of_mem_take hx)) hmb
 rw [ZEt hk h0 hLn hll hbb hlen]
 have hm2:m ≤ (Yi (ch.length:Int) (d:Int) (r:Int) ch size).length:=hm
 have hlen2:(H1 d r tags ch size).length + (((Yi (ch.length:Int) (d:Int) (r:Int) ch size).take m).flatten.length + more.length) ≤ 60000:=by
  rw [Q4,Q4] at hlen; exact hlen
 have run:=ZJI hk hS h0 hs (H1 d r tags ch size ++ (((C1 d r ch size).take m).flatten ++ more)) ((H1 d r tags ch size).length:Int) more hmb m 0 (k - m) (by omega) (by rw [List.drop_zero]; omega)
 rw [show k - m + m = k by omega,List.drop_zero,Nat.zero_add] at run
 exact run
theorem ZEs (hk:20000000 ≤ k) (hS:Small tags ch) (h0:chk (ch.length:Int) (d:Int) (r:Int) tags ch = 0) (hs:16 ≤ size ∧ size ≤ 512) (hlen:(E1 d r tags ch size).length ≤ 60000) :
  Q7 k (E1 d r tags ch size,()) = some (((((ch.length:Int),(d:Int),(r:Int),()),tags,ch,()),0,()),()):=by
 obtain ⟨hg,-⟩:=Wa h0
 have hfr:=Xz hs.1 hg.n4
 have hCl:(C1 d r ch size).length = QB (ch.getD 0 []).length size:=Xt (ch.length:Int) (d:Int) (r:Int) ch size
 have hLn:=ZgE (c:=(ch.length:Int)) (d:=(d:Int)) (r:=(r:Int)) hs rfl hg.n4
 have hup:=Zjn (d:=d) (r:=r) hk hS h0 hs (Nat.le_refl _) (more:=[]) rfl (by rw [List.take_length,List.append_nil]; exact hlen)
 rw [List.take_length,List.append_nil,← Zoi] at hup
 rw [hup,show k - (C1 d r ch size).length = (k - (C1 d r ch size).length - 1) + 1 by omega,Ze]
 simp only [WS]
 have hle:(ch.getD 0 []).length ≤ (C1 d r ch size).length * size:=by
  rw [hCl]
  rcases Nat.lt_or_ge (QB (ch.getD 0 []).length size * size) (ch.getD 0 []).length with h | h
  ·exact absurd ((X7 (by omega)).2 h) (Nat.lt_irrefl _)
  ·exact h
 have hmul:(C1 d r ch size).length * size ≤ 256 * 512:=Nat.mul_le_mul (by omega) hs.2
 rw [show ((C1 d r ch size).length:Int) * (size:Int) = (((C1 d r ch size).length * size:Nat):Int) by simp,Qe (by omega),Zo (by omega),Zo (by simp)]
 rw [hCl,ZQu h0 (by omega),Zjm (by omega) hS,h0]
 simp only [Z3]
 rw [show ((0:Int) != 0) = false from rfl]
 simp only [cond_false]
 rw [show (C1 d r ch size).map List.length = Y4 (ch.length:Int) (d:Int) (r:Int) ch size from rfl,Zsf (by omega) h0 hS hLn]
 simp only [Z3]
 have hl2:(H1 d r tags ch size).length ≤ (E1 d r tags ch size).length:=by rw [Zoi,Q4]; omega
 rw [Zc (by simp only [QS]; omega),Xw,List.drop_zero,Zoi,List.take_left]
 rw [show Zk7 k (ZJ (ZaH d r tags ch size (Y4 (ch.length:Int) (d:Int) (r:Int) ch size)),H1 d r tags ch size,()) = some (true,()) by
  show some ((mkB _).toList == (mkB _).toList,()) = _
  rw [ZLs]
  exact congrArg (fun x => some (x,())) (dTr rfl)]
 rfl
theorem ZEw (hk:20000000 ≤ k) (hS:Small tags ch) (h0:chk (ch.length:Int) (d:Int) (r:Int) tags ch = 0) (hs:16 ≤ size ∧ size ≤ 512) :
  Q7 k (E1 d r tags ch size ++ [0],()) = some ZDn:=by
 rcases Nat.lt_or_ge 60000 (E1 d r tags ch size ++ [0]).length with h | hlen
 ·exact ZrT h
 obtain ⟨hg,-⟩:=Wa h0
 have hfr:=Xz hs.1 hg.n4
 have hCl:(C1 d r ch size).length = QB (ch.getD 0 []).length size:=Xt (ch.length:Int) (d:Int) (r:Int) ch size
 have hup:=Zjn (d:=d) (r:=r) hk hS h0 hs (Nat.le_refl _) (more:=[0]) rfl (by rw [List.take_length,← List.append_assoc]; exact hlen)
 rw [List.take_length,← List.append_assoc,← Zoi] at hup
 rw [hup,show k - (C1 d r ch size).length = (k - (C1 d r ch size).length - 1) + 1 by omega,Ze]
 simp only [WS]
 have hle:(ch.getD 0 []).length ≤ (C1 d r ch size).length * size:=by
  rw [hCl]
  rcases Nat.lt_or_ge (QB (ch.getD 0 []).length size * size) (ch.getD 0 []).length with h | h
  ·exact absurd ((X7 (by omega)).2 h) (Nat.lt_irrefl _)
  ·exact h
 have hmul:(C1 d r ch size).length * size ≤ 256 * 512:=Nat.mul_le_mul (by omega) hs.2
 rw [show ((C1 d r ch size).length:Int) * (size:Int) = (((C1 d r ch size).length * size:Nat):Int) by simp,Qe (by omega),Zo (by omega),Zc (by simp)]
 rfl
end prog
end Go.Sh
namespace Go.Sh
open Go Go.Proofs
theorem ZKX {a b:List Int} {i:Nat}:(a ++ b).take (a.length + i) = a ++ b.take i:=by
 rw [List.take_append,List.take_of_length_le (by omega),Nat.add_sub_cancel_left]
section prog
variable {k:Nat} {tags:List ByteArray} {ch:List (List Int)} {d r size:Nat}
theorem ZUe (tags:List ByteArray):32 ≤ (XK (leN tags.length 4) ++ ZaE tags).length:=by
 rw [Q4,QU,Ww]; omega
theorem ZLe (h0:chk (ch.length:Int) (d:Int) (r:Int) tags ch = 0):8 * (H1 d r tags ch size).length = (Kj d r tags ch size (Y4 (ch.length:Int) (d:Int) (r:Int) ch size)).length + (XK (leN tags.length 4) ++ ZaE tags).length:=by
 have h8:=ZDi (d:=d) (r:=r) (tags:=tags) (ch:=ch) size (Y4 (ch.length:Int) (d:Int) (r:Int) ch size)
 show 8 * (ZJ _).length = _
 rw [Z5,← Q4,← Zb4]
 omega
theorem ZLC {H:List Int} {F T:List Bool} (e:ZN H = F ++ T) (h:8 * H.length = F.length + T.length) (h2:8 ≤ T.length):ZN (H.take (H.length - 1)) = F ++ T.take (T.length - 8):=by
 rw [← ZiX,e,List.take_append,List.take_of_length_le (by omega),show 8 * (H.length - 1) - F.length = T.length - 8 by omega]
theorem ZEr (hk:20000000 ≤ k) (h0:chk (ch.length:Int) (d:Int) (r:Int) tags ch = 0) (hs:16 ≤ size ∧ size ≤ 512) {B:List Int} {q:List Bool} (hbits:ZN B = Kj d r tags ch size (Y4 (ch.length:Int) (d:Int) (r:Int) ch size) ++ q) (hcut:(ZgW (q,false)).2.2 = true) (hB:B.length ≤ 60000) (hBb:Zz B = true) :
  Q7 k (B,()) = some ZDn:=by
 obtain ⟨hg,-⟩:=Wa h0
 have hLn:=ZgE (c:=(ch.length:Int)) (d:=(d:Int)) (r:=(r:Int)) hs rfl hg.n4
 have hll:(Y4 (ch.length:Int) (d:Int) (r:Int) ch size).length = QB (ch.getD 0 []).length size:=by simp [Y4,Xt]
 have hrest:Zl B (Kj d r tags ch size (Y4 (ch.length:Int) (d:Int) (r:Int) ch size) ++ q):=by rw [← hbits]; exact List.suffix_refl _
 show XO k (Zdq k) _ = _
 simp only [XO]
 rw [Zo (by simp only [QS]; omega),ZLF (by omega)]
 simp only [Z3]
 rw [hbits]
 refine Eq.trans (congrArg (fun x => Option.bind x _) (ZBh (k:=k) (by omega) hBb (by omega) h0 hLn hll hrest)) ?_
 simp only [Z3,inS]
 rw [hcut]
 rfl
theorem ZEq (hk:20000000 ≤ k) (h0:chk (ch.length:Int) (d:Int) (r:Int) tags ch = 0) (hs:16 ≤ size ∧ size ≤ 512) (hlen:(H1 d r tags ch size).length ≤ 60000) :
  Q7 k ((H1 d r tags ch size).take ((H1 d r tags ch size).length - 1),()) = some ZDn:=by
 obtain ⟨hg,hshape,-,htv,ht8⟩:=Wa h0
 have hT:=Good0.tg htv ht8
 have hHl:=ZLe (size:=size) h0
 have hTl:=ZUe tags
 have h8:=ZDi (d:=d) (r:=r) (tags:=tags) (ch:=ch) size (Y4 (ch.length:Int) (d:Int) (r:Int) ch size)
 have e:ZN (H1 d r tags ch size) = Kj d r tags ch size (Y4 (ch.length:Int) (d:Int) (r:Int) ch size) ++ (XK (leN tags.length 4) ++ ZaE tags):=(Zd9 h8).trans (Zb4 ..)
 have hBb:Zz (H1 d r tags ch size) = true:=WW _
 have hcut:∀ T:List Bool,32 ≤ T.length → XK (leN tags.length 4) ++ ZaE tags = T → (ZgW (T.take (T.length - 8),false)).2.2 = true:=by
  intro T hTl he
  exact ZKW hT.1 hT.2 (t:=T.drop (T.length - 8)) (by
   intro h
   have:=congrArg List.length h
   rw [List.length_drop,List.length_nil] at this
   omega) (he.trans (List.take_append_drop _ _).symm)
 have hcut:=hcut _ hTl rfl
 have hb:=ZLC e hHl (by omega)
 exact ZEr hk h0 hs hb hcut (by rw [List.length_take]; omega) (Zad hBb _)
theorem ZJG (hk:20000000 ≤ k) (hS:Small tags ch) (h0:chk (ch.length:Int) (d:Int) (r:Int) tags ch = 0) (hs:16 ≤ size ∧ size ≤ 512) (hlen:(E1 d r tags ch size).length ≤ 60000) :
  Q7 k ((E1 d r tags ch size).take ((E1 d r tags ch size).length - 1),()) = some ZDn:=by
 obtain ⟨hg,-⟩:=Wa h0
 have hfr:=Xz hs.1 hg.n4
 have hCl:(C1 d r ch size).length = QB (ch.getD 0 []).length size:=Xt (ch.length:Int) (d:Int) (r:Int) ch size
 by_cases hz:(C1 d r ch size).length = 0
 ·have e:E1 d r tags ch size = H1 d r tags ch size:=by rw [Zoi,List.eq_nil_of_length_eq_zero hz]; exact List.append_nil _
  rw [e] at hlen ⊢
  exact ZEq hk h0 hs hlen
 obtain ⟨m,hm⟩:∃ m,(C1 d r ch size).length = m + 1:=⟨(C1 d r ch size).length - 1,by omega⟩
 have hi:m < (C1 d r ch size).length:=by omega
 have hlt:=(X7 (by omega:1 ≤ size)).1 (show m < QB (ch.getD 0 []).length size by omega)
 have hck:=Zfw h0 (size:=size) (i:=m) hs hlt
 have hX:(C1 d r ch size)[m] = (Xq (ch.length:Int) (d:Int) (r:Int) (m:Int) (Qu ch size m)).1:=by simp [Yi,Zs6]
 have hXp:=ZK5 hck
 rw [← hX] at hXp
 have hfl:(C1 d r ch size).flatten = ((C1 d r ch size).take m).flatten ++ (C1 d r ch size)[m]:=by
  have:=ZnJ hi
  rw [List.take_of_length_le (by omega)] at this
  exact this
 have hE:E1 d r tags ch size = (H1 d r tags ch size ++ ((C1 d r ch size).take m).flatten) ++ (C1 d r ch size)[m]:=by rw [Zoi,hfl,List.append_assoc]
 have hEl:=congrArg List.length hE
 rw [Q4] at hEl
 have hcutE:(E1 d r tags ch size).take ((E1 d r tags ch size).length - 1) = H1 d r tags ch size ++ (((C1 d r ch size).take m).flatten ++ ((C1 d r ch size)[m]).take (((C1 d r ch size)[m]).length - 1)):=by
  rw [hEl,hE,Nat.add_sub_assoc hXp,ZKX,List.append_assoc]
 have hXs:=Zbj (c:=(ch.length:Int)) (d:=(d:Int)) (r:=(r:Int)) (ch:=ch) (size:=size) _ (List.getElem_mem hi)
 have hXb:Zz (C1 d r ch size)[m] = true:=Zi6 _ (List.getElem_mem hi)
 have hrc:=ZP4 hck (i:=((C1 d r ch size)[m]).length - 1) (by rw [← hX]; omega)
 rw [← hX] at hrc
 have hmb:=Zad hXb (((C1 d r ch size)[m]).length - 1)
 rw [hcutE]
 have hlen2:(H1 d r tags ch size ++ (((C1 d r ch size).take m).flatten ++ ((C1 d r ch size)[m]).take (((C1 d r ch size)[m]).length - 1))).length ≤ 60000:=by
  rw [← hcutE,List.length_take]; omega
 rw [Zjn hk hS h0 hs (m:=m) (by omega) hmb hlen2,show k - m = (k - m - 1) + 1 by omega,Ze]
 simp only [WS]
 have hmul:m * size ≤ 256 * 512:=Nat.mul_le_mul (by omega) hs.2
 rw [show (m:Int) * (size:Int) = ((m * size:Nat):Int) by simp,Qe (by omega),Zc (by omega)]
 have hml:(((C1 d r ch size)[m]).take (((C1 d r ch size)[m]).length - 1)).length ≤ 5000:=by rw [List.length_take]; omega
 refine (Zm (ZBe k _ _ _ hmb (by omega) (by omega)) _).trans ?_
 unfold Ztz
 simp only
 rw [hrc]
 rfl
end prog
end Go.Sh
namespace Go.Sh
open Go Go.Proofs
noncomputable def ZUh (k:Nat) (a0 a1 a2:Int) (a3:List ByteArray) (a4:List (List Int)) (E:List Int):Option (Bool × Unit) :=
 (Q7 k (E,())).bind fun y_1 => bif decide ((60000:Int) < Int.ofNat (List.length E)) then some (y_1.1.2.1 == (2:Int),()) else bif decide ((0:Int) ≤ (0:Int) ∧ (0:Int) ≤ IntKind.i64.wrap (Int.ofNat (List.length E) - (1:Int)) ∧ IntKind.i64.wrap (Int.ofNat (List.length E) - (1:Int)) ≤ Int.ofNat (List.length E)) then (Q7 k (List.drop (0:Nat) (List.take (IntKind.i64.wrap (Int.ofNat (List.length E) - (1:Int))).toNat E),())).bind fun y_2 => bif decide ((0:Nat) + List.length E < (2147483648:Nat)) then bif decide (([] ++ E).length + (1:Nat) < (2147483648:Nat)) then (Q7 k ([] ++ E ++ [(0:Int)],())).bind fun y => bif y_1.1.2.1 == (0:Int) then (Zcq k (((y_1.1.1.1.1,y_1.1.1.1.2.1,y_1.1.1.1.2.2.1,()),y_1.1.1.2.1,y_1.1.1.2.2.1,()),())).bind fun y_3 => (Zex k (((y_3.1.1.1,y_3.1.1.2.1,y_3.1.1.2.2.1,()),y_3.1.2.1,y_3.1.2.2.1,()),((a0,a1,a2,()),a3,a4,()),())).bind fun y_4 => bif y_4.1 then bif y_2.1.2.1 == (2:Int) then some (y.1.2.1 == (2:Int),()) else some (false,()) else some (false,()) else some (false,()) else none else none else none
section prog
variable {k:Nat} {c d r:Int} {tags:List ByteArray} {ch:List (List Int)}
theorem ZH2 (hS:Small tags ch) (E:List Int) (g1:E.length ≤ 60000 → Q7 k (E,()) = some ((((c,d,r,()),tags,ch,()),0,()),())) (g2:E.length ≤ 60000 → Q7 k (E.take (E.length - 1),()) = some ZDn) (g3:Q7 k (E ++ [0],()) = some ZDn) (hH1:1 ≤ E.length) (hEl:E.length < 100000000) (hk2:20000000 ≤ k):ZUh k c d r tags ch E = some (true,()):=by
 unfold ZUh
 rcases Nat.lt_or_ge 60000 E.length with h | hlen
 ·rw [ZrT h]
  simp only [Z3]
  rw [Zc (by simp only [QS]; omega)]
  rfl
 ·have g1:=g1 hlen
  have g2:=g2 hlen
  rw [g1]
  simp only [Z3]
  rw [Zo (by simp only [QS]; omega)]
  have e1:IntKind.i64.wrap (Int.ofNat E.length - 1) = ((E.length - 1:Nat):Int):=by
   rw [Qe (by simp only [QS]; omega)]; simp only [QS]; omega
  rw [e1,Zc (by simp only [QS]; omega),Xw,List.drop_zero,g2]
  simp only [Z3]
  rw [Zc (by omega),List.nil_append,Zc (by omega),g3]
  simp only [Z3]
  rw [show ((0:Int) == 0) = true from rfl]
  simp only [cond_true]
  rw [show Zcq k (((c,d,r,()),tags,ch,()),()) = some (((c,d,r,()),tags,ch,()),()) from rfl]
  simp only [Z3]
  rw [ZEy (by omega) _ _ _ hS]
  rfl
theorem ZEb (hkn:Zh5 k () = some (true,())) (hk2:20000000 ≤ k) (hS:Small tags ch) (s:Int):f2006_F k (((c,d,r,()),tags,ch,()),s,()) = some (true,()):=by
 have hk:16777216 ≤ k:=by omega
 show Zek k _ = _
 simp only [Zek]
 rw [hkn]
 simp only [Z3,Bool.not_true,cond_false]
 rw [ZEi hk hS]
 simp only [Z3]
 rw [ZEp hk hS]
 by_cases h0:¬ chk c d r tags ch = 0
 ·rw [if_neg h0]
  simp only [Z3]
  rw [ZK,Zc h0]
  rfl
 have h0:=Decidable.not_not.1 h0
 rw [if_pos h0]
 by_cases hs:¬ (16 ≤ s ∧ s ≤ 512)
 ·rw [if_neg hs]; rfl
 have hs:=Decidable.not_not.1 hs
 rw [if_pos hs]
 simp only [Z3]
 rw [show ((0:Int) != 0) = false from rfl]
 simp only [cond_false]
 obtain ⟨size,rfl⟩:=Int.eq_ofNat_of_zero_le (show 0 ≤ s by omega)
 simp only [Xw]
 have hs2:16 ≤ size ∧ size ≤ 512:=by omega
 obtain ⟨hg,hshape,-,htv,ht8⟩:=Wa h0
 have hsh:=of_decide_eq_true hshape
 obtain ⟨dn,rfl⟩:=Int.eq_ofNat_of_zero_le (show 0 ≤ d by omega)
 obtain ⟨rn,rfl⟩:=Int.eq_ofNat_of_zero_le (show 0 ≤ r by omega)
 have hcl:=hg.cl
 subst hcl
 have hT:=ZUe tags
 have hHl:=ZLe (size:=size) h0
 have hH1:1 ≤ (E1 dn rn tags ch size).length:=by rw [Zoi,Q4]; omega
 have hLn:=ZgE (c:=(ch.length:Int)) (d:=(dn:Int)) (r:=(rn:Int)) hs2 rfl hg.n4
 have hal:=Zqr (d:=dn) (r:=rn) (ch:=ch) (size:=size) (Good0.tg htv ht8) hLn.len
 have hCf:(C1 dn rn ch size).flatten.length ≤ (C1 dn rn ch size).length * 5000:=Zze (Zbj (c:=(ch.length:Int)) (d:=(dn:Int)) (r:=(rn:Int)) (ch:=ch) (size:=size))
 have hCl:(C1 dn rn ch size).length = QB (ch.getD 0 []).length size:=Xt (ch.length:Int) (dn:Int) (rn:Int) ch size
 have hfr:=Xz hs2.1 hg.n4
 have hEl:(E1 dn rn tags ch size).length < 100000000:=by
  rw [Zoi,Q4]
  have:(H1 dn rn tags ch size).length ≤ 10000:=by show (ZJ _).length ≤ _; rw [Z5]; omega
  omega
 exact ZH2 hS (E1 dn rn tags ch size) (ZEs (tags:=tags) (d:=dn) (r:=rn) hk2 hS h0 hs2) (ZJG (tags:=tags) (d:=dn) (r:=rn) hk2 hS h0 hs2) (ZEw (tags:=tags) (d:=dn) (r:=rn) hk2 hS h0 hs2) hH1 hEl hk2
end prog
theorem back_plain:∀ x:Kd.dens (Xp [trackT,.int .i64]),ZHF [trackT,.int .i64] x → ZjU [trackT,.int .i64] x ≤ 1048576 → ∃ k u,f2006_F k x = some (true,u):=by
 rintro ⟨⟨⟨c,d,r,⟨⟩⟩,tags,ch,⟨⟩⟩,s,⟨⟩⟩ _ hb
 have hb:Ty.bulk trackT ((c,d,r,()),tags,ch,()) + (1 + 0) ≤ 1048576:=hb
 have hb1:Ty.bulk trackT ((c,d,r,()),tags,ch,()) ≤ 1048576:=by omega
 exact ⟨20000000,(),ZEb ZPB (Nat.le_refl _) (ZCT hb1) s⟩
end Go.Sh
